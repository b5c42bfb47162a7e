/- geodelaw10: MatchLimitsOrder. -/
import Derived.Test.YtnnbjenibfmcaaaDoorQMaKnown
namespace Go.Proofs.YtnnbjenibfmcaaaDoor
open Go.RowKit

theorem limB_self (a : Lm) : limB a a = true := by
  unfold limB
  rw [if_neg (by simp)]
  cases a.has <;> simp
theorem limB_trans {a b c : Lm} (h : limB a b = true) (k : limB b c = true) : limB a c = true := by
  unfold limB at h k ⊢
  split at h
  · cases h
  · rename_i h1
    split at k
    · cases k
    · rename_i k1
      have e1 : a.wide = b.wide := by simpa using fun e => h1 (.inl e)
      have e2 : b.wide = c.wide := by simpa using fun e => k1 (.inl e)
      have l1 : b.min ≤ a.min := by have : ¬ a.min < b.min := fun e => h1 (.inr e)
                                    omega
      have l2 : c.min ≤ b.min := by have : ¬ b.min < c.min := fun e => k1 (.inr e)
                                    omega
      rw [if_neg (by rintro (e | e); exact e (e1.trans e2); omega)]
      cases hc : c.has
      · simp
      · rw [hc] at k
        simp at k
        rw [k.1] at h
        simp at h
        simp [h.1]; omega
/-- More of Min, less of Max. -/
theorem limB_more {a b : Lm} (h : limB a b = true) (x y : Int) (hx : a.min ≤ x) (hy : a.has = true → y ≤ a.max) : limB ⟨a.wide, x, y, a.has⟩ b = true := by
  unfold limB at h ⊢
  split at h
  · cases h
  · rename_i h1
    dsimp only
    rw [if_neg (by rintro (e | e); exact h1 (.inl e); have : ¬ a.min < b.min := fun e => h1 (.inr e); omega)]
    cases hb : b.has
    · simp
    · rw [hb] at h
      simp at h
      have := hy h.1
      simp [h.1]; omega
def U64 (n : Int) : Prop := 0 ≤ n ∧ n ≤ 18446744073709551615
theorem u64_wrap {n : Int} (h : U64 n) : IntKind.u64.wrap n = n := by
  unfold U64 at h
  simp [IntKind.wrap, IntKind.bits, IntKind.signed]; omega
set_option maxRecDepth 100000 in
set_option maxHeartbeats 16000000 in
theorem matchLimitsOrder_any (a b c : Lm) (w : World) (ha : U64 a.min ∧ U64 a.max) (htab : Tab w) :
    Calls Tryd.prog 3 #[.agg (cellsL a).toArray, .agg (cellsL b).toArray, .agg (cellsL c).toArray] w fun e w' => e = .returned (.bool true) ∧ Below w.heap.size w w' := by
  obtain ⟨bab, hab⟩ : ∃ x, limB a b = x := ⟨_, rfl⟩
  obtain ⟨bbc, hbc⟩ : ∃ x, limB b c = x := ⟨_, rfl⟩
  obtain ⟨bac, hac⟩ : ∃ x, limB a c = x := ⟨_, rfl⟩
  have htr : bab = true → bbc = true → bac = true := by
    rintro rfl rfl; rw [← hac]; exact limB_trans hab hbc
  have hmore : bab = true → ∀ x y : Int, a.min ≤ x → (a.has = true → y ≤ a.max) → limB ⟨a.wide, x, y, a.has⟩ b = true := by
    rintro rfl x y h1 h2; exact limB_more hab x y h1 h2
  have haa := limB_self a
  obtain ⟨aw, an, ax, ah⟩ := a
  obtain ⟨bw, bn, bx, bh⟩ := b
  obtain ⟨cw, cn, cx, ch⟩ := c
  have HAB := Lib.hid hab; have HBC := Lib.hid hbc; have HAC := Lib.hid hac; have HTR := Lib.hid htr; have HMO := Lib.hid hmore; have HAA := Lib.hid haa; have HA := Lib.hid ha
  clear hab hbc hac htr hmore haa ha
  simp only [cellsL]
  obtain ⟨W0, hW⟩ : ∃ W0 : World, W0 = (((w.alloc (.cells #[.bool aw, .int .u64 an, .int .u64 ax, .bool ah] 24)).alloc (.cells #[.bool bw, .int .u64 bn, .int .u64 bx, .bool bh] 24)).alloc (.cells #[.bool cw, .int .u64 cn, .int .u64 cx, .bool ch] 24)) := ⟨_, rfl⟩
  have hB : Below w.heap.size w W0 := by rw [hW]; exact ((((Below.refl _ _).alloc (by simp) _).alloc (by simp) _).alloc (by simp; omega) _)
  have z0 : W0.heap[w.heap.size]? = some (.cells #[.bool aw, .int .u64 an, .int .u64 ax, .bool ah] 24 (0, 0)) := by rw [hW]; exact heap_alloc_keep (heap_alloc_keep (heap_alloc_at _ _ rfl) _) _
  have z1 : W0.heap[w.heap.size + 1]? = some (.cells #[.bool bw, .int .u64 bn, .int .u64 bx, .bool bh] 24 (0, 0)) := by rw [hW]; exact heap_alloc_keep (heap_alloc_at _ _ (by simp)) _
  have z2 : W0.heap[w.heap.size + 1 + 1]? = some (.cells #[.bool cw, .int .u64 cn, .int .u64 cx, .bool ch] 24 (0, 0)) := by rw [hW]; exact heap_alloc_at _ _ (by simp)
  have p0 : ∀ x : Ext W0, x.val.cell? ⟨w.heap.size, 0, none⟩ = some (.bool aw) := Ext.cells (heap_cell z0 0)
  have p1 : ∀ x : Ext W0, x.val.cell? ⟨w.heap.size, 1, none⟩ = some (.int .u64 an) := Ext.cells (heap_cell z0 1)
  have p2 : ∀ x : Ext W0, x.val.cell? ⟨w.heap.size, 2, none⟩ = some (.int .u64 ax) := Ext.cells (heap_cell z0 2)
  have p3 : ∀ x : Ext W0, x.val.cell? ⟨w.heap.size, 3, none⟩ = some (.bool ah) := Ext.cells (heap_cell z0 3)
  have q0 : ∀ x : Ext W0, x.val.cell? ⟨w.heap.size + 1, 0, none⟩ = some (.bool bw) := Ext.cells (heap_cell z1 0)
  have q1 : ∀ x : Ext W0, x.val.cell? ⟨w.heap.size + 1, 1, none⟩ = some (.int .u64 bn) := Ext.cells (heap_cell z1 1)
  have q2 : ∀ x : Ext W0, x.val.cell? ⟨w.heap.size + 1, 2, none⟩ = some (.int .u64 bx) := Ext.cells (heap_cell z1 2)
  have q3 : ∀ x : Ext W0, x.val.cell? ⟨w.heap.size + 1, 3, none⟩ = some (.bool bh) := Ext.cells (heap_cell z1 3)
  have r0 : ∀ x : Ext W0, x.val.cell? ⟨w.heap.size + 1 + 1, 0, none⟩ = some (.bool cw) := Ext.cells (heap_cell z2 0)
  have r1 : ∀ x : Ext W0, x.val.cell? ⟨w.heap.size + 1 + 1, 1, none⟩ = some (.int .u64 cn) := Ext.cells (heap_cell z2 1)
  have r2 : ∀ x : Ext W0, x.val.cell? ⟨w.heap.size + 1 + 1, 2, none⟩ = some (.int .u64 cx) := Ext.cells (heap_cell z2 2)
  have r3 : ∀ x : Ext W0, x.val.cell? ⟨w.heap.size + 1 + 1, 3, none⟩ = some (.bool ch) := Ext.cells (heap_cell z2 3)
  have HW := Lib.hid hW; have HB := Lib.hid hB; have HT := Lib.hid (htab.on hB); have HTAB := Lib.hid htab; have Z0 := Lib.hid z0; have Z1 := Lib.hid z1
  clear hW hB htab z0 z1 z2
  go_enter Tryd.func3, Tryd.ntmps3
  go_wp2_with fail
  rw [← HW.out]
  refine (Ext.call0 (limits_any ⟨aw, an, ax, ah⟩ ⟨aw, an, ax, ah⟩ _)).mono ?_
  rw [HAA.out]
  rintro e _ ⟨rfl, x1, rfl⟩
  go_wp2_with fail
  refine (Ext.call x1 (limits_any ⟨aw, an, ax, ah⟩ ⟨bw, bn, bx, bh⟩ _)).mono ?_
  rw [HAB.out]
  rintro e _ ⟨rfl, x2, rfl⟩
  cases bab
  · go_wp2_with fail
    refine (Ext.call x2 (limits_any ⟨aw, an, ax, ah⟩ ⟨bw, bn, bx, bh⟩ _)).mono ?_
    rw [HAB.out]
    rintro e _ ⟨rfl, x3, rfl⟩
    go_wp2_with fail
    refine (Ext.call x3 (mknown_any _ (HT.out.on x3.2))).mono ?_
    rintro e _ ⟨rfl, x4, rfl⟩
    go_wp2
    go_ret
    exact ⟨rfl, HB.out.trans (x4.2.mono HB.out.size)⟩
  · have HM := Lib.hid (HMO.out rfl)
    have HTR2 := Lib.hid (HTR.out rfl)
    go_wp2_with fail
    refine (Ext.call x2 (limits_any ⟨bw, bn, bx, bh⟩ ⟨cw, cn, cx, ch⟩ _)).mono ?_
    rw [HBC.out]
    rintro e _ ⟨rfl, x3, rfl⟩
    cases bbc
    · go_wp2_with fail
      refine (Ext.call x3 (limits_any ⟨aw, an, ax, ah⟩ ⟨bw, bn, bx, bh⟩ _)).mono ?_
      rw [HAB.out]
      rintro e _ ⟨rfl, x4, rfl⟩
      obtain ⟨W3, hW3⟩ : ∃ W3 : World, W3 = x4.val := ⟨_, rfl⟩
      have u0 := x4.heap Z0.out; have u1 := x4.heap Z1.out
      have hb3 := x4.2
      rw [← hW3] at u0 u1 hb3 ⊢
      have HB3 := Lib.hid hb3
      clear hW3 hb3 p0 p1 p2 p3 q0 q1 q2 q3 r0 r1 r2 r3 x1 x2 x3 x4
      have c0 := heap_cell u0 0; have c1 := heap_cell u0 1; have c2 := heap_cell u0 2; have c3 := heap_cell u0 3
      have d0 := heap_cell u1 0; have d1 := heap_cell u1 1; have d2 := heap_cell u1 2; have d3 := heap_cell u1 3
      have fz := fun i => heap_frozen u0 i
      simp at c0 c1 c2 c3 d0 d1 d2 d3
      clear u0 u1
      have hA1 := HA.out.1; have hA2 := HA.out.2
      unfold U64 at hA1 hA2
      have hfin : ∀ W4, Below w.heap.size W3 W4 → Calls Tryd.prog 5 #[] W4 fun e w' => e = .returned (.bool true) ∧ Below w.heap.size w w' := fun W4 h => by
        have h0 : Below w.heap.size w W4 := (HB.out.trans (HB3.out.mono HB.out.size)).trans h
        have h1 : Below W0.heap.size W0 W3 := HB3.out
        exact (mknown_any W4 (HTAB.out.on h0)).mono fun e w' ⟨he, hb⟩ => ⟨he, h0.trans (hb.mono h0.size)⟩
      have HFIN := Lib.hid hfin
      clear hfin
      by_cases m1 : an < 18446744073709551615
      · have hs : IntKind.u64.wrap (an + 1) = an + 1 := u64_wrap (by unfold U64; omega)
        cases ah
        · have hl := HM.out (an + 1) (ax) (by first | exact Int.le_refl _ | (show an ≤ an + 1; omega)) (fun h => by first | (cases h; done) | exact Int.le_refl _ | (show ax - 1 ≤ ax; omega))
          have HL := Lib.hid hl
          have b0 : Below w.heap.size W3 W3 := Below.refl _ _
          have hbX := (b0.setCell (p := ⟨w.heap.size, 1, none⟩) (Nat.le_refl _) (.int .u64 (an + 1)))
          have HBX := Lib.hid hbX
          clear hl hA1 hA2 b0 hbX
          go_wp2_with fail
          refine (limits_any ⟨aw, an + 1, ax, false⟩ ⟨bw, bn, bx, bh⟩ _).mono ?_
          rw [HL.out]
          rintro e w4 ⟨rfl, hb4⟩
          have hb4' := HBX.out.trans (hb4.mono (by have := HB.out.size; have := HB3.out.size; have := HBX.out.size; omega))
          have HB4 := Lib.hid hb4'
          clear hb4 hb4' c0 c1 c2 c3 d0 d1 d2 d3 fz
          go_wp2_with fail
          refine (HFIN.out w4 HB4.out).mono ?_
          rintro e w5 ⟨rfl, hb5⟩
          have HB5 := Lib.hid hb5
          clear hb5
          go_wp2
          go_ret
          exact ⟨rfl, HB5.out⟩
        · by_cases m2 : 0 < ax
          · have hs2 : IntKind.u64.wrap (ax - 1) = ax - 1 := u64_wrap (by unfold U64; omega)
            have hl := HM.out (an + 1) (ax - 1) (by first | exact Int.le_refl _ | (show an ≤ an + 1; omega)) (fun h => by first | (cases h; done) | exact Int.le_refl _ | (show ax - 1 ≤ ax; omega))
            have HL := Lib.hid hl
            have b0 : Below w.heap.size W3 W3 := Below.refl _ _
            have hbX := ((b0.setCell (p := ⟨w.heap.size, 1, none⟩) (Nat.le_refl _) (.int .u64 (an + 1))).setCell (p := ⟨w.heap.size, 2, none⟩) (Nat.le_refl _) (.int .u64 (ax - 1)))
            have HBX := Lib.hid hbX
            clear hl hA1 hA2 b0 hbX
            go_wp2_with fail
            refine (limits_any ⟨aw, an + 1, ax - 1, true⟩ ⟨bw, bn, bx, bh⟩ _).mono ?_
            rw [HL.out]
            rintro e w4 ⟨rfl, hb4⟩
            have hb4' := HBX.out.trans (hb4.mono (by have := HB.out.size; have := HB3.out.size; have := HBX.out.size; omega))
            have HB4 := Lib.hid hb4'
            clear hb4 hb4' c0 c1 c2 c3 d0 d1 d2 d3 fz
            go_wp2_with fail
            refine (HFIN.out w4 HB4.out).mono ?_
            rintro e w5 ⟨rfl, hb5⟩
            have HB5 := Lib.hid hb5
            clear hb5
            go_wp2
            go_ret
            exact ⟨rfl, HB5.out⟩
          · have hl := HM.out (an + 1) (ax) (by first | exact Int.le_refl _ | (show an ≤ an + 1; omega)) (fun h => by first | (cases h; done) | exact Int.le_refl _ | (show ax - 1 ≤ ax; omega))
            have HL := Lib.hid hl
            have b0 : Below w.heap.size W3 W3 := Below.refl _ _
            have hbX := (b0.setCell (p := ⟨w.heap.size, 1, none⟩) (Nat.le_refl _) (.int .u64 (an + 1)))
            have HBX := Lib.hid hbX
            clear hl hA1 hA2 b0 hbX
            go_wp2_with fail
            refine (limits_any ⟨aw, an + 1, ax, true⟩ ⟨bw, bn, bx, bh⟩ _).mono ?_
            rw [HL.out]
            rintro e w4 ⟨rfl, hb4⟩
            have hb4' := HBX.out.trans (hb4.mono (by have := HB.out.size; have := HB3.out.size; have := HBX.out.size; omega))
            have HB4 := Lib.hid hb4'
            clear hb4 hb4' c0 c1 c2 c3 d0 d1 d2 d3 fz
            go_wp2_with fail
            refine (HFIN.out w4 HB4.out).mono ?_
            rintro e w5 ⟨rfl, hb5⟩
            have HB5 := Lib.hid hb5
            clear hb5
            go_wp2
            go_ret
            exact ⟨rfl, HB5.out⟩
      · cases ah
        · have hl := HM.out (an) (ax) (by first | exact Int.le_refl _ | (show an ≤ an + 1; omega)) (fun h => by first | (cases h; done) | exact Int.le_refl _ | (show ax - 1 ≤ ax; omega))
          have HL := Lib.hid hl
          have b0 : Below w.heap.size W3 W3 := Below.refl _ _
          have hbX := b0
          have HBX := Lib.hid hbX
          clear hl hA1 hA2 b0 hbX
          go_wp2_with fail
          refine (limits_any ⟨aw, an, ax, false⟩ ⟨bw, bn, bx, bh⟩ _).mono ?_
          rw [HL.out]
          rintro e w4 ⟨rfl, hb4⟩
          have hb4' := HBX.out.trans (hb4.mono (by have := HB.out.size; have := HB3.out.size; have := HBX.out.size; omega))
          have HB4 := Lib.hid hb4'
          clear hb4 hb4' c0 c1 c2 c3 d0 d1 d2 d3 fz
          go_wp2_with fail
          refine (HFIN.out w4 HB4.out).mono ?_
          rintro e w5 ⟨rfl, hb5⟩
          have HB5 := Lib.hid hb5
          clear hb5
          go_wp2
          go_ret
          exact ⟨rfl, HB5.out⟩
        · by_cases m2 : 0 < ax
          · have hs2 : IntKind.u64.wrap (ax - 1) = ax - 1 := u64_wrap (by unfold U64; omega)
            have hl := HM.out (an) (ax - 1) (by first | exact Int.le_refl _ | (show an ≤ an + 1; omega)) (fun h => by first | (cases h; done) | exact Int.le_refl _ | (show ax - 1 ≤ ax; omega))
            have HL := Lib.hid hl
            have b0 : Below w.heap.size W3 W3 := Below.refl _ _
            have hbX := (b0.setCell (p := ⟨w.heap.size, 2, none⟩) (Nat.le_refl _) (.int .u64 (ax - 1)))
            have HBX := Lib.hid hbX
            clear hl hA1 hA2 b0 hbX
            go_wp2_with fail
            refine (limits_any ⟨aw, an, ax - 1, true⟩ ⟨bw, bn, bx, bh⟩ _).mono ?_
            rw [HL.out]
            rintro e w4 ⟨rfl, hb4⟩
            have hb4' := HBX.out.trans (hb4.mono (by have := HB.out.size; have := HB3.out.size; have := HBX.out.size; omega))
            have HB4 := Lib.hid hb4'
            clear hb4 hb4' c0 c1 c2 c3 d0 d1 d2 d3 fz
            go_wp2_with fail
            refine (HFIN.out w4 HB4.out).mono ?_
            rintro e w5 ⟨rfl, hb5⟩
            have HB5 := Lib.hid hb5
            clear hb5
            go_wp2
            go_ret
            exact ⟨rfl, HB5.out⟩
          · have hl := HM.out (an) (ax) (by first | exact Int.le_refl _ | (show an ≤ an + 1; omega)) (fun h => by first | (cases h; done) | exact Int.le_refl _ | (show ax - 1 ≤ ax; omega))
            have HL := Lib.hid hl
            have b0 : Below w.heap.size W3 W3 := Below.refl _ _
            have hbX := b0
            have HBX := Lib.hid hbX
            clear hl hA1 hA2 b0 hbX
            go_wp2_with fail
            refine (limits_any ⟨aw, an, ax, true⟩ ⟨bw, bn, bx, bh⟩ _).mono ?_
            rw [HL.out]
            rintro e w4 ⟨rfl, hb4⟩
            have hb4' := HBX.out.trans (hb4.mono (by have := HB.out.size; have := HB3.out.size; have := HBX.out.size; omega))
            have HB4 := Lib.hid hb4'
            clear hb4 hb4' c0 c1 c2 c3 d0 d1 d2 d3 fz
            go_wp2_with fail
            refine (HFIN.out w4 HB4.out).mono ?_
            rintro e w5 ⟨rfl, hb5⟩
            have HB5 := Lib.hid hb5
            clear hb5
            go_wp2
            go_ret
            exact ⟨rfl, HB5.out⟩
    · have e1 := HTR2.out rfl
      subst e1
      go_wp2_with fail
      refine (Ext.call x3 (limits_any ⟨aw, an, ax, ah⟩ ⟨cw, cn, cx, ch⟩ _)).mono ?_
      rw [HAC.out]
      rintro e _ ⟨rfl, x4, rfl⟩
      go_wp2_with fail
      refine (Ext.call x4 (limits_any ⟨aw, an, ax, ah⟩ ⟨bw, bn, bx, bh⟩ _)).mono ?_
      rw [HAB.out]
      rintro e _ ⟨rfl, x5, rfl⟩
      obtain ⟨W3, hW3⟩ : ∃ W3 : World, W3 = x5.val := ⟨_, rfl⟩
      have u0 := x5.heap Z0.out; have u1 := x5.heap Z1.out
      have hb3 := x5.2
      rw [← hW3] at u0 u1 hb3 ⊢
      have HB3 := Lib.hid hb3
      clear hW3 hb3 p0 p1 p2 p3 q0 q1 q2 q3 r0 r1 r2 r3 x1 x2 x3 x5
      have c0 := heap_cell u0 0; have c1 := heap_cell u0 1; have c2 := heap_cell u0 2; have c3 := heap_cell u0 3
      have d0 := heap_cell u1 0; have d1 := heap_cell u1 1; have d2 := heap_cell u1 2; have d3 := heap_cell u1 3
      have fz := fun i => heap_frozen u0 i
      simp at c0 c1 c2 c3 d0 d1 d2 d3
      clear u0 u1
      have hA1 := HA.out.1; have hA2 := HA.out.2
      unfold U64 at hA1 hA2
      have hfin : ∀ W4, Below w.heap.size W3 W4 → Calls Tryd.prog 5 #[] W4 fun e w' => e = .returned (.bool true) ∧ Below w.heap.size w w' := fun W4 h => by
        have h0 : Below w.heap.size w W4 := (HB.out.trans (HB3.out.mono HB.out.size)).trans h
        have h1 : Below W0.heap.size W0 W3 := HB3.out
        exact (mknown_any W4 (HTAB.out.on h0)).mono fun e w' ⟨he, hb⟩ => ⟨he, h0.trans (hb.mono h0.size)⟩
      have HFIN := Lib.hid hfin
      clear hfin
      by_cases m1 : an < 18446744073709551615
      · have hs : IntKind.u64.wrap (an + 1) = an + 1 := u64_wrap (by unfold U64; omega)
        cases ah
        · have hl := HM.out (an + 1) (ax) (by first | exact Int.le_refl _ | (show an ≤ an + 1; omega)) (fun h => by first | (cases h; done) | exact Int.le_refl _ | (show ax - 1 ≤ ax; omega))
          have HL := Lib.hid hl
          have b0 : Below w.heap.size W3 W3 := Below.refl _ _
          have hbX := (b0.setCell (p := ⟨w.heap.size, 1, none⟩) (Nat.le_refl _) (.int .u64 (an + 1)))
          have HBX := Lib.hid hbX
          clear hl hA1 hA2 b0 hbX
          go_wp2_with fail
          refine (limits_any ⟨aw, an + 1, ax, false⟩ ⟨bw, bn, bx, bh⟩ _).mono ?_
          rw [HL.out]
          rintro e w4 ⟨rfl, hb4⟩
          have hb4' := HBX.out.trans (hb4.mono (by have := HB.out.size; have := HB3.out.size; have := HBX.out.size; omega))
          have HB4 := Lib.hid hb4'
          clear hb4 hb4' c0 c1 c2 c3 d0 d1 d2 d3 fz
          go_wp2_with fail
          refine (HFIN.out w4 HB4.out).mono ?_
          rintro e w5 ⟨rfl, hb5⟩
          have HB5 := Lib.hid hb5
          clear hb5
          go_wp2
          go_ret
          exact ⟨rfl, HB5.out⟩
        · by_cases m2 : 0 < ax
          · have hs2 : IntKind.u64.wrap (ax - 1) = ax - 1 := u64_wrap (by unfold U64; omega)
            have hl := HM.out (an + 1) (ax - 1) (by first | exact Int.le_refl _ | (show an ≤ an + 1; omega)) (fun h => by first | (cases h; done) | exact Int.le_refl _ | (show ax - 1 ≤ ax; omega))
            have HL := Lib.hid hl
            have b0 : Below w.heap.size W3 W3 := Below.refl _ _
            have hbX := ((b0.setCell (p := ⟨w.heap.size, 1, none⟩) (Nat.le_refl _) (.int .u64 (an + 1))).setCell (p := ⟨w.heap.size, 2, none⟩) (Nat.le_refl _) (.int .u64 (ax - 1)))
            have HBX := Lib.hid hbX
            clear hl hA1 hA2 b0 hbX
            go_wp2_with fail
            refine (limits_any ⟨aw, an + 1, ax - 1, true⟩ ⟨bw, bn, bx, bh⟩ _).mono ?_
            rw [HL.out]
            rintro e w4 ⟨rfl, hb4⟩
            have hb4' := HBX.out.trans (hb4.mono (by have := HB.out.size; have := HB3.out.size; have := HBX.out.size; omega))
            have HB4 := Lib.hid hb4'
            clear hb4 hb4' c0 c1 c2 c3 d0 d1 d2 d3 fz
            go_wp2_with fail
            refine (HFIN.out w4 HB4.out).mono ?_
            rintro e w5 ⟨rfl, hb5⟩
            have HB5 := Lib.hid hb5
            clear hb5
            go_wp2
            go_ret
            exact ⟨rfl, HB5.out⟩
          · have hl := HM.out (an + 1) (ax) (by first | exact Int.le_refl _ | (show an ≤ an + 1; omega)) (fun h => by first | (cases h; done) | exact Int.le_refl _ | (show ax - 1 ≤ ax; omega))
            have HL := Lib.hid hl
            have b0 : Below w.heap.size W3 W3 := Below.refl _ _
            have hbX := (b0.setCell (p := ⟨w.heap.size, 1, none⟩) (Nat.le_refl _) (.int .u64 (an + 1)))
            have HBX := Lib.hid hbX
            clear hl hA1 hA2 b0 hbX
            go_wp2_with fail
            refine (limits_any ⟨aw, an + 1, ax, true⟩ ⟨bw, bn, bx, bh⟩ _).mono ?_
            rw [HL.out]
            rintro e w4 ⟨rfl, hb4⟩
            have hb4' := HBX.out.trans (hb4.mono (by have := HB.out.size; have := HB3.out.size; have := HBX.out.size; omega))
            have HB4 := Lib.hid hb4'
            clear hb4 hb4' c0 c1 c2 c3 d0 d1 d2 d3 fz
            go_wp2_with fail
            refine (HFIN.out w4 HB4.out).mono ?_
            rintro e w5 ⟨rfl, hb5⟩
            have HB5 := Lib.hid hb5
            clear hb5
            go_wp2
            go_ret
            exact ⟨rfl, HB5.out⟩
      · cases ah
        · have hl := HM.out (an) (ax) (by first | exact Int.le_refl _ | (show an ≤ an + 1; omega)) (fun h => by first | (cases h; done) | exact Int.le_refl _ | (show ax - 1 ≤ ax; omega))
          have HL := Lib.hid hl
          have b0 : Below w.heap.size W3 W3 := Below.refl _ _
          have hbX := b0
          have HBX := Lib.hid hbX
          clear hl hA1 hA2 b0 hbX
          go_wp2_with fail
          refine (limits_any ⟨aw, an, ax, false⟩ ⟨bw, bn, bx, bh⟩ _).mono ?_
          rw [HL.out]
          rintro e w4 ⟨rfl, hb4⟩
          have hb4' := HBX.out.trans (hb4.mono (by have := HB.out.size; have := HB3.out.size; have := HBX.out.size; omega))
          have HB4 := Lib.hid hb4'
          clear hb4 hb4' c0 c1 c2 c3 d0 d1 d2 d3 fz
          go_wp2_with fail
          refine (HFIN.out w4 HB4.out).mono ?_
          rintro e w5 ⟨rfl, hb5⟩
          have HB5 := Lib.hid hb5
          clear hb5
          go_wp2
          go_ret
          exact ⟨rfl, HB5.out⟩
        · by_cases m2 : 0 < ax
          · have hs2 : IntKind.u64.wrap (ax - 1) = ax - 1 := u64_wrap (by unfold U64; omega)
            have hl := HM.out (an) (ax - 1) (by first | exact Int.le_refl _ | (show an ≤ an + 1; omega)) (fun h => by first | (cases h; done) | exact Int.le_refl _ | (show ax - 1 ≤ ax; omega))
            have HL := Lib.hid hl
            have b0 : Below w.heap.size W3 W3 := Below.refl _ _
            have hbX := (b0.setCell (p := ⟨w.heap.size, 2, none⟩) (Nat.le_refl _) (.int .u64 (ax - 1)))
            have HBX := Lib.hid hbX
            clear hl hA1 hA2 b0 hbX
            go_wp2_with fail
            refine (limits_any ⟨aw, an, ax - 1, true⟩ ⟨bw, bn, bx, bh⟩ _).mono ?_
            rw [HL.out]
            rintro e w4 ⟨rfl, hb4⟩
            have hb4' := HBX.out.trans (hb4.mono (by have := HB.out.size; have := HB3.out.size; have := HBX.out.size; omega))
            have HB4 := Lib.hid hb4'
            clear hb4 hb4' c0 c1 c2 c3 d0 d1 d2 d3 fz
            go_wp2_with fail
            refine (HFIN.out w4 HB4.out).mono ?_
            rintro e w5 ⟨rfl, hb5⟩
            have HB5 := Lib.hid hb5
            clear hb5
            go_wp2
            go_ret
            exact ⟨rfl, HB5.out⟩
          · have hl := HM.out (an) (ax) (by first | exact Int.le_refl _ | (show an ≤ an + 1; omega)) (fun h => by first | (cases h; done) | exact Int.le_refl _ | (show ax - 1 ≤ ax; omega))
            have HL := Lib.hid hl
            have b0 : Below w.heap.size W3 W3 := Below.refl _ _
            have hbX := b0
            have HBX := Lib.hid hbX
            clear hl hA1 hA2 b0 hbX
            go_wp2_with fail
            refine (limits_any ⟨aw, an, ax, true⟩ ⟨bw, bn, bx, bh⟩ _).mono ?_
            rw [HL.out]
            rintro e w4 ⟨rfl, hb4⟩
            have hb4' := HBX.out.trans (hb4.mono (by have := HB.out.size; have := HB3.out.size; have := HBX.out.size; omega))
            have HB4 := Lib.hid hb4'
            clear hb4 hb4' c0 c1 c2 c3 d0 d1 d2 d3 fz
            go_wp2_with fail
            refine (HFIN.out w4 HB4.out).mono ?_
            rintro e w5 ⟨rfl, hb5⟩
            have HB5 := Lib.hid hb5
            clear hb5
            go_wp2
            go_ret
            exact ⟨rfl, HB5.out⟩
end Go.Proofs.YtnnbjenibfmcaaaDoor
