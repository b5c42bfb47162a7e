/- geoderef09: Close. -/
import Derived.Test.YtoamhiaagaaaaaaGreatDoorQMaWalkP
import Derived.Test.YtoamhiaagaaaaaaGreatDoorQRoGetP
import Derived.Test.YtoamhiaagaaaaaaGreatDoorQKdRowsP
namespace Go.Proofs.YtoamhiaagaaaaaaGreatDoor
open Go.RowKit Go.Maps Go.WideMaps

theorem plainV_3 {v : Vl} (hp : plainV v = true) (h : v.h = 13) : v.k = 3 := by
  unfold plainV at hp
  split at hp
  · have e : v = ⟨v.k, false, 0, 0⟩ := by simpa using hp
    rw [e] at h; simp at h
  · split at hp
    · assumption
    · cases hp
variable {R : Nat → Prop} {w : World} {t N : Nat} {gs : List (List Sb)}
set_option maxRecDepth 100000 in
set_option maxHeartbeats 8000000 in
theorem kClose_any (ht : RefK R w t N gs) (hok : TabOk gs) (hN : N ≤ 1000000) (v1 : Value) (ids : List Int) (v : Vl) (h1 : IntsAt w v1 ids) (hl : ids.length ≤ 100000) :
    Calls Tryz.prog 18 #[.pointer (some ⟨t, 0, none⟩), v1, .agg (cellsV v).toArray] w fun e w' => e = .returned (.tuple #[.agg (cellsV (closeG gs ids v).1).toArray, .int .i64 (closeG gs ids v).2]) ∧ Below w.heap.size w w' := by
  obtain ⟨a1, c1, rfl⟩ := RowAt.form h1
  obtain ⟨A, hA⟩ : ∃ A, closeG gs ids v = A := ⟨_, rfl⟩
  rw [hA]
  have HA := Lib.hid hA
  have HP13 := Lib.hid (plainV_13 (v := v)); have HP3 := Lib.hid (plainV_3 (v := v))
  obtain ⟨bp, hbp⟩ : ∃ bp, plainV v = bp := ⟨_, rfl⟩
  have HBP := Lib.hid hbp
  clear hA
  obtain ⟨k, nl, hh, n⟩ := v
  obtain ⟨W0, hW⟩ : ∃ W0 : World, W0 = ((w.alloc (.cells #[.int .i64 k, .bool nl, .int .i64 hh, .int .i64 n] 28)).alloc (.cells #[.int .i64 0, .bool false, .int .i64 0, .int .i64 0] 28)) := ⟨_, rfl⟩
  have hb0 : Below w.heap.size w W0 := by rw [hW]; exact ((Below.refl _ _).alloc (Nat.le_refl _) _).alloc (by simp) _
  have z0 : W0.heap[w.heap.size]? = some (.cells #[.int .i64 k, .bool nl, .int .i64 hh, .int .i64 n] 28 (0, 0)) := by rw [hW]; exact heap_alloc_keep (heap_alloc_at _ _ rfl) _
  have z1 : W0.heap[w.heap.size + 1]? = some (.cells #[.int .i64 0, .bool false, .int .i64 0, .int .i64 0] 28 (0, 0)) := by rw [hW]; exact heap_alloc_at _ _ (by simp)
  have CP := rVal_any ⟨k, nl, hh, n⟩ W0
  rw [hbp] at CP
  have HCP := Lib.hid CP
  have HT := Lib.hid ht; have HOK := Lib.hid hok; have H1 := Lib.hid h1; have HL := Lib.hid hl; have HW := Lib.hid hW; have HB0 := Lib.hid hb0; have Z0 := Lib.hid z0; have Z1 := Lib.hid z1; have HNN := Lib.hid hN
  have c00 := heap_cell z0 0; have c01 := heap_cell z0 1; have c02 := heap_cell z0 2; have c03 := heap_cell z0 3
  simp at c00 c01 c02 c03
  rw [hW] at c00 c01 c02 c03
  clear CP ht hok h1 hl hW hb0 z0 z1 hbp hN
  rw [show cellsV ⟨k, nl, hh, n⟩ = [.int .i64 k, .bool nl, .int .i64 hh, .int .i64 n] from rfl]
  go_enter Tryz.func18, Tryz.ntmps18
  go_wp2_with fail
  rw [← HW.out]
  refine HCP.out.mono ?_
  rintro e x2 ⟨rfl, hb2⟩
  have y0 := (hb2.block _ (heap_lt Z0.out)).trans Z0.out
  have y1 := (hb2.block _ (heap_lt Z1.out)).trans Z1.out
  have d0 := heap_cell y0 0; have d1 := heap_cell y0 1; have d2 := heap_cell y0 2; have d3 := heap_cell y0 3
  have e0 := heap_cell y1 0; have e1 := heap_cell y1 1; have e2 := heap_cell y1 2; have e3 := heap_cell y1 3
  have f1 := fun i => heap_frozen y1 i
  have f0 := fun i => heap_frozen y0 i
  simp at d0 d1 d2 d3 e0 e1 e2 e3
  have hbw : Below w.heap.size w x2 := HB0.out.trans (hb2.mono HB0.out.size)
  have HBW := Lib.hid hbw; have Y0 := Lib.hid y0; have Y1 := Lib.hid y1
  clear hb2 hbw y0 y1 c00 c01 c02 c03
  have fin : ∀ W', Upd (fun b => w.heap.size ≤ b) x2 W' → Below w.heap.size w W' := fun W' u => HBW.out.trans (u.below (fun k hk => hk) HBW.out.size)
  have FIN := Lib.hid fin
  clear fin
  cases bp
  · have hA : A = (zeroVl, 2) := by rw [← HA.out]; unfold closeG; rw [HBP.out]; rfl
    go_wp2
    refine bodyPost_ret (v := .tuple #[.agg #[.int .i64 0, .bool false, .int .i64 0, .int .i64 0], .int .i64 2]) (by simp [results, Tryz.results18, go_sem, e0, e1, e2, e3]) rfl ?_
    subst hA
    exact ⟨rfl, FIN.out _ (((((Upd.refl _ x2).setCell (.inl (by simp)) _).setCell (.inl (by simp)) _).setCell (.inl (by simp)) _).setCell (.inl (by simp)) _)⟩
  by_cases h13 : hh = 13
  · subst h13
    obtain ⟨hn0, hn1⟩ := HP13.out HBP.out rfl
    obtain rfl : k = 3 := HP3.out HBP.out rfl
    obtain ⟨m, rfl⟩ : ∃ m : Nat, n = m := ⟨n.toNat, by omega⟩
    by_cases hlt : (m : Int) < ids.length
    · obtain ⟨y, hy⟩ : ∃ y, ids[m]? = some y := ⟨ids[m]'(by omega), by simp⟩
      obtain ⟨b1, o1, ea, _, p0⟩ := IntsAt.at (RowAt.below H1.out HBW.out (Nat.le_refl _) : IntsAt x2 (.slice a1 ids.length c1) ids) hy
      subst ea
      have hgd : ids.getD (m : Int).toNat 0 = y := by rw [List.getD_eq_getElem?_getD, Int.toNat_natCast, hy]; rfl
      obtain ⟨T, hT⟩ : ∃ T, total gs = T := ⟨_, rfl⟩
      have hd : ∀ q : Ext x2, Calls Tryz.prog 13 #[.pointer (some ⟨t, 0, none⟩)] q.val fun e w' => e = .returned (.int .i64 T) ∧ ∃ m, w' = q.val.drewN m := fun q => by
        rw [← hT]
        exact kLen_dr (HT.out.below (HBW.out.trans (q.2.mono HBW.out.size))) HOK.out HNN.out
      have HD := Lib.hid hd; have HGD := Lib.hid hgd; have HTT := Lib.hid hT; have HLT := Lib.hid hlt
      have g0 : ∀ z : Ext x2, z.val.cell? ⟨b1, o1 + m, none⟩ = some (.int .i64 y) := Ext.cells p0
      have P0 := Lib.hid p0; have G0 := Lib.hid g0
      clear hgd hy hd hT p0 g0
      have hrun : ∀ bq, inTab gs y = bq → A = (if bq = true then (⟨3, nl, 15, y⟩, 0) else (zeroVl, 2)) := fun bq hbq => by
        rw [← HA.out]; unfold closeG; rw [HBP.out, if_neg (by simp), if_neg (by simp), if_neg (by simpa using HLT.out), HGD.out, hbq]
        cases bq <;> rfl
      have HRUN := Lib.hid hrun
      clear hrun
      have hm1 : ¬ ids.length ≤ m := by have := HLT.out; omega
      have hm2 : decide (ids.length ≤ m) = false := by simpa using hm1
      by_cases hy0 : y < 0
      · have hy1 : decide (y < 0) = true := by simpa using hy0
        have hA := HRUN.out false (by unfold inTab; simp; omega)
        rw [if_neg (by simp)] at hA
        go_upto_region 5 with fail
        have g0 := G0.out
        refine wp_region_calm (by kernel_rfl) (by kernel_rfl) ?_
        repeat (go_big_quiet_step (exact Ext.call_quiet _ (HD.out _)))
        refine wpQuiet_nil ?_
        rintro _ ⟨q0, rfl⟩
        have y1 := (q0.2.block _ (heap_lt Y1.out)).trans Y1.out
        have y0 := (q0.2.block _ (heap_lt Y0.out)).trans Y0.out
        clear d0 d1 d2 d3 e0 e1 e2 e3 f0 f1
        have d0 := heap_cell y0 0; have d1 := heap_cell y0 1; have d2 := heap_cell y0 2; have d3 := heap_cell y0 3
        have e0 := heap_cell y1 0; have e1 := heap_cell y1 1; have e2 := heap_cell y1 2; have e3 := heap_cell y1 3
        have f1 := fun i => heap_frozen y1 i
        have f0 := fun i => heap_frozen y0 i
        simp at d0 d1 d2 d3 e0 e1 e2 e3
        clear y0 y1
        clear g0
        subst hA
        go_wp2
        refine bodyPost_ret (v := .tuple #[.agg #[.int .i64 0, .bool false, .int .i64 0, .int .i64 0], .int .i64 2]) (by simp [results, Tryz.results18, go_sem, e0, e1, e2, e3]) rfl ?_
        exact ⟨rfl, FIN.out _ (((((Upd.of_below q0.2).setCell (.inl (by simp)) _).setCell (.inl (by simp)) _).setCell (.inl (by simp)) _).setCell (.inl (by simp)) _)⟩
      have hy1 : decide (y < 0) = false := by simpa using hy0
      by_cases hyT : (T : Int) ≤ y
      · have hyT1 : decide ((T : Int) ≤ y) = true := by simpa using hyT
        have hA := HRUN.out false (by unfold inTab; rw [HTT.out]; simp; omega)
        rw [if_neg (by simp)] at hA
        go_upto_region 5 with fail
        have g0 := G0.out
        refine wp_region_calm (by kernel_rfl) (by kernel_rfl) ?_
        repeat (go_big_quiet_step (exact Ext.call_quiet _ (HD.out _)))
        refine wpQuiet_nil ?_
        rintro _ ⟨q0, rfl⟩
        have y1 := (q0.2.block _ (heap_lt Y1.out)).trans Y1.out
        have y0 := (q0.2.block _ (heap_lt Y0.out)).trans Y0.out
        clear d0 d1 d2 d3 e0 e1 e2 e3 f0 f1
        have d0 := heap_cell y0 0; have d1 := heap_cell y0 1; have d2 := heap_cell y0 2; have d3 := heap_cell y0 3
        have e0 := heap_cell y1 0; have e1 := heap_cell y1 1; have e2 := heap_cell y1 2; have e3 := heap_cell y1 3
        have f1 := fun i => heap_frozen y1 i
        have f0 := fun i => heap_frozen y0 i
        simp at d0 d1 d2 d3 e0 e1 e2 e3
        clear y0 y1
        clear g0
        subst hA
        go_wp2
        refine bodyPost_ret (v := .tuple #[.agg #[.int .i64 0, .bool false, .int .i64 0, .int .i64 0], .int .i64 2]) (by simp [results, Tryz.results18, go_sem, e0, e1, e2, e3]) rfl ?_
        exact ⟨rfl, FIN.out _ (((((Upd.of_below q0.2).setCell (.inl (by simp)) _).setCell (.inl (by simp)) _).setCell (.inl (by simp)) _).setCell (.inl (by simp)) _)⟩
      have hyT1 : decide ((T : Int) ≤ y) = false := by simpa using hyT
      have hA := HRUN.out true (by unfold inTab; rw [HTT.out]; simp; omega)
      rw [if_pos rfl] at hA
      go_upto_region 5 with fail
      have g0 := G0.out
      refine wp_region_calm (by kernel_rfl) (by kernel_rfl) ?_
      repeat (go_big_quiet_step (exact Ext.call_quiet _ (HD.out _)))
      refine wpQuiet_nil ?_
      rintro _ ⟨q0, rfl⟩
      have y1 := (q0.2.block _ (heap_lt Y1.out)).trans Y1.out
      have y0 := (q0.2.block _ (heap_lt Y0.out)).trans Y0.out
      clear d0 d1 d2 d3 e0 e1 e2 e3 f0 f1
      have d0 := heap_cell y0 0; have d1 := heap_cell y0 1; have d2 := heap_cell y0 2; have d3 := heap_cell y0 3
      have e0 := heap_cell y1 0; have e1 := heap_cell y1 1; have e2 := heap_cell y1 2; have e3 := heap_cell y1 3
      have f1 := fun i => heap_frozen y1 i
      have f0 := fun i => heap_frozen y0 i
      simp at d0 d1 d2 d3 e0 e1 e2 e3
      clear y0 y1
      clear g0
      subst hA
      have p0 := q0.cell P0.out
      go_wp2
      refine bodyPost_ret (v := .tuple #[.agg #[.int .i64 3, .bool nl, .int .i64 15, .int .i64 y], .int .i64 0]) (by simp [results, Tryz.results18, go_sem, e0, e1, e2, e3]) rfl ?_
      exact ⟨rfl, FIN.out _ (((((((Upd.of_below q0.2).setCell (.inl (by simp)) _).setCell (.inl (by simp)) _).setCell (.inl (by simp)) _).setCell (.inl (by simp)) _).setCell (.inl (by simp)) _).setCell (.inl (by simp)) _)⟩
    · have hA : A = (zeroVl, 2) := by rw [← HA.out]; unfold closeG; rw [HBP.out, if_neg (by simp), if_neg (by simp), if_pos hlt]
      subst hA
      have hm1 : ids.length ≤ m := by omega
      have hm2 : decide (ids.length ≤ m) = true := by simpa using hm1
      go_upto_region 5 with fail
      refine wp_region_calm (by kernel_rfl) (by kernel_rfl) ?_
      repeat (go_big_quiet_step (fail))
      refine wpQuiet_nil ?_
      rintro _ ⟨q0, rfl⟩
      have y1 := (q0.2.block _ (heap_lt Y1.out)).trans Y1.out
      have y0 := (q0.2.block _ (heap_lt Y0.out)).trans Y0.out
      clear d0 d1 d2 d3 e0 e1 e2 e3 f0 f1
      have d0 := heap_cell y0 0; have d1 := heap_cell y0 1; have d2 := heap_cell y0 2; have d3 := heap_cell y0 3
      have e0 := heap_cell y1 0; have e1 := heap_cell y1 1; have e2 := heap_cell y1 2; have e3 := heap_cell y1 3
      have f1 := fun i => heap_frozen y1 i
      have f0 := fun i => heap_frozen y0 i
      simp at d0 d1 d2 d3 e0 e1 e2 e3
      clear y0 y1
      go_wp2
      refine bodyPost_ret (v := .tuple #[.agg #[.int .i64 0, .bool false, .int .i64 0, .int .i64 0], .int .i64 2]) (by simp [results, Tryz.results18, go_sem, e0, e1, e2, e3]) rfl ?_
      exact ⟨rfl, FIN.out _ (((((Upd.of_below q0.2).setCell (.inl (by simp)) _).setCell (.inl (by simp)) _).setCell (.inl (by simp)) _).setCell (.inl (by simp)) _)⟩
  · have h13' : (hh == 13) = false := by simpa using h13
    have h13'' : (hh != 13) = true := by simpa using h13
    have hA : A = (⟨k, nl, hh, n⟩, 0) := by rw [← HA.out]; unfold closeG; rw [HBP.out, if_neg (by simp), if_pos h13]
    subst hA
    clear h13
    by_cases hk3 : k = 3
    · subst hk3
      go_wp2
      refine bodyPost_ret (v := .tuple #[.agg #[.int .i64 3, .bool nl, .int .i64 hh, .int .i64 n], .int .i64 0]) (by simp [results, Tryz.results18, go_sem, e0, e1, e2, e3]) rfl ?_
      exact ⟨rfl, FIN.out _ (((((Upd.refl _ x2).setCell (.inl (by simp)) _).setCell (.inl (by simp)) _).setCell (.inl (by simp)) _).setCell (.inl (by simp)) _)⟩
    · have hk3' : (k == 3) = false := by simpa using hk3
      clear hk3
      go_wp2
      refine bodyPost_ret (v := .tuple #[.agg #[.int .i64 k, .bool nl, .int .i64 hh, .int .i64 n], .int .i64 0]) (by simp [results, Tryz.results18, go_sem, e0, e1, e2, e3]) rfl ?_
      exact ⟨rfl, FIN.out _ (((((Upd.refl _ x2).setCell (.inl (by simp)) _).setCell (.inl (by simp)) _).setCell (.inl (by simp)) _).setCell (.inl (by simp)) _)⟩
end Go.Proofs.YtoamhiaagaaaaaaGreatDoor
