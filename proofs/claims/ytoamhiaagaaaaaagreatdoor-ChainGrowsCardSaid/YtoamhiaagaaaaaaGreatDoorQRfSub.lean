/- geoderef04: which types are plain. -/
import Derived.Test.YtoamhiaagaaaaaaGreatDoorQKdSubP
namespace Go.Proofs.YtoamhiaagaaaaaaGreatDoor
open Go.RowKit

def plainH (h : Hp) : Bool := givenB h || indexedB h
set_option maxHeartbeats 1000000 in
theorem rHeap_any (k n : Int) (w : World) : Calls Tryz.prog 98 #[.agg #[.int .i64 k, .int .i64 n]] w fun e w' => e = .returned (.bool (plainH ⟨k, n⟩)) ∧ Below w.heap.size w w' := by
  unfold plainH givenB indexedB
  go_enter Tryz.func98, Tryz.ntmps98
  go_wp2
  all_goals
    go_ret
    exact ⟨retb (by first | (simp_all; done) | (simp_all; omega) | (rw [Bool.eq_iff_iff]; simp_all; done) | (rw [Bool.eq_iff_iff]; simp_all; omega)), (Below.refl _ _).alloc (Nat.le_refl _) _⟩
set_option maxHeartbeats 1000000 in
theorem rVal_any (v : Vl) (w : World) : Calls Tryz.prog 58 #[.agg (cellsV v).toArray] w fun e w' => e = .returned (.bool (plainV v)) ∧ Below w.heap.size w w' := by
  obtain ⟨k, nl, h, n⟩ := v
  simp only [cellsV]
  by_cases h3 : k = 3
  · subst h3
    go_enter Tryz.func58, Tryz.ntmps58
    go_wp2_with fail
    refine (rHeap_any h n _).mono ?_
    rintro e w1 ⟨rfl, hb1⟩
    go_wp2
    go_ret
    exact ⟨retb (by simp [plainV, plainH]), ((Below.refl _ _).alloc (Nat.le_refl _) _).trans (hb1.mono (by simp))⟩
  · go_enter Tryz.func58, Tryz.ntmps58
    go_wp2
    all_goals
      go_ret
      exact ⟨retb (by first | (simp_all [plainV]; done) | (simp_all [plainV]; omega) | (rw [Bool.eq_iff_iff]; simp_all [plainV]; done) | (rw [Bool.eq_iff_iff]; simp_all [plainV]; omega)), (Below.refl _ _).alloc (Nat.le_refl _) _⟩
set_option maxRecDepth 100000 in
set_option maxHeartbeats 1000000 in
theorem rVals_any (v : Value) (l : List Vl) (w : World) (hv : ValsAt w v l) (hl : l.length ≤ 1000000) : Calls Tryz.prog 119 #[v] w fun e w' => e = .returned (.bool (l.all plainV)) ∧ Below w.heap.size w w' := by
  obtain ⟨ao, cap, rfl⟩ := RowAt.form hv
  obtain ⟨n, hn⟩ : ∃ n, l.length = n := ⟨_, rfl⟩
  have HV := Lib.hid hv; have HN := Lib.hid hn
  rw [hn] at hl ⊢
  clear hv hn
  go_enter Tryz.func119, Tryz.ntmps119
  go_wp2
  go_loopw [3] (fun t9 wr => ∃ i : Nat, t9 = .int .i64 (i : Nat) ∧ i ≤ n ∧ (l.take i).all plainV = true ∧ Below w.heap.size w wr) (fun t9 _ => n - (intOf t9).toNat)
  case atStart => exact ⟨0, rfl, Nat.zero_le _, rfl, Below.refl _ _⟩
  case round =>
    obtain ⟨i, rfl, hi, htk, hb⟩ := hrel
    have HT := Lib.hid htk; have HB := Lib.hid hb
    clear htk hb
    by_cases hlt : i < n
    · obtain ⟨x, hx⟩ : ∃ x, l[i]? = some x := ⟨l[i]'(by rw [HN.out]; exact hlt), by simp⟩
      have hvr : ValsAt wr (.slice ao l.length cap) l := RowAt.below HV.out HB.out (Nat.le_refl _)
      rw [HN.out] at hvr
      obtain ⟨b, off, rfl, hbl, p0, p1, p2, p3⟩ := vals_at (by rw [HN.out]; exact hvr) hx
      have HX := Lib.hid hx
      obtain ⟨r, hr⟩ : ∃ r, plainV x = r := ⟨_, rfl⟩
      have HR := Lib.hid hr
      have hlt' : (i : Int) < n := by omega
      have hi6 : (i : Int) < 1000000 := by omega
      have HI := Lib.hid hlt
      clear hx hr hvr hbl hl hi hlt
      go_wp2_with fail
      refine (rVal_any x _).mono ?_
      rintro e w1 ⟨rfl, hb1⟩
      rw [HR.out]
      have HB1 := Lib.hid (HB.out.trans (hb1.mono HB.out.size))
      clear hb1
      cases r
      · go_wp2
        go_ret
        exact ⟨retb (all_not HX.out HR.out).symm, HB1.out⟩
      · go_wp2
        go_roundw
        case rel => exact ⟨i + 1, by go_num, HI.out, by rw [take_all HX.out, HT.out, HR.out]; rfl, HB1.out⟩
        case measure => have := HI.out; simp [intOf]; omega
    · have hlt' : ¬ (i : Int) < n := by omega
      have h0 := HT.out
      have HA := Lib.hid (show l.all plainV = true by rw [List.take_of_length_le (by rw [HN.out]; omega)] at h0; exact h0)
      clear h0
      go_wp2
      go_ret
      exact ⟨retb HA.out.symm, HB.out⟩
theorem plainH13 {x : Hp} (h : x.k = 13) : plainH x = indexedB x := by
  obtain ⟨k, n⟩ := x
  dsimp only at h
  subst h
  simp [plainH, givenB]
set_option maxRecDepth 100000 in
set_option maxHeartbeats 4000000 in
theorem rSub_any (cs : List Value) (s : Sb) (w : World) (hs : SubAt w cs s) (hm : Small s) : Calls Tryz.prog 92 #[.agg cs.toArray] w fun e w' => e = .returned (.bool (plainS s)) ∧ Below w.heap.size w w' := by
  have HM := Lib.hid hm
  obtain ⟨vs, vp, vr, vf, rfl, h1, h2, h3, h4⟩ := hs.ex
  obtain ⟨so, sc, rfl⟩ := RowAt.form h1
  obtain ⟨ps, pc, rfl⟩ := RowAt.form h2
  obtain ⟨rs, rc, rfl⟩ := RowAt.form h3
  obtain ⟨fs, fc, rfl⟩ := RowAt.form h4
  obtain ⟨fin, sups, k, lp, lr, lf⟩ := s
  dsimp only at h1 h2 h3 h4 ⊢
  obtain ⟨ns, hns⟩ : ∃ n, sups.length = n := ⟨_, rfl⟩
  obtain ⟨np, hnp⟩ : ∃ n, lp.length = n := ⟨_, rfl⟩
  obtain ⟨nr, hnr⟩ : ∃ n, lr.length = n := ⟨_, rfl⟩
  obtain ⟨nf, hnf⟩ : ∃ n, lf.length = n := ⟨_, rfl⟩
  have H1 := Lib.hid h1; have H2 := Lib.hid h2; have H3 := Lib.hid h3; have H4 := Lib.hid h4
  have HNS := Lib.hid hns; have HNF := Lib.hid hnf; have HNP := Lib.hid hnp; have HNR := Lib.hid hnr
  have hM0 := hm.sups; have hM1 := hm.ps; have hM2 := hm.rs; have hM3 := hm.fs
  dsimp only at hM0 hM1 hM2 hM3
  rw [hns] at H1 hM0; rw [hnp] at H2 hM1; rw [hnr] at H3 hM2; rw [hnf] at H4 hM3
  rw [plainS_eq]
  dsimp only
  rw [hnp, hnr, hnf, hns]
  obtain ⟨b1, hb1⟩ : ∃ b, lp.all plainV = b := ⟨_, rfl⟩
  obtain ⟨b2, hb2⟩ : ∃ b, lr.all plainV = b := ⟨_, rfl⟩
  rw [show midS ⟨fin, sups, k, lp, lr, lf⟩ = (b1 && b2 && lf.all plainF) by unfold midS; rw [hb1, hb2]]
  have A1 := Lib.hid hb1; have A2 := Lib.hid hb2
  obtain ⟨W0, hW⟩ : ∃ W0 : World, W0 = (w.alloc (.cells #[.bool fin, .slice so ns sc, .int .i64 k, .slice ps np pc, .slice rs nr rc, .slice fs nf fc] 48)) := ⟨_, rfl⟩
  have hB : Below w.heap.size w W0 := by rw [hW]; exact ((Below.refl _ _).alloc (by simp) _)
  have b0_0 : ∀ x : Ext W0, x.val.cell? ⟨w.heap.size, 0, none⟩ = some (.bool fin) := Ext.cells (by rw [hW]; exact heap_cell (heap_alloc_at _ _ (by simp)) 0)
  have b0_1 : ∀ x : Ext W0, x.val.cell? ⟨w.heap.size, 1, none⟩ = some (.slice so ns sc) := Ext.cells (by rw [hW]; exact heap_cell (heap_alloc_at _ _ (by simp)) 1)
  have b0_2 : ∀ x : Ext W0, x.val.cell? ⟨w.heap.size, 2, none⟩ = some (.int .i64 k) := Ext.cells (by rw [hW]; exact heap_cell (heap_alloc_at _ _ (by simp)) 2)
  have b0_3 : ∀ x : Ext W0, x.val.cell? ⟨w.heap.size, 3, none⟩ = some (.slice ps np pc) := Ext.cells (by rw [hW]; exact heap_cell (heap_alloc_at _ _ (by simp)) 3)
  have b0_4 : ∀ x : Ext W0, x.val.cell? ⟨w.heap.size, 4, none⟩ = some (.slice rs nr rc) := Ext.cells (by rw [hW]; exact heap_cell (heap_alloc_at _ _ (by simp)) 4)
  have b0_5 : ∀ x : Ext W0, x.val.cell? ⟨w.heap.size, 5, none⟩ = some (.slice fs nf fc) := Ext.cells (by rw [hW]; exact heap_cell (heap_alloc_at _ _ (by simp)) 5)
  have HW := Lib.hid hW; have HB := Lib.hid hB
  clear hW hB
  have R1 := Lib.hid (RowAt.below h1 HB.out (Nat.le_refl _)); have R2 := Lib.hid (RowAt.below h2 HB.out (Nat.le_refl _)); have R3 := Lib.hid (RowAt.below h3 HB.out (Nat.le_refl _)); have R4 := Lib.hid (RowAt.below h4 HB.out (Nat.le_refl _))
  rw [hns] at R1; rw [hnp] at R2; rw [hnr] at R3; rw [hnf] at R4
  have hs0 : (np : Int) ≤ 1000000 := by omega
  have hs1 : (nr : Int) ≤ 1000000 := by omega
  have hs2 : (ns : Int) ≤ 1000000 := by omega
  have hs3 : (nf : Int) ≤ 1000000 := by omega
  clear h1 h2 h3 h4 hs hm hnp hnr hnf hns hb1 hb2 hM0 hM1 hM2 hM3 H1 H2 H3 H4
  go_enter Tryz.func92, Tryz.ntmps92
  go_wp2
  rw [← HW.out]
  go_loopw [3] (fun t3 wr => ∃ i : Nat, t3 = .int .i64 i ∧ i ≤ ns ∧ (sups.take i).all indexedB = true ∧ ∃ x : Ext W0, wr = x.val) (fun t3 _ => ns - (intOf t3).toNat)
  case atStart => exact ⟨0, rfl, Nat.zero_le _, rfl, ⟨_, Below.refl _ _⟩, rfl⟩
  case round =>
    obtain ⟨i, rfl, hi, htk, x, rfl⟩ := hrel
    have HT := Lib.hid htk
    clear htk
    by_cases hlt : i < ns
    · obtain ⟨⟨yk, yn⟩, hy⟩ : ∃ y, sups[i]? = some y := ⟨sups[i]'(by rw [HNS.out]; exact hlt), by simp⟩
      have hvr := RowAt.ext R1.out x
      rw [← HNS.out] at hvr
      obtain ⟨b, off, rfl, _, p0, p1⟩ := hps_at hvr hy
      have HY := Lib.hid hy; have HI := Lib.hid hlt
      have hlt' : (i : Int) < ns := by omega
      clear hvr hy hlt hi
      dsimp only at p0 p1
      by_cases hk : yk = 13
      · subst hk
        obtain ⟨r, hr⟩ : ∃ r, indexedB ⟨13, yn⟩ = r := ⟨_, rfl⟩
        have HR := Lib.hid ((plainH13 (x := ⟨13, yn⟩) rfl).trans hr); have HR0 := Lib.hid hr
        clear hr
        go_wp2_with fail
        refine (Ext.call x (rHeap_any 13 yn _)).mono ?_
        rintro e _ ⟨rfl, x2, rfl⟩
        rw [HR.out]
        cases r
        · go_wp2
          go_ret
          exact ⟨retb (by rw [all_not HY.out HR0.out]; rfl), HB.out.trans (x2.2.mono HB.out.size)⟩
        · go_wp2
          go_roundw
          case rel => exact ⟨i + 1, by go_num, HI.out, by rw [take_all HY.out, HT.out, HR0.out]; rfl, x2, rfl⟩
          case measure => have := HI.out; simp [intOf]; omega
      · have e13 : (yk == 13) = false := by simpa using hk
        have e13n : (yk != 13) = true := by simpa using hk
        have HK := Lib.hid (show indexedB ⟨yk, yn⟩ = false by simp [indexedB, hk])
        clear hk
        go_wp2
        go_ret
        exact ⟨retb (by rw [all_not HY.out HK.out]; rfl), HB.out.trans (x.2.mono HB.out.size)⟩
    · have hlt' : ¬ (i : Int) < ns := by omega
      have h0 := HT.out
      have HA := Lib.hid (show sups.all indexedB = true by rw [List.take_of_length_le (by rw [HNS.out]; omega)] at h0; exact h0)
      clear h0
      go_wp2
      obtain ⟨W1, hW1⟩ : ∃ W1 : World, W1 = (x.val.alloc (.cells #[.int .i64 k, .slice ps np pc, .slice rs nr rc, .slice fs nf fc] 46)) := ⟨_, rfl⟩
      have hB1 : Below W0.heap.size W0 W1 := by rw [hW1]; exact x.2.alloc x.2.size _
      have d0 : ∀ z : Ext W1, z.val.cell? ⟨x.val.heap.size, 0, none⟩ = some (.int .i64 k) := Ext.cells (by rw [hW1]; exact heap_cell (heap_alloc_at _ _ (by simp)) 0)
      have d1 : ∀ z : Ext W1, z.val.cell? ⟨x.val.heap.size, 1, none⟩ = some (.slice ps np pc) := Ext.cells (by rw [hW1]; exact heap_cell (heap_alloc_at _ _ (by simp)) 1)
      have d2 : ∀ z : Ext W1, z.val.cell? ⟨x.val.heap.size, 2, none⟩ = some (.slice rs nr rc) := Ext.cells (by rw [hW1]; exact heap_cell (heap_alloc_at _ _ (by simp)) 2)
      have d3 : ∀ z : Ext W1, z.val.cell? ⟨x.val.heap.size, 3, none⟩ = some (.slice fs nf fc) := Ext.cells (by rw [hW1]; exact heap_cell (heap_alloc_at _ _ (by simp)) 3)
      have HW1 := Lib.hid hW1; have HB1 := Lib.hid (HB.out.trans (hB1.mono HB.out.size))
      have Q2 := Lib.hid (RowAt.below R2.out hB1 (Nat.le_refl _)); have Q3 := Lib.hid (RowAt.below R3.out hB1 (Nat.le_refl _)); have Q4 := Lib.hid (RowAt.below R4.out hB1 (Nat.le_refl _))
      rw [← HW1.out]
      clear hW1 hB1 b0_0 b0_1 b0_2 b0_3 b0_4 b0_5 hlt hi
      go_loopw [5] (fun t5 wr => ∃ i : Nat, t5 = .int .i64 i ∧ i ≤ nf ∧ (lf.take i).all plainF = true ∧ ∃ z : Ext W1, wr = z.val) (fun t5 _ => nf - (intOf t5).toNat)
      case atStart => exact ⟨0, rfl, Nat.zero_le _, rfl, ⟨_, Below.refl _ _⟩, rfl⟩
      case round =>
        obtain ⟨i, rfl, hi, htk, z, rfl⟩ := hrel
        have HT := Lib.hid htk
        clear htk
        by_cases hlt : i < nf
        · obtain ⟨⟨yp, ⟨yk, yl, yh, yn⟩, ym⟩, hy⟩ : ∃ y, lf[i]? = some y := ⟨lf[i]'(by rw [HNF.out]; exact hlt), by simp⟩
          have hvr := RowAt.ext Q4.out z
          rw [← HNF.out] at hvr
          obtain ⟨b, off, rfl, _, p0, p1, p2, p3, p4, p5⟩ := fls_at hvr hy
          dsimp only at p0 p1 p2 p3 p4 p5
          have HY := Lib.hid hy; have HI := Lib.hid hlt
          have hlt' : (i : Int) < nf := by omega
          clear hvr hy hlt hi
          obtain ⟨r, hr⟩ : ∃ r, plainV ⟨yk, yl, yh, yn⟩ = r := ⟨_, rfl⟩
          have HR := Lib.hid hr
          have C := rVal_any ⟨yk, yl, yh, yn⟩ (z.val.alloc (.cells #[.int .i64 yp, .int .i64 yk, .bool yl, .int .i64 yh, .int .i64 yn] 105))
          rw [hr] at C
          have HC := Lib.hid C
          have e0 : ∀ q : Ext (z.val.alloc (.cells #[.int .i64 yp, .int .i64 yk, .bool yl, .int .i64 yh, .int .i64 yn] 105)), q.val.cell? ⟨z.val.heap.size, 0, none⟩ = some (.int .i64 yp) := Ext.cells (heap_cell (heap_alloc_at _ _ (by simp)) 0)
          have e1 : ∀ q : Ext (z.val.alloc (.cells #[.int .i64 yp, .int .i64 yk, .bool yl, .int .i64 yh, .int .i64 yn] 105)), q.val.cell? ⟨z.val.heap.size, 1, none⟩ = some (.int .i64 yk) := Ext.cells (heap_cell (heap_alloc_at _ _ (by simp)) 1)
          have hz : Below W1.heap.size W1 (z.val.alloc (.cells #[.int .i64 yp, .int .i64 yk, .bool yl, .int .i64 yh, .int .i64 yn] 105)) := z.2.alloc z.2.size _
          have HZ := Lib.hid hz
          clear hr C hz
          go_wp2_with fail
          refine (Ext.call0 HC.out).mono ?_
          rintro e _ ⟨rfl, q, rfl⟩
          have HZ2 := Lib.hid (HZ.out.trans (q.2.mono HZ.out.size))
          cases r
          · have HF := Lib.hid (show plainF ⟨yp, ⟨yk, yl, yh, yn⟩, ym⟩ = false by
              unfold plainF; dsimp only
              split
              · exact HR.out
              · split
                · rw [decide_eq_false_iff_not]; intro e; rw [e] at HR; exact absurd HR.out (by decide)
                · rfl)
            go_wp2
            go_ret
            exact ⟨retb (by rw [all_not HY.out HF.out]; simp), HB1.out.trans (HZ2.out.mono HB1.out.size)⟩
          · by_cases hp0 : yp = 0
            · subst hp0
              have HF := Lib.hid (show plainF ⟨0, ⟨yk, yl, yh, yn⟩, ym⟩ = true by unfold plainF; dsimp only; rw [if_pos rfl]; exact HR.out)
              go_wp2
              go_roundw
              case rel => exact ⟨i + 1, by go_num, HI.out, by rw [take_all HY.out, HT.out, HF.out]; rfl, ⟨_, HZ2.out⟩, rfl⟩
              case measure => have := HI.out; simp [intOf]; omega
            · by_cases hp8 : yp = 8 ∨ yp = 16
              · by_cases hk1 : yk = 1
                · subst hk1
                  have HF := Lib.hid (show plainF ⟨yp, ⟨1, yl, yh, yn⟩, ym⟩ = true by
                    unfold plainF; dsimp only
                    rw [if_neg hp0, if_pos hp8]
                    have := HR.out
                    simpa [plainV] using this)
                  rcases hp8 with rfl | rfl
                  all_goals
                    clear hp0
                    go_wp2
                    go_roundw
                    case rel => exact ⟨i + 1, by go_num, HI.out, by rw [take_all HY.out, HT.out, HF.out]; rfl, ⟨_, HZ2.out⟩, rfl⟩
                    case measure => have := HI.out; simp [intOf]; omega
                · have HF := Lib.hid (show plainF ⟨yp, ⟨yk, yl, yh, yn⟩, ym⟩ = false by
                    unfold plainF; dsimp only
                    rw [if_neg hp0, if_pos hp8, decide_eq_false_iff_not]
                    intro e; cases e; exact hk1 rfl)
                  have ek : (yk == 1) = false := by simpa using hk1
                  have ekn : (yk != 1) = true := by simpa using hk1
                  clear hk1
                  rcases hp8 with rfl | rfl
                  all_goals
                    clear hp0
                    go_wp2
                    go_ret
                    exact ⟨retb (by rw [all_not HY.out HF.out]; simp), HB1.out.trans (HZ2.out.mono HB1.out.size)⟩
              · have HF := Lib.hid (show plainF ⟨yp, ⟨yk, yl, yh, yn⟩, ym⟩ = false by
                  unfold plainF; dsimp only
                  rw [if_neg hp0, if_neg hp8])
                have q0 : (yp == 0) = false := by simpa using hp0
                have q8 : (yp == 8) = false := by simp; omega
                have q16 : (yp == 16) = false := by simp; omega
                have q0n : (yp != 0) = true := by simpa using hp0
                have q8n : (yp != 8) = true := by simp; omega
                have q16n : (yp != 16) = true := by simp; omega
                clear hp0 hp8
                go_wp2
                go_ret
                exact ⟨retb (by rw [all_not HY.out HF.out]; simp), HB1.out.trans (HZ2.out.mono HB1.out.size)⟩
        · have hlt' : ¬ (i : Int) < nf := by omega
          have h0 := HT.out
          have HAF := Lib.hid (show lf.all plainF = true by rw [List.take_of_length_le (by rw [HNF.out]; omega)] at h0; exact h0)
          clear h0 hlt hi
          have CP := rVals_any (.slice ps np pc) lp z.val (by have h := RowAt.ext Q2.out z; show RowAt z.val 4 (.slice ps np pc) lp.length (flatV lp); rw [HNP.out]; exact h) HM.out.ps
          have CR : ∀ z2 : Ext W1, Calls Tryz.prog 119 #[.slice rs nr rc] z2.val fun e w' => e = .returned (.bool (lr.all plainV)) ∧ Below z2.val.heap.size z2.val w' := fun z2 => rVals_any (.slice rs nr rc) lr z2.val (by have h := RowAt.ext Q3.out z2; show RowAt z2.val 4 (.slice rs nr rc) lr.length (flatV lr); rw [HNR.out]; exact h) HM.out.rs
          rw [A1.out] at CP
          simp only [A2.out] at CR
          have HCP := Lib.hid CP; have HCR := Lib.hid CR
          have B1 : np = 0 → b1 = true := fun h0 => by rw [← A1.out, List.length_eq_zero_iff.1 (HNP.out.trans h0)]; rfl
          have B2 : nr = 0 → b2 = true := fun h0 => by rw [← A2.out, List.length_eq_zero_iff.1 (HNR.out.trans h0)]; rfl
          have FIN : ∀ r : Bool, (r = (b1 && b2 && endS k np nr nf)) → ∀ w', Below w.heap.size w w' → (Ending.returned (.bool r) = .returned (.bool (sups.all indexedB && (b1 && b2 && lf.all plainF) && endS k np nr nf)) ∧ Below w.heap.size w w') := fun r hr w' hb => ⟨retb (by rw [HA.out, HAF.out, hr]; simp), hb⟩
          have HFIN := Lib.hid FIN; have HB1' := Lib.hid B1; have HB2' := Lib.hid B2
          have HBZ := Lib.hid (HB1.out.trans (z.2.mono HB1.out.size))
          clear CP CR FIN B1 B2
          by_cases k1 : k = 1
          · subst k1
            by_cases hf0 : nf = 0
            · subst hf0
              go_wp2_with fail
              refine (Ext.call z HCP.out).mono ?_
              rintro e _ ⟨rfl, z1, rfl⟩
              cases b1
              · go_wp2
                go_ret
                exact HFIN.out _ (by simp) _ (HB1.out.trans (z1.2.mono HB1.out.size))
              · go_wp2_with fail
                refine (Ext.call z1 (HCR.out z1)).mono ?_
                rintro e _ ⟨rfl, z2, rfl⟩
                go_wp2
                go_ret
                exact HFIN.out _ (by simp [endS]) _ (HB1.out.trans (z2.2.mono HB1.out.size))
            · have hfi : ¬ (nf : Int) = 0 := by omega
              have hfb : ((nf : Int) == 0) = false := by simpa using hf0
              have HE := Lib.hid (show endS 1 np nr nf = false by simp [endS, hf0])
              clear hf0
              go_wp2
              go_ret
              exact HFIN.out _ (by rw [HE.out]; simp) _ HBZ.out
          have HK1 := Lib.hid k1
          have k1b : (k == 1) = false := by simpa using k1
          by_cases hp : np = 0
          · by_cases hr : nr = 0
            · subst hp hr
              have T1 := HB1'.out rfl
              have T2 := HB2'.out rfl
              subst T1 T2
              by_cases k2 : k = 2
              · subst k2
                go_wp2
                go_ret
                exact HFIN.out _ (by simp [endS]) _ HBZ.out
              · have k2b : (k == 2) = false := by simpa using k2
                have HK2 := Lib.hid k2
                clear k2
                by_cases k3 : k = 3
                · subst k3
                  by_cases hf1 : nf = 1
                  · subst hf1
                    go_wp2
                    go_ret
                    exact HFIN.out _ (by simp [endS]) _ HBZ.out
                  · have hfi : ¬ (nf : Int) = 1 := by omega
                    have hfb : ((nf : Int) == 1) = false := by simp; omega
                    have HE := Lib.hid (show endS 3 0 0 nf = false by simp [endS, hf1])
                    clear hf1
                    go_wp2
                    go_ret
                    exact HFIN.out _ (by rw [HE.out]; simp) _ HBZ.out
                · have k3b : (k == 3) = false := by simpa using k3
                  have HE := Lib.hid (show endS k 0 0 nf = false by unfold endS; rw [if_neg HK1.out, if_neg HK2.out, if_neg k3])
                  clear k3
                  go_wp2
                  go_ret
                  exact HFIN.out _ (by rw [HE.out]; simp) _ HBZ.out
            · have HE := Lib.hid (show endS k np nr nf = false by unfold endS; rw [if_neg HK1.out]; simp [hp, hr])
              have hri : (0 : Int) < nr := by omega
              subst hp
              clear hr k1
              go_wp2
              go_ret
              exact HFIN.out _ (by rw [HE.out]; simp) _ HBZ.out
          · have HE := Lib.hid (show endS k np nr nf = false by unfold endS; rw [if_neg HK1.out]; simp [hp])
            have hpi : (0 : Int) < np := by omega
            clear hp k1
            go_wp2
            go_ret
            exact HFIN.out _ (by rw [HE.out]; simp) _ HBZ.out
end Go.Proofs.YtoamhiaagaaaaaaGreatDoor
