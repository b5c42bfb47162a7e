/- geoderef04: Same. -/
import Derived.Test.YtoamhiaagaaaaaaGreatDoorQRfSub
import Derived.Test.YtoamhiaagaaaaaaGreatDoorQRfTabP
import Derived.Test.YtoamhiaagaaaaaaGreatDoorQKdEqualP
namespace Go.Proofs.YtoamhiaagaaaaaaGreatDoor
open Go.RowKit

theorem below_drewN {b : Nat} (w : World) (n : Nat) : Below b w (w.drewN n) := ⟨rfl, rfl, rfl, Nat.le_refl _, fun _ _ => rfl⟩

set_option maxRecDepth 100000 in
set_option maxHeartbeats 4000000 in
theorem rSameVals_any (a b : Value) (l m : List Vl) (w : World) (ha : ValsAt w a l) (hb : ValsAt w b m) (hl : l.length ≤ 1000000) (_ : m.length ≤ 1000000) :
    Calls Tryz.prog 96 #[a, b] w fun e w' => e = .returned (.bool (decide (l = m))) ∧ ∃ n, w' = w.drewN n := by
  obtain ⟨ao, ca, rfl⟩ := RowAt.form ha
  obtain ⟨bo, cb, rfl⟩ := RowAt.form hb
  by_cases hlen : l.length = m.length
  · obtain ⟨n, hn⟩ : ∃ n, l.length = n := ⟨_, rfl⟩
    have hn2 : m.length = n := by rw [← hlen]; exact hn
    have HA := Lib.hid ha; have HB := Lib.hid hb; have HN := Lib.hid hn; have HN2 := Lib.hid hn2
    rw [hn] at hl
    rw [hn, hn2]
    have HL := Lib.hid hl
    clear ha hb hlen hn hn2 hl
    go_enter Tryz.func96, Tryz.ntmps96
    go_wp2
    go_loopw [5] (fun t13 wr => ∃ i : Nat, i ≤ n ∧ t13 = .int .i64 i ∧ l.take i = m.take i ∧ ∃ k, wr = w.drewN k) (fun t13 _ => n - (intOf t13).toNat)
    case atStart => exact ⟨0, by omega, rfl, rfl, 0, rfl⟩
    case round =>
      obtain ⟨i, hi, rfl, htk, nd, rfl⟩ := hrel
      have HT := Lib.hid htk
      clear htk
      by_cases hlt : i < n
      · obtain ⟨x, hx⟩ : ∃ x, l[i]? = some x := ⟨l[i]'(by rw [HN.out]; exact hlt), by simp⟩
        obtain ⟨y, hy⟩ : ∃ y, m[i]? = some y := ⟨m[i]'(by rw [HN2.out]; exact hlt), by simp⟩
        obtain ⟨x0, x1, x2, x3⟩ := x
        obtain ⟨y0, y1, y2, y3⟩ := y
        obtain ⟨b1, o1, e1, _, p0, p1, p2, p3⟩ := vals_at HA.out hx
        obtain ⟨b2, o2, e2, _, q0, q1, q2, q3⟩ := vals_at HB.out hy
        subst e1 e2
        dsimp only at p0 p1 p2 p3 q0 q1 q2 q3
        have HX := Lib.hid hx; have HY := Lib.hid hy; have HI := Lib.hid hlt
        have hlt' : (i : Int) < n := by omega
        have HI6 := Lib.hid (show (i : Int) < 1000000 by have := HL.out; omega)
        clear hx hy hlt hi
        by_cases e0 : x0 = y0
        · subst e0
          by_cases e1 : x1 = y1
          · subst e1
            by_cases e2 : x2 = y2
            · subst e2
              by_cases e3 : x3 = y3
              · subst e3
                have HX2 := Lib.hid (take_eq HX.out HY.out HT.out)
                have hi6 := HI6.out
                go_wp2
                go_quiet (fail)
                go_wp2
                go_roundw
                case rel => exact ⟨i + 1, HI.out, by go_num, HX2.out, _, rfl⟩
                case measure => have := HI.out; simp [intOf]; omega
              · have NE := Lib.hid (get_ne HX.out HY.out (fun e => e3 (by simp at e; simp [e])))
                go_wp2
                go_quiet (fail)
                go_wp2
                go_ret
                exact ⟨retd (decide_eq_false NE.out), _, drewN_drewN _ _ _⟩
            · have NE := Lib.hid (get_ne HX.out HY.out (fun e => e2 (by simp at e; simp [e])))
              go_wp2
              go_quiet (fail)
              go_wp2
              go_ret
              exact ⟨retd (decide_eq_false NE.out), _, drewN_drewN _ _ _⟩
          · have NE := Lib.hid (get_ne HX.out HY.out (fun e => e1 (by simp at e; simp [e])))
            go_wp2
            go_quiet (fail)
            go_wp2
            go_ret
            exact ⟨retd (decide_eq_false NE.out), _, drewN_drewN _ _ _⟩
        · have NE := Lib.hid (get_ne HX.out HY.out (fun e => e0 (by simp at e; simp [e])))
          go_wp2
          go_quiet (fail)
          go_wp2
          go_ret
          exact ⟨retd (decide_eq_false NE.out), _, drewN_drewN _ _ _⟩
      · obtain rfl : i = n := by omega
        have hlt' : ¬ (i : Int) < i := by omega
        have hlm : l = m := by have := HT.out; rw [List.take_of_length_le (by rw [HN.out]; exact Nat.le_refl _), List.take_of_length_le (by rw [HN2.out]; exact Nat.le_refl _)] at this; exact this
        have EQ := Lib.hid hlm
        clear hlm hlt hi
        go_wp2
        go_ret
        exact ⟨retd (decide_eq_true EQ.out), _, rfl⟩
  · have hne : l ≠ m := fun e => hlen (by rw [e])
    have h1 : ((l.length : Int) != (m.length : Int)) = true := by simpa using fun h => hlen (by omega)
    have NE := Lib.hid hne
    clear hne ha hb hlen
    go_enter Tryz.func96, Tryz.ntmps96
    go_wp2
    go_ret
    exact ⟨retd (decide_eq_false NE.out), 0, rfl⟩
set_option maxRecDepth 100000 in
set_option maxHeartbeats 16000000 in
theorem rSame_any (ca cb : List Value) (x y : Sb) (w : World) (ha : SubAt w ca x) (hb : SubAt w cb y) (hx : cnt x ≤ 1000000) (hy : cnt y ≤ 1000000) : Calls Tryz.prog 56 #[.agg ca.toArray, .agg cb.toArray] w fun e w' => e = .returned (.bool (decide (x = y))) ∧ Below w.heap.size w w' := by
  obtain ⟨vs, vp, vr, vf, rfl, h1, h2, h3, h4⟩ := ha.ex
  obtain ⟨so, sc, rfl⟩ := RowAt.form h1
  obtain ⟨ps, pc, rfl⟩ := RowAt.form h2
  obtain ⟨rs, rc, rfl⟩ := RowAt.form h3
  obtain ⟨fs, fc, rfl⟩ := RowAt.form h4
  obtain ⟨vs', vp', vr', vf', rfl, g1, g2, g3, g4⟩ := hb.ex
  obtain ⟨so', sc', rfl⟩ := RowAt.form g1
  obtain ⟨ps', pc', rfl⟩ := RowAt.form g2
  obtain ⟨rs', rc', rfl⟩ := RowAt.form g3
  obtain ⟨fs', fc', rfl⟩ := RowAt.form g4
  obtain ⟨fin, sups, k, lp, lr, lf⟩ := x
  obtain ⟨fin', sups', k', lp', lr', lf'⟩ := y
  dsimp only at h1 h2 h3 h4 g1 g2 g3 g4 ⊢
  obtain ⟨ns, hns⟩ : ∃ n, sups.length = n := ⟨_, rfl⟩
  obtain ⟨np, hnp⟩ : ∃ n, lp.length = n := ⟨_, rfl⟩
  obtain ⟨nr, hnr⟩ : ∃ n, lr.length = n := ⟨_, rfl⟩
  obtain ⟨nf, hnf⟩ : ∃ n, lf.length = n := ⟨_, rfl⟩
  obtain ⟨ns', hns'⟩ : ∃ n, sups'.length = n := ⟨_, rfl⟩
  obtain ⟨np', hnp'⟩ : ∃ n, lp'.length = n := ⟨_, rfl⟩
  obtain ⟨nr', hnr'⟩ : ∃ n, lr'.length = n := ⟨_, rfl⟩
  obtain ⟨nf', hnf'⟩ : ∃ n, lf'.length = n := ⟨_, rfl⟩
  have HNS := Lib.hid hns; have HNF := Lib.hid hnf; have HNS' := Lib.hid hns'; have HNF' := Lib.hid hnf'
  have hcc : ns + (np + (nr + nf)) ≤ 1000000 := by simp only [cnt] at hx; omega
  have hcc' : ns' + (np' + (nr' + nf')) ≤ 1000000 := by simp only [cnt] at hy; omega
  have HP1 := Lib.hid (show lp.length ≤ 1000000 by omega); have HR1 := Lib.hid (show lr.length ≤ 1000000 by omega)
  have HP2 := Lib.hid (show lp'.length ≤ 1000000 by omega); have HR2 := Lib.hid (show lr'.length ≤ 1000000 by omega)
  have HCC := Lib.hid hcc
  have hfn : ((ns : Int) ≤ 1000000) := by omega
  have hfn2 : ((nf : Int) ≤ 1000000) := by omega
  simp only [hns, hnp, hnr, hnf, hns', hnp', hnr', hnf']
  obtain ⟨W0, hW⟩ : ∃ W0 : World, W0 = (w.alloc (.cells #[.bool fin, .slice so ns sc, .int .i64 k, .slice ps np pc, .slice rs nr rc, .slice fs nf fc] 48)).alloc (.cells #[.bool fin', .slice so' ns' sc', .int .i64 k', .slice ps' np' pc', .slice rs' nr' rc', .slice fs' nf' fc'] 48) := ⟨_, rfl⟩
  have hB : Below w.heap.size w W0 := by rw [hW]; exact ((Below.refl _ _).alloc (by simp) _).alloc (by simp) _
  have ba_0 : W0.cell? ⟨w.heap.size, 0, none⟩ = some (.bool fin) := by rw [hW]; exact heap_cell (heap_alloc_keep (heap_alloc_at _ _ rfl) _) 0
  have ba_1 : W0.cell? ⟨w.heap.size, 1, none⟩ = some (.slice so ns sc) := by rw [hW]; exact heap_cell (heap_alloc_keep (heap_alloc_at _ _ rfl) _) 1
  have ba_2 : W0.cell? ⟨w.heap.size, 2, none⟩ = some (.int .i64 k) := by rw [hW]; exact heap_cell (heap_alloc_keep (heap_alloc_at _ _ rfl) _) 2
  have ba_3 : W0.cell? ⟨w.heap.size, 3, none⟩ = some (.slice ps np pc) := by rw [hW]; exact heap_cell (heap_alloc_keep (heap_alloc_at _ _ rfl) _) 3
  have ba_4 : W0.cell? ⟨w.heap.size, 4, none⟩ = some (.slice rs nr rc) := by rw [hW]; exact heap_cell (heap_alloc_keep (heap_alloc_at _ _ rfl) _) 4
  have ba_5 : W0.cell? ⟨w.heap.size, 5, none⟩ = some (.slice fs nf fc) := by rw [hW]; exact heap_cell (heap_alloc_keep (heap_alloc_at _ _ rfl) _) 5
  have bb_0 : W0.cell? ⟨w.heap.size + 1, 0, none⟩ = some (.bool fin') := by rw [hW]; exact heap_cell (heap_alloc_at _ _ (by simp)) 0
  have bb_1 : W0.cell? ⟨w.heap.size + 1, 1, none⟩ = some (.slice so' ns' sc') := by rw [hW]; exact heap_cell (heap_alloc_at _ _ (by simp)) 1
  have bb_2 : W0.cell? ⟨w.heap.size + 1, 2, none⟩ = some (.int .i64 k') := by rw [hW]; exact heap_cell (heap_alloc_at _ _ (by simp)) 2
  have bb_3 : W0.cell? ⟨w.heap.size + 1, 3, none⟩ = some (.slice ps' np' pc') := by rw [hW]; exact heap_cell (heap_alloc_at _ _ (by simp)) 3
  have bb_4 : W0.cell? ⟨w.heap.size + 1, 4, none⟩ = some (.slice rs' nr' rc') := by rw [hW]; exact heap_cell (heap_alloc_at _ _ (by simp)) 4
  have bb_5 : W0.cell? ⟨w.heap.size + 1, 5, none⟩ = some (.slice fs' nf' fc') := by rw [hW]; exact heap_cell (heap_alloc_at _ _ (by simp)) 5
  have R1 := Lib.hid (RowAt.below h1 hB (Nat.le_refl _)); have R2 := Lib.hid (RowAt.below h2 hB (Nat.le_refl _)); have R3 := Lib.hid (RowAt.below h3 hB (Nat.le_refl _)); have R4 := Lib.hid (RowAt.below h4 hB (Nat.le_refl _))
  have T1 := Lib.hid (RowAt.below g1 hB (Nat.le_refl _)); have T2 := Lib.hid (RowAt.below g2 hB (Nat.le_refl _)); have T3 := Lib.hid (RowAt.below g3 hB (Nat.le_refl _)); have T4 := Lib.hid (RowAt.below g4 hB (Nat.le_refl _))
  have HW := Lib.hid hW; have HB := Lib.hid hB
  have HNP := Lib.hid hnp; have HNR := Lib.hid hnr; have HNP' := Lib.hid hnp'; have HNR' := Lib.hid hnr'
  clear h1 h2 h3 h4 g1 g2 g3 g4 ha hb hx hy hW hB hns hnp hnr hnf hns' hnp' hnr' hnf' hcc hcc'
  have NO : ∀ q : Prop, (q → False) → ((⟨fin, sups, k, lp, lr, lf⟩ : Sb) = ⟨fin', sups', k', lp', lr', lf'⟩ → q) → ∀ w', Below w.heap.size w w' → (Ending.returned (.bool false) = .returned (.bool (decide ((⟨fin, sups, k, lp, lr, lf⟩ : Sb) = ⟨fin', sups', k', lp', lr', lf'⟩))) ∧ Below w.heap.size w w') := fun q hq h w' hb => ⟨retb (decide_eq_false (fun e => hq (h e))).symm, hb⟩
  have HNO := Lib.hid NO
  clear NO
  have HBN := Lib.hid (fun k : Nat => (HB.out.trans (⟨rfl, rfl, rfl, Nat.le_refl _, fun _ _ => rfl⟩ : Below w.heap.size W0 (W0.drewN k)) : Below w.heap.size w (W0.drewN k)))
  by_cases e1 : fin = fin'
  · subst e1
    by_cases e1 : k = k'
    · subst e1
      by_cases e1 : ns = ns'
      · subst e1
        by_cases e1 : nf = nf'
        · subst e1
          go_enter Tryz.func56, Tryz.ntmps56
          go_wp2
          rw [← HW.out]
          go_loopw [5] (fun t13 wr => ∃ i : Nat, i ≤ ns ∧ t13 = .int .i64 i ∧ sups.take i = sups'.take i ∧ ∃ k, wr = W0.drewN k) (fun t13 _ => ns - (intOf t13).toNat)
          case atStart => exact ⟨0, by omega, rfl, rfl, 0, rfl⟩
          case round =>
            obtain ⟨i, hi, rfl, htk, nd, rfl⟩ := hrel
            have HT := Lib.hid htk
            clear htk
            by_cases hlt : i < ns
            · obtain ⟨x, hx⟩ : ∃ x, sups[i]? = some x := ⟨sups[i]'(by rw [HNS.out]; exact hlt), by simp⟩
              obtain ⟨y, hy⟩ : ∃ y, sups'[i]? = some y := ⟨sups'[i]'(by rw [HNS'.out]; exact hlt), by simp⟩
              obtain ⟨x0, x1⟩ := x
              obtain ⟨y0, y1⟩ := y
              obtain ⟨b1, o1, e1, _, p0, p1⟩ := hps_at R1.out hx
              obtain ⟨b2, o2, e2, _, q0, q1⟩ := hps_at T1.out hy
              subst e1 e2
              dsimp only at p0 p1 q0 q1
              have HX := Lib.hid hx; have HY := Lib.hid hy; have HI := Lib.hid hlt
              have hlt' : (i : Int) < ns := by omega
              have HI6 := Lib.hid (show (i : Int) < 1000000 by omega)
              have HX3 := Lib.hid HT.out
              clear hx hy hlt hi
              by_cases e0 : x0 = y0
              · subst e0
                by_cases e1 : x1 = y1
                · subst e1
                  have HX2 := Lib.hid (take_eq HX.out HY.out HT.out)
                  have hi6 := HI6.out
                  go_wp2
                  go_quiet (fail)
                  go_wp2
                  go_roundw
                  case rel => exact ⟨i + 1, HI.out, by go_num, HX2.out, _, rfl⟩
                  case measure => have := HI.out; simp [intOf]; omega
                · have NE := Lib.hid (HNO.out _ (get_ne HX.out HY.out (fun e => e1 (by simp at e; simp [e]))) (fun e => congrArg Sb.sups e))
                  go_wp2
                  go_quiet (fail)
                  go_wp2
                  go_ret
                  exact NE.out _ (by rw [drewN_drewN]; exact HBN.out _)
              · have NE := Lib.hid (HNO.out _ (get_ne HX.out HY.out (fun e => e0 (by simp at e; simp [e]))) (fun e => congrArg Sb.sups e))
                go_wp2
                go_quiet (fail)
                go_wp2
                go_ret
                exact NE.out _ (by rw [drewN_drewN]; exact HBN.out _)
            · obtain rfl : i = ns := by omega
              have hlt' : ¬ (i : Int) < i := by omega
              have hlm : sups = sups' := by have := HT.out; rw [List.take_of_length_le (by rw [HNS.out]; exact Nat.le_refl _), List.take_of_length_le (by rw [HNS'.out]; exact Nat.le_refl _)] at this; exact this
              have EQ5 := Lib.hid hlm
              clear hlm hlt hi
              go_wp2
              go_loopw [6] (fun t13 wr => ∃ i : Nat, i ≤ nf ∧ t13 = .int .i64 i ∧ lf.take i = lf'.take i ∧ ∃ k, wr = W0.drewN k) (fun t13 _ => nf - (intOf t13).toNat)
              case atStart => exact ⟨0, by omega, rfl, rfl, _, rfl⟩
              case round =>
                obtain ⟨i, hi, rfl, htk, nd, rfl⟩ := hrel
                have HT := Lib.hid htk
                clear htk
                by_cases hlt : i < nf
                · obtain ⟨x, hx⟩ : ∃ x, lf[i]? = some x := ⟨lf[i]'(by rw [HNF.out]; exact hlt), by simp⟩
                  obtain ⟨y, hy⟩ : ∃ y, lf'[i]? = some y := ⟨lf'[i]'(by rw [HNF'.out]; exact hlt), by simp⟩
                  obtain ⟨x0, ⟨x1, x2, x3, x4⟩, x5⟩ := x
                  obtain ⟨y0, ⟨y1, y2, y3, y4⟩, y5⟩ := y
                  obtain ⟨b1, o1, e1, _, p0, p1, p2, p3, p4, p5⟩ := fls_at R4.out hx
                  obtain ⟨b2, o2, e2, _, q0, q1, q2, q3, q4, q5⟩ := fls_at T4.out hy
                  subst e1 e2
                  dsimp only at p0 p1 p2 p3 p4 p5 q0 q1 q2 q3 q4 q5
                  have HX := Lib.hid hx; have HY := Lib.hid hy; have HI := Lib.hid hlt
                  have hlt' : (i : Int) < nf := by omega
                  have HI6 := Lib.hid (show (i : Int) < 1000000 by omega)
                  have HX3 := Lib.hid HT.out
                  clear hx hy hlt hi
                  by_cases e0 : x0 = y0
                  · subst e0
                    by_cases e1 : x1 = y1
                    · subst e1
                      by_cases e2 : x2 = y2
                      · subst e2
                        by_cases e3 : x3 = y3
                        · subst e3
                          by_cases e4 : x4 = y4
                          · subst e4
                            by_cases e5 : x5 = y5
                            · subst e5
                              have HX2 := Lib.hid (take_eq HX.out HY.out HT.out)
                              have hi6 := HI6.out
                              go_wp2
                              go_quiet (fail)
                              go_wp2
                              go_roundw
                              case rel => exact ⟨i + 1, HI.out, by go_num, HX2.out, _, rfl⟩
                              case measure => have := HI.out; simp [intOf]; omega
                            · have NE := Lib.hid (HNO.out _ (get_ne HX.out HY.out (fun e => e5 (by simp at e; simp [e]))) (fun e => congrArg Sb.fs e))
                              go_wp2
                              go_quiet (fail)
                              go_wp2
                              go_ret
                              exact NE.out _ (by rw [drewN_drewN]; exact HBN.out _)
                          · have NE := Lib.hid (HNO.out _ (get_ne HX.out HY.out (fun e => e4 (by simp at e; simp [e]))) (fun e => congrArg Sb.fs e))
                            go_wp2
                            go_quiet (fail)
                            go_wp2
                            go_ret
                            exact NE.out _ (by rw [drewN_drewN]; exact HBN.out _)
                        · have NE := Lib.hid (HNO.out _ (get_ne HX.out HY.out (fun e => e3 (by simp at e; simp [e]))) (fun e => congrArg Sb.fs e))
                          go_wp2
                          go_quiet (fail)
                          go_wp2
                          go_ret
                          exact NE.out _ (by rw [drewN_drewN]; exact HBN.out _)
                      · have NE := Lib.hid (HNO.out _ (get_ne HX.out HY.out (fun e => e2 (by simp at e; simp [e]))) (fun e => congrArg Sb.fs e))
                        go_wp2
                        go_quiet (fail)
                        go_wp2
                        go_ret
                        exact NE.out _ (by rw [drewN_drewN]; exact HBN.out _)
                    · have NE := Lib.hid (HNO.out _ (get_ne HX.out HY.out (fun e => e1 (by simp at e; simp [e]))) (fun e => congrArg Sb.fs e))
                      go_wp2
                      go_quiet (fail)
                      go_wp2
                      go_ret
                      exact NE.out _ (by rw [drewN_drewN]; exact HBN.out _)
                  · have NE := Lib.hid (HNO.out _ (get_ne HX.out HY.out (fun e => e0 (by simp at e; simp [e]))) (fun e => congrArg Sb.fs e))
                    go_wp2
                    go_quiet (fail)
                    go_wp2
                    go_ret
                    exact NE.out _ (by rw [drewN_drewN]; exact HBN.out _)
                · obtain rfl : i = nf := by omega
                  have hlt' : ¬ (i : Int) < i := by omega
                  have hlm : lf = lf' := by have := HT.out; rw [List.take_of_length_le (by rw [HNF.out]; exact Nat.le_refl _), List.take_of_length_le (by rw [HNF'.out]; exact Nat.le_refl _)] at this; exact this
                  have EQ6 := Lib.hid hlm
                  clear hlm hlt hi
                  obtain ⟨s1, hs1⟩ : ∃ b, decide (lp = lp') = b := ⟨_, rfl⟩
                  obtain ⟨s2, hs2⟩ : ∃ b, decide (lr = lr') = b := ⟨_, rfl⟩
                  have S1 := Lib.hid hs1; have S2 := Lib.hid hs2
                  clear hs1 hs2
                  obtain ⟨W2, hW2⟩ : ∃ W2 : World, W0.drewN nd = W2 := ⟨_, rfl⟩
                  have HBW := Lib.hid (HBN.out nd)
                  rw [hW2] at HBW
                  have ca_3 := (show (W0.drewN nd).cell? ⟨w.heap.size, 3, none⟩ = _ from ba_3)
                  rw [hW2] at ca_3
                  have ea_3 := fun n : Nat => (show (W2.drewN n).cell? ⟨w.heap.size, 3, none⟩ = _ from ca_3)
                  have ca_4 := (show (W0.drewN nd).cell? ⟨w.heap.size, 4, none⟩ = _ from ba_4)
                  rw [hW2] at ca_4
                  have ea_4 := fun n : Nat => (show (W2.drewN n).cell? ⟨w.heap.size, 4, none⟩ = _ from ca_4)
                  have ca_5 := (show (W0.drewN nd).cell? ⟨w.heap.size, 5, none⟩ = _ from ba_5)
                  rw [hW2] at ca_5
                  have ea_5 := fun n : Nat => (show (W2.drewN n).cell? ⟨w.heap.size, 5, none⟩ = _ from ca_5)
                  have cb_3 := (show (W0.drewN nd).cell? ⟨w.heap.size + 1, 3, none⟩ = _ from bb_3)
                  rw [hW2] at cb_3
                  have eb_3 := fun n : Nat => (show (W2.drewN n).cell? ⟨w.heap.size + 1, 3, none⟩ = _ from cb_3)
                  have cb_4 := (show (W0.drewN nd).cell? ⟨w.heap.size + 1, 4, none⟩ = _ from bb_4)
                  rw [hW2] at cb_4
                  have eb_4 := fun n : Nat => (show (W2.drewN n).cell? ⟨w.heap.size + 1, 4, none⟩ = _ from cb_4)
                  have cb_5 := (show (W0.drewN nd).cell? ⟨w.heap.size + 1, 5, none⟩ = _ from bb_5)
                  rw [hW2] at cb_5
                  have eb_5 := fun n : Nat => (show (W2.drewN n).cell? ⟨w.heap.size + 1, 5, none⟩ = _ from cb_5)
                  have R2W := Lib.hid (show ∀ n : Nat, ValsAt (W2.drewN n) (.slice ps np pc) lp from fun n => by rw [← HNP.out]; have q := RowAt.drewN (RowAt.drewN R2.out nd) n; rw [hW2] at q; exact q)
                  have R2V := Lib.hid (show ValsAt W2 (.slice ps np pc) lp from by rw [← HNP.out]; have q := RowAt.drewN R2.out nd; rw [hW2] at q; exact q)
                  have R3W := Lib.hid (show ∀ n : Nat, ValsAt (W2.drewN n) (.slice rs nr rc) lr from fun n => by rw [← HNR.out]; have q := RowAt.drewN (RowAt.drewN R3.out nd) n; rw [hW2] at q; exact q)
                  have R3V := Lib.hid (show ValsAt W2 (.slice rs nr rc) lr from by rw [← HNR.out]; have q := RowAt.drewN R3.out nd; rw [hW2] at q; exact q)
                  have T2W := Lib.hid (show ∀ n : Nat, ValsAt (W2.drewN n) (.slice ps' np' pc') lp' from fun n => by rw [← HNP'.out]; have q := RowAt.drewN (RowAt.drewN T2.out nd) n; rw [hW2] at q; exact q)
                  have T2V := Lib.hid (show ValsAt W2 (.slice ps' np' pc') lp' from by rw [← HNP'.out]; have q := RowAt.drewN T2.out nd; rw [hW2] at q; exact q)
                  have T3W := Lib.hid (show ∀ n : Nat, ValsAt (W2.drewN n) (.slice rs' nr' rc') lr' from fun n => by rw [← HNR'.out]; have q := RowAt.drewN (RowAt.drewN T3.out nd) n; rw [hW2] at q; exact q)
                  have T3V := Lib.hid (show ValsAt W2 (.slice rs' nr' rc') lr' from by rw [← HNR'.out]; have q := RowAt.drewN T3.out nd; rw [hW2] at q; exact q)
                  rw [hW2]
                  clear hW2 ba_0 ba_1 ba_2 ba_3 ba_4 ba_5 bb_0 bb_1 bb_2 bb_3 bb_4 bb_5 hfn hfn2
                  go_wp2_with fail
                  refine (rSameVals_any _ _ lp lp' _ (R2V.out) (T2V.out) HP1.out HP2.out).mono ?_
                  rintro e _ ⟨rfl, n1, rfl⟩
                  rw [S1.out]
                  try rw [drewN_drewN]
                  cases s1
                  · go_wp2
                    go_ret
                    exact HNO.out _ (of_decide_eq_false S1.out) (fun e => congrArg Sb.ps e) _ (HBW.out.trans (below_drewN _ _))
                  go_wp2_with fail
                  refine (rSameVals_any _ _ lr lr' _ (R3W.out n1) (T3W.out n1) HR1.out HR2.out).mono ?_
                  rintro e _ ⟨rfl, n2, rfl⟩
                  rw [S2.out]
                  try rw [drewN_drewN]
                  cases s2
                  · go_wp2
                    go_ret
                    exact HNO.out _ (of_decide_eq_false S2.out) (fun e => congrArg Sb.rs e) _ (HBW.out.trans (below_drewN _ _))
                  go_wp2
                  go_ret
                  refine ⟨retb (decide_eq_true ?_).symm, HBW.out.trans (below_drewN _ _)⟩
                  rw [EQ5.out, EQ6.out, of_decide_eq_true S1.out, of_decide_eq_true S2.out]
        · have ne1 := HNO.out _ e1 (fun e => by rw [← HNF.out, ← HNF'.out]; exact congrArg (fun s => s.fs.length) e)
          have NE := Lib.hid ne1
          clear ne1
          have e1' : ((nf : Int) == nf') = false := by simp; omega
          have e1'' : ((nf : Int) != nf') = true := by simp; omega
          have e1''' : ¬ (nf : Int) = nf' := by omega
          clear e1
          go_enter Tryz.func56, Tryz.ntmps56
          go_wp2
          all_goals
            try rw [← HW.out]
            go_ret
            exact NE.out _ HB.out
      · have ne1 := HNO.out _ e1 (fun e => by rw [← HNS.out, ← HNS'.out]; exact congrArg (fun s => s.sups.length) e)
        have NE := Lib.hid ne1
        clear ne1
        have e1' : ((ns : Int) == ns') = false := by simp; omega
        have e1'' : ((ns : Int) != ns') = true := by simp; omega
        have e1''' : ¬ (ns : Int) = ns' := by omega
        clear e1
        go_enter Tryz.func56, Tryz.ntmps56
        go_wp2
        all_goals
          try rw [← HW.out]
          go_ret
          exact NE.out _ HB.out
    · have ne1 := HNO.out _ e1 (fun e => congrArg Sb.k e)
      have NE := Lib.hid ne1
      clear ne1
      have e1' : (k == k') = false := by simpa using e1
      have e1'' : (k != k') = true := by simpa using e1
      clear e1
      go_enter Tryz.func56, Tryz.ntmps56
      go_wp2
      all_goals
        try rw [← HW.out]
        go_ret
        exact NE.out _ HB.out
  · have ne1 := HNO.out _ e1 (fun e => congrArg Sb.fin e)
    have NE := Lib.hid ne1
    clear ne1
    have e1' : (fin == fin') = false := by simpa using e1
    have e1'' : (fin != fin') = true := by simpa using e1
    clear e1
    go_enter Tryz.func56, Tryz.ntmps56
    go_wp2
    all_goals
      try rw [← HW.out]
      go_ret
      exact NE.out _ HB.out
end Go.Proofs.YtoamhiaagaaaaaaGreatDoor
