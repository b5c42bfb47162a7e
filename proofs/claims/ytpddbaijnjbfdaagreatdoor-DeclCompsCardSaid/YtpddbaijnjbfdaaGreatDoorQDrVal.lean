import Derived.Test.YtpddbaijnjbfdaaGreatDoorQDrHeapW
import Derived.Test.YtpddbaijnjbfdaaGreatDoorQMaFactsBd
namespace Go.Proofs.YtpddbaijnjbfdaaGreatDoor
open Lib (hid)
open Go.RowKit
variable {R : Nat → Prop} {gs : List (List Sb)} {qB : Hp → Hp → Bool}
set_option maxHeartbeats 2000000 in
theorem closed_ref (T : Nat) (v : Vl) (w : World) (ht : RfK R w T gs) : Calls Tryz.prog 106 #[.pointer (some ⟨T, 0, none⟩), .agg (cellsV v).toArray] w fun e w' => e = .returned (.bool (properB (closedB (total gs)) v)) ∧ Below w.heap.size w w' := by
  obtain ⟨k, nl, h, n⟩ := v
  simp only [cellsV]
  obtain ⟨W0, hW⟩ : ∃ W0 : World, W0 = (w.alloc (.cells #[.int .i64 k, .bool nl, .int .i64 h, .int .i64 n] 77)) := ⟨_, rfl⟩
  have hB : Below w.heap.size w W0 := by rw [hW]; exact ((Below.refl _ _).alloc (by simp) _)
  have b0_0 : ∀ x : Ext W0, x.val.cell? ⟨w.heap.size, 0, none⟩ = some (.int .i64 k) := Ext.cells (by rw [hW]; exact heap_cell (heap_alloc_at _ _ (by simp)) 0)
  have b0_1 : ∀ x : Ext W0, x.val.cell? ⟨w.heap.size, 1, none⟩ = some (.bool nl) := Ext.cells (by rw [hW]; exact heap_cell (heap_alloc_at _ _ (by simp)) 1)
  have b0_2 : ∀ x : Ext W0, x.val.cell? ⟨w.heap.size, 2, none⟩ = some (.int .i64 h) := Ext.cells (by rw [hW]; exact heap_cell (heap_alloc_at _ _ (by simp)) 2)
  have b0_3 : ∀ x : Ext W0, x.val.cell? ⟨w.heap.size, 3, none⟩ = some (.int .i64 n) := Ext.cells (by rw [hW]; exact heap_cell (heap_alloc_at _ _ (by simp)) 3)
  have HW := hid hW; have HB := hid hB
  clear hW hB
  have H := hid (ht.below HB.out)
  clear ht
  by_cases hk : k = 3
  · subst hk
    go_enter Tryz.func106, Tryz.ntmps106
    go_wp2_with fail
    rw [← HW.out]
    refine (Ext.call0 (is_ref h n _ H.out)).mono ?_
    rintro e _ ⟨rfl, x1, rfl⟩
    rcases g1 : closedB (total gs) ⟨h, n⟩ with _ | _
    · have G1 := hid g1
      clear g1
      cases nl
      all_goals
        go_wp2
        all_goals
          go_ret
          refine ⟨retb ?_, HB.out.trans (x1.2.mono HB.out.size)⟩
          rw [Bool.eq_iff_iff]
          simp [properB, neverB, G1.out]
          try simp_all
    · have G1 := hid g1
      clear g1
      go_wp2
      go_ret
      exact ⟨retb (by simp [properB, G1.out]), HB.out.trans (x1.2.mono HB.out.size)⟩
  · have hk2 : (k == 3) = false := by simpa using hk
    have HK := hid hk
    clear hk
    go_enter Tryz.func106, Tryz.ntmps106
    go_wp2
    all_goals
      go_ret
      refine ⟨retb ?_, (Below.refl _ _).alloc (Nat.le_refl _) _⟩
      have := HK.out
      unfold properB
      rw [if_neg (by exact HK.out)]
      first | (simp_all; done) | (simp_all; omega) | (rw [Bool.eq_iff_iff]; simp_all; done)
set_option maxHeartbeats 2000000 in
theorem val_ref (hq : HeapT gs qB) (hS : SupT (tabL gs)) (T : Nat) (a b : Vl) (w : World) (ht : RfK R w T gs) : Calls Tryz.prog 86 #[.pointer (some ⟨T, 0, none⟩), .agg (cellsV a).toArray, .agg (cellsV b).toArray] w fun e w' => e = .returned (.bool (valB (closedB (total gs)) qB a b)) ∧ Below w.heap.size w w' := by
  obtain ⟨k1, l1, h1, n1⟩ := a
  obtain ⟨k2, l2, h2, n2⟩ := b
  simp only [cellsV]
  obtain ⟨W0, hW⟩ : ∃ W0 : World, W0 = ((w.alloc (.cells #[.int .i64 k1, .bool l1, .int .i64 h1, .int .i64 n1] 77)).alloc (.cells #[.int .i64 k2, .bool l2, .int .i64 h2, .int .i64 n2] 77)) := ⟨_, rfl⟩
  have hB : Below w.heap.size w W0 := by rw [hW]; exact (((Below.refl _ _).alloc (by simp) _).alloc (by simp) _)
  have b0_0 : ∀ x : Ext W0, x.val.cell? ⟨w.heap.size, 0, none⟩ = some (.int .i64 k1) := Ext.cells (by rw [hW]; exact heap_cell (heap_alloc_keep (heap_alloc_at _ _ (by simp)) _) 0)
  have b0_1 : ∀ x : Ext W0, x.val.cell? ⟨w.heap.size, 1, none⟩ = some (.bool l1) := Ext.cells (by rw [hW]; exact heap_cell (heap_alloc_keep (heap_alloc_at _ _ (by simp)) _) 1)
  have b0_2 : ∀ x : Ext W0, x.val.cell? ⟨w.heap.size, 2, none⟩ = some (.int .i64 h1) := Ext.cells (by rw [hW]; exact heap_cell (heap_alloc_keep (heap_alloc_at _ _ (by simp)) _) 2)
  have b0_3 : ∀ x : Ext W0, x.val.cell? ⟨w.heap.size, 3, none⟩ = some (.int .i64 n1) := Ext.cells (by rw [hW]; exact heap_cell (heap_alloc_keep (heap_alloc_at _ _ (by simp)) _) 3)
  have b1_0 : ∀ x : Ext W0, x.val.cell? ⟨w.heap.size + 1, 0, none⟩ = some (.int .i64 k2) := Ext.cells (by rw [hW]; exact heap_cell (heap_alloc_at _ _ (by simp)) 0)
  have b1_1 : ∀ x : Ext W0, x.val.cell? ⟨w.heap.size + 1, 1, none⟩ = some (.bool l2) := Ext.cells (by rw [hW]; exact heap_cell (heap_alloc_at _ _ (by simp)) 1)
  have b1_2 : ∀ x : Ext W0, x.val.cell? ⟨w.heap.size + 1, 2, none⟩ = some (.int .i64 h2) := Ext.cells (by rw [hW]; exact heap_cell (heap_alloc_at _ _ (by simp)) 2)
  have b1_3 : ∀ x : Ext W0, x.val.cell? ⟨w.heap.size + 1, 3, none⟩ = some (.int .i64 n2) := Ext.cells (by rw [hW]; exact heap_cell (heap_alloc_at _ _ (by simp)) 3)
  have HW := hid hW; have HB := hid hB
  clear hW hB
  have H := hid (ht.below HB.out); have HS := hid hS; have HQ := hid hq
  clear ht hS hq
  go_enter Tryz.func86, Tryz.ntmps86
  go_wp2_with fail
  rw [← HW.out]
  refine (Ext.call0 (closed_ref T ⟨k1, l1, h1, n1⟩ _ H.out)).mono ?_
  rintro e _ ⟨rfl, x2, rfl⟩
  rcases g1 : properB (closedB (total gs)) ⟨k1, l1, h1, n1⟩ with _ | _
  · go_wp2
    go_ret
    exact ⟨retb (by simp [valB, g1]), HB.out.trans (x2.2.mono HB.out.size)⟩
  · have G1 := hid g1
    clear g1
    go_wp2_with fail
    refine (Ext.call x2 (closed_ref T ⟨k2, l2, h2, n2⟩ _ (H.out.ext x2))).mono ?_
    rintro e _ ⟨rfl, x3, rfl⟩
    rcases g2 : properB (closedB (total gs)) ⟨k2, l2, h2, n2⟩ with _ | _
    · go_wp2
      go_ret
      exact ⟨retb (by simp [valB, g2]), HB.out.trans (x3.2.mono HB.out.size)⟩
    · have G2 := hid g2
      clear g2
      by_cases e1 : k1 = 4
      · subst e1
        go_wp2
        go_ret
        exact ⟨retb (by simp [valB, G1.out, G2.out]), HB.out.trans (x3.2.mono HB.out.size)⟩
      · by_cases e2 : k1 = k2
        · subst e2
          have E1 := hid e1
          have e1' : (k1 == 4) = false := by simpa using e1
          clear e1
          by_cases e3 : k1 = 3
          · subst e3
            clear e1'
            by_cases z1 : h1 = 0
            · subst z1
              by_cases z2 : n1 = 0
              · subst z2
                have hl1 : l1 = false := by
                  have g := G1.out
                  cases l1
                  · rfl
                  · simp [properB, neverB, closedB, givenB] at g
                subst hl1
                go_wp2
                go_ret
                exact ⟨retb (by simp [valB, G1.out, G2.out, neverB]), HB.out.trans (x3.2.mono HB.out.size)⟩
              · have Z2 := hid z2
                have z2' : (n1 == 0) = false := by simpa using z2
                have HN := hid (show neverB ⟨3, l1, 0, n1⟩ = false by simp [neverB, z2])
                clear z2
                cases l1
                · go_wp2_with fail
                  refine (Ext.call x3 (heap_ref (HQ.out ⟨0, n1⟩ ⟨h2, n2⟩) HS.out _ (H.out.ext x3))).mono ?_
                  rintro e _ ⟨rfl, x5, rfl⟩
                  go_wp2
                  go_ret
                  exact ⟨retb (by simp [valB, G1.out, G2.out, HN.out]), HB.out.trans (x5.2.mono HB.out.size)⟩
                · cases l2
                  · go_wp2
                    go_ret
                    exact ⟨retb (by simp [valB, G1.out, G2.out, HN.out]), HB.out.trans (x3.2.mono HB.out.size)⟩
                  · go_wp2_with fail
                    refine (Ext.call x3 (heap_ref (HQ.out ⟨0, n1⟩ ⟨h2, n2⟩) HS.out _ (H.out.ext x3))).mono ?_
                    rintro e _ ⟨rfl, x5, rfl⟩
                    go_wp2
                    go_ret
                    exact ⟨retb (by simp [valB, G1.out, G2.out, HN.out]), HB.out.trans (x5.2.mono HB.out.size)⟩
            · have Z1 := hid z1
              have z1' : (h1 == 0) = false := by simpa using z1
              have HN := hid (show neverB ⟨3, l1, h1, n1⟩ = false by simp [neverB, z1])
              clear z1
              cases l1
              · go_wp2_with fail
                refine (Ext.call x3 (heap_ref (HQ.out ⟨h1, n1⟩ ⟨h2, n2⟩) HS.out _ (H.out.ext x3))).mono ?_
                rintro e _ ⟨rfl, x5, rfl⟩
                go_wp2
                go_ret
                exact ⟨retb (by simp [valB, G1.out, G2.out, HN.out]), HB.out.trans (x5.2.mono HB.out.size)⟩
              · cases l2
                · go_wp2
                  go_ret
                  exact ⟨retb (by simp [valB, G1.out, G2.out, HN.out]), HB.out.trans (x3.2.mono HB.out.size)⟩
                · go_wp2_with fail
                  refine (Ext.call x3 (heap_ref (HQ.out ⟨h1, n1⟩ ⟨h2, n2⟩) HS.out _ (H.out.ext x3))).mono ?_
                  rintro e _ ⟨rfl, x5, rfl⟩
                  go_wp2
                  go_ret
                  exact ⟨retb (by simp [valB, G1.out, G2.out, HN.out]), HB.out.trans (x5.2.mono HB.out.size)⟩
          · have e3' : (k1 == 3) = false := by simpa using e3
            have e3'' : (k1 != 3) = true := by simpa using e3
            have E3 := hid e3
            clear e3
            go_wp2
            go_ret
            exact ⟨retb (by simp [valB, G1.out, G2.out, E1.out, E3.out]), HB.out.trans (x3.2.mono HB.out.size)⟩
        · have E1 := hid e1; have E2 := hid e2
          have e1' : (k1 == 4) = false := by simpa using e1
          have e2' : (k1 != k2) = true := by simpa using e2
          clear e1 e2
          go_wp2
          go_ret
          exact ⟨retb (by simp [valB, G1.out, G2.out, E1.out, E2.out]), HB.out.trans (x3.2.mono HB.out.size)⟩
set_option maxRecDepth 100000 in
set_option maxHeartbeats 4000000 in
theorem vals_ref (hq : HeapT gs qB) (hS : SupT (tabL gs)) (T : Nat) (a b : Value) (l m : List Vl) (w : World) (ha : ValsAt w a l) (hb : ValsAt w b m) (hl : l.length ≤ 1000000) (_ : m.length ≤ 1000000) (ht : RfK R w T gs) :
    Calls Tryz.prog 63 #[.pointer (some ⟨T, 0, none⟩), a, b] w fun e w' => e = .returned (.bool (valsB (closedB (total gs)) qB l m)) ∧ Below w.heap.size w w' := by
  obtain ⟨ao, ca, rfl⟩ := RowAt.form ha
  obtain ⟨bo, cb, rfl⟩ := RowAt.form hb
  by_cases hlen : l.length = m.length
  · have HA := hid ha
    have HB := hid hb
    have HT := hid ht
    have HQ := hid hq; have HS := hid hS
    clear ha hb ht hq hS
    rw [← hlen]
    have HL := hid hlen
    clear hlen
    go_enter Tryz.func63, Tryz.ntmps63
    go_wp2
    go_loopw [7] (fun t17 wr => ∃ i : Nat, i ≤ l.length ∧ t17 = .int .i64 i ∧ (∀ j, j < i → valB (closedB (total gs)) qB (l.getD j zV) (m.getD j zV) = true) ∧ Below w.heap.size w wr) (fun t17 _ => l.length - (intOf t17).toNat)
    case atStart => exact ⟨0, by omega, rfl, fun j hj => by omega, Below.refl _ _⟩
    case round =>
      obtain ⟨i, hi, rfl, hall, hx9⟩ := hrel
      have HX9 := hid hx9
      clear hx9
      have HALL := hid hall
      clear hall
      by_cases hlt : i < l.length
      · have hlt2 : i < m.length := by rw [← HL.out]; exact hlt
        obtain ⟨⟨k1, n1, h1, m1⟩, hx⟩ : ∃ x, l[i]? = some x := ⟨l[i], by simp [hlt]⟩
        obtain ⟨⟨k2, n2, h2, m2⟩, hy⟩ : ∃ y, m[i]? = some y := ⟨m[i], by simp [hlt2]⟩
        obtain ⟨b1, o1, e1, _, p0, p1, p2, p3⟩ := vals_at (HA.out.below HX9.out (Nat.le_refl _)) hx
        obtain ⟨b2, o2, e2, nq, q0, q1, q2, q3⟩ := vals_at (HB.out.below HX9.out (Nat.le_refl _)) hy
        subst e1 e2
        dsimp only at p0 p1 p2 p3 q0 q1 q2 q3
        have hx' : l.getD i zV = ⟨k1, n1, h1, m1⟩ := by rw [List.getD_eq_getElem?_getD, hx]; rfl
        have hy' : m.getD i zV = ⟨k2, n2, h2, m2⟩ := by rw [List.getD_eq_getElem?_getD, hy]; rfl
        have HX := hid hx'; have HY := hid hy'
        have hlt' : (i : Int) < l.length := by omega
        have hi6 : (i : Int) < 1000000 := by omega
        have HLT := hid hlt
        clear hx hy hx' hy' hlt2 hlt hi
        go_wp2_with fail
        go_still_tail 9, (by kernel_rfl)
        change wpList _ _ _ _ _ wr.drew
        have hb2 : Below w.heap.size w wr.drew := HX9.out.drew
        go_wp2_with fail
        refine (Ext.call ⟨_, hb2⟩ (val_ref HQ.out HS.out T ⟨k1, n1, h1, m1⟩ ⟨k2, n2, h2, m2⟩ _ (HT.out.below hb2))).mono ?_
        rintro e _ ⟨rfl, x2, rfl⟩
        rcases hv : valB (closedB (total gs)) qB ⟨k1, n1, h1, m1⟩ ⟨k2, n2, h2, m2⟩ with _ | _
        · have HV := hid hv
          clear hv
          go_wp2
          go_ret
          refine ⟨retb ?_, x2.2⟩
          symm
          simp only [valsB, Bool.and_eq_false_iff]
          right
          rw [List.all_eq_false]
          exact ⟨i, List.mem_range.2 HLT.out, by rw [HX.out, HY.out, HV.out]; simp⟩
        · have HV := hid hv
          clear hv
          go_wp2
          go_roundw
          case rel => exact ⟨i + 1, HLT.out, by go_num, fun j hj => by
            by_cases hji : j < i
            · exact HALL.out j hji
            · obtain rfl : j = i := by omega
              rw [HX.out, HY.out, HV.out], x2.2⟩
          case measure => have := HLT.out; simp [intOf]; omega
      · obtain rfl : i = l.length := by omega
        go_wp2
        go_ret
        refine ⟨retb ?_, HX9.out⟩
        symm
        simp only [valsB, Bool.and_eq_true, decide_eq_true_eq, List.all_eq_true, List.mem_range]
        exact ⟨HL.out, HALL.out⟩
  · have hne : valsB (closedB (total gs)) qB l m = false := by simp [valsB, hlen]
    have h1 : ((l.length : Int) != (m.length : Int)) = true := by simpa using fun h => hlen (by omega)
    have NE := hid hne
    clear hne ha hb hlen
    go_enter Tryz.func63, Tryz.ntmps63
    go_wp2
    go_ret
    exact ⟨retb NE.out.symm, Below.refl _ _⟩
theorem fieldB_off {cB : Hp → Bool} {f g : Fl} (h : f.m ≠ g.m ∨ f.p ≠ g.p ∨ ¬ (f.p = 0 ∨ f.p = 8 ∨ f.p = 16)) : fieldB cB qB f g = false := by
  unfold fieldB storeB
  rcases h with h | h | h
  · rw [decide_eq_false h]; rfl
  · rw [decide_eq_false h]; simp
  · rw [decide_eq_false h]; simp
theorem fieldB_on {cB : Hp → Bool} {f g : Fl} (h1 : f.m = g.m) (h2 : f.p = g.p) (h3 : f.p = 0 ∨ f.p = 8 ∨ f.p = 16) : fieldB cB qB f g = (valB cB qB f.v g.v && (!f.m || valB cB qB g.v f.v)) := by
  unfold fieldB storeB
  rw [decide_eq_true h1, decide_eq_true h2, decide_eq_true h3, ← h2, decide_eq_true h3]; simp
set_option maxRecDepth 100000 in
set_option maxHeartbeats 4000000 in
theorem field_ref (hq : HeapT gs qB) (hS : SupT (tabL gs)) (T : Nat) (f g : Fl) (w : World) (ht : RfK R w T gs) : Calls Tryz.prog 64 #[.pointer (some ⟨T, 0, none⟩), .agg (cellsF f).toArray, .agg (cellsF g).toArray] w fun e w' => e = .returned (.bool (fieldB (closedB (total gs)) qB f g)) ∧ Below w.heap.size w w' := by
  have OFF := hid (fun h => fieldB_off (cB := closedB (total gs)) (qB := qB) (f := f) (g := g) h)
  have ON := hid (fun h1 h2 h3 => fieldB_on (cB := closedB (total gs)) (qB := qB) (f := f) (g := g) h1 h2 h3)
  obtain ⟨r, hr⟩ : ∃ r, fieldB (closedB (total gs)) qB f g = r := ⟨_, rfl⟩
  obtain ⟨r1, hr1⟩ : ∃ r, valB (closedB (total gs)) qB f.v g.v = r := ⟨_, rfl⟩
  obtain ⟨r2, hr2⟩ : ∃ r, valB (closedB (total gs)) qB g.v f.v = r := ⟨_, rfl⟩
  have C1 := fun w' (hb : Below w.heap.size w w') => val_ref hq hS T f.v g.v w' (ht.below hb)
  have C2 := fun w' (hb : Below w.heap.size w w') => val_ref hq hS T g.v f.v w' (ht.below hb)
  rw [hr1] at C1 ON
  rw [hr2] at C2 ON
  rw [hr] at OFF ON ⊢
  clear hr hr1 hr2
  obtain ⟨p, ⟨k1, l1, h1, n1⟩, m⟩ := f
  obtain ⟨q, ⟨k2, l2, h2, n2⟩, m'⟩ := g
  simp only [cellsF, cellsV] at C1 C2 ⊢
  have hb0 : Below w.heap.size w ((w.alloc (.cells #[.int .i64 p, .int .i64 k1, .bool l1, .int .i64 h1, .int .i64 n1, .bool m] 115)).alloc (.cells #[.int .i64 q, .int .i64 k2, .bool l2, .int .i64 h2, .int .i64 n2, .bool m'] 115)) := ((Below.refl _ _).alloc (Nat.le_refl _) _).alloc (by simp) _
  obtain ⟨W0, hW⟩ : ∃ W0 : World, W0 = ((w.alloc (.cells #[.int .i64 p, .int .i64 k1, .bool l1, .int .i64 h1, .int .i64 n1, .bool m] 115)).alloc (.cells #[.int .i64 q, .int .i64 k2, .bool l2, .int .i64 h2, .int .i64 n2, .bool m'] 115)) := ⟨_, rfl⟩
  have z1 : W0.heap[w.heap.size]? = some (.cells #[.int .i64 p, .int .i64 k1, .bool l1, .int .i64 h1, .int .i64 n1, .bool m] 115 (0, 0)) := by rw [hW]; exact heap_alloc_keep (heap_alloc_at _ _ rfl) _
  have z2 : W0.heap[w.heap.size + 1]? = some (.cells #[.int .i64 q, .int .i64 k2, .bool l2, .int .i64 h2, .int .i64 n2, .bool m'] 115 (0, 0)) := by rw [hW]; exact heap_alloc_at _ _ (by simp)
  rw [← hW] at hb0
  have a0 : ∀ x : Ext W0, x.val.cell? ⟨w.heap.size, 0, none⟩ = some (.int .i64 p) := Ext.cells (heap_cell z1 0)
  have a1 : ∀ x : Ext W0, x.val.cell? ⟨w.heap.size, 1, none⟩ = some (.int .i64 k1) := Ext.cells (heap_cell z1 1)
  have a2 : ∀ x : Ext W0, x.val.cell? ⟨w.heap.size, 2, none⟩ = some (.bool l1) := Ext.cells (heap_cell z1 2)
  have a3 : ∀ x : Ext W0, x.val.cell? ⟨w.heap.size, 3, none⟩ = some (.int .i64 h1) := Ext.cells (heap_cell z1 3)
  have a4 : ∀ x : Ext W0, x.val.cell? ⟨w.heap.size, 4, none⟩ = some (.int .i64 n1) := Ext.cells (heap_cell z1 4)
  have a5 : ∀ x : Ext W0, x.val.cell? ⟨w.heap.size, 5, none⟩ = some (.bool m) := Ext.cells (heap_cell z1 5)
  have d0 : ∀ x : Ext W0, x.val.cell? ⟨w.heap.size + 1, 0, none⟩ = some (.int .i64 q) := Ext.cells (heap_cell z2 0)
  have d1 : ∀ x : Ext W0, x.val.cell? ⟨w.heap.size + 1, 1, none⟩ = some (.int .i64 k2) := Ext.cells (heap_cell z2 1)
  have d2 : ∀ x : Ext W0, x.val.cell? ⟨w.heap.size + 1, 2, none⟩ = some (.bool l2) := Ext.cells (heap_cell z2 2)
  have d3 : ∀ x : Ext W0, x.val.cell? ⟨w.heap.size + 1, 3, none⟩ = some (.int .i64 h2) := Ext.cells (heap_cell z2 3)
  have d4 : ∀ x : Ext W0, x.val.cell? ⟨w.heap.size + 1, 4, none⟩ = some (.int .i64 n2) := Ext.cells (heap_cell z2 4)
  have d5 : ∀ x : Ext W0, x.val.cell? ⟨w.heap.size + 1, 5, none⟩ = some (.bool m') := Ext.cells (heap_cell z2 5)
  have HC1 := hid C1; have HC2 := hid C2; have HB0 := hid hb0; have HW := hid hW
  clear hb0 hW C1 C2 ht z1 z2 hq hS
  dsimp only at OFF ON
  by_cases e0 : m = m'
  · subst e0
    by_cases e1 : p = q
    · subst e1
      by_cases e2 : p = 0 ∨ p = 8 ∨ p = 16
      · have HON := hid (ON.out rfl rfl e2)
        clear ON OFF
        rcases e2 with rfl | rfl | rfl
        all_goals
          go_enter Tryz.func64, Tryz.ntmps64
          go_wp2_with fail
          rw [← HW.out]
          refine (Ext.call0 (HC1.out _ HB0.out)).mono ?_
          rintro e _ ⟨rfl, x1, rfl⟩
          cases r1
          · go_wp2
            go_ret
            exact ⟨retb (by rw [HON.out]; simp), HB0.out.trans (x1.2.mono HB0.out.size)⟩
          · cases m
            · go_wp2
              go_ret
              exact ⟨retb (by rw [HON.out]; simp), HB0.out.trans (x1.2.mono HB0.out.size)⟩
            · go_wp2_with fail
              refine (Ext.call x1 (HC2.out _ (HB0.out.trans (x1.2.mono HB0.out.size)))).mono ?_
              rintro e _ ⟨rfl, x2, rfl⟩
              go_wp2
              go_ret
              exact ⟨retb (by rw [HON.out]; simp), HB0.out.trans (x2.2.mono HB0.out.size)⟩
      · have HOFF := hid (OFF.out (.inr (.inr e2)))
        have q0 : (p != 0) = true := by simp; omega
        have q8 : (p != 8) = true := by simp; omega
        have q16 : (p != 16) = true := by simp; omega
        clear ON OFF e2
        go_enter Tryz.func64, Tryz.ntmps64
        go_wp2
        rw [← HW.out]
        go_ret
        exact ⟨retb HOFF.out.symm, HB0.out⟩
    · have HOFF := hid (OFF.out (.inr (.inl e1)))
      have q0 : (p != q) = true := by simpa using e1
      clear ON OFF e1
      go_enter Tryz.func64, Tryz.ntmps64
      go_wp2
      rw [← HW.out]
      go_ret
      exact ⟨retb HOFF.out.symm, HB0.out⟩
  · have HOFF := hid (OFF.out (.inl e0))
    clear ON OFF
    cases m <;> cases m'
    · exact absurd rfl e0
    · clear e0
      go_enter Tryz.func64, Tryz.ntmps64
      go_wp2
      rw [← HW.out]
      go_ret
      exact ⟨retb HOFF.out.symm, HB0.out⟩
    · clear e0
      go_enter Tryz.func64, Tryz.ntmps64
      go_wp2
      rw [← HW.out]
      go_ret
      exact ⟨retb HOFF.out.symm, HB0.out⟩
    · exact absurd rfl e0
set_option maxRecDepth 100000 in
set_option maxHeartbeats 4000000 in
theorem compR_ref (hq : HeapT gs qB) (hS : SupT (tabL gs)) (T : Nat) (a b : Sb) (p1 r1 f1 p2 r2 f2 : Value) (w : World) (hp1 : ValsAt w p1 a.ps) (hr1 : ValsAt w r1 a.rs) (hf1 : FlsAt w f1 a.fs) (hp2 : ValsAt w p2 b.ps) (hr2 : ValsAt w r2 b.rs) (hf2 : FlsAt w f2 b.fs) (ha : cnt a ≤ 1000000) (hb : cnt b ≤ 1000000) (ht : RfK R w T gs) :
    Calls Tryz.prog 29 #[.pointer (some ⟨T, 0, none⟩), .agg #[.int .i64 a.k, p1, r1, f1], .agg #[.int .i64 b.k, p2, r2, f2]] w fun e w' => e = .returned (.bool (compB (closedB (total gs)) qB a b)) ∧ Below w.heap.size w w' := by
  obtain ⟨ap1, cp1, rfl⟩ := RowAt.form hp1
  obtain ⟨ar1, cr1, rfl⟩ := RowAt.form hr1
  obtain ⟨af1, cf1, rfl⟩ := RowAt.form hf1
  obtain ⟨ap2, cp2, rfl⟩ := RowAt.form hp2
  obtain ⟨ar2, cr2, rfl⟩ := RowAt.form hr2
  obtain ⟨af2, cf2, rfl⟩ := RowAt.form hf2
  have hca : a.ps.length ≤ 1000000 ∧ a.rs.length ≤ 1000000 ∧ a.fs.length ≤ 1000000 := by simp only [cnt] at ha; omega
  have hcb : b.ps.length ≤ 1000000 ∧ b.rs.length ≤ 1000000 ∧ b.fs.length ≤ 1000000 := by simp only [cnt] at hb; omega
  have HCA := hid hca; have HCB := hid hcb
  obtain ⟨W0, hW⟩ : ∃ W0 : World, W0 = ((w.alloc (.cells #[.int .i64 a.k, .slice ap1 a.ps.length cp1, .slice ar1 a.rs.length cr1, .slice af1 a.fs.length cf1] 39)).alloc (.cells #[.int .i64 b.k, .slice ap2 b.ps.length cp2, .slice ar2 b.rs.length cr2, .slice af2 b.fs.length cf2] 39)) := ⟨_, rfl⟩
  have hB : Below w.heap.size w W0 := by rw [hW]; exact (((Below.refl _ _).alloc (by simp) _).alloc (by simp) _)
  have z1 : W0.heap[w.heap.size]? = some (.cells #[.int .i64 a.k, .slice ap1 a.ps.length cp1, .slice ar1 a.rs.length cr1, .slice af1 a.fs.length cf1] 39 (0, 0)) := by rw [hW]; exact heap_alloc_keep (heap_alloc_at _ _ rfl) _
  have z2 : W0.heap[w.heap.size + 1]? = some (.cells #[.int .i64 b.k, .slice ap2 b.ps.length cp2, .slice ar2 b.rs.length cr2, .slice af2 b.fs.length cf2] 39 (0, 0)) := by rw [hW]; exact heap_alloc_at _ _ (by simp)
  have a0 : ∀ x : Ext W0, x.val.cell? ⟨w.heap.size, 0, none⟩ = some (.int .i64 a.k) := Ext.cells (heap_cell z1 0)
  have a1 : ∀ x : Ext W0, x.val.cell? ⟨w.heap.size, 1, none⟩ = some (.slice ap1 a.ps.length cp1) := Ext.cells (heap_cell z1 1)
  have a2 : ∀ x : Ext W0, x.val.cell? ⟨w.heap.size, 2, none⟩ = some (.slice ar1 a.rs.length cr1) := Ext.cells (heap_cell z1 2)
  have a3 : ∀ x : Ext W0, x.val.cell? ⟨w.heap.size, 3, none⟩ = some (.slice af1 a.fs.length cf1) := Ext.cells (heap_cell z1 3)
  have d0 : ∀ x : Ext W0, x.val.cell? ⟨w.heap.size + 1, 0, none⟩ = some (.int .i64 b.k) := Ext.cells (heap_cell z2 0)
  have d1 : ∀ x : Ext W0, x.val.cell? ⟨w.heap.size + 1, 1, none⟩ = some (.slice ap2 b.ps.length cp2) := Ext.cells (heap_cell z2 1)
  have d2 : ∀ x : Ext W0, x.val.cell? ⟨w.heap.size + 1, 2, none⟩ = some (.slice ar2 b.rs.length cr2) := Ext.cells (heap_cell z2 2)
  have d3 : ∀ x : Ext W0, x.val.cell? ⟨w.heap.size + 1, 3, none⟩ = some (.slice af2 b.fs.length cf2) := Ext.cells (heap_cell z2 3)
  have HP1 := hid (RowAt.below hp1 hB (Nat.le_refl _)); have HR1 := hid (RowAt.below hr1 hB (Nat.le_refl _)); have HF1 := hid (RowAt.below hf1 hB (Nat.le_refl _))
  have HP2 := hid (RowAt.below hp2 hB (Nat.le_refl _)); have HR2 := hid (RowAt.below hr2 hB (Nat.le_refl _)); have HF2 := hid (RowAt.below hf2 hB (Nat.le_refl _))
  have HT := hid (ht.below hB)
  have HW := hid hW; have HB := hid hB
  obtain ⟨k1, hk1⟩ : ∃ k, a.k = k := ⟨_, rfl⟩
  obtain ⟨k2, hk2⟩ : ∃ k, b.k = k := ⟨_, rfl⟩
  rw [hk1] at a0 HW
  rw [hk2] at d0 HW
  have C0 := hid (fun h1 h2 => compB_1 (cB := closedB (total gs)) (hB := qB) (a := a) (b := b) (hk1.trans h1) (hk2.trans h2))
  have C1 := hid (fun h1 h2 => compB_2 (cB := closedB (total gs)) (hB := qB) (a := a) (b := b) (hk1.trans h1) (hk2.trans h2))
  have C2 := hid (fun h1 h2 => compB_3 (cB := closedB (total gs)) (hB := qB) (a := a) (b := b) (hk1.trans h1) (hk2.trans h2))
  have C3 := hid (show (k1 ≠ k2 ∨ (k1 ≠ 1 ∧ k1 ≠ 2 ∧ k1 ≠ 3)) → compB (closedB (total gs)) qB a b = false from fun h => by
    unfold compB; rw [hk1, hk2]
    rcases h with h | ⟨h1, h2, h3⟩
    · rw [if_pos h]
    · by_cases e : k1 = k2
      · rw [if_neg (by simpa using e), if_neg h1, if_neg h2, if_neg h3]
      · rw [if_pos e])
  rw [hk1, hk2]
  have HQ := hid hq; have HS := hid hS
  clear hp1 hr1 hf1 hp2 hr2 hf2 ht hW hB ha hb hca hcb z1 z2 hk1 hk2 hq hS
  by_cases e0 : k1 = k2
  · subst e0
    by_cases e1 : k1 = 1
    · subst e1
      obtain ⟨s1, hs1⟩ : ∃ s, valsB (closedB (total gs)) qB b.ps a.ps = s := ⟨_, rfl⟩
      obtain ⟨s2, hs2⟩ : ∃ s, valsB (closedB (total gs)) qB a.rs b.rs = s := ⟨_, rfl⟩
      have HS1 := hid hs1; have HS2 := hid hs2
      clear hs1 hs2
      go_enter Tryz.func29, Tryz.ntmps29
      go_wp2_with fail
      rw [← HW.out]
      refine (Ext.call0 (vals_ref HQ.out HS.out T _ _ b.ps a.ps _ HP2.out HP1.out HCB.out.1 HCA.out.1 HT.out)).mono ?_
      rintro e _ ⟨rfl, x2, rfl⟩
      rw [HS1.out]
      cases s1
      · go_wp2
        go_ret
        exact ⟨retb (by rw [C0.out (by simp) (by simp), HS1.out]; rfl), HB.out.trans (x2.2.mono HB.out.size)⟩
      · go_wp2_with fail
        refine (Ext.call x2 (vals_ref HQ.out HS.out T _ _ a.rs b.rs _ (RowAt.ext HR1.out x2) (RowAt.ext HR2.out x2) HCA.out.2.1 HCB.out.2.1 (HT.out.ext x2))).mono ?_
        rintro e _ ⟨rfl, x3, rfl⟩
        rw [HS2.out]
        cases s2
        all_goals
          go_wp2
          go_ret
          exact ⟨retb (by rw [C0.out (by simp) (by simp), HS1.out, HS2.out]; rfl), HB.out.trans (x3.2.mono HB.out.size)⟩
    · by_cases e2 : k1 = 2
      · subst e2
        clear e1
        by_cases hl : b.fs.length ≤ a.fs.length
        · have HF := hid (C1.out rfl rfl)
          have HL := hid hl
          have hl' : ¬ (a.fs.length : Int) < b.fs.length := by omega
          have hcb3 := HCB.out.2.2
          clear hl
          go_enter Tryz.func29, Tryz.ntmps29
          go_wp2
          rw [← HW.out]
          go_loopw [7] (fun t17 wr => ∃ i : Nat, i ≤ b.fs.length ∧ t17 = .int .i64 i ∧ (∀ j, j < i → fieldB (closedB (total gs)) qB (a.fs.getD j zF) (b.fs.getD j zF) = true) ∧ Below W0.heap.size W0 wr) (fun t17 _ => b.fs.length - (intOf t17).toNat)
          case atStart => exact ⟨0, by omega, rfl, fun j hj => by omega, Below.refl _ _⟩
          case round =>
            obtain ⟨i, hi, rfl, hall, hx9⟩ := hrel
            have HALL := hid hall; have HX9 := hid hx9
            clear hall hx9
            by_cases hlt : i < b.fs.length
            · have hlt2 : i < a.fs.length := Nat.lt_of_lt_of_le hlt HL.out
              obtain ⟨⟨p1, ⟨q1, n1, h1, m1⟩, u1⟩, hx⟩ : ∃ x, a.fs[i]? = some x := ⟨a.fs[i], by simp [hlt2]⟩
              obtain ⟨⟨p2, ⟨q2, n2, h2, m2⟩, u2⟩, hy⟩ : ∃ y, b.fs[i]? = some y := ⟨b.fs[i], by simp [hlt]⟩
              obtain ⟨b1, o1, e1, _, g0, g1', g2', g3, g4, g5⟩ := fls_at (HF1.out.below HX9.out (Nat.le_refl _)) hx
              obtain ⟨b2, o2, e2, nq, r0, r1, r2, r3, r4, r5⟩ := fls_at (HF2.out.below HX9.out (Nat.le_refl _)) hy
              subst e1 e2
              dsimp only at g0 g1' g2' g3 g4 g5 r0 r1 r2 r3 r4 r5
              have hx' : a.fs.getD i zF = ⟨p1, ⟨q1, n1, h1, m1⟩, u1⟩ := by rw [List.getD_eq_getElem?_getD, hx]; rfl
              have hy' : b.fs.getD i zF = ⟨p2, ⟨q2, n2, h2, m2⟩, u2⟩ := by rw [List.getD_eq_getElem?_getD, hy]; rfl
              have HX := hid hx'; have HY := hid hy'; have HLT := hid hlt
              have hlt' : (i : Int) < b.fs.length := by omega
              have hlt2' : (i : Int) < a.fs.length := by omega
              have hi6 : (i : Int) < 1000000 := by omega
              obtain ⟨r, hr⟩ : ∃ r, fieldB (closedB (total gs)) qB ⟨p1, ⟨q1, n1, h1, m1⟩, u1⟩ ⟨p2, ⟨q2, n2, h2, m2⟩, u2⟩ = r := ⟨_, rfl⟩
              have HR := hid hr
              have C := fun (x : Ext W0) => field_ref HQ.out HS.out T ⟨p1, ⟨q1, n1, h1, m1⟩, u1⟩ ⟨p2, ⟨q2, n2, h2, m2⟩, u2⟩ _ (HT.out.ext x)
              rw [hr] at C
              have HC := hid C
              clear hx hy hx' hy' hlt2 hlt hi hr C
              have s1 := a3 ⟨wr, HX9.out⟩; have s2 := d3 ⟨wr, HX9.out⟩
              dsimp only at s1 s2
              go_wp2_with fail
              go_still_tail 11, (by kernel_rfl)
              change wpList _ _ _ _ _ wr.drew
              have hb2 : Below W0.heap.size W0 wr.drew := HX9.out.drew
              go_wp2_with fail
              refine (Ext.call ⟨_, hb2⟩ (HC.out ⟨_, hb2⟩)).mono ?_
              rintro e _ ⟨rfl, x2, rfl⟩
              clear HC
              cases r
              · go_wp2
                go_ret
                refine ⟨retb ?_, HB.out.trans (x2.2.mono HB.out.size)⟩
                symm
                rw [HF.out]
                unfold fieldsB
                rw [Bool.and_eq_false_iff]
                refine .inr ?_
                rw [List.all_eq_false]
                exact ⟨i, List.mem_range.2 HLT.out, by rw [HX.out, HY.out, HR.out]; simp⟩
              · go_wp2
                go_roundw
                case rel =>
                  refine ⟨i + 1, HLT.out, by go_num, fun j hj => ?_, x2.2⟩
                  by_cases e : j < i
                  · exact HALL.out j e
                  · obtain rfl : j = i := by omega
                    rw [HX.out, HY.out, HR.out]
                case measure => have := HLT.out; simp [intOf]; omega
            · obtain rfl : i = b.fs.length := by omega
              have hlt' : ¬ (b.fs.length : Int) < b.fs.length := by omega
              have s2 := d3 ⟨wr, HX9.out⟩
              dsimp only at s2
              go_wp2
              go_ret
              refine ⟨retb ?_, HB.out.trans (HX9.out.mono HB.out.size)⟩
              symm
              rw [HF.out]
              unfold fieldsB
              rw [decide_eq_true HL.out, Bool.true_and, List.all_eq_true]
              intro j hj
              exact HALL.out j (List.mem_range.1 hj)
        · have HOFF := hid (show compB (closedB (total gs)) qB a b = false by rw [C1.out rfl rfl]; unfold fieldsB; rw [decide_eq_false hl]; rfl)
          have hl' : (a.fs.length : Int) < b.fs.length := by omega
          clear hl
          go_enter Tryz.func29, Tryz.ntmps29
          go_wp2
          rw [← HW.out]
          go_ret
          exact ⟨retb HOFF.out.symm, HB.out⟩
      · by_cases e3 : k1 = 3
        · subst e3
          clear e1 e2
          by_cases hl1 : a.fs.length = 1
          · by_cases hl2 : b.fs.length = 1
            · have HF := hid (show compB (closedB (total gs)) qB a b = fieldsB (closedB (total gs)) qB a.fs b.fs by rw [C2.out rfl rfl, decide_eq_true hl1, decide_eq_true hl2]; simp)
              have hl : b.fs.length ≤ a.fs.length := by omega
              have g1 : ((a.fs.length : Int) != 1) = false := by simp; omega
              have g2 : ((b.fs.length : Int) != 1) = false := by simp; omega
              clear hl1 hl2
              have HL := hid hl
              have hl' : ¬ (a.fs.length : Int) < b.fs.length := by omega
              have hcb3 := HCB.out.2.2
              clear hl
              go_enter Tryz.func29, Tryz.ntmps29
              go_wp2
              rw [← HW.out]
              go_loopw [7] (fun t17 wr => ∃ i : Nat, i ≤ b.fs.length ∧ t17 = .int .i64 i ∧ (∀ j, j < i → fieldB (closedB (total gs)) qB (a.fs.getD j zF) (b.fs.getD j zF) = true) ∧ Below W0.heap.size W0 wr) (fun t17 _ => b.fs.length - (intOf t17).toNat)
              case atStart => exact ⟨0, by omega, rfl, fun j hj => by omega, Below.refl _ _⟩
              case round =>
                obtain ⟨i, hi, rfl, hall, hx9⟩ := hrel
                have HALL := hid hall; have HX9 := hid hx9
                clear hall hx9
                by_cases hlt : i < b.fs.length
                · have hlt2 : i < a.fs.length := Nat.lt_of_lt_of_le hlt HL.out
                  obtain ⟨⟨p1, ⟨q1, n1, h1, m1⟩, u1⟩, hx⟩ : ∃ x, a.fs[i]? = some x := ⟨a.fs[i], by simp [hlt2]⟩
                  obtain ⟨⟨p2, ⟨q2, n2, h2, m2⟩, u2⟩, hy⟩ : ∃ y, b.fs[i]? = some y := ⟨b.fs[i], by simp [hlt]⟩
                  obtain ⟨b1, o1, e1, _, g0, g1', g2', g3, g4, g5⟩ := fls_at (HF1.out.below HX9.out (Nat.le_refl _)) hx
                  obtain ⟨b2, o2, e2, nq, r0, r1, r2, r3, r4, r5⟩ := fls_at (HF2.out.below HX9.out (Nat.le_refl _)) hy
                  subst e1 e2
                  dsimp only at g0 g1' g2' g3 g4 g5 r0 r1 r2 r3 r4 r5
                  have hx' : a.fs.getD i zF = ⟨p1, ⟨q1, n1, h1, m1⟩, u1⟩ := by rw [List.getD_eq_getElem?_getD, hx]; rfl
                  have hy' : b.fs.getD i zF = ⟨p2, ⟨q2, n2, h2, m2⟩, u2⟩ := by rw [List.getD_eq_getElem?_getD, hy]; rfl
                  have HX := hid hx'; have HY := hid hy'; have HLT := hid hlt
                  have hlt' : (i : Int) < b.fs.length := by omega
                  have hlt2' : (i : Int) < a.fs.length := by omega
                  have hi6 : (i : Int) < 1000000 := by omega
                  obtain ⟨r, hr⟩ : ∃ r, fieldB (closedB (total gs)) qB ⟨p1, ⟨q1, n1, h1, m1⟩, u1⟩ ⟨p2, ⟨q2, n2, h2, m2⟩, u2⟩ = r := ⟨_, rfl⟩
                  have HR := hid hr
                  have C := fun (x : Ext W0) => field_ref HQ.out HS.out T ⟨p1, ⟨q1, n1, h1, m1⟩, u1⟩ ⟨p2, ⟨q2, n2, h2, m2⟩, u2⟩ _ (HT.out.ext x)
                  rw [hr] at C
                  have HC := hid C
                  clear hx hy hx' hy' hlt2 hlt hi hr C
                  have s1 := a3 ⟨wr, HX9.out⟩; have s2 := d3 ⟨wr, HX9.out⟩
                  dsimp only at s1 s2
                  go_wp2_with fail
                  go_still_tail 11, (by kernel_rfl)
                  change wpList _ _ _ _ _ wr.drew
                  have hb2 : Below W0.heap.size W0 wr.drew := HX9.out.drew
                  go_wp2_with fail
                  refine (Ext.call ⟨_, hb2⟩ (HC.out ⟨_, hb2⟩)).mono ?_
                  rintro e _ ⟨rfl, x2, rfl⟩
                  clear HC
                  cases r
                  · go_wp2
                    go_ret
                    refine ⟨retb ?_, HB.out.trans (x2.2.mono HB.out.size)⟩
                    symm
                    rw [HF.out]
                    unfold fieldsB
                    rw [Bool.and_eq_false_iff]
                    refine .inr ?_
                    rw [List.all_eq_false]
                    exact ⟨i, List.mem_range.2 HLT.out, by rw [HX.out, HY.out, HR.out]; simp⟩
                  · go_wp2
                    go_roundw
                    case rel =>
                      refine ⟨i + 1, HLT.out, by go_num, fun j hj => ?_, x2.2⟩
                      by_cases e : j < i
                      · exact HALL.out j e
                      · obtain rfl : j = i := by omega
                        rw [HX.out, HY.out, HR.out]
                    case measure => have := HLT.out; simp [intOf]; omega
                · obtain rfl : i = b.fs.length := by omega
                  have hlt' : ¬ (b.fs.length : Int) < b.fs.length := by omega
                  have s2 := d3 ⟨wr, HX9.out⟩
                  dsimp only at s2
                  go_wp2
                  go_ret
                  refine ⟨retb ?_, HB.out.trans (HX9.out.mono HB.out.size)⟩
                  symm
                  rw [HF.out]
                  unfold fieldsB
                  rw [decide_eq_true HL.out, Bool.true_and, List.all_eq_true]
                  intro j hj
                  exact HALL.out j (List.mem_range.1 hj)
            · have HOFF := hid (show compB (closedB (total gs)) qB a b = false by rw [C2.out rfl rfl, decide_eq_false hl2]; simp)
              have g1 : ((a.fs.length : Int) != 1) = false := by simp; omega
              have g2 : ((b.fs.length : Int) != 1) = true := by simp; omega
              clear hl1 hl2
              go_enter Tryz.func29, Tryz.ntmps29
              go_wp2
              rw [← HW.out]
              go_ret
              exact ⟨retb HOFF.out.symm, HB.out⟩
          · have HOFF := hid (show compB (closedB (total gs)) qB a b = false by rw [C2.out rfl rfl, decide_eq_false hl1]; simp)
            have g1 : ((a.fs.length : Int) != 1) = true := by simp; omega
            clear hl1
            go_enter Tryz.func29, Tryz.ntmps29
            go_wp2
            rw [← HW.out]
            go_ret
            exact ⟨retb HOFF.out.symm, HB.out⟩
        · have E := hid (C3.out (.inr ⟨e1, e2, e3⟩))
          have e4 : k1 < 1 ∨ 3 < k1 := by omega
          clear e1 e2 e3
          rcases e4 with e4 | e4
          · go_enter Tryz.func29, Tryz.ntmps29
            go_wp2
            rw [← HW.out]
            go_ret
            exact ⟨retb E.out.symm, HB.out⟩
          · have e5 : ¬ k1 < 1 := by omega
            have e6 : k1 > 3 := e4
            go_enter Tryz.func29, Tryz.ntmps29
            go_wp2
            rw [← HW.out]
            go_ret
            exact ⟨retb E.out.symm, HB.out⟩
  · have E := hid (C3.out (.inl e0))
    have e0'' : (k1 != k2) = true := by simpa using e0
    clear e0
    go_enter Tryz.func29, Tryz.ntmps29
    go_wp2
    rw [← HW.out]
    go_ret
    exact ⟨retb E.out.symm, HB.out⟩
end Go.Proofs.YtpddbaijnjbfdaaGreatDoor
