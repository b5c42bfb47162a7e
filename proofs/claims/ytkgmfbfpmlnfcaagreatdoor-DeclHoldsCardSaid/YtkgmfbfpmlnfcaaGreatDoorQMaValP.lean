/- package match: Heap. -/
import Derived.Test.YtkgmfbfpmlnfcaaGreatDoorQMaClimb
namespace Go.Proofs.YtkgmfbfpmlnfcaaGreatDoor
open Go.RowKit

theorem retr {r b : Bool} (h : b = true ↔ r = true) : Ending.returned (.bool b) = .returned (.bool r) := by
  cases b <;> cases r <;> simp_all
set_option maxHeartbeats 4000000 in
theorem heap_k {S R : Nat → Prop} {t : Nat} {gs : List (List Sb)} {h1 n1 h2 n2 : Int} {w : World} {r : Bool} (hr : r = true ↔ HeapP (tabL gs) ⟨h1, n1⟩ ⟨h2, n2⟩) (ht : TabK S R w t gs) :
    Calls Tryz.prog 14 #[.pointer (some ⟨t, 0, none⟩), .agg #[.int .i64 h1, .int .i64 n1], .agg #[.int .i64 h2, .int .i64 n2]] w fun e w' => e = .returned (.bool r) ∧ Below w.heap.size w w' := by
  obtain ⟨W0, hW⟩ : ∃ W0 : World, W0 = ((w.alloc (.cells #[.int .i64 h1, .int .i64 n1] 49)).alloc (.cells #[.int .i64 h2, .int .i64 n2] 49)) := ⟨_, rfl⟩
  have hB : Below w.heap.size w W0 := by rw [hW]; exact (((Below.refl _ _).alloc (by simp) _).alloc (by simp) _)
  have b0_0 : ∀ x : Ext W0, x.val.cell? ⟨w.heap.size, 0, none⟩ = some (.int .i64 h1) := Ext.cells (by rw [hW]; exact heap_cell (heap_alloc_keep (heap_alloc_at _ _ (by simp)) _) 0)
  have b0_1 : ∀ x : Ext W0, x.val.cell? ⟨w.heap.size, 1, none⟩ = some (.int .i64 n1) := Ext.cells (by rw [hW]; exact heap_cell (heap_alloc_keep (heap_alloc_at _ _ (by simp)) _) 1)
  have b1_0 : ∀ x : Ext W0, x.val.cell? ⟨w.heap.size + 1, 0, none⟩ = some (.int .i64 h2) := Ext.cells (by rw [hW]; exact heap_cell (heap_alloc_at _ _ (by simp)) 0)
  have b1_1 : ∀ x : Ext W0, x.val.cell? ⟨w.heap.size + 1, 1, none⟩ = some (.int .i64 n2) := Ext.cells (by rw [hW]; exact heap_cell (heap_alloc_at _ _ (by simp)) 1)
  have HW := Lib.hid hW; have HB := Lib.hid hB; have HR := Lib.hid hr
  clear hW hB hr
  have H := Lib.hid (ht.below HB.out)
  have HTL := Lib.hid (tabL_len gs)
  clear ht
  go_enter Tryz.func14, Tryz.ntmps14
  go_wp2_with fail
  rw [← HW.out]
  refine (Ext.call0 (absent_tab _ H.out)).mono ?_
  rintro e _ ⟨rfl, x1, rfl⟩
  go_wp2_with fail
  refine (Ext.call x1 (closed_tab h1 n1 _ (H.out.ext x1))).mono ?_
  rintro e _ ⟨rfl, x2, rfl⟩
  rcases g1 : closedB (total gs) ⟨h1, n1⟩ with _ | _
  · have G1 := Lib.hid g1
    clear g1
    go_wp2
    go_ret
    refine ⟨retr ?_, HB.out.trans (x2.2.mono HB.out.size)⟩
    rw [HR.out]
    refine ⟨fun h => by simp at h, fun h => ?_⟩
    have := closed_iff.2 h.1
    rw [HTL.out, G1.out] at this; cases this
  have G1 := Lib.hid g1
  clear g1
  go_wp2_with fail
  refine (Ext.call x2 (closed_tab h2 n2 _ (H.out.ext x2))).mono ?_
  rintro e _ ⟨rfl, x3, rfl⟩
  rcases g2 : closedB (total gs) ⟨h2, n2⟩ with _ | _
  · have G2 := Lib.hid g2
    clear g2
    go_wp2
    go_ret
    refine ⟨retr ?_, HB.out.trans (x3.2.mono HB.out.size)⟩
    rw [HR.out]
    refine ⟨fun h => by simp at h, fun h => ?_⟩
    have := closed_iff.2 h.2.1
    rw [HTL.out, G2.out] at this; cases this
  have G2 := Lib.hid g2
  clear g2
  have c1 : ClosedP (tabL gs).length ⟨h1, n1⟩ := closed_iff.1 (by rw [HTL.out]; exact G1.out)
  have c2 : ClosedP (tabL gs).length ⟨h2, n2⟩ := closed_iff.1 (by rw [HTL.out]; exact G2.out)
  have hr := HR.out
  have C1 := Lib.hid c1; have C2 := Lib.hid c2
  by_cases he : h1 = h2 ∧ n1 = n2
  · obtain ⟨rfl, rfl⟩ := he
    have hrt : r = true := hr.2 ⟨c1, c2, .inl rfl⟩
    subst hrt
    clear hr c1 c2
    go_wp2
    go_ret
    exact ⟨rfl, HB.out.trans (x3.2.mono HB.out.size)⟩
  have hne : ¬ ((⟨h1, n1⟩ : Hp) = ⟨h2, n2⟩) := fun e => he (by simpa using e)
  by_cases k1 : h1 = 15
  · subst k1
    have hn1 : 0 ≤ n1 ∧ n1 < total gs := by
      rcases c1 with c1 | c1
      · have := c1.2.1; simp at this
      · rw [HTL.out] at c1; exact c1.2
    obtain ⟨m1, rfl⟩ : ∃ m : Nat, n1 = m := ⟨n1.toNat, by omega⟩
    have hr2 : r = true ↔ ClimbP (tabL gs) m1 ⟨h2, n2⟩ := by
      rw [hr]
      constructor
      · rintro ⟨_, _, h | ⟨_, h⟩ | ⟨h, _⟩ | ⟨h, _⟩⟩
        · exact absurd h hne
        · simpa using h
        · exact absurd rfl h
        · exact absurd rfl h
      · intro h
        exact ⟨c1, c2, .inr (.inl ⟨rfl, by simpa using h⟩)⟩
    have HM1 := Lib.hid hn1; have HR2 := Lib.hid hr2
    have he2 : h2 = 15 → ¬ ((m1 : Int) = n2) := fun e1 e2 => he ⟨e1.symm, e2⟩
    clear hr hr2 c1 c2 hne he hn1
    by_cases k2 : h2 = 15
    · subst k2
      have hmn : ((m1 : Int) == n2) = false := by simpa using he2 rfl
      clear he2
      go_wp2_with fail
      refine (Ext.call x3 (climbs_any _ (H.out.ext x3) m1 (by have := HM1.out; omega) ⟨15, n2⟩ r HR2.out)).mono ?_
      rintro e _ ⟨rfl, x4, rfl⟩
      go_wp2
      go_ret
      exact ⟨rfl, HB.out.trans (x4.2.mono HB.out.size)⟩
    · have hk2 : ((15 : Int) == h2) = false := by simp; omega
      clear he2
      go_wp2_with fail
      refine (Ext.call x3 (climbs_any _ (H.out.ext x3) m1 (by have := HM1.out; omega) ⟨h2, n2⟩ r HR2.out)).mono ?_
      rintro e _ ⟨rfl, x4, rfl⟩
      go_wp2
      go_ret
      exact ⟨rfl, HB.out.trans (x4.2.mono HB.out.size)⟩
  by_cases k2 : h2 = 15
  · subst k2
    have hn2 : 0 ≤ n2 ∧ n2 < total gs := by
      rcases c2 with c2 | c2
      · have := c2.2.1; simp at this
      · rw [HTL.out] at c2; exact c2.2
    obtain ⟨m2, rfl⟩ : ∃ m : Nat, n2 = m := ⟨n2.toNat, by omega⟩
    obtain ⟨y, hy⟩ : ∃ y, (tabL gs)[m2]? = some y := ⟨(tabL gs)[m2]'(by rw [tabL_len]; omega), by simp⟩
    have hr2 : r = true ↔ h1 = (fam (kindK y.k)).2 := by
      rw [hr]
      constructor
      · rintro ⟨_, _, h | ⟨h, _⟩ | ⟨_, _, s, hs, h⟩ | ⟨_, h, _⟩⟩
        · exact absurd h hne
        · exact absurd h k1
        · simp at hs
          rw [hy] at hs
          obtain rfl := Option.some.inj hs
          exact h
        · exact absurd rfl h
      · intro h
        exact ⟨c1, c2, .inr (.inr (.inl ⟨k1, rfl, y, by simpa using hy, h⟩))⟩
    have HR2 := Lib.hid hr2; have HY := Lib.hid hy
    have hk1 : (h1 == 15) = false := by simpa using k1
    clear hr hr2 c1 c2 hne he hn2 k1 hy
    go_wp2_with fail
    refine (get_k (H.out.ext x3) HY.out).mono ?_
    rintro e w4 ⟨ds, rfl, hsub, hb4⟩
    obtain ⟨a1, l1, a2, l2, a3, l3, a4, l4, rfl⟩ := (hsub w4 (Upd.refl _ _)).out
    have hbx : Below W0.heap.size W0 (w4.alloc (.cells #[.bool y.fin, .slice a1 y.sups.length l1, .int .i64 y.k, .slice a2 y.ps.length l2, .slice a3 y.rs.length l3, .slice a4 y.fs.length l4] 44)) := (x3.2.trans (hb4.mono x3.2.size)).alloc (by have := x3.2.size; have := hb4.size; omega) _
    have HBX := Lib.hid hbx
    clear hsub hb4 hbx
    go_wp2_with fail
    refine (Ext.call ⟨_, HBX.out⟩ (kindOf_any y.fin _ _ _ _ y.k _)).mono ?_
    rintro e _ ⟨rfl, x5, rfl⟩
    go_wp2_with fail
    refine (family_any _ _).mono ?_
    rintro e w' ⟨rfl, rfl⟩
    by_cases hf : h1 = (fam (kindK y.k)).2
    · have hrt : r = true := HR2.out.2 hf
      subst hrt
      have hf' : (h1 == (fam (kindK y.k)).2) = true := by simpa using hf
      clear hf
      go_wp2
      go_ret
      exact ⟨retr (by simp_all), HB.out.trans (x5.2.mono HB.out.size)⟩
    · have hrf : r = false := by cases r; rfl; exact absurd (HR2.out.1 rfl) hf
      subst hrf
      have hf' : (h1 == (fam (kindK y.k)).2) = false := by simpa using hf
      clear hf
      go_wp2
      go_ret
      exact ⟨retr (by simp_all), HB.out.trans (x5.2.mono HB.out.size)⟩
  · have hr2 : r = true ↔ belowB h1 h2 = true := by
      rw [hr]
      constructor
      · rintro ⟨_, _, h | ⟨h, _⟩ | ⟨_, h, _⟩ | ⟨_, _, h⟩⟩
        · exact absurd h hne
        · exact absurd h k1
        · exact absurd h k2
        · exact h
      · intro h
        exact ⟨c1, c2, .inr (.inr (.inr ⟨k1, k2, h⟩))⟩
    have HR2 := Lib.hid hr2
    have hk1 : (h1 == 15) = false := by simpa using k1
    have hk2 : (h2 == 15) = false := by simpa using k2
    clear hr hr2 c1 c2 hne k1 k2
    by_cases e1 : h1 = h2
    · subst e1
      have e2 : (n1 == n2) = false := by simpa using he
      clear he
      go_wp2_with (first | (go_at_call 33; with_reducible refine (below_any _ _ _).mono ?_; rintro e w' ⟨rfl, rfl⟩) | fail)
      go_ret
      exact ⟨retr HR2.out.symm, HB.out.trans (x3.2.mono HB.out.size)⟩
    · have e2 : (h1 == h2) = false := by simpa using e1
      clear he e1
      go_wp2_with (first | (go_at_call 33; with_reducible refine (below_any _ _ _).mono ?_; rintro e w' ⟨rfl, rfl⟩) | fail)
      go_ret
      exact ⟨retr HR2.out.symm, HB.out.trans (x3.2.mono HB.out.size)⟩
end Go.Proofs.YtkgmfbfpmlnfcaaGreatDoor

/- Package match: value types and lists of them, over any table. -/
namespace Go.Proofs.YtkgmfbfpmlnfcaaGreatDoor
open Go.RowKit

/-- Which value types are proper, which match; cB, hB: which heap types are closed, which match. -/
def properB (cB : Hp → Bool) (v : Vl) : Bool := if v.k = 3 then neverB v || cB ⟨v.h, v.n⟩ else decide (1 ≤ v.k) && decide (v.k ≤ 4) && decide (v = ⟨v.k, false, 0, 0⟩)
def valB (cB : Hp → Bool) (hB : Hp → Hp → Bool) (a b : Vl) : Bool := properB cB a && properB cB b && (if a.k = 4 then true else if a.k ≠ b.k then false else if a.k ≠ 3 ∨ neverB a = true then true else (!a.nl || b.nl) && hB ⟨a.h, a.n⟩ ⟨b.h, b.n⟩)
def zV : Vl := ⟨0, false, 0, 0⟩
def valsB (cB : Hp → Bool) (hB : Hp → Hp → Bool) (l m : List Vl) : Bool := decide (l.length = m.length) && (List.range l.length).all fun i => valB cB hB (l.getD i zV) (m.getD i zV)
/-- hB tells which heap types match over a table. -/
def HeapT (gs : List (List Sb)) (hB : Hp → Hp → Bool) : Prop := ∀ a b, hB a b = true ↔ HeapP (tabL gs) a b
set_option maxHeartbeats 1000000 in
theorem proper_tab {S R : Nat → Prop} {gs : List (List Sb)} (T : Nat) (v : Vl) (w : World) (ht : TabK S R w T gs) : Calls Tryz.prog 58 #[.pointer (some ⟨T, 0, none⟩), .agg (cellsV v).toArray] w fun e w' => e = .returned (.bool (properB (closedB (total gs)) v)) ∧ Below w.heap.size w w' := by
  obtain ⟨k, nl, h, n⟩ := v
  simp only [cellsV]
  obtain ⟨W0, hW⟩ : ∃ W0 : World, W0 = (w.alloc (.cells #[.int .i64 k, .bool nl, .int .i64 h, .int .i64 n] 89)) := ⟨_, rfl⟩
  have hB : Below w.heap.size w W0 := by rw [hW]; exact ((Below.refl _ _).alloc (by simp) _)
  have b0_0 : ∀ x : Ext W0, x.val.cell? ⟨w.heap.size, 0, none⟩ = some (.int .i64 k) := Ext.cells (by rw [hW]; exact heap_cell (heap_alloc_at _ _ (by simp)) 0)
  have b0_1 : ∀ x : Ext W0, x.val.cell? ⟨w.heap.size, 1, none⟩ = some (.bool nl) := Ext.cells (by rw [hW]; exact heap_cell (heap_alloc_at _ _ (by simp)) 1)
  have b0_2 : ∀ x : Ext W0, x.val.cell? ⟨w.heap.size, 2, none⟩ = some (.int .i64 h) := Ext.cells (by rw [hW]; exact heap_cell (heap_alloc_at _ _ (by simp)) 2)
  have b0_3 : ∀ x : Ext W0, x.val.cell? ⟨w.heap.size, 3, none⟩ = some (.int .i64 n) := Ext.cells (by rw [hW]; exact heap_cell (heap_alloc_at _ _ (by simp)) 3)
  have HW := Lib.hid hW; have HB := Lib.hid hB
  clear hW hB
  have H := Lib.hid (ht.below HB.out)
  clear ht
  by_cases hk : k = 3
  · obtain ⟨b, hb⟩ : ∃ b, neverB ⟨k, nl, h, n⟩ = b := ⟨_, rfl⟩
    subst hk
    have HN := Lib.hid hb
    clear hb
    go_enter Tryz.func58, Tryz.ntmps58
    go_wp2_with fail
    rw [← HW.out]
    refine (Ext.call0 (never_any ⟨3, nl, h, n⟩ _)).mono ?_
    rintro e _ ⟨rfl, x1, rfl⟩
    rw [HN.out]
    cases b
    · go_wp2_with fail
      refine (Ext.call x1 (closed_tab h n _ (H.out.ext x1))).mono ?_
      rintro e _ ⟨rfl, x2, rfl⟩
      go_wp2
      go_ret
      exact ⟨retb (by simp [properB, HN.out]), HB.out.trans (x2.2.mono HB.out.size)⟩
    · go_wp2
      go_ret
      exact ⟨retb (by simp [properB, HN.out]), HB.out.trans (x1.2.mono HB.out.size)⟩
  · have hk2 : (k == 3) = false := by simpa using hk
    have HK := Lib.hid hk
    clear hk
    go_enter Tryz.func58, Tryz.ntmps58
    go_wp2
    all_goals
      go_ret
      refine ⟨retb ?_, (Below.refl _ _).alloc (Nat.le_refl _) _⟩
      have := HK.out
      unfold properB
      rw [if_neg (by exact HK.out)]
      first | (simp_all; done) | (simp_all; omega) | (rw [Bool.eq_iff_iff]; simp_all; done)
set_option maxHeartbeats 2000000 in
theorem val_tab {S R : Nat → Prop} {gs : List (List Sb)} {qB : Hp → Hp → Bool} (hq : HeapT gs qB) (T : Nat) (a b : Vl) (w : World) (ht : TabK S R w T gs) : Calls Tryz.prog 50 #[.pointer (some ⟨T, 0, none⟩), .agg (cellsV a).toArray, .agg (cellsV b).toArray] w fun e w' => e = .returned (.bool (valB (closedB (total gs)) qB a b)) ∧ Below w.heap.size w w' := by
  obtain ⟨k1, l1, h1, n1⟩ := a
  obtain ⟨k2, l2, h2, n2⟩ := b
  simp only [cellsV]
  obtain ⟨W0, hW⟩ : ∃ W0 : World, W0 = ((w.alloc (.cells #[.int .i64 k1, .bool l1, .int .i64 h1, .int .i64 n1] 89)).alloc (.cells #[.int .i64 k2, .bool l2, .int .i64 h2, .int .i64 n2] 89)) := ⟨_, rfl⟩
  have hB : Below w.heap.size w W0 := by rw [hW]; exact (((Below.refl _ _).alloc (by simp) _).alloc (by simp) _)
  have b0_0 : ∀ x : Ext W0, x.val.cell? ⟨w.heap.size, 0, none⟩ = some (.int .i64 k1) := Ext.cells (by rw [hW]; exact heap_cell (heap_alloc_keep (heap_alloc_at _ _ (by simp)) _) 0)
  have b0_1 : ∀ x : Ext W0, x.val.cell? ⟨w.heap.size, 1, none⟩ = some (.bool l1) := Ext.cells (by rw [hW]; exact heap_cell (heap_alloc_keep (heap_alloc_at _ _ (by simp)) _) 1)
  have b0_2 : ∀ x : Ext W0, x.val.cell? ⟨w.heap.size, 2, none⟩ = some (.int .i64 h1) := Ext.cells (by rw [hW]; exact heap_cell (heap_alloc_keep (heap_alloc_at _ _ (by simp)) _) 2)
  have b0_3 : ∀ x : Ext W0, x.val.cell? ⟨w.heap.size, 3, none⟩ = some (.int .i64 n1) := Ext.cells (by rw [hW]; exact heap_cell (heap_alloc_keep (heap_alloc_at _ _ (by simp)) _) 3)
  have b1_0 : ∀ x : Ext W0, x.val.cell? ⟨w.heap.size + 1, 0, none⟩ = some (.int .i64 k2) := Ext.cells (by rw [hW]; exact heap_cell (heap_alloc_at _ _ (by simp)) 0)
  have b1_1 : ∀ x : Ext W0, x.val.cell? ⟨w.heap.size + 1, 1, none⟩ = some (.bool l2) := Ext.cells (by rw [hW]; exact heap_cell (heap_alloc_at _ _ (by simp)) 1)
  have b1_2 : ∀ x : Ext W0, x.val.cell? ⟨w.heap.size + 1, 2, none⟩ = some (.int .i64 h2) := Ext.cells (by rw [hW]; exact heap_cell (heap_alloc_at _ _ (by simp)) 2)
  have b1_3 : ∀ x : Ext W0, x.val.cell? ⟨w.heap.size + 1, 3, none⟩ = some (.int .i64 n2) := Ext.cells (by rw [hW]; exact heap_cell (heap_alloc_at _ _ (by simp)) 3)
  have HW := Lib.hid hW; have HB := Lib.hid hB
  clear hW hB
  have H := Lib.hid (ht.below HB.out)
  clear ht
  go_enter Tryz.func50, Tryz.ntmps50
  go_wp2_with fail
  rw [← HW.out]
  refine (Ext.call0 (absent_tab _ H.out)).mono ?_
  rintro e _ ⟨rfl, x1, rfl⟩
  go_wp2_with fail
  refine (Ext.call x1 (proper_tab T ⟨k1, l1, h1, n1⟩ _ (H.out.ext x1))).mono ?_
  rintro e _ ⟨rfl, x2, rfl⟩
  rcases g1 : properB (closedB (total gs)) ⟨k1, l1, h1, n1⟩ with _ | _
  · go_wp2
    go_ret
    exact ⟨retb (by simp [valB, g1]), HB.out.trans (x2.2.mono HB.out.size)⟩
  · have G1 := Lib.hid g1
    clear g1
    go_wp2_with fail
    refine (Ext.call x2 (proper_tab T ⟨k2, l2, h2, n2⟩ _ (H.out.ext x2))).mono ?_
    rintro e _ ⟨rfl, x3, rfl⟩
    rcases g2 : properB (closedB (total gs)) ⟨k2, l2, h2, n2⟩ with _ | _
    · go_wp2
      go_ret
      exact ⟨retb (by simp [valB, g2]), HB.out.trans (x3.2.mono HB.out.size)⟩
    · have G2 := Lib.hid g2
      clear g2
      by_cases e1 : k1 = 4
      · subst e1
        go_wp2
        go_ret
        exact ⟨retb (by simp [valB, G1.out, G2.out]), HB.out.trans (x3.2.mono HB.out.size)⟩
      · by_cases e2 : k1 = k2
        · subst e2
          have E1 := Lib.hid e1
          have e1' : (k1 == 4) = false := by simpa using e1
          clear e1
          by_cases e3 : k1 = 3
          · subst e3
            obtain ⟨nb, hn⟩ : ∃ b, neverB ⟨3, l1, h1, n1⟩ = b := ⟨_, rfl⟩
            have HN := Lib.hid hn
            clear hn e1'
            go_wp2_with fail
            refine (Ext.call x3 (never_any ⟨3, l1, h1, n1⟩ _)).mono ?_
            rintro e _ ⟨rfl, x4, rfl⟩
            rw [HN.out]
            cases nb
            · cases l1
              · go_wp2_with fail
                refine (Ext.call x4 (heap_k (hq ⟨h1, n1⟩ ⟨h2, n2⟩) (H.out.ext x4))).mono ?_
                rintro e _ ⟨rfl, x5, rfl⟩
                go_wp2
                go_ret
                exact ⟨retb (by simp [valB, G1.out, G2.out, HN.out]), HB.out.trans (x5.2.mono HB.out.size)⟩
              · cases l2
                · go_wp2
                  go_ret
                  exact ⟨retb (by simp [valB, G1.out, G2.out, HN.out]), HB.out.trans (x4.2.mono HB.out.size)⟩
                · go_wp2_with fail
                  refine (Ext.call x4 (heap_k (hq ⟨h1, n1⟩ ⟨h2, n2⟩) (H.out.ext x4))).mono ?_
                  rintro e _ ⟨rfl, x5, rfl⟩
                  go_wp2
                  go_ret
                  exact ⟨retb (by simp [valB, G1.out, G2.out, HN.out]), HB.out.trans (x5.2.mono HB.out.size)⟩
            · go_wp2
              go_ret
              exact ⟨retb (by simp [valB, G1.out, G2.out, HN.out]), HB.out.trans (x4.2.mono HB.out.size)⟩
          · have e3' : (k1 == 3) = false := by simpa using e3
            have e3'' : (k1 != 3) = true := by simpa using e3
            have E3 := Lib.hid e3
            clear e3
            go_wp2
            go_ret
            exact ⟨retb (by simp [valB, G1.out, G2.out, E1.out, E3.out]), HB.out.trans (x3.2.mono HB.out.size)⟩
        · have E1 := Lib.hid e1; have E2 := Lib.hid e2
          have e1' : (k1 == 4) = false := by simpa using e1
          have e2' : (k1 != k2) = true := by simpa using e2
          clear e1 e2
          go_wp2
          go_ret
          exact ⟨retb (by simp [valB, G1.out, G2.out, E1.out, E2.out]), HB.out.trans (x3.2.mono HB.out.size)⟩
theorem clos_tab {S R : Nat → Prop} {gs : List (List Sb)} {qB : Hp → Hp → Bool} (hq : HeapT gs qB) (T p : Nat) (a b : Vl) (w : World) (ht : TabK S R w T gs) (hp : w.cell? ⟨p, 0, none⟩ = some (.pointer (some ⟨T, 0, none⟩))) : Calls Tryz.prog 49 #[.agg (cellsV a).toArray, .agg (cellsV b).toArray, .pointer (some ⟨p, 0, none⟩)] w fun e w' => e = .returned (.bool (valB (closedB (total gs)) qB a b)) ∧ Below w.heap.size w w' := by
  obtain ⟨k1, l1, h1, n1⟩ := a
  obtain ⟨k2, l2, h2, n2⟩ := b
  simp only [cellsV]
  obtain ⟨W0, hW⟩ : ∃ W0 : World, W0 = ((w.alloc (.cells #[.int .i64 k1, .bool l1, .int .i64 h1, .int .i64 n1] 89)).alloc (.cells #[.int .i64 k2, .bool l2, .int .i64 h2, .int .i64 n2] 89)) := ⟨_, rfl⟩
  have hB : Below w.heap.size w W0 := by rw [hW]; exact (((Below.refl _ _).alloc (by simp) _).alloc (by simp) _)
  have b0_0 : ∀ x : Ext W0, x.val.cell? ⟨w.heap.size, 0, none⟩ = some (.int .i64 k1) := Ext.cells (by rw [hW]; exact heap_cell (heap_alloc_keep (heap_alloc_at _ _ (by simp)) _) 0)
  have b0_1 : ∀ x : Ext W0, x.val.cell? ⟨w.heap.size, 1, none⟩ = some (.bool l1) := Ext.cells (by rw [hW]; exact heap_cell (heap_alloc_keep (heap_alloc_at _ _ (by simp)) _) 1)
  have b0_2 : ∀ x : Ext W0, x.val.cell? ⟨w.heap.size, 2, none⟩ = some (.int .i64 h1) := Ext.cells (by rw [hW]; exact heap_cell (heap_alloc_keep (heap_alloc_at _ _ (by simp)) _) 2)
  have b0_3 : ∀ x : Ext W0, x.val.cell? ⟨w.heap.size, 3, none⟩ = some (.int .i64 n1) := Ext.cells (by rw [hW]; exact heap_cell (heap_alloc_keep (heap_alloc_at _ _ (by simp)) _) 3)
  have b1_0 : ∀ x : Ext W0, x.val.cell? ⟨w.heap.size + 1, 0, none⟩ = some (.int .i64 k2) := Ext.cells (by rw [hW]; exact heap_cell (heap_alloc_at _ _ (by simp)) 0)
  have b1_1 : ∀ x : Ext W0, x.val.cell? ⟨w.heap.size + 1, 1, none⟩ = some (.bool l2) := Ext.cells (by rw [hW]; exact heap_cell (heap_alloc_at _ _ (by simp)) 1)
  have b1_2 : ∀ x : Ext W0, x.val.cell? ⟨w.heap.size + 1, 2, none⟩ = some (.int .i64 h2) := Ext.cells (by rw [hW]; exact heap_cell (heap_alloc_at _ _ (by simp)) 2)
  have b1_3 : ∀ x : Ext W0, x.val.cell? ⟨w.heap.size + 1, 3, none⟩ = some (.int .i64 n2) := Ext.cells (by rw [hW]; exact heap_cell (heap_alloc_at _ _ (by simp)) 3)
  have HW := Lib.hid hW; have HB := Lib.hid hB
  clear hW hB
  have H := Lib.hid (ht.below HB.out)
  clear ht
  have hp2 : W0.cell? ⟨p, 0, none⟩ = some (.pointer (some ⟨T, 0, none⟩)) := by rw [HB.out.cell (World.block_lt_of_cell? _ _ hp)]; exact hp
  rw [HW.out] at hp2
  go_enter Tryz.func49, Tryz.ntmps49
  go_wp2_with fail
  rw [← HW.out]
  refine (Ext.call0 (val_tab hq T ⟨k1, l1, h1, n1⟩ ⟨k2, l2, h2, n2⟩ _ H.out)).mono ?_
  rintro e _ ⟨rfl, x1, rfl⟩
  go_wp2
  go_ret
  exact ⟨rfl, HB.out.trans (x1.2.mono HB.out.size)⟩
set_option maxHeartbeats 2000000 in
theorem equalFunc_tab {S R : Nat → Prop} {gs : List (List Sb)} {qB : Hp → Hp → Bool} (hq : HeapT gs qB) (T p : Nat) (a b : Value) (l m : List Vl) (w : World) (ha : ValsAt w a l) (hb : ValsAt w b m) (hl : l.length ≤ 1000000) (_ : m.length ≤ 1000000) (ht : TabK S R w T gs) (hp : w.cell? ⟨p, 0, none⟩ = some (.pointer (some ⟨T, 0, none⟩))) :
    Calls Tryz.prog 48 #[a, b, .func (.func 49) #[] #[.pointer (some ⟨p, 0, none⟩)]] w fun e w' => e = .returned (.bool (valsB (closedB (total gs)) qB l m)) ∧ Below w.heap.size w w' := by
  obtain ⟨ao, ca, rfl⟩ := RowAt.form ha
  obtain ⟨bo, cb, rfl⟩ := RowAt.form hb
  by_cases hlen : l.length = m.length
  · have HA := Lib.hid ha
    have HB := Lib.hid hb
    have HT := Lib.hid ht
    have HP := Lib.hid hp
    clear ha hb ht hp
    rw [← hlen]
    have HL := Lib.hid hlen
    clear hlen
    go_enter Tryz.func48, Tryz.ntmps48
    go_wp2
    go_loopw [17] (fun t17 wr => ∃ i : Nat, i ≤ l.length ∧ t17 = .int .i64 i ∧ (∀ j, j < i → valB (closedB (total gs)) qB (l.getD j zV) (m.getD j zV) = true) ∧ ∃ x : Ext w, wr = x.val) (fun t17 _ => l.length - (intOf t17).toNat)
    case atStart => exact ⟨0, by omega, rfl, fun j hj => by omega, ⟨_, Below.refl _ _⟩, rfl⟩
    case round =>
      obtain ⟨i, hi, rfl, hall, x, rfl⟩ := hrel
      have HALL := Lib.hid hall
      clear hall
      by_cases hlt : i < l.length
      · have hlt2 : i < m.length := by rw [← HL.out]; exact hlt
        obtain ⟨⟨k1, n1, h1, m1⟩, hx⟩ : ∃ x, l[i]? = some x := ⟨l[i], by simp [hlt]⟩
        obtain ⟨⟨k2, n2, h2, m2⟩, hy⟩ : ∃ y, m[i]? = some y := ⟨m[i], by simp [hlt2]⟩
        obtain ⟨b1, o1, e1, _, p0, p1, p2, p3⟩ := vals_at (HA.out.below x.2 (Nat.le_refl _)) hx
        obtain ⟨b2, o2, e2, nq, q0, q1, q2, q3⟩ := vals_at (HB.out.below x.2 (Nat.le_refl _)) hy
        subst e1 e2
        dsimp only at p0 p1 p2 p3 q0 q1 q2 q3
        have hx' : l.getD i zV = ⟨k1, n1, h1, m1⟩ := by rw [List.getD_eq_getElem?_getD, hx]; rfl
        have hy' : m.getD i zV = ⟨k2, n2, h2, m2⟩ := by rw [List.getD_eq_getElem?_getD, hy]; rfl
        have HX := Lib.hid hx'; have HY := Lib.hid hy'
        have hlt' : (i : Int) < l.length := by omega
        clear hx hy hx' hy' hlt2
        go_wp2_with fail
        have hb2 : Below w.heap.size w ((x.val.alloc (.cells #[.int .i64 k1, .bool n1, .int .i64 h1, .int .i64 m1] 89)).alloc (.cells #[.int .i64 k2, .bool n2, .int .i64 h2, .int .i64 m2] 89)) := (x.2.alloc x.2.size _).alloc (by have := x.2.size; simp; omega) _
        refine (Ext.call ⟨_, hb2⟩ (clos_tab hq T p ⟨k1, n1, h1, m1⟩ ⟨k2, n2, h2, m2⟩ _ (HT.out.below hb2) (by rw [hb2.cell (World.block_lt_of_cell? _ _ HP.out)]; exact HP.out))).mono ?_
        rintro e _ ⟨rfl, x2, rfl⟩
        rcases hv : valB (closedB (total gs)) qB ⟨k1, n1, h1, m1⟩ ⟨k2, n2, h2, m2⟩ with _ | _
        · have HV := Lib.hid hv
          clear hv
          go_wp2
          go_ret
          refine ⟨retb ?_, x2.2⟩
          symm
          simp only [valsB, Bool.and_eq_false_iff]
          right
          rw [List.all_eq_false]
          exact ⟨i, List.mem_range.2 hlt, by rw [HX.out, HY.out, HV.out]; simp⟩
        · have HV := Lib.hid hv
          clear hv
          go_wp2
          go_roundw
          case rel => exact ⟨i + 1, by omega, by go_num, fun j hj => by
            by_cases hji : j < i
            · exact HALL.out j hji
            · obtain rfl : j = i := by omega
              rw [HX.out, HY.out, HV.out], x2, rfl⟩
          case measure => simp [intOf]; omega
      · obtain rfl : i = l.length := by omega
        go_wp2
        go_ret
        refine ⟨retb ?_, x.2⟩
        symm
        simp only [valsB, Bool.and_eq_true, decide_eq_true_eq, List.all_eq_true, List.mem_range]
        exact ⟨HL.out, HALL.out⟩
  · have hne : valsB (closedB (total gs)) qB l m = false := by simp [valsB, hlen]
    have h1 : ((l.length : Int) != (m.length : Int)) = true := by simpa using fun h => hlen (by omega)
    have NE := Lib.hid hne
    clear hne ha hb hlen
    go_enter Tryz.func48, Tryz.ntmps48
    go_wp2
    go_ret
    exact ⟨retb NE.out.symm, Below.refl _ _⟩
theorem matches_tab {S R : Nat → Prop} {gs : List (List Sb)} {qB : Hp → Hp → Bool} (hq : HeapT gs qB) (T : Nat) (a b : Value) (l m : List Vl) (w : World) (ha : ValsAt w a l) (hb : ValsAt w b m) (hl : l.length ≤ 1000000) (hm : m.length ≤ 1000000) (ht : TabK S R w T gs) :
    Calls Tryz.prog 27 #[a, .pointer (some ⟨T, 0, none⟩), b] w fun e w' => e = .returned (.bool (valsB (closedB (total gs)) qB l m)) ∧ Below w.heap.size w w' := by
  have hmf : ∀ (fn : Fn) (first cap : Array Value) (w : World), (Instr.makeFunc fn first cap).run Tryz.prog w = .ok (.func fn first cap) w := fun _ _ _ _ => rfl
  obtain ⟨W0, hW⟩ : ∃ W0 : World, W0 = (w.alloc (.cells #[.pointer (some ⟨T, 0, none⟩)] 29)) := ⟨_, rfl⟩
  have hB : Below w.heap.size w W0 := by rw [hW]; exact ((Below.refl _ _).alloc (by simp) _)
  have b0_0 : ∀ x : Ext W0, x.val.cell? ⟨w.heap.size, 0, none⟩ = some (.pointer (some ⟨T, 0, none⟩)) := Ext.cells (by rw [hW]; exact heap_cell (heap_alloc_at _ _ (by simp)) 0)
  have HW := Lib.hid hW; have HB := Lib.hid hB
  clear hW hB
  have HA := Lib.hid (RowAt.below ha HB.out (Nat.le_refl _)); have HBv := Lib.hid (RowAt.below hb HB.out (Nat.le_refl _)); have HT := Lib.hid (ht.below HB.out)
  clear ha hb ht
  go_enter Tryz.func27, Tryz.ntmps27
  go_wp2_with fail
  rw [← HW.out]
  refine (Ext.call0 (equalFunc_tab hq T w.heap.size a b l m _ HA.out HBv.out hl hm HT.out (b0_0 ⟨_, Below.refl _ _⟩))).mono ?_
  rintro e _ ⟨rfl, x1, rfl⟩
  go_wp2
  go_ret
  exact ⟨rfl, HB.out.trans (x1.2.mono HB.out.size)⟩
end Go.Proofs.YtkgmfbfpmlnfcaaGreatDoor
