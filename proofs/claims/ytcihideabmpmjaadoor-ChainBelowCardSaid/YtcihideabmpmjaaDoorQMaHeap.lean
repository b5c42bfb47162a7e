/- package match: Heap. -/
import Derived.Test.YtcihideabmpmjaaDoorQMaClimb
namespace Go.Proofs.YtcihideabmpmjaaDoor
open Go.RowKit

theorem retr {r b : Bool} (h : b = true ↔ r = true) : Ending.returned (.bool b) = .returned (.bool r) := by
  cases b <;> cases r <;> simp_all
set_option maxHeartbeats 4000000 in
theorem heap_k {S R : Nat → Prop} {t : Nat} {gs : List (List Sb)} {h1 n1 h2 n2 : Int} {w : World} {r : Bool} (hr : r = true ↔ HeapP (tabL gs) ⟨h1, n1⟩ ⟨h2, n2⟩) (ht : TabK S R w t gs) :
    Calls Tryd.prog 20 #[.pointer (some ⟨t, 0, none⟩), .agg #[.int .i64 h1, .int .i64 n1], .agg #[.int .i64 h2, .int .i64 n2]] w fun e w' => e = .returned (.bool r) ∧ Below w.heap.size w w' := by
  obtain ⟨W0, hW⟩ : ∃ W0 : World, W0 = ((w.alloc (.cells #[.int .i64 h1, .int .i64 n1] 52)).alloc (.cells #[.int .i64 h2, .int .i64 n2] 52)) := ⟨_, rfl⟩
  have hB : Below w.heap.size w W0 := by rw [hW]; exact (((Below.refl _ _).alloc (by simp) _).alloc (by simp) _)
  have b0_0 : ∀ x : Ext W0, x.val.cell? ⟨w.heap.size, 0, none⟩ = some (.int .i64 h1) := Ext.cells (by rw [hW]; exact heap_cell (heap_alloc_keep (heap_alloc_at _ _ (by simp)) _) 0)
  have b0_1 : ∀ x : Ext W0, x.val.cell? ⟨w.heap.size, 1, none⟩ = some (.int .i64 n1) := Ext.cells (by rw [hW]; exact heap_cell (heap_alloc_keep (heap_alloc_at _ _ (by simp)) _) 1)
  have b1_0 : ∀ x : Ext W0, x.val.cell? ⟨w.heap.size + 1, 0, none⟩ = some (.int .i64 h2) := Ext.cells (by rw [hW]; exact heap_cell (heap_alloc_at _ _ (by simp)) 0)
  have b1_1 : ∀ x : Ext W0, x.val.cell? ⟨w.heap.size + 1, 1, none⟩ = some (.int .i64 n2) := Ext.cells (by rw [hW]; exact heap_cell (heap_alloc_at _ _ (by simp)) 1)
  have HW := Lib.hid hW; have HB := Lib.hid hB; have HR := Lib.hid hr
  clear hW hB hr
  have H := Lib.hid (ht.below HB.out)
  have HTL := Lib.hid (tabL_len gs)
  clear ht
  go_enter Tryd.func20, Tryd.ntmps20
  go_wp2_with fail
  rw [← HW.out]
  refine (Ext.call0 (absent_tab _ H.out)).mono ?_
  rintro e _ ⟨rfl, x1, rfl⟩
  go_wp2_with fail
  refine (Ext.call x1 (closed_tab h1 n1 _ (H.out.ext x1))).mono ?_
  rintro e _ ⟨rfl, x2, rfl⟩
  rcases g1 : closedB (total gs) ⟨h1, n1⟩ with _ | _
  · have G1 := Lib.hid g1
    clear g1
    go_wp2
    go_ret
    refine ⟨retr ?_, HB.out.trans (x2.2.mono HB.out.size)⟩
    rw [HR.out]
    refine ⟨fun h => by simp at h, fun h => ?_⟩
    have := closed_iff.2 h.1
    rw [HTL.out, G1.out] at this; cases this
  have G1 := Lib.hid g1
  clear g1
  go_wp2_with fail
  refine (Ext.call x2 (closed_tab h2 n2 _ (H.out.ext x2))).mono ?_
  rintro e _ ⟨rfl, x3, rfl⟩
  rcases g2 : closedB (total gs) ⟨h2, n2⟩ with _ | _
  · have G2 := Lib.hid g2
    clear g2
    go_wp2
    go_ret
    refine ⟨retr ?_, HB.out.trans (x3.2.mono HB.out.size)⟩
    rw [HR.out]
    refine ⟨fun h => by simp at h, fun h => ?_⟩
    have := closed_iff.2 h.2.1
    rw [HTL.out, G2.out] at this; cases this
  have G2 := Lib.hid g2
  clear g2
  have c1 : ClosedP (tabL gs).length ⟨h1, n1⟩ := closed_iff.1 (by rw [HTL.out]; exact G1.out)
  have c2 : ClosedP (tabL gs).length ⟨h2, n2⟩ := closed_iff.1 (by rw [HTL.out]; exact G2.out)
  have hr := HR.out
  have C1 := Lib.hid c1; have C2 := Lib.hid c2
  by_cases he : h1 = h2 ∧ n1 = n2
  · obtain ⟨rfl, rfl⟩ := he
    have hrt : r = true := hr.2 ⟨c1, c2, .inl rfl⟩
    subst hrt
    clear hr c1 c2
    go_wp2
    go_ret
    exact ⟨rfl, HB.out.trans (x3.2.mono HB.out.size)⟩
  have hne : ¬ ((⟨h1, n1⟩ : Hp) = ⟨h2, n2⟩) := fun e => he (by simpa using e)
  by_cases k1 : h1 = 15
  · subst k1
    have hn1 : 0 ≤ n1 ∧ n1 < total gs := by
      rcases c1 with c1 | c1
      · have := c1.2.1; simp at this
      · rw [HTL.out] at c1; exact c1.2
    obtain ⟨m1, rfl⟩ : ∃ m : Nat, n1 = m := ⟨n1.toNat, by omega⟩
    have hr2 : r = true ↔ ClimbP (tabL gs) m1 ⟨h2, n2⟩ := by
      rw [hr]
      constructor
      · rintro ⟨_, _, h | ⟨_, h⟩ | ⟨h, _⟩ | ⟨h, _⟩⟩
        · exact absurd h hne
        · simpa using h
        · exact absurd rfl h
        · exact absurd rfl h
      · intro h
        exact ⟨c1, c2, .inr (.inl ⟨rfl, by simpa using h⟩)⟩
    have HM1 := Lib.hid hn1; have HR2 := Lib.hid hr2
    have he2 : h2 = 15 → ¬ ((m1 : Int) = n2) := fun e1 e2 => he ⟨e1.symm, e2⟩
    clear hr hr2 c1 c2 hne he hn1
    by_cases k2 : h2 = 15
    · subst k2
      have hmn : ((m1 : Int) == n2) = false := by simpa using he2 rfl
      clear he2
      go_wp2_with fail
      refine (Ext.call x3 (climbs_any _ (H.out.ext x3) m1 (by have := HM1.out; omega) ⟨15, n2⟩ r HR2.out)).mono ?_
      rintro e _ ⟨rfl, x4, rfl⟩
      go_wp2
      go_ret
      exact ⟨rfl, HB.out.trans (x4.2.mono HB.out.size)⟩
    · have hk2 : ((15 : Int) == h2) = false := by simp; omega
      clear he2
      go_wp2_with fail
      refine (Ext.call x3 (climbs_any _ (H.out.ext x3) m1 (by have := HM1.out; omega) ⟨h2, n2⟩ r HR2.out)).mono ?_
      rintro e _ ⟨rfl, x4, rfl⟩
      go_wp2
      go_ret
      exact ⟨rfl, HB.out.trans (x4.2.mono HB.out.size)⟩
  by_cases k2 : h2 = 15
  · subst k2
    have hn2 : 0 ≤ n2 ∧ n2 < total gs := by
      rcases c2 with c2 | c2
      · have := c2.2.1; simp at this
      · rw [HTL.out] at c2; exact c2.2
    obtain ⟨m2, rfl⟩ : ∃ m : Nat, n2 = m := ⟨n2.toNat, by omega⟩
    obtain ⟨y, hy⟩ : ∃ y, (tabL gs)[m2]? = some y := ⟨(tabL gs)[m2]'(by rw [tabL_len]; omega), by simp⟩
    have hr2 : r = true ↔ h1 = (fam (kindK y.k)).2 := by
      rw [hr]
      constructor
      · rintro ⟨_, _, h | ⟨h, _⟩ | ⟨_, _, s, hs, h⟩ | ⟨_, h, _⟩⟩
        · exact absurd h hne
        · exact absurd h k1
        · simp at hs
          rw [hy] at hs
          obtain rfl := Option.some.inj hs
          exact h
        · exact absurd rfl h
      · intro h
        exact ⟨c1, c2, .inr (.inr (.inl ⟨k1, rfl, y, by simpa using hy, h⟩))⟩
    have HR2 := Lib.hid hr2; have HY := Lib.hid hy
    have hk1 : (h1 == 15) = false := by simpa using k1
    clear hr hr2 c1 c2 hne he hn2 k1 hy
    go_wp2_with fail
    refine (get_k (H.out.ext x3) HY.out).mono ?_
    rintro e w4 ⟨ds, rfl, hsub, hb4⟩
    obtain ⟨a1, l1, a2, l2, a3, l3, a4, l4, rfl⟩ := (hsub w4 (Upd.refl _ _)).out
    have hbx : Below W0.heap.size W0 (w4.alloc (.cells #[.bool y.fin, .slice a1 y.sups.length l1, .int .i64 y.k, .slice a2 y.ps.length l2, .slice a3 y.rs.length l3, .slice a4 y.fs.length l4] 41)) := (x3.2.trans (hb4.mono x3.2.size)).alloc (by have := x3.2.size; have := hb4.size; omega) _
    have HBX := Lib.hid hbx
    clear hsub hb4 hbx
    go_wp2_with fail
    refine (Ext.call ⟨_, HBX.out⟩ (kindOf_any y.fin _ _ _ _ y.k _)).mono ?_
    rintro e _ ⟨rfl, x5, rfl⟩
    go_wp2_with fail
    refine (family_any _ _).mono ?_
    rintro e w' ⟨rfl, rfl⟩
    by_cases hf : h1 = (fam (kindK y.k)).2
    · have hrt : r = true := HR2.out.2 hf
      subst hrt
      have hf' : (h1 == (fam (kindK y.k)).2) = true := by simpa using hf
      clear hf
      go_wp2
      go_ret
      exact ⟨retr (by simp_all), HB.out.trans (x5.2.mono HB.out.size)⟩
    · have hrf : r = false := by cases r; rfl; exact absurd (HR2.out.1 rfl) hf
      subst hrf
      have hf' : (h1 == (fam (kindK y.k)).2) = false := by simpa using hf
      clear hf
      go_wp2
      go_ret
      exact ⟨retr (by simp_all), HB.out.trans (x5.2.mono HB.out.size)⟩
  · have hr2 : r = true ↔ belowB h1 h2 = true := by
      rw [hr]
      constructor
      · rintro ⟨_, _, h | ⟨h, _⟩ | ⟨_, h, _⟩ | ⟨_, _, h⟩⟩
        · exact absurd h hne
        · exact absurd h k1
        · exact absurd h k2
        · exact h
      · intro h
        exact ⟨c1, c2, .inr (.inr (.inr ⟨k1, k2, h⟩))⟩
    have HR2 := Lib.hid hr2
    have hk1 : (h1 == 15) = false := by simpa using k1
    have hk2 : (h2 == 15) = false := by simpa using k2
    clear hr hr2 c1 c2 hne k1 k2
    by_cases e1 : h1 = h2
    · subst e1
      have e2 : (n1 == n2) = false := by simpa using he
      clear he
      go_wp2_with (first | (go_at_call 38; with_reducible refine (below_any _ _ _).mono ?_; rintro e w' ⟨rfl, rfl⟩) | fail)
      go_ret
      exact ⟨retr HR2.out.symm, HB.out.trans (x3.2.mono HB.out.size)⟩
    · have e2 : (h1 == h2) = false := by simpa using e1
      clear he e1
      go_wp2_with (first | (go_at_call 38; with_reducible refine (below_any _ _ _).mono ?_; rintro e w' ⟨rfl, rfl⟩) | fail)
      go_ret
      exact ⟨retr HR2.out.symm, HB.out.trans (x3.2.mono HB.out.size)⟩
end Go.Proofs.YtcihideabmpmjaaDoor
