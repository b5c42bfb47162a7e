import Derived.Test.YtpddbaijnjbfdaaGreatDoorQMaClimb
namespace Go.Proofs.YtpddbaijnjbfdaaGreatDoor
open Lib (hid)
section
open Go.RowKit
theorem retr {r b : Bool} (h : b = true ↔ r = true) : Ending.returned (.bool b) = .returned (.bool r) := by
  cases b <;> cases r <;> simp_all
set_option maxHeartbeats 4000000 in
theorem heap_k {S R : Nat → Prop} {t : Nat} {gs : List (List Sb)} {h1 n1 h2 n2 : Int} {w : World} {r : Bool} (hr : r = true ↔ HeapP (tabL gs) ⟨h1, n1⟩ ⟨h2, n2⟩) (ht : TabK S R w t gs) :
    Calls Tryz.prog 131 #[.pointer (some ⟨t, 0, none⟩), .agg #[.int .i64 h1, .int .i64 n1], .agg #[.int .i64 h2, .int .i64 n2]] w fun e w' => e = .returned (.bool r) ∧ Below w.heap.size w w' := by
  obtain ⟨W0, hW⟩ : ∃ W0 : World, W0 = ((w.alloc (.cells #[.int .i64 h1, .int .i64 n1] 75)).alloc (.cells #[.int .i64 h2, .int .i64 n2] 75)) := ⟨_, rfl⟩
  have hB : Below w.heap.size w W0 := by rw [hW]; exact (((Below.refl _ _).alloc (by simp) _).alloc (by simp) _)
  have b0_0 : ∀ x : Ext W0, x.val.cell? ⟨w.heap.size, 0, none⟩ = some (.int .i64 h1) := Ext.cells (by rw [hW]; exact heap_cell (heap_alloc_keep (heap_alloc_at _ _ (by simp)) _) 0)
  have b0_1 : ∀ x : Ext W0, x.val.cell? ⟨w.heap.size, 1, none⟩ = some (.int .i64 n1) := Ext.cells (by rw [hW]; exact heap_cell (heap_alloc_keep (heap_alloc_at _ _ (by simp)) _) 1)
  have b1_0 : ∀ x : Ext W0, x.val.cell? ⟨w.heap.size + 1, 0, none⟩ = some (.int .i64 h2) := Ext.cells (by rw [hW]; exact heap_cell (heap_alloc_at _ _ (by simp)) 0)
  have b1_1 : ∀ x : Ext W0, x.val.cell? ⟨w.heap.size + 1, 1, none⟩ = some (.int .i64 n2) := Ext.cells (by rw [hW]; exact heap_cell (heap_alloc_at _ _ (by simp)) 1)
  have HW := hid hW; have HB := hid hB; have HR := hid hr
  clear hW hB hr
  have H := hid (ht.below HB.out)
  have HTL := hid (tabL_len gs)
  clear ht
  go_enter Tryz.func131, Tryz.ntmps131
  go_wp2_with fail
  rw [← HW.out]
  refine (Ext.call0 (absent_tab _ H.out)).mono ?_
  rintro e _ ⟨rfl, x1, rfl⟩
  go_wp2_with fail
  refine (Ext.call x1 (closed_tab h1 n1 _ (H.out.ext x1))).mono ?_
  rintro e _ ⟨rfl, x2, rfl⟩
  rcases g1 : closedB (total gs) ⟨h1, n1⟩ with _ | _
  · have G1 := hid g1
    clear g1
    go_wp2
    go_ret
    refine ⟨retr ?_, HB.out.trans (x2.2.mono HB.out.size)⟩
    rw [HR.out]
    refine ⟨fun h => by simp at h, fun h => ?_⟩
    have := closed_iff.2 h.1
    rw [HTL.out, G1.out] at this; cases this
  have G1 := hid g1
  clear g1
  go_wp2_with fail
  refine (Ext.call x2 (closed_tab h2 n2 _ (H.out.ext x2))).mono ?_
  rintro e _ ⟨rfl, x3, rfl⟩
  rcases g2 : closedB (total gs) ⟨h2, n2⟩ with _ | _
  · have G2 := hid g2
    clear g2
    go_wp2
    go_ret
    refine ⟨retr ?_, HB.out.trans (x3.2.mono HB.out.size)⟩
    rw [HR.out]
    refine ⟨fun h => by simp at h, fun h => ?_⟩
    have := closed_iff.2 h.2.1
    rw [HTL.out, G2.out] at this; cases this
  have G2 := hid g2
  clear g2
  have c1 : ClosedP (tabL gs).length ⟨h1, n1⟩ := closed_iff.1 (by rw [HTL.out]; exact G1.out)
  have c2 : ClosedP (tabL gs).length ⟨h2, n2⟩ := closed_iff.1 (by rw [HTL.out]; exact G2.out)
  have hr := HR.out
  have C1 := hid c1; have C2 := hid c2
  by_cases he : h1 = h2 ∧ n1 = n2
  · obtain ⟨rfl, rfl⟩ := he
    have hrt : r = true := hr.2 ⟨c1, c2, .inl rfl⟩
    subst hrt
    clear hr c1 c2
    go_wp2
    go_ret
    exact ⟨rfl, HB.out.trans (x3.2.mono HB.out.size)⟩
  have hne : ¬ ((⟨h1, n1⟩ : Hp) = ⟨h2, n2⟩) := fun e => he (by simpa using e)
  by_cases k1 : h1 = 15
  · subst k1
    have hn1 : 0 ≤ n1 ∧ n1 < total gs := by
      rcases c1 with c1 | c1
      · have := c1.2.1; simp at this
      · rw [HTL.out] at c1; exact c1.2
    obtain ⟨m1, rfl⟩ : ∃ m : Nat, n1 = m := ⟨n1.toNat, by omega⟩
    have hr2 : r = true ↔ ClimbP (tabL gs) m1 ⟨h2, n2⟩ := by
      rw [hr]
      constructor
      · rintro ⟨_, _, h | ⟨_, h⟩ | ⟨h, _⟩ | ⟨h, _⟩⟩
        · exact absurd h hne
        · simpa using h
        · exact absurd rfl h
        · exact absurd rfl h
      · intro h
        exact ⟨c1, c2, .inr (.inl ⟨rfl, by simpa using h⟩)⟩
    have HM1 := hid hn1; have HR2 := hid hr2
    have he2 : h2 = 15 → ¬ ((m1 : Int) = n2) := fun e1 e2 => he ⟨e1.symm, e2⟩
    clear hr hr2 c1 c2 hne he hn1
    by_cases k2 : h2 = 15
    · subst k2
      have hmn : ((m1 : Int) == n2) = false := by simpa using he2 rfl
      clear he2
      go_wp2_with fail
      refine (Ext.call x3 (climbs_any _ (H.out.ext x3) m1 (by have := HM1.out; omega) ⟨15, n2⟩ r HR2.out)).mono ?_
      rintro e _ ⟨rfl, x4, rfl⟩
      go_wp2
      go_ret
      exact ⟨rfl, HB.out.trans (x4.2.mono HB.out.size)⟩
    · have hk2 : ((15 : Int) == h2) = false := by simp; omega
      clear he2
      go_wp2_with fail
      refine (Ext.call x3 (climbs_any _ (H.out.ext x3) m1 (by have := HM1.out; omega) ⟨h2, n2⟩ r HR2.out)).mono ?_
      rintro e _ ⟨rfl, x4, rfl⟩
      go_wp2
      go_ret
      exact ⟨rfl, HB.out.trans (x4.2.mono HB.out.size)⟩
  by_cases k2 : h2 = 15
  · subst k2
    have hn2 : 0 ≤ n2 ∧ n2 < total gs := by
      rcases c2 with c2 | c2
      · have := c2.2.1; simp at this
      · rw [HTL.out] at c2; exact c2.2
    obtain ⟨m2, rfl⟩ : ∃ m : Nat, n2 = m := ⟨n2.toNat, by omega⟩
    obtain ⟨y, hy⟩ : ∃ y, (tabL gs)[m2]? = some y := ⟨(tabL gs)[m2]'(by rw [tabL_len]; omega), by simp⟩
    have hr2 : r = true ↔ h1 = (fam (kindK y.k)).2 := by
      rw [hr]
      constructor
      · rintro ⟨_, _, h | ⟨h, _⟩ | ⟨_, _, s, hs, h⟩ | ⟨_, h, _⟩⟩
        · exact absurd h hne
        · exact absurd h k1
        · simp at hs
          rw [hy] at hs
          obtain rfl := Option.some.inj hs
          exact h
        · exact absurd rfl h
      · intro h
        exact ⟨c1, c2, .inr (.inr (.inl ⟨k1, rfl, y, by simpa using hy, h⟩))⟩
    have HR2 := hid hr2; have HY := hid hy
    have hk1 : (h1 == 15) = false := by simpa using k1
    clear hr hr2 c1 c2 hne he hn2 k1 hy
    go_wp2_with fail
    refine (get_k (H.out.ext x3) HY.out).mono ?_
    rintro e w4 ⟨ds, rfl, hsub, hb4⟩
    obtain ⟨a1, l1, a2, l2, a3, l3, a4, l4, rfl⟩ := (hsub w4 (Upd.refl _ _)).out
    have hbx : Below W0.heap.size W0 (w4.alloc (.cells #[.bool y.fin, .slice a1 y.sups.length l1, .int .i64 y.k, .slice a2 y.ps.length l2, .slice a3 y.rs.length l3, .slice a4 y.fs.length l4] 46)) := (x3.2.trans (hb4.mono x3.2.size)).alloc (by have := x3.2.size; have := hb4.size; omega) _
    have HBX := hid hbx
    clear hsub hb4 hbx
    go_wp2_with fail
    refine (Ext.call ⟨_, HBX.out⟩ (kindOf_any y.fin _ _ _ _ y.k _)).mono ?_
    rintro e _ ⟨rfl, x5, rfl⟩
    go_wp2_with fail
    refine (family_any _ _).mono ?_
    rintro e w' ⟨rfl, rfl⟩
    by_cases hf : h1 = (fam (kindK y.k)).2
    · have hrt : r = true := HR2.out.2 hf
      subst hrt
      have hf' : (h1 == (fam (kindK y.k)).2) = true := by simpa using hf
      clear hf
      go_wp2
      go_ret
      exact ⟨retr (by simp_all), HB.out.trans (x5.2.mono HB.out.size)⟩
    · have hrf : r = false := by cases r; rfl; exact absurd (HR2.out.1 rfl) hf
      subst hrf
      have hf' : (h1 == (fam (kindK y.k)).2) = false := by simpa using hf
      clear hf
      go_wp2
      go_ret
      exact ⟨retr (by simp_all), HB.out.trans (x5.2.mono HB.out.size)⟩
  · have hr2 : r = true ↔ belowB h1 h2 = true := by
      rw [hr]
      constructor
      · rintro ⟨_, _, h | ⟨h, _⟩ | ⟨_, h, _⟩ | ⟨_, _, h⟩⟩
        · exact absurd h hne
        · exact absurd h k1
        · exact absurd h k2
        · exact h
      · intro h
        exact ⟨c1, c2, .inr (.inr (.inr ⟨k1, k2, h⟩))⟩
    have HR2 := hid hr2
    have hk1 : (h1 == 15) = false := by simpa using k1
    have hk2 : (h2 == 15) = false := by simpa using k2
    clear hr hr2 c1 c2 hne k1 k2
    by_cases e1 : h1 = h2
    · subst e1
      have e2 : (n1 == n2) = false := by simpa using he
      clear he
      go_wp2_with (first | (go_at_call 143; with_reducible refine (below_any _ _ _).mono ?_; rintro e w' ⟨rfl, rfl⟩) | fail)
      go_ret
      exact ⟨retr HR2.out.symm, HB.out.trans (x3.2.mono HB.out.size)⟩
    · have e2 : (h1 == h2) = false := by simpa using e1
      clear he e1
      go_wp2_with (first | (go_at_call 143; with_reducible refine (below_any _ _ _).mono ?_; rintro e w' ⟨rfl, rfl⟩) | fail)
      go_ret
      exact ⟨retr HR2.out.symm, HB.out.trans (x3.2.mono HB.out.size)⟩
end
section
open Go.RowKit
def properB (cB : Hp → Bool) (v : Vl) : Bool := if v.k = 3 then neverB v || cB ⟨v.h, v.n⟩ else decide (1 ≤ v.k) && decide (v.k ≤ 4) && decide (v = ⟨v.k, false, 0, 0⟩)
def valB (cB : Hp → Bool) (hB : Hp → Hp → Bool) (a b : Vl) : Bool := properB cB a && properB cB b && (if a.k = 4 then true else if a.k ≠ b.k then false else if a.k ≠ 3 ∨ neverB a = true then true else (!a.nl || b.nl) && hB ⟨a.h, a.n⟩ ⟨b.h, b.n⟩)
def zV : Vl := ⟨0, false, 0, 0⟩
def valsB (cB : Hp → Bool) (hB : Hp → Hp → Bool) (l m : List Vl) : Bool := decide (l.length = m.length) && (List.range l.length).all fun i => valB cB hB (l.getD i zV) (m.getD i zV)
def HeapT (gs : List (List Sb)) (hB : Hp → Hp → Bool) : Prop := ∀ a b, hB a b = true ↔ HeapP (tabL gs) a b
set_option maxHeartbeats 1000000 in
theorem proper_tab {S R : Nat → Prop} {gs : List (List Sb)} (T : Nat) (v : Vl) (w : World) (ht : TabK S R w T gs) : Calls Tryz.prog 129 #[.pointer (some ⟨T, 0, none⟩), .agg (cellsV v).toArray] w fun e w' => e = .returned (.bool (properB (closedB (total gs)) v)) ∧ Below w.heap.size w w' := by
  obtain ⟨k, nl, h, n⟩ := v
  simp only [cellsV]
  obtain ⟨W0, hW⟩ : ∃ W0 : World, W0 = (w.alloc (.cells #[.int .i64 k, .bool nl, .int .i64 h, .int .i64 n] 77)) := ⟨_, rfl⟩
  have hB : Below w.heap.size w W0 := by rw [hW]; exact ((Below.refl _ _).alloc (by simp) _)
  have b0_0 : ∀ x : Ext W0, x.val.cell? ⟨w.heap.size, 0, none⟩ = some (.int .i64 k) := Ext.cells (by rw [hW]; exact heap_cell (heap_alloc_at _ _ (by simp)) 0)
  have b0_1 : ∀ x : Ext W0, x.val.cell? ⟨w.heap.size, 1, none⟩ = some (.bool nl) := Ext.cells (by rw [hW]; exact heap_cell (heap_alloc_at _ _ (by simp)) 1)
  have b0_2 : ∀ x : Ext W0, x.val.cell? ⟨w.heap.size, 2, none⟩ = some (.int .i64 h) := Ext.cells (by rw [hW]; exact heap_cell (heap_alloc_at _ _ (by simp)) 2)
  have b0_3 : ∀ x : Ext W0, x.val.cell? ⟨w.heap.size, 3, none⟩ = some (.int .i64 n) := Ext.cells (by rw [hW]; exact heap_cell (heap_alloc_at _ _ (by simp)) 3)
  have HW := hid hW; have HB := hid hB
  clear hW hB
  have H := hid (ht.below HB.out)
  clear ht
  by_cases hk : k = 3
  · obtain ⟨b, hb⟩ : ∃ b, neverB ⟨k, nl, h, n⟩ = b := ⟨_, rfl⟩
    subst hk
    have HN := hid hb
    clear hb
    go_enter Tryz.func129, Tryz.ntmps129
    go_wp2_with fail
    rw [← HW.out]
    refine (Ext.call0 (never_any ⟨3, nl, h, n⟩ _)).mono ?_
    rintro e _ ⟨rfl, x1, rfl⟩
    rw [HN.out]
    cases b
    · go_wp2_with fail
      refine (Ext.call x1 (closed_tab h n _ (H.out.ext x1))).mono ?_
      rintro e _ ⟨rfl, x2, rfl⟩
      go_wp2
      go_ret
      exact ⟨retb (by simp [properB, HN.out]), HB.out.trans (x2.2.mono HB.out.size)⟩
    · go_wp2
      go_ret
      exact ⟨retb (by simp [properB, HN.out]), HB.out.trans (x1.2.mono HB.out.size)⟩
  · have hk2 : (k == 3) = false := by simpa using hk
    have HK := hid hk
    clear hk
    go_enter Tryz.func129, Tryz.ntmps129
    go_wp2
    all_goals
      go_ret
      refine ⟨retb ?_, (Below.refl _ _).alloc (Nat.le_refl _) _⟩
      have := HK.out
      unfold properB
      rw [if_neg (by exact HK.out)]
      first | (simp_all; done) | (simp_all; omega) | (rw [Bool.eq_iff_iff]; simp_all; done)
set_option maxHeartbeats 2000000 in
theorem val_tab {S R : Nat → Prop} {gs : List (List Sb)} {qB : Hp → Hp → Bool} (hq : HeapT gs qB) (T : Nat) (a b : Vl) (w : World) (ht : TabK S R w T gs) : Calls Tryz.prog 117 #[.pointer (some ⟨T, 0, none⟩), .agg (cellsV a).toArray, .agg (cellsV b).toArray] w fun e w' => e = .returned (.bool (valB (closedB (total gs)) qB a b)) ∧ Below w.heap.size w w' := by
  obtain ⟨k1, l1, h1, n1⟩ := a
  obtain ⟨k2, l2, h2, n2⟩ := b
  simp only [cellsV]
  obtain ⟨W0, hW⟩ : ∃ W0 : World, W0 = ((w.alloc (.cells #[.int .i64 k1, .bool l1, .int .i64 h1, .int .i64 n1] 77)).alloc (.cells #[.int .i64 k2, .bool l2, .int .i64 h2, .int .i64 n2] 77)) := ⟨_, rfl⟩
  have hB : Below w.heap.size w W0 := by rw [hW]; exact (((Below.refl _ _).alloc (by simp) _).alloc (by simp) _)
  have b0_0 : ∀ x : Ext W0, x.val.cell? ⟨w.heap.size, 0, none⟩ = some (.int .i64 k1) := Ext.cells (by rw [hW]; exact heap_cell (heap_alloc_keep (heap_alloc_at _ _ (by simp)) _) 0)
  have b0_1 : ∀ x : Ext W0, x.val.cell? ⟨w.heap.size, 1, none⟩ = some (.bool l1) := Ext.cells (by rw [hW]; exact heap_cell (heap_alloc_keep (heap_alloc_at _ _ (by simp)) _) 1)
  have b0_2 : ∀ x : Ext W0, x.val.cell? ⟨w.heap.size, 2, none⟩ = some (.int .i64 h1) := Ext.cells (by rw [hW]; exact heap_cell (heap_alloc_keep (heap_alloc_at _ _ (by simp)) _) 2)
  have b0_3 : ∀ x : Ext W0, x.val.cell? ⟨w.heap.size, 3, none⟩ = some (.int .i64 n1) := Ext.cells (by rw [hW]; exact heap_cell (heap_alloc_keep (heap_alloc_at _ _ (by simp)) _) 3)
  have b1_0 : ∀ x : Ext W0, x.val.cell? ⟨w.heap.size + 1, 0, none⟩ = some (.int .i64 k2) := Ext.cells (by rw [hW]; exact heap_cell (heap_alloc_at _ _ (by simp)) 0)
  have b1_1 : ∀ x : Ext W0, x.val.cell? ⟨w.heap.size + 1, 1, none⟩ = some (.bool l2) := Ext.cells (by rw [hW]; exact heap_cell (heap_alloc_at _ _ (by simp)) 1)
  have b1_2 : ∀ x : Ext W0, x.val.cell? ⟨w.heap.size + 1, 2, none⟩ = some (.int .i64 h2) := Ext.cells (by rw [hW]; exact heap_cell (heap_alloc_at _ _ (by simp)) 2)
  have b1_3 : ∀ x : Ext W0, x.val.cell? ⟨w.heap.size + 1, 3, none⟩ = some (.int .i64 n2) := Ext.cells (by rw [hW]; exact heap_cell (heap_alloc_at _ _ (by simp)) 3)
  have HW := hid hW; have HB := hid hB
  clear hW hB
  have H := hid (ht.below HB.out)
  clear ht
  go_enter Tryz.func117, Tryz.ntmps117
  go_wp2_with fail
  rw [← HW.out]
  refine (Ext.call0 (absent_tab _ H.out)).mono ?_
  rintro e _ ⟨rfl, x1, rfl⟩
  go_wp2_with fail
  refine (Ext.call x1 (proper_tab T ⟨k1, l1, h1, n1⟩ _ (H.out.ext x1))).mono ?_
  rintro e _ ⟨rfl, x2, rfl⟩
  rcases g1 : properB (closedB (total gs)) ⟨k1, l1, h1, n1⟩ with _ | _
  · go_wp2
    go_ret
    exact ⟨retb (by simp [valB, g1]), HB.out.trans (x2.2.mono HB.out.size)⟩
  · have G1 := hid g1
    clear g1
    go_wp2_with fail
    refine (Ext.call x2 (proper_tab T ⟨k2, l2, h2, n2⟩ _ (H.out.ext x2))).mono ?_
    rintro e _ ⟨rfl, x3, rfl⟩
    rcases g2 : properB (closedB (total gs)) ⟨k2, l2, h2, n2⟩ with _ | _
    · go_wp2
      go_ret
      exact ⟨retb (by simp [valB, g2]), HB.out.trans (x3.2.mono HB.out.size)⟩
    · have G2 := hid g2
      clear g2
      by_cases e1 : k1 = 4
      · subst e1
        go_wp2
        go_ret
        exact ⟨retb (by simp [valB, G1.out, G2.out]), HB.out.trans (x3.2.mono HB.out.size)⟩
      · by_cases e2 : k1 = k2
        · subst e2
          have E1 := hid e1
          have e1' : (k1 == 4) = false := by simpa using e1
          clear e1
          by_cases e3 : k1 = 3
          · subst e3
            obtain ⟨nb, hn⟩ : ∃ b, neverB ⟨3, l1, h1, n1⟩ = b := ⟨_, rfl⟩
            have HN := hid hn
            clear hn e1'
            go_wp2_with fail
            refine (Ext.call x3 (never_any ⟨3, l1, h1, n1⟩ _)).mono ?_
            rintro e _ ⟨rfl, x4, rfl⟩
            rw [HN.out]
            cases nb
            · cases l1
              · go_wp2_with fail
                refine (Ext.call x4 (heap_k (hq ⟨h1, n1⟩ ⟨h2, n2⟩) (H.out.ext x4))).mono ?_
                rintro e _ ⟨rfl, x5, rfl⟩
                go_wp2
                go_ret
                exact ⟨retb (by simp [valB, G1.out, G2.out, HN.out]), HB.out.trans (x5.2.mono HB.out.size)⟩
              · cases l2
                · go_wp2
                  go_ret
                  exact ⟨retb (by simp [valB, G1.out, G2.out, HN.out]), HB.out.trans (x4.2.mono HB.out.size)⟩
                · go_wp2_with fail
                  refine (Ext.call x4 (heap_k (hq ⟨h1, n1⟩ ⟨h2, n2⟩) (H.out.ext x4))).mono ?_
                  rintro e _ ⟨rfl, x5, rfl⟩
                  go_wp2
                  go_ret
                  exact ⟨retb (by simp [valB, G1.out, G2.out, HN.out]), HB.out.trans (x5.2.mono HB.out.size)⟩
            · go_wp2
              go_ret
              exact ⟨retb (by simp [valB, G1.out, G2.out, HN.out]), HB.out.trans (x4.2.mono HB.out.size)⟩
          · have e3' : (k1 == 3) = false := by simpa using e3
            have e3'' : (k1 != 3) = true := by simpa using e3
            have E3 := hid e3
            clear e3
            go_wp2
            go_ret
            exact ⟨retb (by simp [valB, G1.out, G2.out, E1.out, E3.out]), HB.out.trans (x3.2.mono HB.out.size)⟩
        · have E1 := hid e1; have E2 := hid e2
          have e1' : (k1 == 4) = false := by simpa using e1
          have e2' : (k1 != k2) = true := by simpa using e2
          clear e1 e2
          go_wp2
          go_ret
          exact ⟨retb (by simp [valB, G1.out, G2.out, E1.out, E2.out]), HB.out.trans (x3.2.mono HB.out.size)⟩
theorem clos_tab {S R : Nat → Prop} {gs : List (List Sb)} {qB : Hp → Hp → Bool} (hq : HeapT gs qB) (T p : Nat) (a b : Vl) (w : World) (ht : TabK S R w T gs) (hp : w.cell? ⟨p, 0, none⟩ = some (.pointer (some ⟨T, 0, none⟩))) : Calls Tryz.prog 116 #[.agg (cellsV a).toArray, .agg (cellsV b).toArray, .pointer (some ⟨p, 0, none⟩)] w fun e w' => e = .returned (.bool (valB (closedB (total gs)) qB a b)) ∧ Below w.heap.size w w' := by
  obtain ⟨k1, l1, h1, n1⟩ := a
  obtain ⟨k2, l2, h2, n2⟩ := b
  simp only [cellsV]
  obtain ⟨W0, hW⟩ : ∃ W0 : World, W0 = ((w.alloc (.cells #[.int .i64 k1, .bool l1, .int .i64 h1, .int .i64 n1] 77)).alloc (.cells #[.int .i64 k2, .bool l2, .int .i64 h2, .int .i64 n2] 77)) := ⟨_, rfl⟩
  have hB : Below w.heap.size w W0 := by rw [hW]; exact (((Below.refl _ _).alloc (by simp) _).alloc (by simp) _)
  have b0_0 : ∀ x : Ext W0, x.val.cell? ⟨w.heap.size, 0, none⟩ = some (.int .i64 k1) := Ext.cells (by rw [hW]; exact heap_cell (heap_alloc_keep (heap_alloc_at _ _ (by simp)) _) 0)
  have b0_1 : ∀ x : Ext W0, x.val.cell? ⟨w.heap.size, 1, none⟩ = some (.bool l1) := Ext.cells (by rw [hW]; exact heap_cell (heap_alloc_keep (heap_alloc_at _ _ (by simp)) _) 1)
  have b0_2 : ∀ x : Ext W0, x.val.cell? ⟨w.heap.size, 2, none⟩ = some (.int .i64 h1) := Ext.cells (by rw [hW]; exact heap_cell (heap_alloc_keep (heap_alloc_at _ _ (by simp)) _) 2)
  have b0_3 : ∀ x : Ext W0, x.val.cell? ⟨w.heap.size, 3, none⟩ = some (.int .i64 n1) := Ext.cells (by rw [hW]; exact heap_cell (heap_alloc_keep (heap_alloc_at _ _ (by simp)) _) 3)
  have b1_0 : ∀ x : Ext W0, x.val.cell? ⟨w.heap.size + 1, 0, none⟩ = some (.int .i64 k2) := Ext.cells (by rw [hW]; exact heap_cell (heap_alloc_at _ _ (by simp)) 0)
  have b1_1 : ∀ x : Ext W0, x.val.cell? ⟨w.heap.size + 1, 1, none⟩ = some (.bool l2) := Ext.cells (by rw [hW]; exact heap_cell (heap_alloc_at _ _ (by simp)) 1)
  have b1_2 : ∀ x : Ext W0, x.val.cell? ⟨w.heap.size + 1, 2, none⟩ = some (.int .i64 h2) := Ext.cells (by rw [hW]; exact heap_cell (heap_alloc_at _ _ (by simp)) 2)
  have b1_3 : ∀ x : Ext W0, x.val.cell? ⟨w.heap.size + 1, 3, none⟩ = some (.int .i64 n2) := Ext.cells (by rw [hW]; exact heap_cell (heap_alloc_at _ _ (by simp)) 3)
  have HW := hid hW; have HB := hid hB
  clear hW hB
  have H := hid (ht.below HB.out)
  clear ht
  have hp2 : W0.cell? ⟨p, 0, none⟩ = some (.pointer (some ⟨T, 0, none⟩)) := by rw [HB.out.cell (World.block_lt_of_cell? _ _ hp)]; exact hp
  rw [HW.out] at hp2
  go_enter Tryz.func116, Tryz.ntmps116
  go_wp2_with fail
  rw [← HW.out]
  refine (Ext.call0 (val_tab hq T ⟨k1, l1, h1, n1⟩ ⟨k2, l2, h2, n2⟩ _ H.out)).mono ?_
  rintro e _ ⟨rfl, x1, rfl⟩
  go_wp2
  go_ret
  exact ⟨rfl, HB.out.trans (x1.2.mono HB.out.size)⟩
set_option maxHeartbeats 2000000 in
theorem equalFunc_tab {S R : Nat → Prop} {gs : List (List Sb)} {qB : Hp → Hp → Bool} (hq : HeapT gs qB) (T p : Nat) (a b : Value) (l m : List Vl) (w : World) (ha : ValsAt w a l) (hb : ValsAt w b m) (hl : l.length ≤ 1000000) (_ : m.length ≤ 1000000) (ht : TabK S R w T gs) (hp : w.cell? ⟨p, 0, none⟩ = some (.pointer (some ⟨T, 0, none⟩))) :
    Calls Tryz.prog 115 #[a, b, .func (.func 116) #[] #[.pointer (some ⟨p, 0, none⟩)]] w fun e w' => e = .returned (.bool (valsB (closedB (total gs)) qB l m)) ∧ Below w.heap.size w w' := by
  obtain ⟨ao, ca, rfl⟩ := RowAt.form ha
  obtain ⟨bo, cb, rfl⟩ := RowAt.form hb
  by_cases hlen : l.length = m.length
  · have HA := hid ha
    have HB := hid hb
    have HT := hid ht
    have HP := hid hp
    clear ha hb ht hp
    rw [← hlen]
    have HL := hid hlen
    clear hlen
    go_enter Tryz.func115, Tryz.ntmps115
    go_wp2
    go_loopw [17] (fun t17 wr => ∃ i : Nat, i ≤ l.length ∧ t17 = .int .i64 i ∧ (∀ j, j < i → valB (closedB (total gs)) qB (l.getD j zV) (m.getD j zV) = true) ∧ ∃ x : Ext w, wr = x.val) (fun t17 _ => l.length - (intOf t17).toNat)
    case atStart => exact ⟨0, by omega, rfl, fun j hj => by omega, ⟨_, Below.refl _ _⟩, rfl⟩
    case round =>
      obtain ⟨i, hi, rfl, hall, x, rfl⟩ := hrel
      have HALL := hid hall
      clear hall
      by_cases hlt : i < l.length
      · have hlt2 : i < m.length := by rw [← HL.out]; exact hlt
        obtain ⟨⟨k1, n1, h1, m1⟩, hx⟩ : ∃ x, l[i]? = some x := ⟨l[i], by simp [hlt]⟩
        obtain ⟨⟨k2, n2, h2, m2⟩, hy⟩ : ∃ y, m[i]? = some y := ⟨m[i], by simp [hlt2]⟩
        obtain ⟨b1, o1, e1, _, p0, p1, p2, p3⟩ := vals_at (HA.out.below x.2 (Nat.le_refl _)) hx
        obtain ⟨b2, o2, e2, nq, q0, q1, q2, q3⟩ := vals_at (HB.out.below x.2 (Nat.le_refl _)) hy
        subst e1 e2
        dsimp only at p0 p1 p2 p3 q0 q1 q2 q3
        have hx' : l.getD i zV = ⟨k1, n1, h1, m1⟩ := by rw [List.getD_eq_getElem?_getD, hx]; rfl
        have hy' : m.getD i zV = ⟨k2, n2, h2, m2⟩ := by rw [List.getD_eq_getElem?_getD, hy]; rfl
        have HX := hid hx'; have HY := hid hy'
        have hlt' : (i : Int) < l.length := by omega
        clear hx hy hx' hy' hlt2
        go_wp2_with fail
        have hb2 : Below w.heap.size w ((x.val.alloc (.cells #[.int .i64 k1, .bool n1, .int .i64 h1, .int .i64 m1] 77)).alloc (.cells #[.int .i64 k2, .bool n2, .int .i64 h2, .int .i64 m2] 77)) := (x.2.alloc x.2.size _).alloc (by have := x.2.size; simp; omega) _
        refine (Ext.call ⟨_, hb2⟩ (clos_tab hq T p ⟨k1, n1, h1, m1⟩ ⟨k2, n2, h2, m2⟩ _ (HT.out.below hb2) (by rw [hb2.cell (World.block_lt_of_cell? _ _ HP.out)]; exact HP.out))).mono ?_
        rintro e _ ⟨rfl, x2, rfl⟩
        rcases hv : valB (closedB (total gs)) qB ⟨k1, n1, h1, m1⟩ ⟨k2, n2, h2, m2⟩ with _ | _
        · have HV := hid hv
          clear hv
          go_wp2
          go_ret
          refine ⟨retb ?_, x2.2⟩
          symm
          simp only [valsB, Bool.and_eq_false_iff]
          right
          rw [List.all_eq_false]
          exact ⟨i, List.mem_range.2 hlt, by rw [HX.out, HY.out, HV.out]; simp⟩
        · have HV := hid hv
          clear hv
          go_wp2
          go_roundw
          case rel => exact ⟨i + 1, by omega, by go_num, fun j hj => by
            by_cases hji : j < i
            · exact HALL.out j hji
            · obtain rfl : j = i := by omega
              rw [HX.out, HY.out, HV.out], x2, rfl⟩
          case measure => simp [intOf]; omega
      · obtain rfl : i = l.length := by omega
        go_wp2
        go_ret
        refine ⟨retb ?_, x.2⟩
        symm
        simp only [valsB, Bool.and_eq_true, decide_eq_true_eq, List.all_eq_true, List.mem_range]
        exact ⟨HL.out, HALL.out⟩
  · have hne : valsB (closedB (total gs)) qB l m = false := by simp [valsB, hlen]
    have h1 : ((l.length : Int) != (m.length : Int)) = true := by simpa using fun h => hlen (by omega)
    have NE := hid hne
    clear hne ha hb hlen
    go_enter Tryz.func115, Tryz.ntmps115
    go_wp2
    go_ret
    exact ⟨retb NE.out.symm, Below.refl _ _⟩
theorem matches_tab {S R : Nat → Prop} {gs : List (List Sb)} {qB : Hp → Hp → Bool} (hq : HeapT gs qB) (T : Nat) (a b : Value) (l m : List Vl) (w : World) (ha : ValsAt w a l) (hb : ValsAt w b m) (hl : l.length ≤ 1000000) (hm : m.length ≤ 1000000) (ht : TabK S R w T gs) :
    Calls Tryz.prog 103 #[a, .pointer (some ⟨T, 0, none⟩), b] w fun e w' => e = .returned (.bool (valsB (closedB (total gs)) qB l m)) ∧ Below w.heap.size w w' := by
  have hmf : ∀ (fn : Fn) (first cap : Array Value) (w : World), (Instr.makeFunc fn first cap).run Tryz.prog w = .ok (.func fn first cap) w := fun _ _ _ _ => rfl
  obtain ⟨W0, hW⟩ : ∃ W0 : World, W0 = (w.alloc (.cells #[.pointer (some ⟨T, 0, none⟩)] 27)) := ⟨_, rfl⟩
  have hB : Below w.heap.size w W0 := by rw [hW]; exact ((Below.refl _ _).alloc (by simp) _)
  have b0_0 : ∀ x : Ext W0, x.val.cell? ⟨w.heap.size, 0, none⟩ = some (.pointer (some ⟨T, 0, none⟩)) := Ext.cells (by rw [hW]; exact heap_cell (heap_alloc_at _ _ (by simp)) 0)
  have HW := hid hW; have HB := hid hB
  clear hW hB
  have HA := hid (RowAt.below ha HB.out (Nat.le_refl _)); have HBv := hid (RowAt.below hb HB.out (Nat.le_refl _)); have HT := hid (ht.below HB.out)
  clear ha hb ht
  go_enter Tryz.func103, Tryz.ntmps103
  go_wp2_with fail
  rw [← HW.out]
  refine (Ext.call0 (equalFunc_tab hq T w.heap.size a b l m _ HA.out HBv.out hl hm HT.out (b0_0 ⟨_, Below.refl _ _⟩))).mono ?_
  rintro e _ ⟨rfl, x1, rfl⟩
  go_wp2
  go_ret
  exact ⟨rfl, HB.out.trans (x1.2.mono HB.out.size)⟩
end
section
open Go.RowKit
def storeB (cB : Hp → Bool) (hB : Hp → Hp → Bool) (p q : Int) (a b : Vl) : Bool := decide (p = 0 ∨ p = 8 ∨ p = 16) && decide (p = q) && valB cB hB a b
def fieldB (cB : Hp → Bool) (hB : Hp → Hp → Bool) (a b : Fl) : Bool := decide (a.m = b.m) && storeB cB hB a.p b.p a.v b.v && (!a.m || storeB cB hB b.p a.p b.v a.v)
def zF : Fl := ⟨0, zV, false⟩
def fieldsB (cB : Hp → Bool) (hB : Hp → Hp → Bool) (l m : List Fl) : Bool := decide (m.length ≤ l.length) && (List.range m.length).all fun i => fieldB cB hB (l.getD i zF) (m.getD i zF)
def compB (cB : Hp → Bool) (hB : Hp → Hp → Bool) (a b : Sb) : Bool :=
  if a.k ≠ b.k then false else if a.k = 1 then valsB cB hB b.ps a.ps && valsB cB hB a.rs b.rs else if a.k = 2 then fieldsB cB hB a.fs b.fs else if a.k = 3 then decide (a.fs.length = 1) && decide (b.fs.length = 1) && fieldsB cB hB a.fs b.fs else false
def cellsSt (p : Int) (v : Vl) : List Value := .int .i64 p :: cellsV v
variable {S R : Nat → Prop} {gs : List (List Sb)} {qB : Hp → Hp → Bool}
set_option maxRecDepth 100000 in
set_option maxHeartbeats 2000000 in
theorem store_tab (hq : HeapT gs qB) (T : Nat) (p q : Int) (a b : Vl) (w : World) (ht : TabK S R w T gs) : Calls Tryz.prog 132 #[.pointer (some ⟨T, 0, none⟩), .agg (cellsSt p a).toArray, .agg (cellsSt q b).toArray] w fun e w' => e = .returned (.bool (storeB (closedB (total gs)) qB p q a b)) ∧ Below w.heap.size w w' := by
  obtain ⟨r, hr⟩ : ∃ r, valB (closedB (total gs)) qB a b = r := ⟨_, rfl⟩
  unfold storeB
  rw [hr]
  have C := fun w' (hb : Below w.heap.size w w') => val_tab hq T a b w' (ht.below hb)
  rw [hr] at C
  clear hr
  obtain ⟨k1, l1, h1, n1⟩ := a
  obtain ⟨k2, l2, h2, n2⟩ := b
  simp only [cellsSt, cellsV] at C ⊢
  have hb0 : Below w.heap.size w ((w.alloc (.cells #[.int .i64 p, .int .i64 k1, .bool l1, .int .i64 h1, .int .i64 n1] 113)).alloc (.cells #[.int .i64 q, .int .i64 k2, .bool l2, .int .i64 h2, .int .i64 n2] 113)) := ((Below.refl _ _).alloc (Nat.le_refl _) _).alloc (by simp) _
  have HC := hid (C _ hb0)
  have HB0 := hid hb0
  clear hb0 C ht
  by_cases hq : p = q
  · subst hq
    by_cases h0 : p = 0 ∨ p = 8 ∨ p = 16
    · rcases h0 with rfl | rfl | rfl
      all_goals
        go_enter Tryz.func132, Tryz.ntmps132
        go_wp2_with fail
        refine HC.out.mono ?_
        rintro e w1 ⟨rfl, hb⟩
        have HB := hid (HB0.out.trans (hb.mono HB0.out.size))
        clear hb HC
        cases r
        all_goals
          go_wp2
          go_ret
          exact ⟨retb (by simp), HB.out⟩
    · have e0 : (p == 0) = false := by simp; omega
      have e8 : (p == 8) = false := by simp; omega
      have e16 : (p == 16) = false := by simp; omega
      have H0 := hid h0
      clear h0 HC
      go_enter Tryz.func132, Tryz.ntmps132
      go_wp2
      go_ret
      exact ⟨retb (by rw [decide_eq_false H0.out]; rfl), HB0.out⟩
  · have hq' : (p == q) = false := by simpa using hq
    have HQ := hid hq
    clear hq HC
    by_cases h0 : p = 0 ∨ p = 8 ∨ p = 16
    · rcases h0 with rfl | rfl | rfl
      all_goals
        go_enter Tryz.func132, Tryz.ntmps132
        go_wp2
        go_ret
        exact ⟨retb (by rw [decide_eq_false HQ.out]; simp), HB0.out⟩
    · have e0 : (p == 0) = false := by simp; omega
      have e8 : (p == 8) = false := by simp; omega
      have e16 : (p == 16) = false := by simp; omega
      clear h0
      go_enter Tryz.func132, Tryz.ntmps132
      go_wp2
      go_ret
      exact ⟨retb (by rw [decide_eq_false HQ.out]; simp), HB0.out⟩
set_option maxRecDepth 100000 in
set_option maxHeartbeats 2000000 in
theorem field_tab (hq : HeapT gs qB) (T : Nat) (f g : Fl) (w : World) (ht : TabK S R w T gs) : Calls Tryz.prog 118 #[.pointer (some ⟨T, 0, none⟩), .agg (cellsF f).toArray, .agg (cellsF g).toArray] w fun e w' => e = .returned (.bool (fieldB (closedB (total gs)) qB f g)) ∧ Below w.heap.size w w' := by
  obtain ⟨r1, hr1⟩ : ∃ r, storeB (closedB (total gs)) qB f.p g.p f.v g.v = r := ⟨_, rfl⟩
  obtain ⟨r2, hr2⟩ : ∃ r, storeB (closedB (total gs)) qB g.p f.p g.v f.v = r := ⟨_, rfl⟩
  unfold fieldB
  rw [hr1, hr2]
  have C1 := fun w' (hb : Below w.heap.size w w') => store_tab hq T f.p g.p f.v g.v w' (ht.below hb)
  have C2 := fun w' (hb : Below w.heap.size w w') => store_tab hq T g.p f.p g.v f.v w' (ht.below hb)
  rw [hr1] at C1
  rw [hr2] at C2
  clear hr1 hr2
  obtain ⟨p, ⟨k1, l1, h1, n1⟩, m⟩ := f
  obtain ⟨q, ⟨k2, l2, h2, n2⟩, m'⟩ := g
  simp only [cellsF, cellsSt, cellsV] at C1 C2 ⊢
  have hb0 : Below w.heap.size w ((w.alloc (.cells #[.int .i64 p, .int .i64 k1, .bool l1, .int .i64 h1, .int .i64 n1, .bool m] 115)).alloc (.cells #[.int .i64 q, .int .i64 k2, .bool l2, .int .i64 h2, .int .i64 n2, .bool m'] 115)) := ((Below.refl _ _).alloc (Nat.le_refl _) _).alloc (by simp) _
  obtain ⟨W0, hW⟩ : ∃ W0 : World, W0 = ((w.alloc (.cells #[.int .i64 p, .int .i64 k1, .bool l1, .int .i64 h1, .int .i64 n1, .bool m] 115)).alloc (.cells #[.int .i64 q, .int .i64 k2, .bool l2, .int .i64 h2, .int .i64 n2, .bool m'] 115)) := ⟨_, rfl⟩
  have z1 : W0.heap[w.heap.size]? = some (.cells #[.int .i64 p, .int .i64 k1, .bool l1, .int .i64 h1, .int .i64 n1, .bool m] 115 (0, 0)) := by rw [hW]; exact heap_alloc_keep (heap_alloc_at _ _ rfl) _
  have z2 : W0.heap[w.heap.size + 1]? = some (.cells #[.int .i64 q, .int .i64 k2, .bool l2, .int .i64 h2, .int .i64 n2, .bool m'] 115 (0, 0)) := by rw [hW]; exact heap_alloc_at _ _ (by simp)
  rw [← hW] at hb0
  have a0 : ∀ x : Ext W0, x.val.cell? ⟨w.heap.size, 0, none⟩ = some (.int .i64 p) := Ext.cells (heap_cell z1 0)
  have a1 : ∀ x : Ext W0, x.val.cell? ⟨w.heap.size, 1, none⟩ = some (.int .i64 k1) := Ext.cells (heap_cell z1 1)
  have a2 : ∀ x : Ext W0, x.val.cell? ⟨w.heap.size, 2, none⟩ = some (.bool l1) := Ext.cells (heap_cell z1 2)
  have a3 : ∀ x : Ext W0, x.val.cell? ⟨w.heap.size, 3, none⟩ = some (.int .i64 h1) := Ext.cells (heap_cell z1 3)
  have a4 : ∀ x : Ext W0, x.val.cell? ⟨w.heap.size, 4, none⟩ = some (.int .i64 n1) := Ext.cells (heap_cell z1 4)
  have a5 : ∀ x : Ext W0, x.val.cell? ⟨w.heap.size, 5, none⟩ = some (.bool m) := Ext.cells (heap_cell z1 5)
  have d0 : ∀ x : Ext W0, x.val.cell? ⟨w.heap.size + 1, 0, none⟩ = some (.int .i64 q) := Ext.cells (heap_cell z2 0)
  have d1 : ∀ x : Ext W0, x.val.cell? ⟨w.heap.size + 1, 1, none⟩ = some (.int .i64 k2) := Ext.cells (heap_cell z2 1)
  have d2 : ∀ x : Ext W0, x.val.cell? ⟨w.heap.size + 1, 2, none⟩ = some (.bool l2) := Ext.cells (heap_cell z2 2)
  have d3 : ∀ x : Ext W0, x.val.cell? ⟨w.heap.size + 1, 3, none⟩ = some (.int .i64 h2) := Ext.cells (heap_cell z2 3)
  have d4 : ∀ x : Ext W0, x.val.cell? ⟨w.heap.size + 1, 4, none⟩ = some (.int .i64 n2) := Ext.cells (heap_cell z2 4)
  have d5 : ∀ x : Ext W0, x.val.cell? ⟨w.heap.size + 1, 5, none⟩ = some (.bool m') := Ext.cells (heap_cell z2 5)
  have HC1 := hid C1; have HC2 := hid C2; have HB0 := hid hb0; have HW := hid hW
  clear hb0 hW C1 C2 ht z1 z2
  cases m <;> cases m'
  · go_enter Tryz.func118, Tryz.ntmps118
    go_wp2_with fail
    rw [← HW.out]
    refine (Ext.call0 (HC1.out _ HB0.out)).mono ?_
    rintro e _ ⟨rfl, x1, rfl⟩
    cases r1
    all_goals
      go_wp2
      go_ret
      exact ⟨retb (by simp), HB0.out.trans (x1.2.mono HB0.out.size)⟩
  · go_enter Tryz.func118, Tryz.ntmps118
    go_wp2
    rw [← HW.out]
    go_ret
    exact ⟨retb (by simp), HB0.out⟩
  · go_enter Tryz.func118, Tryz.ntmps118
    go_wp2
    rw [← HW.out]
    go_ret
    exact ⟨retb (by simp), HB0.out⟩
  · go_enter Tryz.func118, Tryz.ntmps118
    go_wp2_with fail
    rw [← HW.out]
    refine (Ext.call0 (HC1.out _ HB0.out)).mono ?_
    rintro e _ ⟨rfl, x1, rfl⟩
    cases r1
    · go_wp2
      go_ret
      exact ⟨retb (by simp), HB0.out.trans (x1.2.mono HB0.out.size)⟩
    · go_wp2_with fail
      refine (Ext.call x1 (HC2.out _ (HB0.out.trans (x1.2.mono HB0.out.size)))).mono ?_
      rintro e _ ⟨rfl, x2, rfl⟩
      cases r2
      all_goals
        go_wp2
        go_ret
        exact ⟨retb (by simp), HB0.out.trans (x2.2.mono HB0.out.size)⟩
set_option maxRecDepth 100000 in
set_option maxHeartbeats 4000000 in
theorem fields_tab (hq : HeapT gs qB) (T : Nat) (a b : Value) (l m : List Fl) (w : World) (ha : FlsAt w a l) (hb : FlsAt w b m) (_ : l.length ≤ 1000000) (hm : m.length ≤ 1000000) (ht : TabK S R w T gs) :
    Calls Tryz.prog 104 #[.pointer (some ⟨T, 0, none⟩), a, b] w fun e w' => e = .returned (.bool (fieldsB (closedB (total gs)) qB l m)) ∧ Below w.heap.size w w' := by
  obtain ⟨ao, ca, rfl⟩ := RowAt.form ha
  obtain ⟨bo, cb, rfl⟩ := RowAt.form hb
  by_cases hlen : m.length ≤ l.length
  · have HA := hid ha
    have HB := hid hb
    have HT := hid ht
    have HL := hid hlen; have HM := hid hm
    have hlen' : ¬ (l.length : Int) < m.length := by omega
    clear ha hb ht hlen hm
    go_enter Tryz.func104, Tryz.ntmps104
    go_wp2
    go_loopw [16] (fun t17 wr => ∃ i : Nat, i ≤ m.length ∧ t17 = .int .i64 i ∧ (∀ j, j < i → fieldB (closedB (total gs)) qB (l.getD j zF) (m.getD j zF) = true) ∧ ∃ x : Ext w, wr = x.val) (fun t17 _ => m.length - (intOf t17).toNat)
    case atStart => exact ⟨0, by omega, rfl, fun j hj => by omega, ⟨_, Below.refl _ _⟩, rfl⟩
    case round =>
      obtain ⟨i, hi, rfl, hall, x, rfl⟩ := hrel
      have HALL := hid hall
      clear hall
      by_cases hlt : i < m.length
      · have hlt2 : i < l.length := Nat.lt_of_lt_of_le hlt HL.out
        obtain ⟨⟨p1, ⟨k1, n1, h1, m1⟩, u1⟩, hx⟩ : ∃ x, l[i]? = some x := ⟨l[i], by simp [hlt2]⟩
        obtain ⟨⟨p2, ⟨k2, n2, h2, m2⟩, u2⟩, hy⟩ : ∃ y, m[i]? = some y := ⟨m[i], by simp [hlt]⟩
        obtain ⟨b1, o1, e1, _, g0, g1, g2, g3, g4, g5⟩ := fls_at (HA.out.below x.2 (Nat.le_refl _)) hx
        obtain ⟨b2, o2, e2, nq, q0, q1, q2, q3, q4, q5⟩ := fls_at (HB.out.below x.2 (Nat.le_refl _)) hy
        subst e1 e2
        dsimp only at g0 g1 g2 g3 g4 g5 q0 q1 q2 q3 q4 q5
        have hx' : l.getD i zF = ⟨p1, ⟨k1, n1, h1, m1⟩, u1⟩ := by rw [List.getD_eq_getElem?_getD, hx]; rfl
        have hy' : m.getD i zF = ⟨p2, ⟨k2, n2, h2, m2⟩, u2⟩ := by rw [List.getD_eq_getElem?_getD, hy]; rfl
        have HX := hid hx'; have HY := hid hy'; have HLT := hid hlt
        have hlt' : (i : Int) < m.length := by omega
        have hlt2' : (i : Int) < l.length := by omega
        have hi6 : (i : Int) < 1000000 := by have := HM.out; omega
        obtain ⟨r, hr⟩ : ∃ r, fieldB (closedB (total gs)) qB ⟨p1, ⟨k1, n1, h1, m1⟩, u1⟩ ⟨p2, ⟨k2, n2, h2, m2⟩, u2⟩ = r := ⟨_, rfl⟩
        have HR := hid hr
        have C := fun w' (hb : Below w.heap.size w w') => field_tab hq T ⟨p1, ⟨k1, n1, h1, m1⟩, u1⟩ ⟨p2, ⟨k2, n2, h2, m2⟩, u2⟩ w' (HT.out.below hb)
        rw [hr] at C
        have HC := hid C
        clear hx hy hx' hy' hlt2 hlt hi hr C
        have hb2 : Below w.heap.size w (x.val.alloc (.cells #[.int .i64 p2, .int .i64 k2, .bool n2, .int .i64 h2, .int .i64 m2, .bool u2] 115)) := x.2.alloc x.2.size _
        have HB2 := hid hb2
        have GS := hid (And.intro g0 (And.intro g1 (And.intro g2 (And.intro g3 (And.intro g4 g5)))))
        clear hb2
        go_wp2_with fail
        clear g0 g1 g2 g3 g4 g5 q0 q1 q2 q3 q4 q5
        obtain ⟨W9, hW9⟩ : ∃ W9 : World, x.val.alloc (.cells #[.int .i64 p2, .int .i64 k2, .bool n2, .int .i64 h2, .int .i64 m2, .bool u2] 115) = W9 := ⟨_, rfl⟩
        have hb2 := HB2.out
        obtain ⟨g0, g1, g2, g3, g4, g5⟩ := GS.out
        have zf := heap_alloc_at x.val (.cells #[.int .i64 p2, .int .i64 k2, .bool n2, .int .i64 h2, .int .i64 m2, .bool u2] 115) rfl
        rw [hW9] at hb2 zf
        have w0 := heap_cell zf 0
        replace g0 := cell_alloc g0 (.cells #[.int .i64 p2, .int .i64 k2, .bool n2, .int .i64 h2, .int .i64 m2, .bool u2] 115)
        have w1 := heap_cell zf 1
        replace g1 := cell_alloc g1 (.cells #[.int .i64 p2, .int .i64 k2, .bool n2, .int .i64 h2, .int .i64 m2, .bool u2] 115)
        have w2 := heap_cell zf 2
        replace g2 := cell_alloc g2 (.cells #[.int .i64 p2, .int .i64 k2, .bool n2, .int .i64 h2, .int .i64 m2, .bool u2] 115)
        have w3 := heap_cell zf 3
        replace g3 := cell_alloc g3 (.cells #[.int .i64 p2, .int .i64 k2, .bool n2, .int .i64 h2, .int .i64 m2, .bool u2] 115)
        have w4 := heap_cell zf 4
        replace g4 := cell_alloc g4 (.cells #[.int .i64 p2, .int .i64 k2, .bool n2, .int .i64 h2, .int .i64 m2, .bool u2] 115)
        have w5 := heap_cell zf 5
        replace g5 := cell_alloc g5 (.cells #[.int .i64 p2, .int .i64 k2, .bool n2, .int .i64 h2, .int .i64 m2, .bool u2] 115)
        simp at w0 w1 w2 w3 w4 w5
        rw [hW9] at g0 g1 g2 g3 g4 g5
        rw [hW9]
        have HB2 := hid hb2
        clear zf hW9 hb2
        go_still_tail 6, (by kernel_rfl)
        change wpList _ _ _ _ _ W9.drew
        have hb2 : Below w.heap.size w W9.drew := HB2.out.drew
        go_wp2_with fail
        refine (Ext.call ⟨_, hb2⟩ (HC.out _ hb2)).mono ?_
        rintro e _ ⟨rfl, x2, rfl⟩
        clear HC hb2
        cases r
        · go_wp2
          go_ret
          refine ⟨retb ?_, x2.2⟩
          symm
          unfold fieldsB
          rw [Bool.and_eq_false_iff]
          refine .inr ?_
          rw [List.all_eq_false]
          exact ⟨i, List.mem_range.2 HLT.out, by rw [HX.out, HY.out, HR.out]; simp⟩
        · go_wp2
          go_roundw
          case rel =>
            refine ⟨i + 1, HLT.out, by go_num, fun j hj => ?_, x2, rfl⟩
            by_cases e : j < i
            · exact HALL.out j e
            · obtain rfl : j = i := by omega
              rw [HX.out, HY.out, HR.out]
          case measure => have := HLT.out; simp [intOf]; omega
      · obtain rfl : i = m.length := by omega
        have hlt' : ¬ (m.length : Int) < m.length := by omega
        go_wp2
        go_ret
        refine ⟨retb ?_, x.2⟩
        symm
        unfold fieldsB
        rw [decide_eq_true HL.out, Bool.true_and, List.all_eq_true]
        intro j hj
        exact HALL.out j (List.mem_range.1 hj)
  · have hlen' : (l.length : Int) < m.length := by omega
    have HL := hid hlen
    clear ha hb ht hlen
    go_enter Tryz.func104, Tryz.ntmps104
    go_wp2
    go_ret
    exact ⟨retb (by unfold fieldsB; rw [decide_eq_false HL.out]; rfl), Below.refl _ _⟩
theorem compB_1 {cB : Hp → Bool} {hB : Hp → Hp → Bool} {a b : Sb} (h : a.k = 1) (h2 : b.k = 1) : compB cB hB a b = (valsB cB hB b.ps a.ps && valsB cB hB a.rs b.rs) := by
  unfold compB; rw [if_neg (by simp [h, h2]), if_pos h]
theorem compB_2 {cB : Hp → Bool} {hB : Hp → Hp → Bool} {a b : Sb} (h : a.k = 2) (h2 : b.k = 2) : compB cB hB a b = fieldsB cB hB a.fs b.fs := by
  unfold compB; rw [if_neg (by simp [h, h2]), if_neg (by simp [h]), if_pos h]
theorem compB_3 {cB : Hp → Bool} {hB : Hp → Hp → Bool} {a b : Sb} (h : a.k = 3) (h2 : b.k = 3) : compB cB hB a b = (decide (a.fs.length = 1) && decide (b.fs.length = 1) && fieldsB cB hB a.fs b.fs) := by
  unfold compB; rw [if_neg (by simp [h, h2]), if_neg (by simp [h]), if_neg (by simp [h]), if_pos h]
set_option maxRecDepth 100000 in
set_option maxHeartbeats 4000000 in
theorem comp_tab (hq : HeapT gs qB) (T : Nat) (a b : Sb) (p1 r1 f1 p2 r2 f2 : Value) (w : World) (hp1 : ValsAt w p1 a.ps) (hr1 : ValsAt w r1 a.rs) (hf1 : FlsAt w f1 a.fs) (hp2 : ValsAt w p2 b.ps) (hr2 : ValsAt w r2 b.rs) (hf2 : FlsAt w f2 b.fs) (ha : cnt a ≤ 1000000) (hb : cnt b ≤ 1000000) (ht : TabK S R w T gs) :
    Calls Tryz.prog 84 #[.pointer (some ⟨T, 0, none⟩), .agg #[.int .i64 a.k, p1, r1, f1], .agg #[.int .i64 b.k, p2, r2, f2]] w fun e w' => e = .returned (.bool (compB (closedB (total gs)) qB a b)) ∧ Below w.heap.size w w' := by
  obtain ⟨ap1, cp1, rfl⟩ := RowAt.form hp1
  obtain ⟨ar1, cr1, rfl⟩ := RowAt.form hr1
  obtain ⟨af1, cf1, rfl⟩ := RowAt.form hf1
  obtain ⟨ap2, cp2, rfl⟩ := RowAt.form hp2
  obtain ⟨ar2, cr2, rfl⟩ := RowAt.form hr2
  obtain ⟨af2, cf2, rfl⟩ := RowAt.form hf2
  have hca : a.ps.length ≤ 1000000 ∧ a.rs.length ≤ 1000000 ∧ a.fs.length ≤ 1000000 := by simp only [cnt] at ha; omega
  have hcb : b.ps.length ≤ 1000000 ∧ b.rs.length ≤ 1000000 ∧ b.fs.length ≤ 1000000 := by simp only [cnt] at hb; omega
  have HCA := hid hca; have HCB := hid hcb
  obtain ⟨W0, hW⟩ : ∃ W0 : World, W0 = ((w.alloc (.cells #[.int .i64 a.k, .slice ap1 a.ps.length cp1, .slice ar1 a.rs.length cr1, .slice af1 a.fs.length cf1] 39)).alloc (.cells #[.int .i64 b.k, .slice ap2 b.ps.length cp2, .slice ar2 b.rs.length cr2, .slice af2 b.fs.length cf2] 39)) := ⟨_, rfl⟩
  have hB : Below w.heap.size w W0 := by rw [hW]; exact (((Below.refl _ _).alloc (by simp) _).alloc (by simp) _)
  have z1 : W0.heap[w.heap.size]? = some (.cells #[.int .i64 a.k, .slice ap1 a.ps.length cp1, .slice ar1 a.rs.length cr1, .slice af1 a.fs.length cf1] 39 (0, 0)) := by rw [hW]; exact heap_alloc_keep (heap_alloc_at _ _ rfl) _
  have z2 : W0.heap[w.heap.size + 1]? = some (.cells #[.int .i64 b.k, .slice ap2 b.ps.length cp2, .slice ar2 b.rs.length cr2, .slice af2 b.fs.length cf2] 39 (0, 0)) := by rw [hW]; exact heap_alloc_at _ _ (by simp)
  have a0 : ∀ x : Ext W0, x.val.cell? ⟨w.heap.size, 0, none⟩ = some (.int .i64 a.k) := Ext.cells (heap_cell z1 0)
  have a1 : ∀ x : Ext W0, x.val.cell? ⟨w.heap.size, 1, none⟩ = some (.slice ap1 a.ps.length cp1) := Ext.cells (heap_cell z1 1)
  have a2 : ∀ x : Ext W0, x.val.cell? ⟨w.heap.size, 2, none⟩ = some (.slice ar1 a.rs.length cr1) := Ext.cells (heap_cell z1 2)
  have a3 : ∀ x : Ext W0, x.val.cell? ⟨w.heap.size, 3, none⟩ = some (.slice af1 a.fs.length cf1) := Ext.cells (heap_cell z1 3)
  have d0 : ∀ x : Ext W0, x.val.cell? ⟨w.heap.size + 1, 0, none⟩ = some (.int .i64 b.k) := Ext.cells (heap_cell z2 0)
  have d1 : ∀ x : Ext W0, x.val.cell? ⟨w.heap.size + 1, 1, none⟩ = some (.slice ap2 b.ps.length cp2) := Ext.cells (heap_cell z2 1)
  have d2 : ∀ x : Ext W0, x.val.cell? ⟨w.heap.size + 1, 2, none⟩ = some (.slice ar2 b.rs.length cr2) := Ext.cells (heap_cell z2 2)
  have d3 : ∀ x : Ext W0, x.val.cell? ⟨w.heap.size + 1, 3, none⟩ = some (.slice af2 b.fs.length cf2) := Ext.cells (heap_cell z2 3)
  have HP1 := hid (RowAt.below hp1 hB (Nat.le_refl _)); have HR1 := hid (RowAt.below hr1 hB (Nat.le_refl _)); have HF1 := hid (RowAt.below hf1 hB (Nat.le_refl _))
  have HP2 := hid (RowAt.below hp2 hB (Nat.le_refl _)); have HR2 := hid (RowAt.below hr2 hB (Nat.le_refl _)); have HF2 := hid (RowAt.below hf2 hB (Nat.le_refl _))
  have HT := hid (ht.below hB)
  have HW := hid hW; have HB := hid hB
  obtain ⟨k1, hk1⟩ : ∃ k, a.k = k := ⟨_, rfl⟩
  obtain ⟨k2, hk2⟩ : ∃ k, b.k = k := ⟨_, rfl⟩
  rw [hk1] at a0 HW
  rw [hk2] at d0 HW
  have C0 := hid (fun h1 h2 => compB_1 (cB := closedB (total gs)) (hB := qB) (a := a) (b := b) (hk1.trans h1) (hk2.trans h2))
  have C1 := hid (fun h1 h2 => compB_2 (cB := closedB (total gs)) (hB := qB) (a := a) (b := b) (hk1.trans h1) (hk2.trans h2))
  have C2 := hid (fun h1 h2 => compB_3 (cB := closedB (total gs)) (hB := qB) (a := a) (b := b) (hk1.trans h1) (hk2.trans h2))
  have C3 := hid (show (k1 ≠ k2 ∨ (k1 ≠ 1 ∧ k1 ≠ 2 ∧ k1 ≠ 3)) → compB (closedB (total gs)) qB a b = false from fun h => by
    unfold compB; rw [hk1, hk2]
    rcases h with h | ⟨h1, h2, h3⟩
    · rw [if_pos h]
    · by_cases e : k1 = k2
      · rw [if_neg (by simpa using e), if_neg h1, if_neg h2, if_neg h3]
      · rw [if_pos e])
  rw [hk1, hk2]
  clear hp1 hr1 hf1 hp2 hr2 hf2 ht hW hB ha hb hca hcb z1 z2 hk1 hk2
  go_enter Tryz.func84, Tryz.ntmps84
  go_wp2_with fail
  rw [← HW.out]
  refine (Ext.call0 (absent_tab _ HT.out)).mono ?_
  rintro e _ ⟨rfl, x1, rfl⟩
  by_cases e0 : k1 = k2
  · subst e0
    by_cases e1 : k1 = 1
    · subst e1
      obtain ⟨s1, hs1⟩ : ∃ s, valsB (closedB (total gs)) qB b.ps a.ps = s := ⟨_, rfl⟩
      obtain ⟨s2, hs2⟩ : ∃ s, valsB (closedB (total gs)) qB a.rs b.rs = s := ⟨_, rfl⟩
      have HS1 := hid hs1; have HS2 := hid hs2
      clear hs1 hs2
      go_wp2_with fail
      refine (Ext.call x1 (matches_tab hq T _ _ b.ps a.ps _ (RowAt.ext HP2.out x1) (RowAt.ext HP1.out x1) HCB.out.1 HCA.out.1 (HT.out.ext x1))).mono ?_
      rintro e _ ⟨rfl, x2, rfl⟩
      rw [HS1.out]
      cases s1
      · go_wp2
        go_ret
        exact ⟨retb (by rw [C0.out (by simp) (by simp), HS1.out]; rfl), HB.out.trans (x2.2.mono HB.out.size)⟩
      · go_wp2_with fail
        refine (Ext.call x2 (matches_tab hq T _ _ a.rs b.rs _ (RowAt.ext HR1.out x2) (RowAt.ext HR2.out x2) HCA.out.2.1 HCB.out.2.1 (HT.out.ext x2))).mono ?_
        rintro e _ ⟨rfl, x3, rfl⟩
        rw [HS2.out]
        cases s2
        all_goals
          go_wp2
          go_ret
          exact ⟨retb (by rw [C0.out (by simp) (by simp), HS1.out, HS2.out]; rfl), HB.out.trans (x3.2.mono HB.out.size)⟩
    · by_cases e2 : k1 = 2
      · subst e2
        clear e1
        go_wp2_with fail
        refine (Ext.call x1 (fields_tab hq T _ _ a.fs b.fs _ (RowAt.ext HF1.out x1) (RowAt.ext HF2.out x1) HCA.out.2.2 HCB.out.2.2 (HT.out.ext x1))).mono ?_
        rintro e _ ⟨rfl, x2, rfl⟩
        obtain ⟨s1, hs1⟩ : ∃ s, fieldsB (closedB (total gs)) qB a.fs b.fs = s := ⟨_, rfl⟩
        have HS1 := hid hs1
        rw [hs1]
        clear hs1
        go_wp2
        go_ret
        exact ⟨retb (by rw [C1.out (by simp) (by simp), HS1.out]), HB.out.trans (x2.2.mono HB.out.size)⟩
      · by_cases e3 : k1 = 3
        · subst e3
          clear e1 e2
          by_cases l1 : a.fs.length = 1
          · by_cases l2 : b.fs.length = 1
            · have L1 := hid l1; have L2 := hid l2
              have l1' : (a.fs.length : Int) = 1 := by omega
              have l2' : (b.fs.length : Int) = 1 := by omega
              have C := fun (x : Ext W0) => fields_tab hq T _ _ a.fs b.fs _ (RowAt.ext HF1.out x) (RowAt.ext HF2.out x) HCA.out.2.2 HCB.out.2.2 (HT.out.ext x)
              have HC := hid C
              clear l1 l2 C
              go_wp2_with fail
              refine (Ext.call x1 (HC.out x1)).mono ?_
              rintro e _ ⟨rfl, x2, rfl⟩
              obtain ⟨s1, hs1⟩ : ∃ s, fieldsB (closedB (total gs)) qB a.fs b.fs = s := ⟨_, rfl⟩
              have HS1 := hid hs1
              rw [hs1]
              clear hs1
              cases s1
              all_goals
                go_wp2
                go_ret
                exact ⟨retb (by rw [C2.out (by simp) (by simp), HS1.out, L1.out, L2.out]; rfl), HB.out.trans (x2.2.mono HB.out.size)⟩
            · have L2 := hid l2
              have l1' : (a.fs.length : Int) = 1 := by omega
              have l2' : ¬ (b.fs.length : Int) = 1 := by omega
              have l2'' : ((b.fs.length : Int) == 1) = false := by simp; omega
              clear l1 l2
              go_wp2
              go_ret
              exact ⟨retb (by rw [C2.out (by simp) (by simp), decide_eq_false L2.out]; simp), HB.out.trans (x1.2.mono HB.out.size)⟩
          · have L1 := hid l1
            have l1' : ¬ (a.fs.length : Int) = 1 := by omega
            have l1'' : ((a.fs.length : Int) == 1) = false := by simp; omega
            clear l1
            go_wp2
            go_ret
            exact ⟨retb (by rw [C2.out (by simp) (by simp), decide_eq_false L1.out]; simp), HB.out.trans (x1.2.mono HB.out.size)⟩
        · have E := hid (C3.out (.inr ⟨e1, e2, e3⟩))
          have e1' : (k1 == 1) = false := by simpa using e1
          have e2' : (k1 == 2) = false := by simpa using e2
          have e3' : (k1 == 3) = false := by simpa using e3
          clear e1 e2 e3
          go_wp2
          go_ret
          exact ⟨retb E.out.symm, HB.out.trans (x1.2.mono HB.out.size)⟩
  · have E := hid (C3.out (.inl e0))
    have e0' : (k1 == k2) = false := by simpa using e0
    have e0'' : (k1 != k2) = true := by simpa using e0
    clear e0
    go_wp2
    go_ret
    exact ⟨retb E.out.symm, HB.out.trans (x1.2.mono HB.out.size)⟩
end
section
open Go.RowKit
variable {gs : List (List Sb)} {qB : Hp → Hp → Bool}
theorem proper_iff {n : Nat} {v : Vl} : properB (closedB n) v = true ↔ ProperP n v := by
  unfold properB ProperP
  by_cases hk : v.k = 3
  · rw [if_pos hk]
    simp [hk, neverB, NeverP, closed_iff]
  · rw [if_neg hk]
    simp [hk, and_assoc]
theorem valB_iff (hq : HeapT gs qB) {a b : Vl} : valB (closedB (total gs)) qB a b = true ↔ ValP (tabL gs) a b := by
  unfold valB ValP
  rw [Bool.and_eq_true, Bool.and_eq_true, proper_iff, proper_iff, tabL_len, and_assoc]
  refine and_congr Iff.rfl (and_congr Iff.rfl ?_)
  by_cases h4 : a.k = 4
  · simp [h4]
  · rw [if_neg h4]
    by_cases he : a.k = b.k
    · rw [if_neg (by simpa using he)]
      by_cases h3 : a.k ≠ 3 ∨ neverB a = true
      · rw [if_pos h3]
        have : a.k ≠ 3 ∨ NeverP a := h3.imp id (fun h => by simpa [neverB, NeverP] using h)
        simp only [true_iff]
        exact .inr ⟨he, this.elim .inl (fun h => .inr (.inl h))⟩
      · rw [if_neg h3]
        have h31 : a.k = 3 := by
          by_cases e : a.k = 3
          · exact e
          · exact absurd (.inl e) h3
        have h32 : ¬ NeverP a := fun e => h3 (.inr (by simpa [neverB, NeverP] using e))
        rw [Bool.and_eq_true, hq]
        constructor
        · rintro ⟨h1, h2⟩
          refine .inr ⟨he, .inr (.inr ⟨fun e => ?_, h2⟩)⟩
          simpa [e] using h1
        · rintro (h | ⟨_, h | h | ⟨h1, h2⟩⟩)
          · exact absurd h h4
          · exact absurd h31 h
          · exact absurd h h32
          · refine ⟨?_, h2⟩
            cases hn : a.nl
            · simp
            · simp [h1 hn]
    · rw [if_pos he]
      simp [h4, he]
theorem storeB_iff (hq : HeapT gs qB) {p q : Int} {a b : Vl} : storeB (closedB (total gs)) qB p q a b = true ↔ StoreP (tabL gs) p q a b := by
  unfold storeB StoreP
  rw [Bool.and_eq_true, Bool.and_eq_true, valB_iff hq, decide_eq_true_eq, decide_eq_true_eq, and_assoc]
theorem fieldB_iff (hq : HeapT gs qB) {a b : Fl} : fieldB (closedB (total gs)) qB a b = true ↔ FieldP (tabL gs) a b := by
  unfold fieldB FieldP
  rw [Bool.and_eq_true, Bool.and_eq_true, storeB_iff hq, decide_eq_true_eq, and_assoc]
  refine and_congr Iff.rfl (and_congr Iff.rfl ?_)
  rw [Bool.or_eq_true, storeB_iff hq]
  cases hm : a.m
  · simp
  · simp
theorem getD_someM {α : Type} {l : List α} {i : Nat} {x d : α} (h : l[i]? = some x) : l.getD i d = x := by rw [List.getD_eq_getElem?_getD, h]; rfl
theorem valsB_iff (hq : HeapT gs qB) {l m : List Vl} : valsB (closedB (total gs)) qB l m = true ↔ ListP (ValP (tabL gs)) l m := by
  unfold valsB ListP
  rw [Bool.and_eq_true, decide_eq_true_eq, List.all_eq_true]
  constructor
  · rintro ⟨h0, h⟩
    refine ⟨h0, fun i x y hx hy => ?_⟩
    have := h i (List.mem_range.2 (List.getElem?_eq_some_iff.1 hx).1)
    rw [getD_someM hx, getD_someM hy] at this
    exact (valB_iff hq).1 this
  · rintro ⟨h0, h⟩
    refine ⟨h0, fun i hi => ?_⟩
    have hi := List.mem_range.1 hi
    have hm : i < m.length := by omega
    rw [getD_someM (List.getElem?_eq_getElem hi), getD_someM (List.getElem?_eq_getElem hm)]
    exact (valB_iff hq).2 (h i _ _ (List.getElem?_eq_getElem hi) (List.getElem?_eq_getElem hm))
theorem fieldsB_iff (hq : HeapT gs qB) {l m : List Fl} : fieldsB (closedB (total gs)) qB l m = true ↔ FieldsP (tabL gs) l m := by
  unfold fieldsB FieldsP
  rw [Bool.and_eq_true, decide_eq_true_eq, List.all_eq_true]
  constructor
  · rintro ⟨h0, h⟩
    refine ⟨h0, fun i x y hx hy => ?_⟩
    have := h i (List.mem_range.2 (List.getElem?_eq_some_iff.1 hy).1)
    rw [getD_someM hx, getD_someM hy] at this
    exact (fieldB_iff hq).1 this
  · rintro ⟨h0, h⟩
    refine ⟨h0, fun i hi => ?_⟩
    have hi := List.mem_range.1 hi
    have hl : i < l.length := Nat.lt_of_lt_of_le hi h0
    rw [getD_someM (List.getElem?_eq_getElem hi), getD_someM (List.getElem?_eq_getElem hl)]
    exact (fieldB_iff hq).2 (h i _ _ (List.getElem?_eq_getElem hl) (List.getElem?_eq_getElem hi))
theorem compB_iff (hq : HeapT gs qB) {a b : Sb} : compB (closedB (total gs)) qB a b = true ↔ CompP (tabL gs) a b := by
  unfold compB CompP
  by_cases he : a.k = b.k
  · rw [if_neg (by simpa using he)]
    by_cases h1 : a.k = 1
    · rw [if_pos h1, Bool.and_eq_true, valsB_iff hq, valsB_iff hq]
      simp [← he, h1]
    · rw [if_neg h1]
      by_cases h2 : a.k = 2
      · rw [if_pos h2, fieldsB_iff hq]
        simp [← he, h2]
      · rw [if_neg h2]
        by_cases h3 : a.k = 3
        · rw [if_pos h3, Bool.and_eq_true, Bool.and_eq_true, fieldsB_iff hq]
          simp [← he, h3, and_assoc]
        · rw [if_neg h3]
          simp [← he, h1, h2, h3]
  · rw [if_pos he]
    simp [he]
end
end Go.Proofs.YtpddbaijnjbfdaaGreatDoor
