/- Package match: value types and lists of them, over any table. -/
import Derived.Test.YtnnbjenibfmcaaaDoorQMaHeap
namespace Go.Proofs.YtnnbjenibfmcaaaDoor
open Go.RowKit

/-- Which value types are proper, which match; cB, hB: which heap types are closed, which match. -/
def properB (cB : Hp → Bool) (v : Vl) : Bool := if v.k = 3 then neverB v || cB ⟨v.h, v.n⟩ else decide (1 ≤ v.k) && decide (v.k ≤ 4) && decide (v = ⟨v.k, false, 0, 0⟩)
def valB (cB : Hp → Bool) (hB : Hp → Hp → Bool) (a b : Vl) : Bool := properB cB a && properB cB b && (if a.k = 4 then true else if a.k ≠ b.k then false else if a.k ≠ 3 ∨ neverB a = true then true else (!a.nl || b.nl) && hB ⟨a.h, a.n⟩ ⟨b.h, b.n⟩)
def zV : Vl := ⟨0, false, 0, 0⟩
def valsB (cB : Hp → Bool) (hB : Hp → Hp → Bool) (l m : List Vl) : Bool := decide (l.length = m.length) && (List.range l.length).all fun i => valB cB hB (l.getD i zV) (m.getD i zV)
/-- hB tells which heap types match over a table. -/
def HeapT (gs : List (List Sb)) (hB : Hp → Hp → Bool) : Prop := ∀ a b, hB a b = true ↔ HeapP (tabL gs) a b
set_option maxHeartbeats 1000000 in
theorem proper_tab {S R : Nat → Prop} {gs : List (List Sb)} (T : Nat) (v : Vl) (w : World) (ht : TabK S R w T gs) : Calls Tryd.prog 23 #[.pointer (some ⟨T, 0, none⟩), .agg (cellsV v).toArray] w fun e w' => e = .returned (.bool (properB (closedB (total gs)) v)) ∧ Below w.heap.size w w' := by
  obtain ⟨k, nl, h, n⟩ := v
  simp only [cellsV]
  obtain ⟨W0, hW⟩ : ∃ W0 : World, W0 = (w.alloc (.cells #[.int .i64 k, .bool nl, .int .i64 h, .int .i64 n] 39)) := ⟨_, rfl⟩
  have hB : Below w.heap.size w W0 := by rw [hW]; exact ((Below.refl _ _).alloc (by simp) _)
  have b0_0 : ∀ x : Ext W0, x.val.cell? ⟨w.heap.size, 0, none⟩ = some (.int .i64 k) := Ext.cells (by rw [hW]; exact heap_cell (heap_alloc_at _ _ (by simp)) 0)
  have b0_1 : ∀ x : Ext W0, x.val.cell? ⟨w.heap.size, 1, none⟩ = some (.bool nl) := Ext.cells (by rw [hW]; exact heap_cell (heap_alloc_at _ _ (by simp)) 1)
  have b0_2 : ∀ x : Ext W0, x.val.cell? ⟨w.heap.size, 2, none⟩ = some (.int .i64 h) := Ext.cells (by rw [hW]; exact heap_cell (heap_alloc_at _ _ (by simp)) 2)
  have b0_3 : ∀ x : Ext W0, x.val.cell? ⟨w.heap.size, 3, none⟩ = some (.int .i64 n) := Ext.cells (by rw [hW]; exact heap_cell (heap_alloc_at _ _ (by simp)) 3)
  have HW := Lib.hid hW; have HB := Lib.hid hB
  clear hW hB
  have H := Lib.hid (ht.below HB.out)
  clear ht
  by_cases hk : k = 3
  · obtain ⟨b, hb⟩ : ∃ b, neverB ⟨k, nl, h, n⟩ = b := ⟨_, rfl⟩
    subst hk
    have HN := Lib.hid hb
    clear hb
    go_enter Tryd.func23, Tryd.ntmps23
    go_wp2_with fail
    rw [← HW.out]
    refine (Ext.call0 (never_any ⟨3, nl, h, n⟩ _)).mono ?_
    rintro e _ ⟨rfl, x1, rfl⟩
    rw [HN.out]
    cases b
    · go_wp2_with fail
      refine (Ext.call x1 (closed_tab h n _ (H.out.ext x1))).mono ?_
      rintro e _ ⟨rfl, x2, rfl⟩
      go_wp2
      go_ret
      exact ⟨retb (by simp [properB, HN.out]), HB.out.trans (x2.2.mono HB.out.size)⟩
    · go_wp2
      go_ret
      exact ⟨retb (by simp [properB, HN.out]), HB.out.trans (x1.2.mono HB.out.size)⟩
  · have hk2 : (k == 3) = false := by simpa using hk
    have HK := Lib.hid hk
    clear hk
    go_enter Tryd.func23, Tryd.ntmps23
    go_wp2
    all_goals
      go_ret
      refine ⟨retb ?_, (Below.refl _ _).alloc (Nat.le_refl _) _⟩
      have := HK.out
      unfold properB
      rw [if_neg (by exact HK.out)]
      first | (simp_all; done) | (simp_all; omega) | (rw [Bool.eq_iff_iff]; simp_all; done)
set_option maxHeartbeats 2000000 in
theorem val_tab {S R : Nat → Prop} {gs : List (List Sb)} {qB : Hp → Hp → Bool} (hq : HeapT gs qB) (T : Nat) (a b : Vl) (w : World) (ht : TabK S R w T gs) : Calls Tryd.prog 10 #[.pointer (some ⟨T, 0, none⟩), .agg (cellsV a).toArray, .agg (cellsV b).toArray] w fun e w' => e = .returned (.bool (valB (closedB (total gs)) qB a b)) ∧ Below w.heap.size w w' := by
  obtain ⟨k1, l1, h1, n1⟩ := a
  obtain ⟨k2, l2, h2, n2⟩ := b
  simp only [cellsV]
  obtain ⟨W0, hW⟩ : ∃ W0 : World, W0 = ((w.alloc (.cells #[.int .i64 k1, .bool l1, .int .i64 h1, .int .i64 n1] 39)).alloc (.cells #[.int .i64 k2, .bool l2, .int .i64 h2, .int .i64 n2] 39)) := ⟨_, rfl⟩
  have hB : Below w.heap.size w W0 := by rw [hW]; exact (((Below.refl _ _).alloc (by simp) _).alloc (by simp) _)
  have b0_0 : ∀ x : Ext W0, x.val.cell? ⟨w.heap.size, 0, none⟩ = some (.int .i64 k1) := Ext.cells (by rw [hW]; exact heap_cell (heap_alloc_keep (heap_alloc_at _ _ (by simp)) _) 0)
  have b0_1 : ∀ x : Ext W0, x.val.cell? ⟨w.heap.size, 1, none⟩ = some (.bool l1) := Ext.cells (by rw [hW]; exact heap_cell (heap_alloc_keep (heap_alloc_at _ _ (by simp)) _) 1)
  have b0_2 : ∀ x : Ext W0, x.val.cell? ⟨w.heap.size, 2, none⟩ = some (.int .i64 h1) := Ext.cells (by rw [hW]; exact heap_cell (heap_alloc_keep (heap_alloc_at _ _ (by simp)) _) 2)
  have b0_3 : ∀ x : Ext W0, x.val.cell? ⟨w.heap.size, 3, none⟩ = some (.int .i64 n1) := Ext.cells (by rw [hW]; exact heap_cell (heap_alloc_keep (heap_alloc_at _ _ (by simp)) _) 3)
  have b1_0 : ∀ x : Ext W0, x.val.cell? ⟨w.heap.size + 1, 0, none⟩ = some (.int .i64 k2) := Ext.cells (by rw [hW]; exact heap_cell (heap_alloc_at _ _ (by simp)) 0)
  have b1_1 : ∀ x : Ext W0, x.val.cell? ⟨w.heap.size + 1, 1, none⟩ = some (.bool l2) := Ext.cells (by rw [hW]; exact heap_cell (heap_alloc_at _ _ (by simp)) 1)
  have b1_2 : ∀ x : Ext W0, x.val.cell? ⟨w.heap.size + 1, 2, none⟩ = some (.int .i64 h2) := Ext.cells (by rw [hW]; exact heap_cell (heap_alloc_at _ _ (by simp)) 2)
  have b1_3 : ∀ x : Ext W0, x.val.cell? ⟨w.heap.size + 1, 3, none⟩ = some (.int .i64 n2) := Ext.cells (by rw [hW]; exact heap_cell (heap_alloc_at _ _ (by simp)) 3)
  have HW := Lib.hid hW; have HB := Lib.hid hB
  clear hW hB
  have H := Lib.hid (ht.below HB.out)
  clear ht
  go_enter Tryd.func10, Tryd.ntmps10
  go_wp2_with fail
  rw [← HW.out]
  refine (Ext.call0 (absent_tab _ H.out)).mono ?_
  rintro e _ ⟨rfl, x1, rfl⟩
  go_wp2_with fail
  refine (Ext.call x1 (proper_tab T ⟨k1, l1, h1, n1⟩ _ (H.out.ext x1))).mono ?_
  rintro e _ ⟨rfl, x2, rfl⟩
  rcases g1 : properB (closedB (total gs)) ⟨k1, l1, h1, n1⟩ with _ | _
  · go_wp2
    go_ret
    exact ⟨retb (by simp [valB, g1]), HB.out.trans (x2.2.mono HB.out.size)⟩
  · have G1 := Lib.hid g1
    clear g1
    go_wp2_with fail
    refine (Ext.call x2 (proper_tab T ⟨k2, l2, h2, n2⟩ _ (H.out.ext x2))).mono ?_
    rintro e _ ⟨rfl, x3, rfl⟩
    rcases g2 : properB (closedB (total gs)) ⟨k2, l2, h2, n2⟩ with _ | _
    · go_wp2
      go_ret
      exact ⟨retb (by simp [valB, g2]), HB.out.trans (x3.2.mono HB.out.size)⟩
    · have G2 := Lib.hid g2
      clear g2
      by_cases e1 : k1 = 4
      · subst e1
        go_wp2
        go_ret
        exact ⟨retb (by simp [valB, G1.out, G2.out]), HB.out.trans (x3.2.mono HB.out.size)⟩
      · by_cases e2 : k1 = k2
        · subst e2
          have E1 := Lib.hid e1
          have e1' : (k1 == 4) = false := by simpa using e1
          clear e1
          by_cases e3 : k1 = 3
          · subst e3
            obtain ⟨nb, hn⟩ : ∃ b, neverB ⟨3, l1, h1, n1⟩ = b := ⟨_, rfl⟩
            have HN := Lib.hid hn
            clear hn e1'
            go_wp2_with fail
            refine (Ext.call x3 (never_any ⟨3, l1, h1, n1⟩ _)).mono ?_
            rintro e _ ⟨rfl, x4, rfl⟩
            rw [HN.out]
            cases nb
            · cases l1
              · go_wp2_with fail
                refine (Ext.call x4 (heap_k (hq ⟨h1, n1⟩ ⟨h2, n2⟩) (H.out.ext x4))).mono ?_
                rintro e _ ⟨rfl, x5, rfl⟩
                go_wp2
                go_ret
                exact ⟨retb (by simp [valB, G1.out, G2.out, HN.out]), HB.out.trans (x5.2.mono HB.out.size)⟩
              · cases l2
                · go_wp2
                  go_ret
                  exact ⟨retb (by simp [valB, G1.out, G2.out, HN.out]), HB.out.trans (x4.2.mono HB.out.size)⟩
                · go_wp2_with fail
                  refine (Ext.call x4 (heap_k (hq ⟨h1, n1⟩ ⟨h2, n2⟩) (H.out.ext x4))).mono ?_
                  rintro e _ ⟨rfl, x5, rfl⟩
                  go_wp2
                  go_ret
                  exact ⟨retb (by simp [valB, G1.out, G2.out, HN.out]), HB.out.trans (x5.2.mono HB.out.size)⟩
            · go_wp2
              go_ret
              exact ⟨retb (by simp [valB, G1.out, G2.out, HN.out]), HB.out.trans (x4.2.mono HB.out.size)⟩
          · have e3' : (k1 == 3) = false := by simpa using e3
            have e3'' : (k1 != 3) = true := by simpa using e3
            have E3 := Lib.hid e3
            clear e3
            go_wp2
            go_ret
            exact ⟨retb (by simp [valB, G1.out, G2.out, E1.out, E3.out]), HB.out.trans (x3.2.mono HB.out.size)⟩
        · have E1 := Lib.hid e1; have E2 := Lib.hid e2
          have e1' : (k1 == 4) = false := by simpa using e1
          have e2' : (k1 != k2) = true := by simpa using e2
          clear e1 e2
          go_wp2
          go_ret
          exact ⟨retb (by simp [valB, G1.out, G2.out, E1.out, E2.out]), HB.out.trans (x3.2.mono HB.out.size)⟩
end Go.Proofs.YtnnbjenibfmcaaaDoor
