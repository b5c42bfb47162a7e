/- package match: without a table nothing matches. -/
import Derived.Test.YtnnbjenibfmcaaaGreatDoorQMaEnds
namespace Go.Proofs.YtnnbjenibfmcaaaGreatDoor
open Go.RowKit

theorem absent_nil (w : World) : Calls Tryz.prog 32 #[.pointer none] w fun e w' => e = .returned (.bool true) ∧ Below w.heap.size w w' := by
  have C := get_none (w := w) NoTab.absent (-1)
  unfold emptyS at C
  have HC := Lib.hid C
  clear C
  go_enter Tryz.func32, Tryz.ntmps32
  go_wp2_with fail
  refine HC.out.mono ?_
  rintro e w1 ⟨rfl, hb⟩
  go_wp2
  go_ret
  exact ⟨rfl, hb.alloc hb.size _⟩
set_option maxRecDepth 100000 in
theorem heap_nil (h1 n1 h2 n2 : Int) (w : World) : Calls Tryz.prog 12 #[.pointer none, .agg #[.int .i64 h1, .int .i64 n1], .agg #[.int .i64 h2, .int .i64 n2]] w fun e w' => e = .returned (.bool false) ∧ Below w.heap.size w w' := by
  go_enter Tryz.func12, Tryz.ntmps12
  go_wp2_with fail
  refine (absent_nil _).mono ?_
  rintro e w1 ⟨rfl, hb⟩
  have HB := Lib.hid ((((Below.refl _ w).alloc (Nat.le_refl _) (.cells #[.int .i64 h1, .int .i64 n1] 31)).alloc (by simp) (.cells #[.int .i64 h2, .int .i64 n2] 31)).trans (hb.mono (by simp; omega)))
  clear hb
  go_wp2
  go_ret
  exact ⟨rfl, HB.out⟩
set_option maxRecDepth 100000 in
theorem val_nil (a b : Vl) (w : World) : Calls Tryz.prog 11 #[.pointer none, .agg (cellsV a).toArray, .agg (cellsV b).toArray] w fun e w' => e = .returned (.bool false) ∧ Below w.heap.size w w' := by
  obtain ⟨k1, l1, h1, n1⟩ := a
  obtain ⟨k2, l2, h2, n2⟩ := b
  simp only [cellsV]
  go_enter Tryz.func11, Tryz.ntmps11
  go_wp2_with fail
  refine (absent_nil _).mono ?_
  rintro e w1 ⟨rfl, hb⟩
  have HB := Lib.hid ((((Below.refl _ w).alloc (Nat.le_refl _) (.cells #[.int .i64 k1, .bool l1, .int .i64 h1, .int .i64 n1] 33)).alloc (by simp) (.cells #[.int .i64 k2, .bool l2, .int .i64 h2, .int .i64 n2] 33)).trans (hb.mono (by simp; omega)))
  clear hb
  go_wp2
  go_ret
  exact ⟨rfl, HB.out⟩
set_option maxRecDepth 100000 in
theorem vals_nil (a b : Value) (w : World) : Calls Tryz.prog 13 #[.pointer none, a, b] w fun e w' => e = .returned (.bool false) ∧ Below w.heap.size w w' := by
  go_enter Tryz.func13, Tryz.ntmps13
  go_wp2_with fail
  refine (absent_nil _).mono ?_
  rintro e w1 ⟨rfl, hb⟩
  go_wp2
  go_ret
  exact ⟨rfl, hb⟩
def cellsS (p : Int) (v : Vl) : List Value := .int .i64 p :: cellsV v
set_option maxRecDepth 100000 in
theorem store_nil (p q : Int) (a b : Vl) (w : World) : Calls Tryz.prog 42 #[.pointer none, .agg (cellsS p a).toArray, .agg (cellsS q b).toArray] w fun e w' => e = .returned (.bool false) ∧ Below w.heap.size w w' := by
  obtain ⟨k1, l1, h1, n1⟩ := a
  obtain ⟨k2, l2, h2, n2⟩ := b
  simp only [cellsS, cellsV]
  have hb0 : Below w.heap.size w ((w.alloc (.cells #[.int .i64 p, .int .i64 k1, .bool l1, .int .i64 h1, .int .i64 n1] 44)).alloc (.cells #[.int .i64 q, .int .i64 k2, .bool l2, .int .i64 h2, .int .i64 n2] 44)) := ((Below.refl _ _).alloc (Nat.le_refl _) _).alloc (by simp) _
  have HB0 := Lib.hid hb0
  clear hb0
  by_cases hq : p = q
  · subst hq
    by_cases h0 : p = 0 ∨ p = 8 ∨ p = 16
    · rcases h0 with rfl | rfl | rfl
      all_goals
        go_enter Tryz.func42, Tryz.ntmps42
        go_wp2_with fail
        refine (val_nil ⟨k1, l1, h1, n1⟩ ⟨k2, l2, h2, n2⟩ _).mono ?_
        rintro e w1 ⟨rfl, hb⟩
        have HB := Lib.hid (HB0.out.trans (hb.mono HB0.out.size))
        clear hb
        go_wp2
        go_ret
        exact ⟨rfl, HB.out⟩
    · have e0 : (p == 0) = false := by simp; omega
      have e8 : (p == 8) = false := by simp; omega
      have e16 : (p == 16) = false := by simp; omega
      clear h0
      go_enter Tryz.func42, Tryz.ntmps42
      go_wp2
      go_ret
      exact ⟨rfl, HB0.out⟩
  · have hq' : (p == q) = false := by simpa using hq
    have HQ := Lib.hid hq
    clear hq
    by_cases h0 : p = 0 ∨ p = 8 ∨ p = 16
    · rcases h0 with rfl | rfl | rfl
      all_goals
        go_enter Tryz.func42, Tryz.ntmps42
        go_wp2
        go_ret
        exact ⟨rfl, HB0.out⟩
    · have e0 : (p == 0) = false := by simp; omega
      have e8 : (p == 8) = false := by simp; omega
      have e16 : (p == 16) = false := by simp; omega
      clear h0
      go_enter Tryz.func42, Tryz.ntmps42
      go_wp2
      go_ret
      exact ⟨rfl, HB0.out⟩
set_option maxRecDepth 100000 in
theorem field_nil (f : Fl) (w : World) : Calls Tryz.prog 14 #[.pointer none, .agg (cellsF f).toArray, .agg (cellsF f).toArray] w fun e w' => e = .returned (.bool false) ∧ Below w.heap.size w w' := by
  obtain ⟨p, ⟨k1, l1, h1, n1⟩, m⟩ := f
  simp only [cellsF]
  have hb0 : Below w.heap.size w ((w.alloc (.cells #[.int .i64 p, .int .i64 k1, .bool l1, .int .i64 h1, .int .i64 n1, .bool m] 46)).alloc (.cells #[.int .i64 p, .int .i64 k1, .bool l1, .int .i64 h1, .int .i64 n1, .bool m] 46)) := ((Below.refl _ _).alloc (Nat.le_refl _) _).alloc (by simp) _
  have HB0 := Lib.hid hb0
  clear hb0
  cases m
  all_goals
    go_enter Tryz.func14, Tryz.ntmps14
    go_wp2_with fail
    refine (store_nil p p ⟨k1, l1, h1, n1⟩ ⟨k1, l1, h1, n1⟩ _).mono ?_
    rintro e w1 ⟨rfl, hb⟩
    have HB := Lib.hid (HB0.out.trans (hb.mono HB0.out.size))
    clear hb
    go_wp2
    go_ret
    exact ⟨rfl, HB.out⟩
set_option maxRecDepth 100000 in
theorem comp_nil (c1 c2 c3 c4 d1 d2 d3 d4 : Value) (w : World) : Calls Tryz.prog 8 #[.pointer none, .agg #[c1, c2, c3, c4], .agg #[d1, d2, d3, d4]] w fun e w' => e = .returned (.bool false) ∧ Below w.heap.size w w' := by
  go_enter Tryz.func8, Tryz.ntmps8
  go_wp2_with fail
  refine (absent_nil _).mono ?_
  rintro e w1 ⟨rfl, hb⟩
  have HB := Lib.hid ((((Below.refl _ w).alloc (Nat.le_refl _) (.cells #[c1, c2, c3, c4] 27)).alloc (by simp) (.cells #[d1, d2, d3, d4] 27)).trans (hb.mono (by simp; omega)))
  clear hb
  go_wp2
  go_ret
  exact ⟨rfl, HB.out⟩
set_option maxRecDepth 100000 in
theorem global_nil (v : Vl) (w : World) : Calls Tryz.prog 17 #[.pointer none, .agg #[.int .i64 v.k, .bool v.nl, .int .i64 v.h, .int .i64 v.n, .bool false], .agg #[.int .i64 v.k, .bool v.nl, .int .i64 v.h, .int .i64 v.n, .bool false]] w fun e w' => e = .returned (.bool false) ∧ Below w.heap.size w w' := by
  obtain ⟨k1, l1, h1, n1⟩ := v
  dsimp only
  have hb0 : Below w.heap.size w ((w.alloc (.cells #[.int .i64 k1, .bool l1, .int .i64 h1, .int .i64 n1, .bool false] 53)).alloc (.cells #[.int .i64 k1, .bool l1, .int .i64 h1, .int .i64 n1, .bool false] 53)) := ((Below.refl _ _).alloc (Nat.le_refl _) _).alloc (by simp) _
  have HB0 := Lib.hid hb0
  clear hb0
  go_enter Tryz.func17, Tryz.ntmps17
  go_wp2_with fail
  refine (val_nil ⟨k1, l1, h1, n1⟩ ⟨k1, l1, h1, n1⟩ _).mono ?_
  rintro e w1 ⟨rfl, hb⟩
  have HB := Lib.hid (HB0.out.trans (hb.mono HB0.out.size))
  clear hb
  go_wp2
  go_ret
  exact ⟨rfl, HB.out⟩
set_option maxRecDepth 100000 in
theorem table_nil (v : Vl) (w : World) : Calls Tryz.prog 18 #[.pointer none, .agg #[.int .i64 v.k, .bool v.nl, .int .i64 v.h, .int .i64 v.n, .bool false, .int .u64 0, .int .u64 0, .bool false], .agg #[.int .i64 v.k, .bool v.nl, .int .i64 v.h, .int .i64 v.n, .bool false, .int .u64 0, .int .u64 0, .bool false]] w fun e w' => e = .returned (.bool false) ∧ Below w.heap.size w w' := by
  obtain ⟨k1, l1, h1, n1⟩ := v
  dsimp only
  have hb0 : Below w.heap.size w ((w.alloc (.cells #[.int .i64 k1, .bool l1, .int .i64 h1, .int .i64 n1, .bool false, .int .u64 0, .int .u64 0, .bool false] 59)).alloc (.cells #[.int .i64 k1, .bool l1, .int .i64 h1, .int .i64 n1, .bool false, .int .u64 0, .int .u64 0, .bool false] 59)) := ((Below.refl _ _).alloc (Nat.le_refl _) _).alloc (by simp) _
  have HB0 := Lib.hid hb0
  clear hb0
  go_enter Tryz.func18, Tryz.ntmps18
  go_wp2_with fail
  refine (val_nil ⟨k1, l1, h1, n1⟩ ⟨k1, l1, h1, n1⟩ _).mono ?_
  rintro e w1 ⟨rfl, hb⟩
  have HB := Lib.hid (HB0.out.trans (hb.mono HB0.out.size))
  clear hb
  go_wp2
  go_ret
  exact ⟨rfl, HB.out⟩
set_option maxRecDepth 100000 in
theorem ends_nil (h n : Int) (w : World) : Calls Tryz.prog 43 #[.pointer none, .agg #[.int .i64 h, .int .i64 n]] w fun e w' => e = .returned (.tuple #[.agg #[.int .i64 0, .int .i64 0], .agg #[.int .i64 0, .int .i64 0]]) ∧ Below w.heap.size w w' := by
  obtain ⟨W0, hW⟩ : ∃ W0 : World, W0 = (((w.alloc (.cells #[.int .i64 h, .int .i64 n] 31)).alloc (.cells #[.int .i64 0, .int .i64 0] 31)).alloc (.cells #[.int .i64 0, .int .i64 0] 31)) := ⟨_, rfl⟩
  have hB : Below w.heap.size w W0 := by rw [hW]; exact ((((Below.refl _ _).alloc (by simp) _).alloc (by simp) _).alloc (by simp; omega) _)
  have z1 : W0.heap[w.heap.size + 1]? = some (.cells #[.int .i64 0, .int .i64 0] 31 (0, 0)) := by rw [hW]; exact heap_alloc_keep (heap_alloc_at _ _ (by simp)) _
  have z2 : W0.heap[w.heap.size + 2]? = some (.cells #[.int .i64 0, .int .i64 0] 31 (0, 0)) := by rw [hW]; exact heap_alloc_at _ _ (by simp)
  have HW := Lib.hid hW; have HB := Lib.hid hB; have Z1 := Lib.hid z1; have Z2 := Lib.hid z2
  clear hW hB z1 z2
  go_enter Tryz.func43, Tryz.ntmps43
  go_wp2_with fail
  rw [← HW.out]
  refine (Ext.call0 (absent_nil _)).mono ?_
  rintro e _ ⟨rfl, x2, rfl⟩
  have y1 := x2.heap Z1.out; have y2 := x2.heap Z2.out
  have c10 := heap_cell y1 0; have c11 := heap_cell y1 1; have c20 := heap_cell y2 0; have c21 := heap_cell y2 1
  have f1 := fun i => heap_frozen y1 i; have f2 := fun i => heap_frozen y2 i
  simp at c10 c11 c20 c21
  go_wp2
  refine bodyPost_ret (v := .tuple #[.agg #[.int .i64 0, .int .i64 0], .agg #[.int .i64 0, .int .i64 0]]) (by simp [results, Tryz.results43, go_sem, c10, c11, c20, c21]) rfl ⟨rfl, ?_⟩
  exact ((((HB.out.trans (x2.2.mono HB.out.size)).setCell (by simp) _).setCell (by simp) _).setCell (by simp; omega) _).setCell (by simp; omega) _
theorem top_nil (h n : Int) (w : World) : Calls Tryz.prog 15 #[.pointer none, .agg #[.int .i64 h, .int .i64 n]] w fun e w' => e = .returned (.agg #[.int .i64 0, .int .i64 0]) ∧ Below w.heap.size w w' := top_of _ h n 0 0 w fun w' _ => ends_nil h n w'
theorem bottom_nil (h n : Int) (w : World) : Calls Tryz.prog 16 #[.pointer none, .agg #[.int .i64 h, .int .i64 n]] w fun e w' => e = .returned (.agg #[.int .i64 0, .int .i64 0]) ∧ Below w.heap.size w w' := bottom_of _ h n 0 0 w fun w' _ => ends_nil h n w'
end Go.Proofs.YtnnbjenibfmcaaaGreatDoor
