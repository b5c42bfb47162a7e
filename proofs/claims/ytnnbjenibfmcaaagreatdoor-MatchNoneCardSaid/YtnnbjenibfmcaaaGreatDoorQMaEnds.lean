/- package match: Limits, Top, Bottom. -/
import Derived.Test.YtnnbjenibfmcaaaGreatDoorQMaHeap
import Derived.BigRegion
namespace Go.Proofs.YtnnbjenibfmcaaaGreatDoor
open Go.RowKit

structure Lm where
  wide : Bool
  min : Int
  max : Int
  has : Bool
def cellsL (l : Lm) : List Value := [.bool l.wide, .int .u64 l.min, .int .u64 l.max, .bool l.has]
def limB (a b : Lm) : Bool := if a.wide ≠ b.wide ∨ a.min < b.min then false else !b.has || (a.has && decide (a.max ≤ b.max))
set_option maxHeartbeats 2000000 in
theorem limits_any (a b : Lm) (w : World) : Calls Tryz.prog 26 #[.agg (cellsL a).toArray, .agg (cellsL b).toArray] w fun e w' => e = .returned (.bool (limB a b)) ∧ Below w.heap.size w w' := by
  obtain ⟨aw, an, ax, ah⟩ := a
  obtain ⟨bw, bn, bx, bh⟩ := b
  simp only [cellsL]
  cases aw <;> cases bw <;> cases ah <;> cases bh
  all_goals
    go_enter Tryz.func26, Tryz.ntmps26
    go_wp2
    all_goals
      go_ret
      refine ⟨retb ?_, ((Below.refl _ _).alloc (Nat.le_refl _) _).alloc (by simp) _⟩
      simp_all [limB]
/-- A heap type's family. -/
def endsV (n : Nat) (ts : List Sb) (h : Hp) : Int × Int := if closedB n h = true then fam (kindAt ts h) else (0, 0)
set_option maxRecDepth 100000 in
set_option maxHeartbeats 4000000 in
theorem ends_any {S R : Nat → Prop} {t : Nat} {gs : List (List Sb)} (h n : Int) (pa pb : Int) (w : World) (ht : TabK S R w t gs) (hp : endsV (total gs) (tabL gs) ⟨h, n⟩ = (pa, pb)) : Calls Tryz.prog 43 #[.pointer (some ⟨t, 0, none⟩), .agg #[.int .i64 h, .int .i64 n]] w fun e w' => e = .returned (.tuple #[.agg #[.int .i64 pa, .int .i64 0], .agg #[.int .i64 pb, .int .i64 0]]) ∧ Below w.heap.size w w' := by
  obtain ⟨W0, hW⟩ : ∃ W0 : World, W0 = (((w.alloc (.cells #[.int .i64 h, .int .i64 n] 31)).alloc (.cells #[.int .i64 0, .int .i64 0] 31)).alloc (.cells #[.int .i64 0, .int .i64 0] 31)) := ⟨_, rfl⟩
  have hB : Below w.heap.size w W0 := by rw [hW]; exact ((((Below.refl _ _).alloc (by simp) _).alloc (by simp) _).alloc (by simp; omega) _)
  have z0 : W0.heap[w.heap.size]? = some (.cells #[.int .i64 h, .int .i64 n] 31 (0, 0)) := by rw [hW]; exact heap_alloc_keep (heap_alloc_keep (heap_alloc_at _ _ rfl) _) _
  have z1 : W0.heap[w.heap.size + 1]? = some (.cells #[.int .i64 0, .int .i64 0] 31 (0, 0)) := by rw [hW]; exact heap_alloc_keep (heap_alloc_at _ _ (by simp)) _
  have z2 : W0.heap[w.heap.size + 2]? = some (.cells #[.int .i64 0, .int .i64 0] 31 (0, 0)) := by rw [hW]; exact heap_alloc_at _ _ (by simp)
  have b0 : ∀ x : Ext W0, x.val.cell? ⟨w.heap.size, 0, none⟩ = some (.int .i64 h) := Ext.cells (heap_cell z0 0)
  have b1 : ∀ x : Ext W0, x.val.cell? ⟨w.heap.size, 1, none⟩ = some (.int .i64 n) := Ext.cells (heap_cell z0 1)
  have HW := Lib.hid hW; have HB := Lib.hid hB; have H := Lib.hid (ht.below hB); have HP := Lib.hid hp; have Z0 := Lib.hid z0; have Z1 := Lib.hid z1; have Z2 := Lib.hid z2
  clear hW hB ht hp z0 z1 z2
  go_enter Tryz.func43, Tryz.ntmps43
  go_wp2_with fail
  rw [← HW.out]
  refine (Ext.call0 (absent_tab _ H.out)).mono ?_
  rintro e _ ⟨rfl, x1, rfl⟩
  go_wp2_with fail
  refine (Ext.call x1 (closed_tab h n _ (H.out.ext x1))).mono ?_
  rintro e _ ⟨rfl, x2, rfl⟩
  have y1 := x2.heap Z1.out; have y2 := x2.heap Z2.out
  have c10 := heap_cell y1 0; have c11 := heap_cell y1 1; have c20 := heap_cell y2 0; have c21 := heap_cell y2 1
  have f1 := fun i => heap_frozen y1 i; have f2 := fun i => heap_frozen y2 i
  simp at c10 c11 c20 c21
  rcases g1 : closedB (total gs) ⟨h, n⟩ with _ | _
  · have G1 := Lib.hid g1
    clear g1
    have e0 : endsV (total gs) (tabL gs) ⟨h, n⟩ = (0, 0) := by unfold endsV; rw [if_neg (by rw [G1.out]; simp)]
    have h1 := HP.out
    rw [e0] at h1
    obtain ⟨rfl, rfl⟩ := Prod.mk.inj h1
    clear e0 h1
    go_wp2
    refine bodyPost_ret (v := .tuple #[.agg #[.int .i64 0, .int .i64 0], .agg #[.int .i64 0, .int .i64 0]]) (by simp [results, Tryz.results43, go_sem, c10, c11, c20, c21]) rfl ⟨rfl, ?_⟩
    exact ((((HB.out.trans (x2.2.mono HB.out.size)).setCell (by simp) _).setCell (by simp) _).setCell (by simp; omega) _).setCell (by simp; omega) _
  · have G1 := Lib.hid g1
    clear g1
    by_cases hk : h = 15
    · subst hk
      have hn : 0 ≤ n ∧ n < total gs := by
        rcases closed_iff.1 G1.out with c1 | c1
        · have := c1.2.1; simp at this
        · exact c1.2
      obtain ⟨m, rfl⟩ : ∃ m : Nat, n = m := ⟨n.toNat, by omega⟩
      obtain ⟨y, hy⟩ : ∃ y, (tabL gs)[m]? = some y := ⟨(tabL gs)[m]'(by rw [tabL_len]; omega), by simp⟩
      have e0 : endsV (total gs) (tabL gs) ⟨15, m⟩ = fam (kindK y.k) := by
        unfold endsV kindAt; rw [if_pos G1.out, if_pos rfl]
        simp [hy]
      have h1 := HP.out
      rw [e0] at h1
      have HPF := Lib.hid h1
      clear h1
      have HY := Lib.hid hy
      clear e0 hy hn
      go_wp2_with fail
      refine (get_k (H.out.ext x2) HY.out).mono ?_
      rintro e w4 ⟨ds, rfl, hsub, hb4⟩
      obtain ⟨a1, l1, a2, l2, a3, l3, a4, l4, rfl⟩ := (hsub w4 (Upd.refl _ _)).out
      have hbx : Below W0.heap.size W0 (w4.alloc (.cells #[.bool y.fin, .slice a1 y.sups.length l1, .int .i64 y.k, .slice a2 y.ps.length l2, .slice a3 y.rs.length l3, .slice a4 y.fs.length l4] 64)) := (x2.2.trans (hb4.mono x2.2.size)).alloc (by have := x2.2.size; have := hb4.size; omega) _
      have HBX := Lib.hid hbx
      clear hsub hb4 hbx y1 y2 c10 c11 c20 c21 f1 f2
      go_wp2_with fail
      refine (Ext.call ⟨_, HBX.out⟩ (kindOf_any y.fin _ _ _ _ y.k _)).mono ?_
      rintro e _ ⟨rfl, x5, rfl⟩
      have y0 := x5.heap Z0.out; have y1 := x5.heap Z1.out; have y2 := x5.heap Z2.out
      have c00 := heap_cell y0 0; have c01 := heap_cell y0 1
      have c10 := heap_cell y1 0; have c11 := heap_cell y1 1; have c20 := heap_cell y2 0; have c21 := heap_cell y2 1
      have f0 := fun i => heap_frozen y0 i; have f1 := fun i => heap_frozen y1 i; have f2 := fun i => heap_frozen y2 i
      simp at c00 c01 c10 c11 c20 c21
      clear b0 b1 y0 y1 y2
      go_wp2_with fail
      refine (family_any _ _).mono ?_
      rintro e w' ⟨rfl, rfl⟩
      rw [HPF.out]
      clear c00 c01 c10 c11 c20 c21 f0 f1 f2
      have q1 : (x5.val.setCell ⟨w.heap.size, 0, none⟩ (.int .i64 (kindK y.k))).heap[w.heap.size + 1]? = some (.cells #[.int .i64 0, .int .i64 0] 31 (0, 0)) := heap_set_off (x5.heap Z1.out) (by simp) _
      have q2 : (x5.val.setCell ⟨w.heap.size, 0, none⟩ (.int .i64 (kindK y.k))).heap[w.heap.size + 1 + 1]? = some (.cells #[.int .i64 0, .int .i64 0] 31 (0, 0)) := heap_set_off (x5.heap Z2.out) (by simp) _
      have Q1 := Lib.hid q1; have Q2 := Lib.hid q2
      have c10 := heap_cell q1 0; have c11 := heap_cell q1 1; have c20 := heap_cell q2 0; have c21 := heap_cell q2 1
      have f1 := fun i => heap_frozen q1 i; have f2 := fun i => heap_frozen q2 i
      simp at c10 c11 c20 c21
      clear q1 q2
      go_wp2
      clear c10 c11 c20 c21 f1 f2
      obtain ⟨V, hV⟩ : ∃ V, V = ((x5.val.setCell ⟨w.heap.size, 0, none⟩ (.int .i64 (kindK y.k))).setCell ⟨w.heap.size + 1, 0, none⟩ (.int .i64 pa)).setCell ⟨w.heap.size + 1 + 1, 0, none⟩ (.int .i64 pb) := ⟨_, rfl⟩
      rw [← hV]
      have v1 : V.heap[w.heap.size + 1]? = some (.cells #[.int .i64 pa, .int .i64 0] 31 (0, 0)) := by rw [hV]; exact heap_set_off (heap_set_at Q1.out 0 _) (by simp) _
      have v2 : V.heap[w.heap.size + 1 + 1]? = some (.cells #[.int .i64 pb, .int .i64 0] 31 (0, 0)) := by rw [hV]; exact heap_set_at (heap_set_off Q2.out (by simp) _) 0 _
      have hbV : Below w.heap.size w V := by rw [hV]; exact (((HB.out.trans (x5.2.mono HB.out.size)).setCell (Nat.le_refl _) _).setCell (by simp) _).setCell (by simp; omega) _
      have HBV := Lib.hid hbV
      have c10 := heap_cell v1 0; have c11 := heap_cell v1 1; have c20 := heap_cell v2 0; have c21 := heap_cell v2 1
      have f1 := fun i => heap_frozen v1 i; have f2 := fun i => heap_frozen v2 i
      simp at c10 c11 c20 c21
      clear hV v1 v2 hbV
      go_region
      all_goals
        go_wp2
        refine bodyPost_ret (v := .tuple #[.agg #[.int .i64 pa, .int .i64 0], .agg #[.int .i64 pb, .int .i64 0]]) (by simp [results, Tryz.results43, go_sem, c10, c11, c20, c21]) rfl ⟨rfl, ?_⟩
        exact ⟨HBV.out.os, HBV.out.tape, HBV.out.output, (((((HBV.out.setCell (by simp) _).setCell (by simp) _).setCell (by simp; omega) _).setCell (by simp; omega) _)).size, (((((HBV.out.setCell (by simp) _).setCell (by simp) _).setCell (by simp; omega) _).setCell (by simp; omega) _)).block⟩
    · have e0 : endsV (total gs) (tabL gs) ⟨h, n⟩ = fam h := by
        unfold endsV kindAt; rw [if_pos G1.out, if_neg hk]
      have h1 := HP.out
      rw [e0] at h1
      have HPF := Lib.hid h1
      clear h1
      have hk' : (h == 15) = false := by simpa using hk
      clear e0 hk
      go_wp2_with fail
      refine (family_any _ _).mono ?_
      rintro e w' ⟨rfl, rfl⟩
      rw [HPF.out]
      go_wp2
      have Y1 := Lib.hid y1; have Y2 := Lib.hid y2
      clear y1 y2 c10 c11 c20 c21 f1 f2
      obtain ⟨V, hV⟩ : ∃ V, V = (x2.val.setCell ⟨w.heap.size + 1, 0, none⟩ (.int .i64 pa)).setCell ⟨w.heap.size + 1 + 1, 0, none⟩ (.int .i64 pb) := ⟨_, rfl⟩
      rw [← hV]
      have v1 : V.heap[w.heap.size + 1]? = some (.cells #[.int .i64 pa, .int .i64 0] 31 (0, 0)) := by rw [hV]; exact heap_set_off (heap_set_at Y1.out 0 _) (by simp) _
      have v2 : V.heap[w.heap.size + 1 + 1]? = some (.cells #[.int .i64 pb, .int .i64 0] 31 (0, 0)) := by rw [hV]; exact heap_set_at (heap_set_off Y2.out (by simp) _) 0 _
      have hbV : Below w.heap.size w V := by rw [hV]; exact ((HB.out.trans (x2.2.mono HB.out.size)).setCell (by simp) _).setCell (by simp; omega) _
      have HBV := Lib.hid hbV
      have c10 := heap_cell v1 0; have c11 := heap_cell v1 1; have c20 := heap_cell v2 0; have c21 := heap_cell v2 1
      have f1 := fun i => heap_frozen v1 i; have f2 := fun i => heap_frozen v2 i
      simp at c10 c11 c20 c21
      clear hV v1 v2 hbV
      go_region
      all_goals
        go_wp2
        refine bodyPost_ret (v := .tuple #[.agg #[.int .i64 pa, .int .i64 0], .agg #[.int .i64 pb, .int .i64 0]]) (by simp [results, Tryz.results43, go_sem, c10, c11, c20, c21]) rfl ⟨rfl, ?_⟩
        exact ⟨HBV.out.os, HBV.out.tape, HBV.out.output, (((((HBV.out.setCell (by simp) _).setCell (by simp) _).setCell (by simp; omega) _).setCell (by simp; omega) _)).size, (((((HBV.out.setCell (by simp) _).setCell (by simp) _).setCell (by simp; omega) _).setCell (by simp; omega) _)).block⟩
set_option maxRecDepth 100000 in
theorem top_of (tv : Value) (h n : Int) (pa pb : Int) (w : World) (hC : ∀ w', Below w.heap.size w w' → Calls Tryz.prog 43 #[tv, .agg #[.int .i64 h, .int .i64 n]] w' fun e w'' => e = .returned (.tuple #[.agg #[.int .i64 pa, .int .i64 0], .agg #[.int .i64 pb, .int .i64 0]]) ∧ Below w'.heap.size w' w'') : Calls Tryz.prog 15 #[tv, .agg #[.int .i64 h, .int .i64 n]] w fun e w' => e = .returned (.agg #[.int .i64 pa, .int .i64 0]) ∧ Below w.heap.size w w' := by
  have hb0 : Below w.heap.size w ((w.alloc (.cells #[.int .i64 h, .int .i64 n] 31)).alloc (.cells #[.int .i64 0, .int .i64 0] 31)) := ((Below.refl _ _).alloc (Nat.le_refl _) _).alloc (by simp) _
  have z1 : ((w.alloc (.cells #[.int .i64 h, .int .i64 n] 31)).alloc (.cells #[.int .i64 0, .int .i64 0] 31)).heap[w.heap.size + 1]? = some (.cells #[.int .i64 0, .int .i64 0] 31 (0, 0)) := heap_alloc_at _ _ (by simp)
  have C := Lib.hid (hC _ hb0)
  have HB0 := Lib.hid hb0; have Z1 := Lib.hid z1
  clear hC hb0 z1
  go_enter Tryz.func15, Tryz.ntmps15
  go_wp2_with fail
  refine C.out.mono ?_
  rintro e w1 ⟨rfl, hb⟩
  have HB := Lib.hid (HB0.out.trans (hb.mono HB0.out.size))
  have y1 := (hb.block _ (heap_lt Z1.out)).trans Z1.out
  have y3 := heap_alloc_keep (heap_alloc_keep y1 (.cells #[.int .i64 pa, .int .i64 0] 31)) (.cells #[.int .i64 pb, .int .i64 0] 31)
  have c0 := heap_cell y3 0; have c1 := heap_cell y3 1
  have f1 := fun i => heap_frozen y3 i
  have hlt := heap_lt y1
  simp at c0 c1
  clear hb y1 y3
  go_wp2
  refine bodyPost_ret (v := .agg #[.int .i64 pa, .int .i64 0]) (by simp [results, Tryz.results15, go_sem, c0, c1, Nat.ne_of_lt hlt, Nat.ne_of_gt hlt]) rfl ⟨rfl, ?_⟩
  exact (((HB.out.alloc HB.out.size _).alloc (by have := HB.out.size; simp; omega) _).setCell (by simp) _).setCell (by simp) _
theorem top_any {S R : Nat → Prop} {t : Nat} {gs : List (List Sb)} (h n : Int) (pa pb : Int) (w : World) (ht : TabK S R w t gs) (hp : endsV (total gs) (tabL gs) ⟨h, n⟩ = (pa, pb)) : Calls Tryz.prog 15 #[.pointer (some ⟨t, 0, none⟩), .agg #[.int .i64 h, .int .i64 n]] w fun e w' => e = .returned (.agg #[.int .i64 pa, .int .i64 0]) ∧ Below w.heap.size w w' :=
  top_of _ h n pa pb w fun w' hb => ends_any h n pa pb w' (ht.below hb) hp
set_option maxRecDepth 100000 in
theorem bottom_of (tv : Value) (h n : Int) (pa pb : Int) (w : World) (hC : ∀ w', Below w.heap.size w w' → Calls Tryz.prog 43 #[tv, .agg #[.int .i64 h, .int .i64 n]] w' fun e w'' => e = .returned (.tuple #[.agg #[.int .i64 pa, .int .i64 0], .agg #[.int .i64 pb, .int .i64 0]]) ∧ Below w'.heap.size w' w'') : Calls Tryz.prog 16 #[tv, .agg #[.int .i64 h, .int .i64 n]] w fun e w' => e = .returned (.agg #[.int .i64 pb, .int .i64 0]) ∧ Below w.heap.size w w' := by
  have hb0 : Below w.heap.size w ((w.alloc (.cells #[.int .i64 h, .int .i64 n] 31)).alloc (.cells #[.int .i64 0, .int .i64 0] 31)) := ((Below.refl _ _).alloc (Nat.le_refl _) _).alloc (by simp) _
  have z1 : ((w.alloc (.cells #[.int .i64 h, .int .i64 n] 31)).alloc (.cells #[.int .i64 0, .int .i64 0] 31)).heap[w.heap.size + 1]? = some (.cells #[.int .i64 0, .int .i64 0] 31 (0, 0)) := heap_alloc_at _ _ (by simp)
  have C := Lib.hid (hC _ hb0)
  have HB0 := Lib.hid hb0; have Z1 := Lib.hid z1
  clear hC hb0 z1
  go_enter Tryz.func16, Tryz.ntmps16
  go_wp2_with fail
  refine C.out.mono ?_
  rintro e w1 ⟨rfl, hb⟩
  have HB := Lib.hid (HB0.out.trans (hb.mono HB0.out.size))
  have y1 := (hb.block _ (heap_lt Z1.out)).trans Z1.out
  have y3 := heap_alloc_keep (heap_alloc_keep y1 (.cells #[.int .i64 pa, .int .i64 0] 31)) (.cells #[.int .i64 pb, .int .i64 0] 31)
  have c0 := heap_cell y3 0; have c1 := heap_cell y3 1
  have f1 := fun i => heap_frozen y3 i
  have hlt := heap_lt y1
  simp at c0 c1
  clear hb y1 y3
  go_wp2
  refine bodyPost_ret (v := .agg #[.int .i64 pb, .int .i64 0]) (by simp [results, Tryz.results16, go_sem, c0, c1, Nat.ne_of_lt hlt, Nat.ne_of_gt hlt]) rfl ⟨rfl, ?_⟩
  exact (((HB.out.alloc HB.out.size _).alloc (by have := HB.out.size; simp; omega) _).setCell (by simp) _).setCell (by simp) _
theorem bottom_any {S R : Nat → Prop} {t : Nat} {gs : List (List Sb)} (h n : Int) (pa pb : Int) (w : World) (ht : TabK S R w t gs) (hp : endsV (total gs) (tabL gs) ⟨h, n⟩ = (pa, pb)) : Calls Tryz.prog 16 #[.pointer (some ⟨t, 0, none⟩), .agg #[.int .i64 h, .int .i64 n]] w fun e w' => e = .returned (.agg #[.int .i64 pb, .int .i64 0]) ∧ Below w.heap.size w w' :=
  bottom_of _ h n pa pb w fun w' hb => ends_any h n pa pb w' (ht.below hb) hp
end Go.Proofs.YtnnbjenibfmcaaaGreatDoor
