/- package match: Limits, Top, Bottom. -/
import Derived.Test.YtoamhiaagaaaaaaGreatDoorQMaOrderP
import Derived.BigRegion
import Derived.Test.YtoamhiaagaaaaaaGreatDoorQMaComp
namespace Go.Proofs.YtoamhiaagaaaaaaGreatDoor
open Go.RowKit

structure Lm where
  wide : Bool
  min : Int
  max : Int
  has : Bool
def cellsL (l : Lm) : List Value := [.bool l.wide, .int .u64 l.min, .int .u64 l.max, .bool l.has]
def limB (a b : Lm) : Bool := if a.wide ≠ b.wide ∨ a.min < b.min then false else !b.has || (a.has && decide (a.max ≤ b.max))
set_option maxHeartbeats 2000000 in
theorem limits_any (a b : Lm) (w : World) : Calls Tryz.prog 67 #[.agg (cellsL a).toArray, .agg (cellsL b).toArray] w fun e w' => e = .returned (.bool (limB a b)) ∧ Below w.heap.size w w' := by
  obtain ⟨aw, an, ax, ah⟩ := a
  obtain ⟨bw, bn, bx, bh⟩ := b
  simp only [cellsL]
  cases aw <;> cases bw <;> cases ah <;> cases bh
  all_goals
    go_enter Tryz.func67, Tryz.ntmps67
    go_wp2
    all_goals
      go_ret
      refine ⟨retb ?_, ((Below.refl _ _).alloc (Nat.le_refl _) _).alloc (by simp) _⟩
      simp_all [limB]
/-- A heap type's family. -/
def endsV (n : Nat) (ts : List Sb) (h : Hp) : Int × Int := if closedB n h = true then fam (kindAt ts h) else (0, 0)
set_option maxRecDepth 100000 in
set_option maxHeartbeats 4000000 in
theorem ends_any {S R : Nat → Prop} {t : Nat} {gs : List (List Sb)} (h n : Int) (pa pb : Int) (w : World) (ht : TabK S R w t gs) (hp : endsV (total gs) (tabL gs) ⟨h, n⟩ = (pa, pb)) : Calls Tryz.prog 80 #[.pointer (some ⟨t, 0, none⟩), .agg #[.int .i64 h, .int .i64 n]] w fun e w' => e = .returned (.tuple #[.agg #[.int .i64 pa, .int .i64 0], .agg #[.int .i64 pb, .int .i64 0]]) ∧ Below w.heap.size w w' := by
  obtain ⟨W0, hW⟩ : ∃ W0 : World, W0 = (((w.alloc (.cells #[.int .i64 h, .int .i64 n] 26)).alloc (.cells #[.int .i64 0, .int .i64 0] 26)).alloc (.cells #[.int .i64 0, .int .i64 0] 26)) := ⟨_, rfl⟩
  have hB : Below w.heap.size w W0 := by rw [hW]; exact ((((Below.refl _ _).alloc (by simp) _).alloc (by simp) _).alloc (by simp; omega) _)
  have z0 : W0.heap[w.heap.size]? = some (.cells #[.int .i64 h, .int .i64 n] 26 (0, 0)) := by rw [hW]; exact heap_alloc_keep (heap_alloc_keep (heap_alloc_at _ _ rfl) _) _
  have z1 : W0.heap[w.heap.size + 1]? = some (.cells #[.int .i64 0, .int .i64 0] 26 (0, 0)) := by rw [hW]; exact heap_alloc_keep (heap_alloc_at _ _ (by simp)) _
  have z2 : W0.heap[w.heap.size + 2]? = some (.cells #[.int .i64 0, .int .i64 0] 26 (0, 0)) := by rw [hW]; exact heap_alloc_at _ _ (by simp)
  have b0 : ∀ x : Ext W0, x.val.cell? ⟨w.heap.size, 0, none⟩ = some (.int .i64 h) := Ext.cells (heap_cell z0 0)
  have b1 : ∀ x : Ext W0, x.val.cell? ⟨w.heap.size, 1, none⟩ = some (.int .i64 n) := Ext.cells (heap_cell z0 1)
  have HW := Lib.hid hW; have HB := Lib.hid hB; have H := Lib.hid (ht.below hB); have HP := Lib.hid hp; have Z0 := Lib.hid z0; have Z1 := Lib.hid z1; have Z2 := Lib.hid z2
  clear hW hB ht hp z0 z1 z2
  go_enter Tryz.func80, Tryz.ntmps80
  go_wp2_with fail
  rw [← HW.out]
  refine (Ext.call0 (absent_tab _ H.out)).mono ?_
  rintro e _ ⟨rfl, x1, rfl⟩
  go_wp2_with fail
  refine (Ext.call x1 (closed_tab h n _ (H.out.ext x1))).mono ?_
  rintro e _ ⟨rfl, x2, rfl⟩
  have y1 := x2.heap Z1.out; have y2 := x2.heap Z2.out
  have c10 := heap_cell y1 0; have c11 := heap_cell y1 1; have c20 := heap_cell y2 0; have c21 := heap_cell y2 1
  have f1 := fun i => heap_frozen y1 i; have f2 := fun i => heap_frozen y2 i
  simp at c10 c11 c20 c21
  rcases g1 : closedB (total gs) ⟨h, n⟩ with _ | _
  · have G1 := Lib.hid g1
    clear g1
    have e0 : endsV (total gs) (tabL gs) ⟨h, n⟩ = (0, 0) := by unfold endsV; rw [if_neg (by rw [G1.out]; simp)]
    have h1 := HP.out
    rw [e0] at h1
    obtain ⟨rfl, rfl⟩ := Prod.mk.inj h1
    clear e0 h1
    go_wp2
    refine bodyPost_ret (v := .tuple #[.agg #[.int .i64 0, .int .i64 0], .agg #[.int .i64 0, .int .i64 0]]) (by simp [results, Tryz.results80, go_sem, c10, c11, c20, c21]) rfl ⟨rfl, ?_⟩
    exact ((((HB.out.trans (x2.2.mono HB.out.size)).setCell (by simp) _).setCell (by simp) _).setCell (by simp; omega) _).setCell (by simp; omega) _
  · have G1 := Lib.hid g1
    clear g1
    by_cases hk : h = 15
    · subst hk
      have hn : 0 ≤ n ∧ n < total gs := by
        rcases closed_iff.1 G1.out with c1 | c1
        · have := c1.2.1; simp at this
        · exact c1.2
      obtain ⟨m, rfl⟩ : ∃ m : Nat, n = m := ⟨n.toNat, by omega⟩
      obtain ⟨y, hy⟩ : ∃ y, (tabL gs)[m]? = some y := ⟨(tabL gs)[m]'(by rw [tabL_len]; omega), by simp⟩
      have e0 : endsV (total gs) (tabL gs) ⟨15, m⟩ = fam (kindK y.k) := by
        unfold endsV kindAt; rw [if_pos G1.out, if_pos rfl]
        simp [hy]
      have h1 := HP.out
      rw [e0] at h1
      have HPF := Lib.hid h1
      clear h1
      have HY := Lib.hid hy
      clear e0 hy hn
      go_wp2_with fail
      refine (get_k (H.out.ext x2) HY.out).mono ?_
      rintro e w4 ⟨ds, rfl, hsub, hb4⟩
      obtain ⟨a1, l1, a2, l2, a3, l3, a4, l4, rfl⟩ := (hsub w4 (Upd.refl _ _)).out
      have hbx : Below W0.heap.size W0 (w4.alloc (.cells #[.bool y.fin, .slice a1 y.sups.length l1, .int .i64 y.k, .slice a2 y.ps.length l2, .slice a3 y.rs.length l3, .slice a4 y.fs.length l4] 48)) := (x2.2.trans (hb4.mono x2.2.size)).alloc (by have := x2.2.size; have := hb4.size; omega) _
      have HBX := Lib.hid hbx
      clear hsub hb4 hbx y1 y2 c10 c11 c20 c21 f1 f2
      go_wp2_with fail
      refine (Ext.call ⟨_, HBX.out⟩ (kindOf_any y.fin _ _ _ _ y.k _)).mono ?_
      rintro e _ ⟨rfl, x5, rfl⟩
      have y0 := x5.heap Z0.out; have y1 := x5.heap Z1.out; have y2 := x5.heap Z2.out
      have c00 := heap_cell y0 0; have c01 := heap_cell y0 1
      have c10 := heap_cell y1 0; have c11 := heap_cell y1 1; have c20 := heap_cell y2 0; have c21 := heap_cell y2 1
      have f0 := fun i => heap_frozen y0 i; have f1 := fun i => heap_frozen y1 i; have f2 := fun i => heap_frozen y2 i
      simp at c00 c01 c10 c11 c20 c21
      clear b0 b1 y0 y1 y2
      go_wp2_with fail
      refine (family_any _ _).mono ?_
      rintro e w' ⟨rfl, rfl⟩
      rw [HPF.out]
      clear c00 c01 c10 c11 c20 c21 f0 f1 f2
      have q1 : (x5.val.setCell ⟨w.heap.size, 0, none⟩ (.int .i64 (kindK y.k))).heap[w.heap.size + 1]? = some (.cells #[.int .i64 0, .int .i64 0] 26 (0, 0)) := heap_set_off (x5.heap Z1.out) (by simp) _
      have q2 : (x5.val.setCell ⟨w.heap.size, 0, none⟩ (.int .i64 (kindK y.k))).heap[w.heap.size + 1 + 1]? = some (.cells #[.int .i64 0, .int .i64 0] 26 (0, 0)) := heap_set_off (x5.heap Z2.out) (by simp) _
      have Q1 := Lib.hid q1; have Q2 := Lib.hid q2
      have c10 := heap_cell q1 0; have c11 := heap_cell q1 1; have c20 := heap_cell q2 0; have c21 := heap_cell q2 1
      have f1 := fun i => heap_frozen q1 i; have f2 := fun i => heap_frozen q2 i
      simp at c10 c11 c20 c21
      clear q1 q2
      go_wp2
      clear c10 c11 c20 c21 f1 f2
      obtain ⟨V, hV⟩ : ∃ V, V = ((x5.val.setCell ⟨w.heap.size, 0, none⟩ (.int .i64 (kindK y.k))).setCell ⟨w.heap.size + 1, 0, none⟩ (.int .i64 pa)).setCell ⟨w.heap.size + 1 + 1, 0, none⟩ (.int .i64 pb) := ⟨_, rfl⟩
      rw [← hV]
      have v1 : V.heap[w.heap.size + 1]? = some (.cells #[.int .i64 pa, .int .i64 0] 26 (0, 0)) := by rw [hV]; exact heap_set_off (heap_set_at Q1.out 0 _) (by simp) _
      have v2 : V.heap[w.heap.size + 1 + 1]? = some (.cells #[.int .i64 pb, .int .i64 0] 26 (0, 0)) := by rw [hV]; exact heap_set_at (heap_set_off Q2.out (by simp) _) 0 _
      have hbV : Below w.heap.size w V := by rw [hV]; exact (((HB.out.trans (x5.2.mono HB.out.size)).setCell (Nat.le_refl _) _).setCell (by simp) _).setCell (by simp; omega) _
      have HBV := Lib.hid hbV
      have c10 := heap_cell v1 0; have c11 := heap_cell v1 1; have c20 := heap_cell v2 0; have c21 := heap_cell v2 1
      have f1 := fun i => heap_frozen v1 i; have f2 := fun i => heap_frozen v2 i
      simp at c10 c11 c20 c21
      clear hV v1 v2 hbV
      go_region
      all_goals
        go_wp2
        refine bodyPost_ret (v := .tuple #[.agg #[.int .i64 pa, .int .i64 0], .agg #[.int .i64 pb, .int .i64 0]]) (by simp [results, Tryz.results80, go_sem, c10, c11, c20, c21]) rfl ⟨rfl, ?_⟩
        exact ⟨HBV.out.os, HBV.out.tape, HBV.out.output, (((((HBV.out.setCell (by simp) _).setCell (by simp) _).setCell (by simp; omega) _).setCell (by simp; omega) _)).size, (((((HBV.out.setCell (by simp) _).setCell (by simp) _).setCell (by simp; omega) _).setCell (by simp; omega) _)).block⟩
    · have e0 : endsV (total gs) (tabL gs) ⟨h, n⟩ = fam h := by
        unfold endsV kindAt; rw [if_pos G1.out, if_neg hk]
      have h1 := HP.out
      rw [e0] at h1
      have HPF := Lib.hid h1
      clear h1
      have hk' : (h == 15) = false := by simpa using hk
      clear e0 hk
      go_wp2_with fail
      refine (family_any _ _).mono ?_
      rintro e w' ⟨rfl, rfl⟩
      rw [HPF.out]
      go_wp2
      have Y1 := Lib.hid y1; have Y2 := Lib.hid y2
      clear y1 y2 c10 c11 c20 c21 f1 f2
      obtain ⟨V, hV⟩ : ∃ V, V = (x2.val.setCell ⟨w.heap.size + 1, 0, none⟩ (.int .i64 pa)).setCell ⟨w.heap.size + 1 + 1, 0, none⟩ (.int .i64 pb) := ⟨_, rfl⟩
      rw [← hV]
      have v1 : V.heap[w.heap.size + 1]? = some (.cells #[.int .i64 pa, .int .i64 0] 26 (0, 0)) := by rw [hV]; exact heap_set_off (heap_set_at Y1.out 0 _) (by simp) _
      have v2 : V.heap[w.heap.size + 1 + 1]? = some (.cells #[.int .i64 pb, .int .i64 0] 26 (0, 0)) := by rw [hV]; exact heap_set_at (heap_set_off Y2.out (by simp) _) 0 _
      have hbV : Below w.heap.size w V := by rw [hV]; exact ((HB.out.trans (x2.2.mono HB.out.size)).setCell (by simp) _).setCell (by simp; omega) _
      have HBV := Lib.hid hbV
      have c10 := heap_cell v1 0; have c11 := heap_cell v1 1; have c20 := heap_cell v2 0; have c21 := heap_cell v2 1
      have f1 := fun i => heap_frozen v1 i; have f2 := fun i => heap_frozen v2 i
      simp at c10 c11 c20 c21
      clear hV v1 v2 hbV
      go_region
      all_goals
        go_wp2
        refine bodyPost_ret (v := .tuple #[.agg #[.int .i64 pa, .int .i64 0], .agg #[.int .i64 pb, .int .i64 0]]) (by simp [results, Tryz.results80, go_sem, c10, c11, c20, c21]) rfl ⟨rfl, ?_⟩
        exact ⟨HBV.out.os, HBV.out.tape, HBV.out.output, (((((HBV.out.setCell (by simp) _).setCell (by simp) _).setCell (by simp; omega) _).setCell (by simp; omega) _)).size, (((((HBV.out.setCell (by simp) _).setCell (by simp) _).setCell (by simp; omega) _).setCell (by simp; omega) _)).block⟩
set_option maxRecDepth 100000 in
theorem top_of (tv : Value) (h n : Int) (pa pb : Int) (w : World) (hC : ∀ w', Below w.heap.size w w' → Calls Tryz.prog 80 #[tv, .agg #[.int .i64 h, .int .i64 n]] w' fun e w'' => e = .returned (.tuple #[.agg #[.int .i64 pa, .int .i64 0], .agg #[.int .i64 pb, .int .i64 0]]) ∧ Below w'.heap.size w' w'') : Calls Tryz.prog 41 #[tv, .agg #[.int .i64 h, .int .i64 n]] w fun e w' => e = .returned (.agg #[.int .i64 pa, .int .i64 0]) ∧ Below w.heap.size w w' := by
  have hb0 : Below w.heap.size w ((w.alloc (.cells #[.int .i64 h, .int .i64 n] 26)).alloc (.cells #[.int .i64 0, .int .i64 0] 26)) := ((Below.refl _ _).alloc (Nat.le_refl _) _).alloc (by simp) _
  have z1 : ((w.alloc (.cells #[.int .i64 h, .int .i64 n] 26)).alloc (.cells #[.int .i64 0, .int .i64 0] 26)).heap[w.heap.size + 1]? = some (.cells #[.int .i64 0, .int .i64 0] 26 (0, 0)) := heap_alloc_at _ _ (by simp)
  have C := Lib.hid (hC _ hb0)
  have HB0 := Lib.hid hb0; have Z1 := Lib.hid z1
  clear hC hb0 z1
  go_enter Tryz.func41, Tryz.ntmps41
  go_wp2_with fail
  refine C.out.mono ?_
  rintro e w1 ⟨rfl, hb⟩
  have HB := Lib.hid (HB0.out.trans (hb.mono HB0.out.size))
  have y1 := (hb.block _ (heap_lt Z1.out)).trans Z1.out
  have y3 := heap_alloc_keep (heap_alloc_keep y1 (.cells #[.int .i64 pa, .int .i64 0] 26)) (.cells #[.int .i64 pb, .int .i64 0] 26)
  have c0 := heap_cell y3 0; have c1 := heap_cell y3 1
  have f1 := fun i => heap_frozen y3 i
  have hlt := heap_lt y1
  simp at c0 c1
  clear hb y1 y3
  go_wp2
  refine bodyPost_ret (v := .agg #[.int .i64 pa, .int .i64 0]) (by simp [results, Tryz.results41, go_sem, c0, c1, Nat.ne_of_lt hlt, Nat.ne_of_gt hlt]) rfl ⟨rfl, ?_⟩
  exact (((HB.out.alloc HB.out.size _).alloc (by have := HB.out.size; simp; omega) _).setCell (by simp) _).setCell (by simp) _
theorem top_any {S R : Nat → Prop} {t : Nat} {gs : List (List Sb)} (h n : Int) (pa pb : Int) (w : World) (ht : TabK S R w t gs) (hp : endsV (total gs) (tabL gs) ⟨h, n⟩ = (pa, pb)) : Calls Tryz.prog 41 #[.pointer (some ⟨t, 0, none⟩), .agg #[.int .i64 h, .int .i64 n]] w fun e w' => e = .returned (.agg #[.int .i64 pa, .int .i64 0]) ∧ Below w.heap.size w w' :=
  top_of _ h n pa pb w fun w' hb => ends_any h n pa pb w' (ht.below hb) hp
set_option maxRecDepth 100000 in
theorem bottom_of (tv : Value) (h n : Int) (pa pb : Int) (w : World) (hC : ∀ w', Below w.heap.size w w' → Calls Tryz.prog 80 #[tv, .agg #[.int .i64 h, .int .i64 n]] w' fun e w'' => e = .returned (.tuple #[.agg #[.int .i64 pa, .int .i64 0], .agg #[.int .i64 pb, .int .i64 0]]) ∧ Below w'.heap.size w' w'') : Calls Tryz.prog 40 #[tv, .agg #[.int .i64 h, .int .i64 n]] w fun e w' => e = .returned (.agg #[.int .i64 pb, .int .i64 0]) ∧ Below w.heap.size w w' := by
  have hb0 : Below w.heap.size w ((w.alloc (.cells #[.int .i64 h, .int .i64 n] 26)).alloc (.cells #[.int .i64 0, .int .i64 0] 26)) := ((Below.refl _ _).alloc (Nat.le_refl _) _).alloc (by simp) _
  have z1 : ((w.alloc (.cells #[.int .i64 h, .int .i64 n] 26)).alloc (.cells #[.int .i64 0, .int .i64 0] 26)).heap[w.heap.size + 1]? = some (.cells #[.int .i64 0, .int .i64 0] 26 (0, 0)) := heap_alloc_at _ _ (by simp)
  have C := Lib.hid (hC _ hb0)
  have HB0 := Lib.hid hb0; have Z1 := Lib.hid z1
  clear hC hb0 z1
  go_enter Tryz.func40, Tryz.ntmps40
  go_wp2_with fail
  refine C.out.mono ?_
  rintro e w1 ⟨rfl, hb⟩
  have HB := Lib.hid (HB0.out.trans (hb.mono HB0.out.size))
  have y1 := (hb.block _ (heap_lt Z1.out)).trans Z1.out
  have y3 := heap_alloc_keep (heap_alloc_keep y1 (.cells #[.int .i64 pa, .int .i64 0] 26)) (.cells #[.int .i64 pb, .int .i64 0] 26)
  have c0 := heap_cell y3 0; have c1 := heap_cell y3 1
  have f1 := fun i => heap_frozen y3 i
  have hlt := heap_lt y1
  simp at c0 c1
  clear hb y1 y3
  go_wp2
  refine bodyPost_ret (v := .agg #[.int .i64 pb, .int .i64 0]) (by simp [results, Tryz.results40, go_sem, c0, c1, Nat.ne_of_lt hlt, Nat.ne_of_gt hlt]) rfl ⟨rfl, ?_⟩
  exact (((HB.out.alloc HB.out.size _).alloc (by have := HB.out.size; simp; omega) _).setCell (by simp) _).setCell (by simp) _
theorem bottom_any {S R : Nat → Prop} {t : Nat} {gs : List (List Sb)} (h n : Int) (pa pb : Int) (w : World) (ht : TabK S R w t gs) (hp : endsV (total gs) (tabL gs) ⟨h, n⟩ = (pa, pb)) : Calls Tryz.prog 40 #[.pointer (some ⟨t, 0, none⟩), .agg #[.int .i64 h, .int .i64 n]] w fun e w' => e = .returned (.agg #[.int .i64 pb, .int .i64 0]) ∧ Below w.heap.size w w' :=
  bottom_of _ h n pa pb w fun w' hb => ends_any h n pa pb w' (ht.below hb) hp
end Go.Proofs.YtoamhiaagaaaaaaGreatDoor

/- package match: what its calls tell over a table: as the plain law says (no program in sight). -/
namespace Go.Proofs.YtoamhiaagaaaaaaGreatDoor
open Go.RowKit

variable {gs : List (List Sb)} {qB : Hp → Hp → Bool}
theorem proper_iff {n : Nat} {v : Vl} : properB (closedB n) v = true ↔ ProperP n v := by
  unfold properB ProperP
  by_cases hk : v.k = 3
  · rw [if_pos hk]
    simp [hk, neverB, NeverP, closed_iff]
  · rw [if_neg hk]
    simp [hk, and_assoc]
theorem valB_iff (hq : HeapT gs qB) {a b : Vl} : valB (closedB (total gs)) qB a b = true ↔ ValP (tabL gs) a b := by
  unfold valB ValP
  rw [Bool.and_eq_true, Bool.and_eq_true, proper_iff, proper_iff, tabL_len, and_assoc]
  refine and_congr Iff.rfl (and_congr Iff.rfl ?_)
  by_cases h4 : a.k = 4
  · simp [h4]
  · rw [if_neg h4]
    by_cases he : a.k = b.k
    · rw [if_neg (by simpa using he)]
      by_cases h3 : a.k ≠ 3 ∨ neverB a = true
      · rw [if_pos h3]
        have : a.k ≠ 3 ∨ NeverP a := h3.imp id (fun h => by simpa [neverB, NeverP] using h)
        simp only [true_iff]
        exact .inr ⟨he, this.elim .inl (fun h => .inr (.inl h))⟩
      · rw [if_neg h3]
        have h31 : a.k = 3 := by
          by_cases e : a.k = 3
          · exact e
          · exact absurd (.inl e) h3
        have h32 : ¬ NeverP a := fun e => h3 (.inr (by simpa [neverB, NeverP] using e))
        rw [Bool.and_eq_true, hq]
        constructor
        · rintro ⟨h1, h2⟩
          refine .inr ⟨he, .inr (.inr ⟨fun e => ?_, h2⟩)⟩
          simpa [e] using h1
        · rintro (h | ⟨_, h | h | ⟨h1, h2⟩⟩)
          · exact absurd h h4
          · exact absurd h31 h
          · exact absurd h h32
          · refine ⟨?_, h2⟩
            cases hn : a.nl
            · simp
            · simp [h1 hn]
    · rw [if_pos he]
      simp [h4, he]
theorem storeB_iff (hq : HeapT gs qB) {p q : Int} {a b : Vl} : storeB (closedB (total gs)) qB p q a b = true ↔ StoreP (tabL gs) p q a b := by
  unfold storeB StoreP
  rw [Bool.and_eq_true, Bool.and_eq_true, valB_iff hq, decide_eq_true_eq, decide_eq_true_eq, and_assoc]
theorem fieldB_iff (hq : HeapT gs qB) {a b : Fl} : fieldB (closedB (total gs)) qB a b = true ↔ FieldP (tabL gs) a b := by
  unfold fieldB FieldP
  rw [Bool.and_eq_true, Bool.and_eq_true, storeB_iff hq, decide_eq_true_eq, and_assoc]
  refine and_congr Iff.rfl (and_congr Iff.rfl ?_)
  rw [Bool.or_eq_true, storeB_iff hq]
  cases hm : a.m
  · simp
  · simp
theorem getD_some {α : Type} {l : List α} {i : Nat} {x d : α} (h : l[i]? = some x) : l.getD i d = x := by rw [List.getD_eq_getElem?_getD, h]; rfl
theorem valsB_iff (hq : HeapT gs qB) {l m : List Vl} : valsB (closedB (total gs)) qB l m = true ↔ ListP (ValP (tabL gs)) l m := by
  unfold valsB ListP
  rw [Bool.and_eq_true, decide_eq_true_eq, List.all_eq_true]
  constructor
  · rintro ⟨h0, h⟩
    refine ⟨h0, fun i x y hx hy => ?_⟩
    have := h i (List.mem_range.2 (List.getElem?_eq_some_iff.1 hx).1)
    rw [getD_some hx, getD_some hy] at this
    exact (valB_iff hq).1 this
  · rintro ⟨h0, h⟩
    refine ⟨h0, fun i hi => ?_⟩
    have hi := List.mem_range.1 hi
    have hm : i < m.length := by omega
    rw [getD_some (List.getElem?_eq_getElem hi), getD_some (List.getElem?_eq_getElem hm)]
    exact (valB_iff hq).2 (h i _ _ (List.getElem?_eq_getElem hi) (List.getElem?_eq_getElem hm))
theorem fieldsB_iff (hq : HeapT gs qB) {l m : List Fl} : fieldsB (closedB (total gs)) qB l m = true ↔ FieldsP (tabL gs) l m := by
  unfold fieldsB FieldsP
  rw [Bool.and_eq_true, decide_eq_true_eq, List.all_eq_true]
  constructor
  · rintro ⟨h0, h⟩
    refine ⟨h0, fun i x y hx hy => ?_⟩
    have := h i (List.mem_range.2 (List.getElem?_eq_some_iff.1 hy).1)
    rw [getD_some hx, getD_some hy] at this
    exact (fieldB_iff hq).1 this
  · rintro ⟨h0, h⟩
    refine ⟨h0, fun i hi => ?_⟩
    have hi := List.mem_range.1 hi
    have hl : i < l.length := Nat.lt_of_lt_of_le hi h0
    rw [getD_some (List.getElem?_eq_getElem hi), getD_some (List.getElem?_eq_getElem hl)]
    exact (fieldB_iff hq).2 (h i _ _ (List.getElem?_eq_getElem hl) (List.getElem?_eq_getElem hi))
theorem compB_iff (hq : HeapT gs qB) {a b : Sb} : compB (closedB (total gs)) qB a b = true ↔ CompP (tabL gs) a b := by
  unfold compB CompP
  by_cases he : a.k = b.k
  · rw [if_neg (by simpa using he)]
    by_cases h1 : a.k = 1
    · rw [if_pos h1, Bool.and_eq_true, valsB_iff hq, valsB_iff hq]
      simp [← he, h1]
    · rw [if_neg h1]
      by_cases h2 : a.k = 2
      · rw [if_pos h2, fieldsB_iff hq]
        simp [← he, h2]
      · rw [if_neg h2]
        by_cases h3 : a.k = 3
        · rw [if_pos h3, Bool.and_eq_true, Bool.and_eq_true, fieldsB_iff hq]
          simp [← he, h3, and_assoc]
        · rw [if_neg h3]
          simp [← he, h1, h2, h3]
  · rw [if_pos he]
    simp [he]
/-- The law of MatchOrder, over heap types. -/
theorem heap_law (hq : HeapT gs qB) (hc : TabC gs) (hs : SupOk (tabL gs)) {a b : Hp} (h : qB a b = true) : qB a a = true ∧ qB b b = true ∧ (∀ c, qB b c = true → qB a c = true) ∧ (qB b a = true → a = b) := by
  have h1 := (hq a b).1 h
  exact ⟨(hq a a).2 h1.left, (hq b b).2 h1.right, fun c h2 => (hq a c).2 (h1.trans hc.clo hs ((hq b c).1 h2)), fun h2 => h1.anti hc.clo hs ((hq b a).1 h2)⟩
theorem val_law (hq : HeapT gs qB) (hc : TabC gs) (hs : SupOk (tabL gs)) {a b : Vl} (h : valB (closedB (total gs)) qB a b = true) : valB (closedB (total gs)) qB a a = true ∧ valB (closedB (total gs)) qB b b = true ∧ (∀ c, valB (closedB (total gs)) qB b c = true → valB (closedB (total gs)) qB a c = true) ∧ (valB (closedB (total gs)) qB b a = true → a = b) := by
  have h1 := (valB_iff hq).1 h
  exact ⟨(valB_iff hq).2 h1.left, (valB_iff hq).2 h1.right, fun c h2 => (valB_iff hq).2 (h1.trans hc.clo hs ((valB_iff hq).1 h2)), fun h2 => h1.anti hc.clo hs ((valB_iff hq).1 h2)⟩
structure TypeLaw (gs : List (List Sb)) (qB : Hp → Hp → Bool) (i : Nat) (y : Sb) : Prop where
  heap : qB ⟨15, i⟩ ⟨15, i⟩ = true
  comp : compB (closedB (total gs)) qB y y = true
  ends : endsV (total gs) (tabL gs) ⟨15, i⟩ = ((fam (kindK y.k)).1, (fam (kindK y.k)).2)
  bot : qB ⟨(fam (kindK y.k)).2, 0⟩ ⟨15, i⟩ = true
  top : qB ⟨15, i⟩ ⟨(fam (kindK y.k)).1, 0⟩ = true
theorem type_law (hq : HeapT gs qB) (hc : TabC gs) {i : Nat} {y : Sb} (hy : (tabL gs)[i]? = some y) : TypeLaw gs qB i y := by
  have hlt := (List.getElem?_eq_some_iff.1 hy).1
  refine ⟨(hq _ _).2 (heapP_self hlt), (compB_iff hq).2 (compP_refl (by rw [tabL_len]; exact hc.typ (List.mem_of_getElem? hy))), ?_, (hq _ _).2 (heapP_bot hc.clo hy), (hq _ _).2 (heapP_top hc.clo hy)⟩
  unfold endsV kindAt
  rw [if_pos, if_pos rfl]
  · simp [hy]
  · rw [closed_iff]
    exact closed_def (by rw [← tabL_len]; exact hlt)
theorem anti_law (hq : HeapT gs qB) (hc : TabC gs) (hs : SupOk (tabL gs)) {i k : Nat} {y x : Sb} (hy : (tabL gs)[i]? = some y) (hx : (tabL gs)[k]? = some x) (h1 : compB (closedB (total gs)) qB y x = true) (h2 : compB (closedB (total gs)) qB x y = true) : (⟨false, [], y.k, y.ps, y.rs, y.fs⟩ : Sb) = ⟨false, [], x.k, x.ps, x.rs, x.fs⟩ := by
  obtain ⟨e1, e2, e3, e4⟩ := compP_anti hc.clo hs (by rw [tabL_len]; exact hc.typ (List.mem_of_getElem? hy)) (by rw [tabL_len]; exact hc.typ (List.mem_of_getElem? hx)) ((compB_iff hq).1 h1) ((compB_iff hq).1 h2)
  rw [e1, e2, e3, e4]
end Go.Proofs.YtoamhiaagaaaaaaGreatDoor
