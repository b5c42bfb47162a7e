/- Package match: fields and composite types, over any table. -/
import Derived.Test.YtkgmfbfpmlnfcaaGreatDoorQMaValP
import Derived.StillTailTactics
namespace Go.Proofs.YtkgmfbfpmlnfcaaGreatDoor
open Go.RowKit

def storeB (cB : Hp → Bool) (hB : Hp → Hp → Bool) (p q : Int) (a b : Vl) : Bool := decide (p = 0 ∨ p = 8 ∨ p = 16) && decide (p = q) && valB cB hB a b
def fieldB (cB : Hp → Bool) (hB : Hp → Hp → Bool) (a b : Fl) : Bool := decide (a.m = b.m) && storeB cB hB a.p b.p a.v b.v && (!a.m || storeB cB hB b.p a.p b.v a.v)
def zF : Fl := ⟨0, zV, false⟩
def fieldsB (cB : Hp → Bool) (hB : Hp → Hp → Bool) (l m : List Fl) : Bool := decide (m.length ≤ l.length) && (List.range m.length).all fun i => fieldB cB hB (l.getD i zF) (m.getD i zF)
def compB (cB : Hp → Bool) (hB : Hp → Hp → Bool) (a b : Sb) : Bool :=
  if a.k ≠ b.k then false else if a.k = 1 then valsB cB hB b.ps a.ps && valsB cB hB a.rs b.rs else if a.k = 2 then fieldsB cB hB a.fs b.fs else if a.k = 3 then decide (a.fs.length = 1) && decide (b.fs.length = 1) && fieldsB cB hB a.fs b.fs else false
def cellsSt (p : Int) (v : Vl) : List Value := .int .i64 p :: cellsV v
variable {S R : Nat → Prop} {gs : List (List Sb)} {qB : Hp → Hp → Bool}
set_option maxRecDepth 100000 in
set_option maxHeartbeats 2000000 in
theorem store_tab (hq : HeapT gs qB) (T : Nat) (p q : Int) (a b : Vl) (w : World) (ht : TabK S R w T gs) : Calls Tryz.prog 60 #[.pointer (some ⟨T, 0, none⟩), .agg (cellsSt p a).toArray, .agg (cellsSt q b).toArray] w fun e w' => e = .returned (.bool (storeB (closedB (total gs)) qB p q a b)) ∧ Below w.heap.size w w' := by
  obtain ⟨r, hr⟩ : ∃ r, valB (closedB (total gs)) qB a b = r := ⟨_, rfl⟩
  unfold storeB
  rw [hr]
  have C := fun w' (hb : Below w.heap.size w w') => val_tab hq T a b w' (ht.below hb)
  rw [hr] at C
  clear hr
  obtain ⟨k1, l1, h1, n1⟩ := a
  obtain ⟨k2, l2, h2, n2⟩ := b
  simp only [cellsSt, cellsV] at C ⊢
  have hb0 : Below w.heap.size w ((w.alloc (.cells #[.int .i64 p, .int .i64 k1, .bool l1, .int .i64 h1, .int .i64 n1] 91)).alloc (.cells #[.int .i64 q, .int .i64 k2, .bool l2, .int .i64 h2, .int .i64 n2] 91)) := ((Below.refl _ _).alloc (Nat.le_refl _) _).alloc (by simp) _
  have HC := Lib.hid (C _ hb0)
  have HB0 := Lib.hid hb0
  clear hb0 C ht
  by_cases hq : p = q
  · subst hq
    by_cases h0 : p = 0 ∨ p = 8 ∨ p = 16
    · rcases h0 with rfl | rfl | rfl
      all_goals
        go_enter Tryz.func60, Tryz.ntmps60
        go_wp2_with fail
        refine HC.out.mono ?_
        rintro e w1 ⟨rfl, hb⟩
        have HB := Lib.hid (HB0.out.trans (hb.mono HB0.out.size))
        clear hb HC
        cases r
        all_goals
          go_wp2
          go_ret
          exact ⟨retb (by simp), HB.out⟩
    · have e0 : (p == 0) = false := by simp; omega
      have e8 : (p == 8) = false := by simp; omega
      have e16 : (p == 16) = false := by simp; omega
      have H0 := Lib.hid h0
      clear h0 HC
      go_enter Tryz.func60, Tryz.ntmps60
      go_wp2
      go_ret
      exact ⟨retb (by rw [decide_eq_false H0.out]; rfl), HB0.out⟩
  · have hq' : (p == q) = false := by simpa using hq
    have HQ := Lib.hid hq
    clear hq HC
    by_cases h0 : p = 0 ∨ p = 8 ∨ p = 16
    · rcases h0 with rfl | rfl | rfl
      all_goals
        go_enter Tryz.func60, Tryz.ntmps60
        go_wp2
        go_ret
        exact ⟨retb (by rw [decide_eq_false HQ.out]; simp), HB0.out⟩
    · have e0 : (p == 0) = false := by simp; omega
      have e8 : (p == 8) = false := by simp; omega
      have e16 : (p == 16) = false := by simp; omega
      clear h0
      go_enter Tryz.func60, Tryz.ntmps60
      go_wp2
      go_ret
      exact ⟨retb (by rw [decide_eq_false HQ.out]; simp), HB0.out⟩
set_option maxRecDepth 100000 in
set_option maxHeartbeats 2000000 in
theorem field_tab (hq : HeapT gs qB) (T : Nat) (f g : Fl) (w : World) (ht : TabK S R w T gs) : Calls Tryz.prog 51 #[.pointer (some ⟨T, 0, none⟩), .agg (cellsF f).toArray, .agg (cellsF g).toArray] w fun e w' => e = .returned (.bool (fieldB (closedB (total gs)) qB f g)) ∧ Below w.heap.size w w' := by
  obtain ⟨r1, hr1⟩ : ∃ r, storeB (closedB (total gs)) qB f.p g.p f.v g.v = r := ⟨_, rfl⟩
  obtain ⟨r2, hr2⟩ : ∃ r, storeB (closedB (total gs)) qB g.p f.p g.v f.v = r := ⟨_, rfl⟩
  unfold fieldB
  rw [hr1, hr2]
  have C1 := fun w' (hb : Below w.heap.size w w') => store_tab hq T f.p g.p f.v g.v w' (ht.below hb)
  have C2 := fun w' (hb : Below w.heap.size w w') => store_tab hq T g.p f.p g.v f.v w' (ht.below hb)
  rw [hr1] at C1
  rw [hr2] at C2
  clear hr1 hr2
  obtain ⟨p, ⟨k1, l1, h1, n1⟩, m⟩ := f
  obtain ⟨q, ⟨k2, l2, h2, n2⟩, m'⟩ := g
  simp only [cellsF, cellsSt, cellsV] at C1 C2 ⊢
  have hb0 : Below w.heap.size w ((w.alloc (.cells #[.int .i64 p, .int .i64 k1, .bool l1, .int .i64 h1, .int .i64 n1, .bool m] 93)).alloc (.cells #[.int .i64 q, .int .i64 k2, .bool l2, .int .i64 h2, .int .i64 n2, .bool m'] 93)) := ((Below.refl _ _).alloc (Nat.le_refl _) _).alloc (by simp) _
  obtain ⟨W0, hW⟩ : ∃ W0 : World, W0 = ((w.alloc (.cells #[.int .i64 p, .int .i64 k1, .bool l1, .int .i64 h1, .int .i64 n1, .bool m] 93)).alloc (.cells #[.int .i64 q, .int .i64 k2, .bool l2, .int .i64 h2, .int .i64 n2, .bool m'] 93)) := ⟨_, rfl⟩
  have z1 : W0.heap[w.heap.size]? = some (.cells #[.int .i64 p, .int .i64 k1, .bool l1, .int .i64 h1, .int .i64 n1, .bool m] 93 (0, 0)) := by rw [hW]; exact heap_alloc_keep (heap_alloc_at _ _ rfl) _
  have z2 : W0.heap[w.heap.size + 1]? = some (.cells #[.int .i64 q, .int .i64 k2, .bool l2, .int .i64 h2, .int .i64 n2, .bool m'] 93 (0, 0)) := by rw [hW]; exact heap_alloc_at _ _ (by simp)
  rw [← hW] at hb0
  have a0 : ∀ x : Ext W0, x.val.cell? ⟨w.heap.size, 0, none⟩ = some (.int .i64 p) := Ext.cells (heap_cell z1 0)
  have a1 : ∀ x : Ext W0, x.val.cell? ⟨w.heap.size, 1, none⟩ = some (.int .i64 k1) := Ext.cells (heap_cell z1 1)
  have a2 : ∀ x : Ext W0, x.val.cell? ⟨w.heap.size, 2, none⟩ = some (.bool l1) := Ext.cells (heap_cell z1 2)
  have a3 : ∀ x : Ext W0, x.val.cell? ⟨w.heap.size, 3, none⟩ = some (.int .i64 h1) := Ext.cells (heap_cell z1 3)
  have a4 : ∀ x : Ext W0, x.val.cell? ⟨w.heap.size, 4, none⟩ = some (.int .i64 n1) := Ext.cells (heap_cell z1 4)
  have a5 : ∀ x : Ext W0, x.val.cell? ⟨w.heap.size, 5, none⟩ = some (.bool m) := Ext.cells (heap_cell z1 5)
  have d0 : ∀ x : Ext W0, x.val.cell? ⟨w.heap.size + 1, 0, none⟩ = some (.int .i64 q) := Ext.cells (heap_cell z2 0)
  have d1 : ∀ x : Ext W0, x.val.cell? ⟨w.heap.size + 1, 1, none⟩ = some (.int .i64 k2) := Ext.cells (heap_cell z2 1)
  have d2 : ∀ x : Ext W0, x.val.cell? ⟨w.heap.size + 1, 2, none⟩ = some (.bool l2) := Ext.cells (heap_cell z2 2)
  have d3 : ∀ x : Ext W0, x.val.cell? ⟨w.heap.size + 1, 3, none⟩ = some (.int .i64 h2) := Ext.cells (heap_cell z2 3)
  have d4 : ∀ x : Ext W0, x.val.cell? ⟨w.heap.size + 1, 4, none⟩ = some (.int .i64 n2) := Ext.cells (heap_cell z2 4)
  have d5 : ∀ x : Ext W0, x.val.cell? ⟨w.heap.size + 1, 5, none⟩ = some (.bool m') := Ext.cells (heap_cell z2 5)
  have HC1 := Lib.hid C1; have HC2 := Lib.hid C2; have HB0 := Lib.hid hb0; have HW := Lib.hid hW
  clear hb0 hW C1 C2 ht z1 z2
  cases m <;> cases m'
  · go_enter Tryz.func51, Tryz.ntmps51
    go_wp2_with fail
    rw [← HW.out]
    refine (Ext.call0 (HC1.out _ HB0.out)).mono ?_
    rintro e _ ⟨rfl, x1, rfl⟩
    cases r1
    all_goals
      go_wp2
      go_ret
      exact ⟨retb (by simp), HB0.out.trans (x1.2.mono HB0.out.size)⟩
  · go_enter Tryz.func51, Tryz.ntmps51
    go_wp2
    rw [← HW.out]
    go_ret
    exact ⟨retb (by simp), HB0.out⟩
  · go_enter Tryz.func51, Tryz.ntmps51
    go_wp2
    rw [← HW.out]
    go_ret
    exact ⟨retb (by simp), HB0.out⟩
  · go_enter Tryz.func51, Tryz.ntmps51
    go_wp2_with fail
    rw [← HW.out]
    refine (Ext.call0 (HC1.out _ HB0.out)).mono ?_
    rintro e _ ⟨rfl, x1, rfl⟩
    cases r1
    · go_wp2
      go_ret
      exact ⟨retb (by simp), HB0.out.trans (x1.2.mono HB0.out.size)⟩
    · go_wp2_with fail
      refine (Ext.call x1 (HC2.out _ (HB0.out.trans (x1.2.mono HB0.out.size)))).mono ?_
      rintro e _ ⟨rfl, x2, rfl⟩
      cases r2
      all_goals
        go_wp2
        go_ret
        exact ⟨retb (by simp), HB0.out.trans (x2.2.mono HB0.out.size)⟩
set_option maxRecDepth 100000 in
set_option maxHeartbeats 4000000 in
theorem fields_tab (hq : HeapT gs qB) (T : Nat) (a b : Value) (l m : List Fl) (w : World) (ha : FlsAt w a l) (hb : FlsAt w b m) (_ : l.length ≤ 1000000) (hm : m.length ≤ 1000000) (ht : TabK S R w T gs) :
    Calls Tryz.prog 28 #[.pointer (some ⟨T, 0, none⟩), a, b] w fun e w' => e = .returned (.bool (fieldsB (closedB (total gs)) qB l m)) ∧ Below w.heap.size w w' := by
  obtain ⟨ao, ca, rfl⟩ := RowAt.form ha
  obtain ⟨bo, cb, rfl⟩ := RowAt.form hb
  by_cases hlen : m.length ≤ l.length
  · have HA := Lib.hid ha
    have HB := Lib.hid hb
    have HT := Lib.hid ht
    have HL := Lib.hid hlen; have HM := Lib.hid hm
    have hlen' : ¬ (l.length : Int) < m.length := by omega
    clear ha hb ht hlen hm
    go_enter Tryz.func28, Tryz.ntmps28
    go_wp2
    go_loopw [16] (fun t17 wr => ∃ i : Nat, i ≤ m.length ∧ t17 = .int .i64 i ∧ (∀ j, j < i → fieldB (closedB (total gs)) qB (l.getD j zF) (m.getD j zF) = true) ∧ ∃ x : Ext w, wr = x.val) (fun t17 _ => m.length - (intOf t17).toNat)
    case atStart => exact ⟨0, by omega, rfl, fun j hj => by omega, ⟨_, Below.refl _ _⟩, rfl⟩
    case round =>
      obtain ⟨i, hi, rfl, hall, x, rfl⟩ := hrel
      have HALL := Lib.hid hall
      clear hall
      by_cases hlt : i < m.length
      · have hlt2 : i < l.length := Nat.lt_of_lt_of_le hlt HL.out
        obtain ⟨⟨p1, ⟨k1, n1, h1, m1⟩, u1⟩, hx⟩ : ∃ x, l[i]? = some x := ⟨l[i], by simp [hlt2]⟩
        obtain ⟨⟨p2, ⟨k2, n2, h2, m2⟩, u2⟩, hy⟩ : ∃ y, m[i]? = some y := ⟨m[i], by simp [hlt]⟩
        obtain ⟨b1, o1, e1, _, g0, g1, g2, g3, g4, g5⟩ := fls_at (HA.out.below x.2 (Nat.le_refl _)) hx
        obtain ⟨b2, o2, e2, nq, q0, q1, q2, q3, q4, q5⟩ := fls_at (HB.out.below x.2 (Nat.le_refl _)) hy
        subst e1 e2
        dsimp only at g0 g1 g2 g3 g4 g5 q0 q1 q2 q3 q4 q5
        have hx' : l.getD i zF = ⟨p1, ⟨k1, n1, h1, m1⟩, u1⟩ := by rw [List.getD_eq_getElem?_getD, hx]; rfl
        have hy' : m.getD i zF = ⟨p2, ⟨k2, n2, h2, m2⟩, u2⟩ := by rw [List.getD_eq_getElem?_getD, hy]; rfl
        have HX := Lib.hid hx'; have HY := Lib.hid hy'; have HLT := Lib.hid hlt
        have hlt' : (i : Int) < m.length := by omega
        have hlt2' : (i : Int) < l.length := by omega
        have hi6 : (i : Int) < 1000000 := by have := HM.out; omega
        obtain ⟨r, hr⟩ : ∃ r, fieldB (closedB (total gs)) qB ⟨p1, ⟨k1, n1, h1, m1⟩, u1⟩ ⟨p2, ⟨k2, n2, h2, m2⟩, u2⟩ = r := ⟨_, rfl⟩
        have HR := Lib.hid hr
        have C := fun w' (hb : Below w.heap.size w w') => field_tab hq T ⟨p1, ⟨k1, n1, h1, m1⟩, u1⟩ ⟨p2, ⟨k2, n2, h2, m2⟩, u2⟩ w' (HT.out.below hb)
        rw [hr] at C
        have HC := Lib.hid C
        clear hx hy hx' hy' hlt2 hlt hi hr C
        have hb2 : Below w.heap.size w (x.val.alloc (.cells #[.int .i64 p2, .int .i64 k2, .bool n2, .int .i64 h2, .int .i64 m2, .bool u2] 93)) := x.2.alloc x.2.size _
        have HB2 := Lib.hid hb2
        have GS := Lib.hid (And.intro g0 (And.intro g1 (And.intro g2 (And.intro g3 (And.intro g4 g5)))))
        clear hb2
        go_wp2_with fail
        clear g0 g1 g2 g3 g4 g5 q0 q1 q2 q3 q4 q5
        obtain ⟨W9, hW9⟩ : ∃ W9 : World, x.val.alloc (.cells #[.int .i64 p2, .int .i64 k2, .bool n2, .int .i64 h2, .int .i64 m2, .bool u2] 93) = W9 := ⟨_, rfl⟩
        have hb2 := HB2.out
        obtain ⟨g0, g1, g2, g3, g4, g5⟩ := GS.out
        have zf := heap_alloc_at x.val (.cells #[.int .i64 p2, .int .i64 k2, .bool n2, .int .i64 h2, .int .i64 m2, .bool u2] 93) rfl
        rw [hW9] at hb2 zf
        have w0 := heap_cell zf 0
        replace g0 := cell_alloc g0 (.cells #[.int .i64 p2, .int .i64 k2, .bool n2, .int .i64 h2, .int .i64 m2, .bool u2] 93)
        have w1 := heap_cell zf 1
        replace g1 := cell_alloc g1 (.cells #[.int .i64 p2, .int .i64 k2, .bool n2, .int .i64 h2, .int .i64 m2, .bool u2] 93)
        have w2 := heap_cell zf 2
        replace g2 := cell_alloc g2 (.cells #[.int .i64 p2, .int .i64 k2, .bool n2, .int .i64 h2, .int .i64 m2, .bool u2] 93)
        have w3 := heap_cell zf 3
        replace g3 := cell_alloc g3 (.cells #[.int .i64 p2, .int .i64 k2, .bool n2, .int .i64 h2, .int .i64 m2, .bool u2] 93)
        have w4 := heap_cell zf 4
        replace g4 := cell_alloc g4 (.cells #[.int .i64 p2, .int .i64 k2, .bool n2, .int .i64 h2, .int .i64 m2, .bool u2] 93)
        have w5 := heap_cell zf 5
        replace g5 := cell_alloc g5 (.cells #[.int .i64 p2, .int .i64 k2, .bool n2, .int .i64 h2, .int .i64 m2, .bool u2] 93)
        simp at w0 w1 w2 w3 w4 w5
        rw [hW9] at g0 g1 g2 g3 g4 g5
        rw [hW9]
        have HB2 := Lib.hid hb2
        clear zf hW9 hb2
        go_still_tail 6, (by kernel_rfl)
        change wpList _ _ _ _ _ W9.drew
        have hb2 : Below w.heap.size w W9.drew := HB2.out.drew
        go_wp2_with fail
        refine (Ext.call ⟨_, hb2⟩ (HC.out _ hb2)).mono ?_
        rintro e _ ⟨rfl, x2, rfl⟩
        clear HC hb2
        cases r
        · go_wp2
          go_ret
          refine ⟨retb ?_, x2.2⟩
          symm
          unfold fieldsB
          rw [Bool.and_eq_false_iff]
          refine .inr ?_
          rw [List.all_eq_false]
          exact ⟨i, List.mem_range.2 HLT.out, by rw [HX.out, HY.out, HR.out]; simp⟩
        · go_wp2
          go_roundw
          case rel =>
            refine ⟨i + 1, HLT.out, by go_num, fun j hj => ?_, x2, rfl⟩
            by_cases e : j < i
            · exact HALL.out j e
            · obtain rfl : j = i := by omega
              rw [HX.out, HY.out, HR.out]
          case measure => have := HLT.out; simp [intOf]; omega
      · obtain rfl : i = m.length := by omega
        have hlt' : ¬ (m.length : Int) < m.length := by omega
        go_wp2
        go_ret
        refine ⟨retb ?_, x.2⟩
        symm
        unfold fieldsB
        rw [decide_eq_true HL.out, Bool.true_and, List.all_eq_true]
        intro j hj
        exact HALL.out j (List.mem_range.1 hj)
  · have hlen' : (l.length : Int) < m.length := by omega
    have HL := Lib.hid hlen
    clear ha hb ht hlen
    go_enter Tryz.func28, Tryz.ntmps28
    go_wp2
    go_ret
    exact ⟨retb (by unfold fieldsB; rw [decide_eq_false HL.out]; rfl), Below.refl _ _⟩
theorem compB_1 {cB : Hp → Bool} {hB : Hp → Hp → Bool} {a b : Sb} (h : a.k = 1) (h2 : b.k = 1) : compB cB hB a b = (valsB cB hB b.ps a.ps && valsB cB hB a.rs b.rs) := by
  unfold compB; rw [if_neg (by simp [h, h2]), if_pos h]
theorem compB_2 {cB : Hp → Bool} {hB : Hp → Hp → Bool} {a b : Sb} (h : a.k = 2) (h2 : b.k = 2) : compB cB hB a b = fieldsB cB hB a.fs b.fs := by
  unfold compB; rw [if_neg (by simp [h, h2]), if_neg (by simp [h]), if_pos h]
theorem compB_3 {cB : Hp → Bool} {hB : Hp → Hp → Bool} {a b : Sb} (h : a.k = 3) (h2 : b.k = 3) : compB cB hB a b = (decide (a.fs.length = 1) && decide (b.fs.length = 1) && fieldsB cB hB a.fs b.fs) := by
  unfold compB; rw [if_neg (by simp [h, h2]), if_neg (by simp [h]), if_neg (by simp [h]), if_pos h]
set_option maxRecDepth 100000 in
set_option maxHeartbeats 4000000 in
theorem comp_tab (hq : HeapT gs qB) (T : Nat) (a b : Sb) (p1 r1 f1 p2 r2 f2 : Value) (w : World) (hp1 : ValsAt w p1 a.ps) (hr1 : ValsAt w r1 a.rs) (hf1 : FlsAt w f1 a.fs) (hp2 : ValsAt w p2 b.ps) (hr2 : ValsAt w r2 b.rs) (hf2 : FlsAt w f2 b.fs) (ha : cnt a ≤ 1000000) (hb : cnt b ≤ 1000000) (ht : TabK S R w T gs) :
    Calls Tryz.prog 13 #[.pointer (some ⟨T, 0, none⟩), .agg #[.int .i64 a.k, p1, r1, f1], .agg #[.int .i64 b.k, p2, r2, f2]] w fun e w' => e = .returned (.bool (compB (closedB (total gs)) qB a b)) ∧ Below w.heap.size w w' := by
  obtain ⟨ap1, cp1, rfl⟩ := RowAt.form hp1
  obtain ⟨ar1, cr1, rfl⟩ := RowAt.form hr1
  obtain ⟨af1, cf1, rfl⟩ := RowAt.form hf1
  obtain ⟨ap2, cp2, rfl⟩ := RowAt.form hp2
  obtain ⟨ar2, cr2, rfl⟩ := RowAt.form hr2
  obtain ⟨af2, cf2, rfl⟩ := RowAt.form hf2
  have hca : a.ps.length ≤ 1000000 ∧ a.rs.length ≤ 1000000 ∧ a.fs.length ≤ 1000000 := by simp only [cnt] at ha; omega
  have hcb : b.ps.length ≤ 1000000 ∧ b.rs.length ≤ 1000000 ∧ b.fs.length ≤ 1000000 := by simp only [cnt] at hb; omega
  have HCA := Lib.hid hca; have HCB := Lib.hid hcb
  obtain ⟨W0, hW⟩ : ∃ W0 : World, W0 = ((w.alloc (.cells #[.int .i64 a.k, .slice ap1 a.ps.length cp1, .slice ar1 a.rs.length cr1, .slice af1 a.fs.length cf1] 42)).alloc (.cells #[.int .i64 b.k, .slice ap2 b.ps.length cp2, .slice ar2 b.rs.length cr2, .slice af2 b.fs.length cf2] 42)) := ⟨_, rfl⟩
  have hB : Below w.heap.size w W0 := by rw [hW]; exact (((Below.refl _ _).alloc (by simp) _).alloc (by simp) _)
  have z1 : W0.heap[w.heap.size]? = some (.cells #[.int .i64 a.k, .slice ap1 a.ps.length cp1, .slice ar1 a.rs.length cr1, .slice af1 a.fs.length cf1] 42 (0, 0)) := by rw [hW]; exact heap_alloc_keep (heap_alloc_at _ _ rfl) _
  have z2 : W0.heap[w.heap.size + 1]? = some (.cells #[.int .i64 b.k, .slice ap2 b.ps.length cp2, .slice ar2 b.rs.length cr2, .slice af2 b.fs.length cf2] 42 (0, 0)) := by rw [hW]; exact heap_alloc_at _ _ (by simp)
  have a0 : ∀ x : Ext W0, x.val.cell? ⟨w.heap.size, 0, none⟩ = some (.int .i64 a.k) := Ext.cells (heap_cell z1 0)
  have a1 : ∀ x : Ext W0, x.val.cell? ⟨w.heap.size, 1, none⟩ = some (.slice ap1 a.ps.length cp1) := Ext.cells (heap_cell z1 1)
  have a2 : ∀ x : Ext W0, x.val.cell? ⟨w.heap.size, 2, none⟩ = some (.slice ar1 a.rs.length cr1) := Ext.cells (heap_cell z1 2)
  have a3 : ∀ x : Ext W0, x.val.cell? ⟨w.heap.size, 3, none⟩ = some (.slice af1 a.fs.length cf1) := Ext.cells (heap_cell z1 3)
  have d0 : ∀ x : Ext W0, x.val.cell? ⟨w.heap.size + 1, 0, none⟩ = some (.int .i64 b.k) := Ext.cells (heap_cell z2 0)
  have d1 : ∀ x : Ext W0, x.val.cell? ⟨w.heap.size + 1, 1, none⟩ = some (.slice ap2 b.ps.length cp2) := Ext.cells (heap_cell z2 1)
  have d2 : ∀ x : Ext W0, x.val.cell? ⟨w.heap.size + 1, 2, none⟩ = some (.slice ar2 b.rs.length cr2) := Ext.cells (heap_cell z2 2)
  have d3 : ∀ x : Ext W0, x.val.cell? ⟨w.heap.size + 1, 3, none⟩ = some (.slice af2 b.fs.length cf2) := Ext.cells (heap_cell z2 3)
  have HP1 := Lib.hid (RowAt.below hp1 hB (Nat.le_refl _)); have HR1 := Lib.hid (RowAt.below hr1 hB (Nat.le_refl _)); have HF1 := Lib.hid (RowAt.below hf1 hB (Nat.le_refl _))
  have HP2 := Lib.hid (RowAt.below hp2 hB (Nat.le_refl _)); have HR2 := Lib.hid (RowAt.below hr2 hB (Nat.le_refl _)); have HF2 := Lib.hid (RowAt.below hf2 hB (Nat.le_refl _))
  have HT := Lib.hid (ht.below hB)
  have HW := Lib.hid hW; have HB := Lib.hid hB
  obtain ⟨k1, hk1⟩ : ∃ k, a.k = k := ⟨_, rfl⟩
  obtain ⟨k2, hk2⟩ : ∃ k, b.k = k := ⟨_, rfl⟩
  rw [hk1] at a0 HW
  rw [hk2] at d0 HW
  have C0 := Lib.hid (fun h1 h2 => compB_1 (cB := closedB (total gs)) (hB := qB) (a := a) (b := b) (hk1.trans h1) (hk2.trans h2))
  have C1 := Lib.hid (fun h1 h2 => compB_2 (cB := closedB (total gs)) (hB := qB) (a := a) (b := b) (hk1.trans h1) (hk2.trans h2))
  have C2 := Lib.hid (fun h1 h2 => compB_3 (cB := closedB (total gs)) (hB := qB) (a := a) (b := b) (hk1.trans h1) (hk2.trans h2))
  have C3 := Lib.hid (show (k1 ≠ k2 ∨ (k1 ≠ 1 ∧ k1 ≠ 2 ∧ k1 ≠ 3)) → compB (closedB (total gs)) qB a b = false from fun h => by
    unfold compB; rw [hk1, hk2]
    rcases h with h | ⟨h1, h2, h3⟩
    · rw [if_pos h]
    · by_cases e : k1 = k2
      · rw [if_neg (by simpa using e), if_neg h1, if_neg h2, if_neg h3]
      · rw [if_pos e])
  rw [hk1, hk2]
  clear hp1 hr1 hf1 hp2 hr2 hf2 ht hW hB ha hb hca hcb z1 z2 hk1 hk2
  go_enter Tryz.func13, Tryz.ntmps13
  go_wp2_with fail
  rw [← HW.out]
  refine (Ext.call0 (absent_tab _ HT.out)).mono ?_
  rintro e _ ⟨rfl, x1, rfl⟩
  by_cases e0 : k1 = k2
  · subst e0
    by_cases e1 : k1 = 1
    · subst e1
      obtain ⟨s1, hs1⟩ : ∃ s, valsB (closedB (total gs)) qB b.ps a.ps = s := ⟨_, rfl⟩
      obtain ⟨s2, hs2⟩ : ∃ s, valsB (closedB (total gs)) qB a.rs b.rs = s := ⟨_, rfl⟩
      have HS1 := Lib.hid hs1; have HS2 := Lib.hid hs2
      clear hs1 hs2
      go_wp2_with fail
      refine (Ext.call x1 (matches_tab hq T _ _ b.ps a.ps _ (RowAt.ext HP2.out x1) (RowAt.ext HP1.out x1) HCB.out.1 HCA.out.1 (HT.out.ext x1))).mono ?_
      rintro e _ ⟨rfl, x2, rfl⟩
      rw [HS1.out]
      cases s1
      · go_wp2
        go_ret
        exact ⟨retb (by rw [C0.out (by simp) (by simp), HS1.out]; rfl), HB.out.trans (x2.2.mono HB.out.size)⟩
      · go_wp2_with fail
        refine (Ext.call x2 (matches_tab hq T _ _ a.rs b.rs _ (RowAt.ext HR1.out x2) (RowAt.ext HR2.out x2) HCA.out.2.1 HCB.out.2.1 (HT.out.ext x2))).mono ?_
        rintro e _ ⟨rfl, x3, rfl⟩
        rw [HS2.out]
        cases s2
        all_goals
          go_wp2
          go_ret
          exact ⟨retb (by rw [C0.out (by simp) (by simp), HS1.out, HS2.out]; rfl), HB.out.trans (x3.2.mono HB.out.size)⟩
    · by_cases e2 : k1 = 2
      · subst e2
        clear e1
        go_wp2_with fail
        refine (Ext.call x1 (fields_tab hq T _ _ a.fs b.fs _ (RowAt.ext HF1.out x1) (RowAt.ext HF2.out x1) HCA.out.2.2 HCB.out.2.2 (HT.out.ext x1))).mono ?_
        rintro e _ ⟨rfl, x2, rfl⟩
        obtain ⟨s1, hs1⟩ : ∃ s, fieldsB (closedB (total gs)) qB a.fs b.fs = s := ⟨_, rfl⟩
        have HS1 := Lib.hid hs1
        rw [hs1]
        clear hs1
        go_wp2
        go_ret
        exact ⟨retb (by rw [C1.out (by simp) (by simp), HS1.out]), HB.out.trans (x2.2.mono HB.out.size)⟩
      · by_cases e3 : k1 = 3
        · subst e3
          clear e1 e2
          by_cases l1 : a.fs.length = 1
          · by_cases l2 : b.fs.length = 1
            · have L1 := Lib.hid l1; have L2 := Lib.hid l2
              have l1' : (a.fs.length : Int) = 1 := by omega
              have l2' : (b.fs.length : Int) = 1 := by omega
              have C := fun (x : Ext W0) => fields_tab hq T _ _ a.fs b.fs _ (RowAt.ext HF1.out x) (RowAt.ext HF2.out x) HCA.out.2.2 HCB.out.2.2 (HT.out.ext x)
              have HC := Lib.hid C
              clear l1 l2 C
              go_wp2_with fail
              refine (Ext.call x1 (HC.out x1)).mono ?_
              rintro e _ ⟨rfl, x2, rfl⟩
              obtain ⟨s1, hs1⟩ : ∃ s, fieldsB (closedB (total gs)) qB a.fs b.fs = s := ⟨_, rfl⟩
              have HS1 := Lib.hid hs1
              rw [hs1]
              clear hs1
              cases s1
              all_goals
                go_wp2
                go_ret
                exact ⟨retb (by rw [C2.out (by simp) (by simp), HS1.out, L1.out, L2.out]; rfl), HB.out.trans (x2.2.mono HB.out.size)⟩
            · have L2 := Lib.hid l2
              have l1' : (a.fs.length : Int) = 1 := by omega
              have l2' : ¬ (b.fs.length : Int) = 1 := by omega
              have l2'' : ((b.fs.length : Int) == 1) = false := by simp; omega
              clear l1 l2
              go_wp2
              go_ret
              exact ⟨retb (by rw [C2.out (by simp) (by simp), decide_eq_false L2.out]; simp), HB.out.trans (x1.2.mono HB.out.size)⟩
          · have L1 := Lib.hid l1
            have l1' : ¬ (a.fs.length : Int) = 1 := by omega
            have l1'' : ((a.fs.length : Int) == 1) = false := by simp; omega
            clear l1
            go_wp2
            go_ret
            exact ⟨retb (by rw [C2.out (by simp) (by simp), decide_eq_false L1.out]; simp), HB.out.trans (x1.2.mono HB.out.size)⟩
        · have E := Lib.hid (C3.out (.inr ⟨e1, e2, e3⟩))
          have e1' : (k1 == 1) = false := by simpa using e1
          have e2' : (k1 == 2) = false := by simpa using e2
          have e3' : (k1 == 3) = false := by simpa using e3
          clear e1 e2 e3
          go_wp2
          go_ret
          exact ⟨retb E.out.symm, HB.out.trans (x1.2.mono HB.out.size)⟩
  · have E := Lib.hid (C3.out (.inl e0))
    have e0' : (k1 == k2) = false := by simpa using e0
    have e0'' : (k1 != k2) = true := by simpa using e0
    clear e0
    go_wp2
    go_ret
    exact ⟨retb E.out.symm, HB.out.trans (x1.2.mono HB.out.size)⟩
end Go.Proofs.YtkgmfbfpmlnfcaaGreatDoor
