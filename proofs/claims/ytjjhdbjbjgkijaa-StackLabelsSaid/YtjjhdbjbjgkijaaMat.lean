/- Package match over a table without types: which value types match. -/
import Derived.Test.YtjjhdbjbjgkijaaMach
import Derived.Test.YtjjhdbjbjgkijaaCalm
namespace Go.Proofs.Ytjjhdbjbjgkijaa
open Go.RowKit

def neverB (v : Vl) : Bool := decide (v = ⟨3, false, 0, 0⟩)
def givenB (h n : Int) : Bool := decide (1 ≤ h) && decide (h ≤ 12) && decide (n = 0)

theorem never_any (v : Vl) (w : World) : Calls Try.prog 51 #[.agg (cellsV v).toArray] w fun e w' => e = .returned (.bool (neverB v)) ∧ Below w.heap.size w w' := by
  obtain ⟨k, nl, h, n⟩ := v
  simp only [cellsV, neverB]
  go_enter Try.func51, Try.ntmps51
  go_wp2
  all_goals
    go_ret
    exact ⟨retb (by simp_all), (Below.refl _ _).alloc (Nat.le_refl _) _⟩
theorem given_any (h n : Int) (w : World) : Calls Try.prog 58 #[.agg #[.int .i64 h, .int .i64 n]] w fun e w' => e = .returned (.bool (givenB h n)) ∧ Below w.heap.size w w' := by
  unfold givenB
  go_enter Try.func58, Try.ntmps58
  go_wp2
  all_goals
    go_ret
    exact ⟨retb (by first | (simp_all; done) | (simp_all; omega) | (rw [Bool.eq_iff_iff]; simp_all; done) | (rw [Bool.eq_iff_iff]; simp_all; omega)), (Below.refl _ _).alloc (Nat.le_refl _) _⟩
theorem len_tab (T : Nat) (w : World) (h : TabAt w T) : Calls Try.prog 59 #[.pointer (some ⟨T, 0, none⟩)] w fun e w' => e = .returned (.int .i64 0) ∧ Below w.heap.size w w' := by
  have H := Lib.hid h
  obtain ⟨m, h⟩ := h
  have q0 := cell_of_block h 1
  simp at q0
  clear h
  go_enter Try.func59, Try.ntmps59
  go_wp2_with fail
  refine (made_tab T _ H.out).mono ?_
  rintro e w1 ⟨rfl, n, rfl⟩
  go_wp2
  go_ret
  exact ⟨rfl, below_drewN (Below.refl _ _) n⟩
theorem absent_tab (T : Nat) (w : World) (h : TabAt w T) : Calls Try.prog 33 #[.pointer (some ⟨T, 0, none⟩)] w fun e w' => e = .returned (.bool false) ∧ Below w.heap.size w w' := by
  have H := Lib.hid h
  clear h
  go_enter Try.func33, Try.ntmps33
  go_wp2_with fail
  refine (get_tab T (-1) _ H.out).mono ?_
  rintro e w1 ⟨rfl, hb⟩
  go_wp2
  go_ret
  exact ⟨rfl, hb.alloc hb.size _⟩
theorem TabAt.ext {w : World} {T : Nat} (h : TabAt w T) (x : Ext w) : TabAt x.val T := h.below x.2 h.lt
set_option maxHeartbeats 1000000 in
theorem closed_tab (T : Nat) (h n : Int) (w : World) (ht : TabAt w T) : Calls Try.prog 53 #[.pointer (some ⟨T, 0, none⟩), .agg #[.int .i64 h, .int .i64 n]] w fun e w' => e = .returned (.bool (givenB h n)) ∧ Below w.heap.size w w' := by
  have H := Lib.hid (ht.below ((Below.refl _ _).alloc (Nat.le_refl _) (.cells #[.int .i64 h, .int .i64 n] 39)) ht.lt)
  clear ht
  obtain ⟨b, hbb⟩ : ∃ b, givenB h n = b := ⟨_, rfl⟩
  have HB := Lib.hid hbb
  clear hbb
  have c0 : ∀ x : Ext (w.alloc (.cells #[.int .i64 h, .int .i64 n] 39)), x.val.cell? ⟨w.heap.size, 0, none⟩ = some (.int .i64 h) := fun x => x.cell (heap_cell (World.alloc_heap_new _ _) 0)
  have c1 : ∀ x : Ext (w.alloc (.cells #[.int .i64 h, .int .i64 n] 39)), x.val.cell? ⟨w.heap.size, 1, none⟩ = some (.int .i64 n) := fun x => x.cell (heap_cell (World.alloc_heap_new _ _) 1)
  cases b
  · rcases hk : (h == 15) with _ | _
    · go_enter Try.func53, Try.ntmps53
      go_wp2
      refine wp_region_calm (by kernel_rfl) (by kernel_rfl) ?_
      repeat (go_big_quiet_step (first | (go_at_call 58; exact Ext.call _ ((given_any h n _).mono (by rintro e w' ⟨rfl, hb⟩; exact ⟨by rw [HB.out], hb⟩)))))
      refine wpQuiet_nil ?_
      rintro _ ⟨⟨w1, hb⟩, rfl⟩
      go_wp2
      go_ret
      exact ⟨retb HB.out.symm, ((Below.refl _ _).alloc (Nat.le_refl _) _).trans (hb.mono (by simp))⟩
    · rcases hn : decide (0 ≤ n) with _ | _
      · go_enter Try.func53, Try.ntmps53
        go_wp2
        refine wp_region_calm (by kernel_rfl) (by kernel_rfl) ?_
        repeat (go_big_quiet_step (first | (go_at_call 58; exact Ext.call _ ((given_any h n _).mono (by rintro e w' ⟨rfl, hb⟩; exact ⟨by rw [HB.out], hb⟩)))))
        refine wpQuiet_nil ?_
        rintro _ ⟨⟨w1, hb⟩, rfl⟩
        go_wp2
        go_ret
        exact ⟨retb HB.out.symm, ((Below.refl _ _).alloc (Nat.le_refl _) _).trans (hb.mono (by simp))⟩
      · have hn2 : decide (n < 0) = false := by simpa using hn
        go_enter Try.func53, Try.ntmps53
        go_wp2
        refine wp_region_calm (by kernel_rfl) (by kernel_rfl) ?_
        repeat (go_big_quiet_step (first | (go_at_call 58; exact Ext.call _ ((given_any h n _).mono (by rintro e w' ⟨rfl, hb⟩; exact ⟨by rw [HB.out], hb⟩))) | (go_at_call 59; exact Ext.call _ (len_tab T _ (TabAt.ext H.out _)))))
        refine wpQuiet_nil ?_
        rintro _ ⟨⟨w1, hb⟩, rfl⟩
        go_wp2
        go_ret
        exact ⟨retb HB.out.symm, ((Below.refl _ _).alloc (Nat.le_refl _) _).trans (hb.mono (by simp))⟩
  · go_enter Try.func53, Try.ntmps53
    go_wp2
    refine wp_region_calm (by kernel_rfl) (by kernel_rfl) ?_
    repeat (go_big_quiet_step (first | (go_at_call 58; exact Ext.call _ ((given_any h n _).mono (by rintro e w' ⟨rfl, hb⟩; exact ⟨by rw [HB.out], hb⟩)))))
    refine wpQuiet_nil ?_
    rintro _ ⟨⟨w1, hb⟩, rfl⟩
    go_wp2
    go_ret
    exact ⟨retb HB.out.symm, ((Below.refl _ _).alloc (Nat.le_refl _) _).trans (hb.mono (by simp))⟩

def fam (k : Int) : Int × Int :=
  if k = 1 ∨ k = 2 ∨ k = 3 ∨ k = 4 ∨ k = 5 ∨ k = 6 then (1, 6) else if k = 7 ∨ k = 8 then (7, 8) else if k = 9 ∨ k = 10 then (9, 10) else if k = 11 ∨ k = 12 then (11, 12) else (0, 0)
def belowG (a b t1 b1 t2 : Int) : Bool := if t1 ≠ t2 then false else if a = b ∨ a = b1 ∨ b = t1 then true else if b = 2 then decide (a = 3 ∨ a = 4 ∨ a = 5) else false
def belowB (a b : Int) : Bool := belowG a b (fam a).1 (fam a).2 (fam b).1
def heapB (h1 n1 h2 n2 : Int) : Bool := givenB h1 n1 && givenB h2 n2 && (decide (h1 = h2 ∧ n1 = n2) || belowB h1 h2)

theorem ret2 {k q : IntKind} {a b c d : Int} (h : a = b) (h' : c = d) : Ending.returned (.tuple #[.int k a, .int q c]) = .returned (.tuple #[.int k b, .int q d]) := by rw [h, h']
set_option maxHeartbeats 1000000 in
theorem family_any (k : Int) (w : World) : Calls Try.prog 55 #[.int .i64 k] w fun e w' => e = .returned (.tuple #[.int .i64 (fam k).1, .int .i64 (fam k).2]) ∧ w = w' := by
  go_enter Try.func55, Try.ntmps55
  go_wp2
  all_goals
    go_ret2
    refine ⟨ret2 ?_ ?_, rfl⟩ <;> (unfold fam; simp_all)
set_option maxHeartbeats 1000000 in
theorem below_any (a b : Int) (w : World) : Calls Try.prog 57 #[.int .i64 a, .int .i64 b] w fun e w' => e = .returned (.bool (belowB a b)) ∧ w = w' := by
  unfold belowB
  obtain ⟨t1, h1⟩ : ∃ t, (fam a).1 = t := ⟨_, rfl⟩
  obtain ⟨b1, h2⟩ : ∃ t, (fam a).2 = t := ⟨_, rfl⟩
  obtain ⟨t2, h3⟩ : ∃ t, (fam b).1 = t := ⟨_, rfl⟩
  obtain ⟨b2, h4⟩ : ∃ t, (fam b).2 = t := ⟨_, rfl⟩
  rw [h1, h2, h3]
  have H1 := Lib.hid h1; have H2 := Lib.hid h2; have H3 := Lib.hid h3; have H4 := Lib.hid h4
  clear h1 h2 h3 h4
  go_enter Try.func57, Try.ntmps57
  go_wp2_with fail
  refine (family_any a _).mono ?_
  rintro e w' ⟨rfl, rfl⟩
  rw [H1.out, H2.out]
  go_wp2_with fail
  refine (family_any b _).mono ?_
  rintro e w' ⟨rfl, rfl⟩
  rw [H3.out, H4.out]
  clear H1 H2 H3 H4
  go_wp2
  all_goals
    go_ret
    refine ⟨retb ?_, rfl⟩
    unfold belowG
    first | (simp_all; done) | (rw [Bool.eq_iff_iff]; simp_all; done)

def properB (v : Vl) : Bool := if v.k = 3 then neverB v || givenB v.h v.n else decide (1 ≤ v.k) && decide (v.k ≤ 4) && decide (v = ⟨v.k, false, 0, 0⟩)
def valB (a b : Vl) : Bool := properB a && properB b && (if a.k = 4 then true else if a.k ≠ b.k then false else if a.k ≠ 3 ∨ neverB a = true then true else (!a.nl || b.nl) && heapB a.h a.n b.h b.n)

theorem given_not15 {h n : Int} (g : givenB h n = true) : (h == 15) = false := by
  simp [givenB] at g; simp; omega
set_option maxHeartbeats 400000 in
theorem heap_tab (T : Nat) (h1 n1 h2 n2 : Int) (w : World) (ht : TabAt w T) : Calls Try.prog 52 #[.pointer (some ⟨T, 0, none⟩), .agg #[.int .i64 h1, .int .i64 n1], .agg #[.int .i64 h2, .int .i64 n2]] w fun e w' => e = .returned (.bool (heapB h1 n1 h2 n2)) ∧ Below w.heap.size w w' := by
  obtain ⟨W0, hW⟩ : ∃ W0 : World, W0 = ((w.alloc (.cells #[.int .i64 h1, .int .i64 n1] 39)).alloc (.cells #[.int .i64 h2, .int .i64 n2] 39)) := ⟨_, rfl⟩
  have hB : Below w.heap.size w W0 := by rw [hW]; exact (((Below.refl _ _).alloc (by simp) _).alloc (by simp) _)
  have b0_0 : ∀ x : Ext W0, x.val.cell? ⟨w.heap.size, 0, none⟩ = some (.int .i64 h1) := Ext.cells (by rw [hW]; exact heap_cell (heap_alloc_keep (heap_alloc_at _ _ (by simp)) _) 0)
  have b0_1 : ∀ x : Ext W0, x.val.cell? ⟨w.heap.size, 1, none⟩ = some (.int .i64 n1) := Ext.cells (by rw [hW]; exact heap_cell (heap_alloc_keep (heap_alloc_at _ _ (by simp)) _) 1)
  have b1_0 : ∀ x : Ext W0, x.val.cell? ⟨w.heap.size + 1, 0, none⟩ = some (.int .i64 h2) := Ext.cells (by rw [hW]; exact heap_cell (heap_alloc_at _ _ (by simp)) 0)
  have b1_1 : ∀ x : Ext W0, x.val.cell? ⟨w.heap.size + 1, 1, none⟩ = some (.int .i64 n2) := Ext.cells (by rw [hW]; exact heap_cell (heap_alloc_at _ _ (by simp)) 1)
  have HW := Lib.hid hW; have HB := Lib.hid hB
  clear hW hB
  have H := Lib.hid (ht.below HB.out ht.lt)
  clear ht
  go_enter Try.func52, Try.ntmps52
  go_wp2_with fail
  rw [← HW.out]
  refine (Ext.call0 (absent_tab T _ H.out)).mono ?_
  rintro e _ ⟨rfl, x1, rfl⟩
  go_wp2_with fail
  refine (Ext.call x1 (closed_tab T h1 n1 _ (H.out.ext x1))).mono ?_
  rintro e _ ⟨rfl, x2, rfl⟩
  rcases g1 : givenB h1 n1 with _ | _
  · go_wp2
    go_ret
    exact ⟨retb (by simp [heapB, g1]), HB.out.trans (x2.2.mono HB.out.size)⟩
  · have G1 := Lib.hid g1
    have k1 := given_not15 g1
    clear g1
    go_wp2_with fail
    refine (Ext.call x2 (closed_tab T h2 n2 _ (H.out.ext x2))).mono ?_
    rintro e _ ⟨rfl, x3, rfl⟩
    rcases g2 : givenB h2 n2 with _ | _
    · go_wp2
      go_ret
      exact ⟨retb (by simp [heapB, g2]), HB.out.trans (x3.2.mono HB.out.size)⟩
    · have G2 := Lib.hid g2
      have k2 := given_not15 g2
      clear g2
      go_wp2_with (first | (go_at_call 57; with_reducible refine (below_any _ _ _).mono ?_; rintro e w' ⟨rfl, rfl⟩) | fail)
      all_goals
        go_ret
        refine ⟨retb ?_, HB.out.trans (x3.2.mono HB.out.size)⟩
        unfold heapB
        rw [G1.out, G2.out]
        simp_all
set_option maxHeartbeats 1000000 in
theorem proper_tab (T : Nat) (v : Vl) (w : World) (ht : TabAt w T) : Calls Try.prog 50 #[.pointer (some ⟨T, 0, none⟩), .agg (cellsV v).toArray] w fun e w' => e = .returned (.bool (properB v)) ∧ Below w.heap.size w w' := by
  obtain ⟨k, nl, h, n⟩ := v
  simp only [cellsV]
  obtain ⟨W0, hW⟩ : ∃ W0 : World, W0 = (w.alloc (.cells #[.int .i64 k, .bool nl, .int .i64 h, .int .i64 n] 41)) := ⟨_, rfl⟩
  have hB : Below w.heap.size w W0 := by rw [hW]; exact ((Below.refl _ _).alloc (by simp) _)
  have b0_0 : ∀ x : Ext W0, x.val.cell? ⟨w.heap.size, 0, none⟩ = some (.int .i64 k) := Ext.cells (by rw [hW]; exact heap_cell (heap_alloc_at _ _ (by simp)) 0)
  have b0_1 : ∀ x : Ext W0, x.val.cell? ⟨w.heap.size, 1, none⟩ = some (.bool nl) := Ext.cells (by rw [hW]; exact heap_cell (heap_alloc_at _ _ (by simp)) 1)
  have b0_2 : ∀ x : Ext W0, x.val.cell? ⟨w.heap.size, 2, none⟩ = some (.int .i64 h) := Ext.cells (by rw [hW]; exact heap_cell (heap_alloc_at _ _ (by simp)) 2)
  have b0_3 : ∀ x : Ext W0, x.val.cell? ⟨w.heap.size, 3, none⟩ = some (.int .i64 n) := Ext.cells (by rw [hW]; exact heap_cell (heap_alloc_at _ _ (by simp)) 3)
  have HW := Lib.hid hW; have HB := Lib.hid hB
  clear hW hB
  have H := Lib.hid (ht.below HB.out ht.lt)
  clear ht
  by_cases hk : k = 3
  · obtain ⟨b, hb⟩ : ∃ b, neverB ⟨k, nl, h, n⟩ = b := ⟨_, rfl⟩
    subst hk
    have HN := Lib.hid hb
    clear hb
    go_enter Try.func50, Try.ntmps50
    go_wp2_with fail
    rw [← HW.out]
    refine (Ext.call0 (never_any ⟨3, nl, h, n⟩ _)).mono ?_
    rintro e _ ⟨rfl, x1, rfl⟩
    rw [HN.out]
    cases b
    · go_wp2_with fail
      refine (Ext.call x1 (closed_tab T h n _ (H.out.ext x1))).mono ?_
      rintro e _ ⟨rfl, x2, rfl⟩
      go_wp2
      go_ret
      exact ⟨retb (by simp [properB, HN.out]), HB.out.trans (x2.2.mono HB.out.size)⟩
    · go_wp2
      go_ret
      exact ⟨retb (by simp [properB, HN.out]), HB.out.trans (x1.2.mono HB.out.size)⟩
  · have hk2 : (k == 3) = false := by simpa using hk
    have HK := Lib.hid hk
    clear hk
    go_enter Try.func50, Try.ntmps50
    go_wp2
    all_goals
      go_ret
      refine ⟨retb ?_, (Below.refl _ _).alloc (Nat.le_refl _) _⟩
      have := HK.out
      unfold properB
      rw [if_neg (by exact HK.out)]
      first | (simp_all; done) | (simp_all; omega) | (rw [Bool.eq_iff_iff]; simp_all; done)
set_option maxHeartbeats 2000000 in
theorem val_tab (T : Nat) (a b : Vl) (w : World) (ht : TabAt w T) : Calls Try.prog 39 #[.pointer (some ⟨T, 0, none⟩), .agg (cellsV a).toArray, .agg (cellsV b).toArray] w fun e w' => e = .returned (.bool (valB a b)) ∧ Below w.heap.size w w' := by
  obtain ⟨k1, l1, h1, n1⟩ := a
  obtain ⟨k2, l2, h2, n2⟩ := b
  simp only [cellsV]
  obtain ⟨W0, hW⟩ : ∃ W0 : World, W0 = ((w.alloc (.cells #[.int .i64 k1, .bool l1, .int .i64 h1, .int .i64 n1] 41)).alloc (.cells #[.int .i64 k2, .bool l2, .int .i64 h2, .int .i64 n2] 41)) := ⟨_, rfl⟩
  have hB : Below w.heap.size w W0 := by rw [hW]; exact (((Below.refl _ _).alloc (by simp) _).alloc (by simp) _)
  have b0_0 : ∀ x : Ext W0, x.val.cell? ⟨w.heap.size, 0, none⟩ = some (.int .i64 k1) := Ext.cells (by rw [hW]; exact heap_cell (heap_alloc_keep (heap_alloc_at _ _ (by simp)) _) 0)
  have b0_1 : ∀ x : Ext W0, x.val.cell? ⟨w.heap.size, 1, none⟩ = some (.bool l1) := Ext.cells (by rw [hW]; exact heap_cell (heap_alloc_keep (heap_alloc_at _ _ (by simp)) _) 1)
  have b0_2 : ∀ x : Ext W0, x.val.cell? ⟨w.heap.size, 2, none⟩ = some (.int .i64 h1) := Ext.cells (by rw [hW]; exact heap_cell (heap_alloc_keep (heap_alloc_at _ _ (by simp)) _) 2)
  have b0_3 : ∀ x : Ext W0, x.val.cell? ⟨w.heap.size, 3, none⟩ = some (.int .i64 n1) := Ext.cells (by rw [hW]; exact heap_cell (heap_alloc_keep (heap_alloc_at _ _ (by simp)) _) 3)
  have b1_0 : ∀ x : Ext W0, x.val.cell? ⟨w.heap.size + 1, 0, none⟩ = some (.int .i64 k2) := Ext.cells (by rw [hW]; exact heap_cell (heap_alloc_at _ _ (by simp)) 0)
  have b1_1 : ∀ x : Ext W0, x.val.cell? ⟨w.heap.size + 1, 1, none⟩ = some (.bool l2) := Ext.cells (by rw [hW]; exact heap_cell (heap_alloc_at _ _ (by simp)) 1)
  have b1_2 : ∀ x : Ext W0, x.val.cell? ⟨w.heap.size + 1, 2, none⟩ = some (.int .i64 h2) := Ext.cells (by rw [hW]; exact heap_cell (heap_alloc_at _ _ (by simp)) 2)
  have b1_3 : ∀ x : Ext W0, x.val.cell? ⟨w.heap.size + 1, 3, none⟩ = some (.int .i64 n2) := Ext.cells (by rw [hW]; exact heap_cell (heap_alloc_at _ _ (by simp)) 3)
  have HW := Lib.hid hW; have HB := Lib.hid hB
  clear hW hB
  have H := Lib.hid (ht.below HB.out ht.lt)
  clear ht
  go_enter Try.func39, Try.ntmps39
  go_wp2_with fail
  rw [← HW.out]
  refine (Ext.call0 (absent_tab T _ H.out)).mono ?_
  rintro e _ ⟨rfl, x1, rfl⟩
  go_wp2_with fail
  refine (Ext.call x1 (proper_tab T ⟨k1, l1, h1, n1⟩ _ (H.out.ext x1))).mono ?_
  rintro e _ ⟨rfl, x2, rfl⟩
  rcases g1 : properB ⟨k1, l1, h1, n1⟩ with _ | _
  · go_wp2
    go_ret
    exact ⟨retb (by simp [valB, g1]), HB.out.trans (x2.2.mono HB.out.size)⟩
  · have G1 := Lib.hid g1
    clear g1
    go_wp2_with fail
    refine (Ext.call x2 (proper_tab T ⟨k2, l2, h2, n2⟩ _ (H.out.ext x2))).mono ?_
    rintro e _ ⟨rfl, x3, rfl⟩
    rcases g2 : properB ⟨k2, l2, h2, n2⟩ with _ | _
    · go_wp2
      go_ret
      exact ⟨retb (by simp [valB, g2]), HB.out.trans (x3.2.mono HB.out.size)⟩
    · have G2 := Lib.hid g2
      clear g2
      by_cases e1 : k1 = 4
      · subst e1
        go_wp2
        go_ret
        exact ⟨retb (by simp [valB, G1.out, G2.out]), HB.out.trans (x3.2.mono HB.out.size)⟩
      · by_cases e2 : k1 = k2
        · subst e2
          have E1 := Lib.hid e1
          have e1' : (k1 == 4) = false := by simpa using e1
          clear e1
          by_cases e3 : k1 = 3
          · subst e3
            obtain ⟨nb, hn⟩ : ∃ b, neverB ⟨3, l1, h1, n1⟩ = b := ⟨_, rfl⟩
            have HN := Lib.hid hn
            clear hn e1'
            go_wp2_with fail
            refine (Ext.call x3 (never_any ⟨3, l1, h1, n1⟩ _)).mono ?_
            rintro e _ ⟨rfl, x4, rfl⟩
            rw [HN.out]
            cases nb
            · cases l1
              · go_wp2_with fail
                refine (Ext.call x4 (heap_tab T h1 n1 h2 n2 _ (H.out.ext x4))).mono ?_
                rintro e _ ⟨rfl, x5, rfl⟩
                go_wp2
                go_ret
                exact ⟨retb (by simp [valB, G1.out, G2.out, HN.out]), HB.out.trans (x5.2.mono HB.out.size)⟩
              · cases l2
                · go_wp2
                  go_ret
                  exact ⟨retb (by simp [valB, G1.out, G2.out, HN.out]), HB.out.trans (x4.2.mono HB.out.size)⟩
                · go_wp2_with fail
                  refine (Ext.call x4 (heap_tab T h1 n1 h2 n2 _ (H.out.ext x4))).mono ?_
                  rintro e _ ⟨rfl, x5, rfl⟩
                  go_wp2
                  go_ret
                  exact ⟨retb (by simp [valB, G1.out, G2.out, HN.out]), HB.out.trans (x5.2.mono HB.out.size)⟩
            · go_wp2
              go_ret
              exact ⟨retb (by simp [valB, G1.out, G2.out, HN.out]), HB.out.trans (x4.2.mono HB.out.size)⟩
          · have e3' : (k1 == 3) = false := by simpa using e3
            have e3'' : (k1 != 3) = true := by simpa using e3
            have E3 := Lib.hid e3
            clear e3
            go_wp2
            go_ret
            exact ⟨retb (by simp [valB, G1.out, G2.out, E1.out, E3.out]), HB.out.trans (x3.2.mono HB.out.size)⟩
        · have E1 := Lib.hid e1; have E2 := Lib.hid e2
          have e1' : (k1 == 4) = false := by simpa using e1
          have e2' : (k1 != k2) = true := by simpa using e2
          clear e1 e2
          go_wp2
          go_ret
          exact ⟨retb (by simp [valB, G1.out, G2.out, E1.out, E2.out]), HB.out.trans (x3.2.mono HB.out.size)⟩
theorem clos_tab (T p : Nat) (a b : Vl) (w : World) (ht : TabAt w T) (hp : w.cell? ⟨p, 0, none⟩ = some (.pointer (some ⟨T, 0, none⟩))) : Calls Try.prog 41 #[.agg (cellsV a).toArray, .agg (cellsV b).toArray, .pointer (some ⟨p, 0, none⟩)] w fun e w' => e = .returned (.bool (valB a b)) ∧ Below w.heap.size w w' := by
  obtain ⟨k1, l1, h1, n1⟩ := a
  obtain ⟨k2, l2, h2, n2⟩ := b
  simp only [cellsV]
  obtain ⟨W0, hW⟩ : ∃ W0 : World, W0 = ((w.alloc (.cells #[.int .i64 k1, .bool l1, .int .i64 h1, .int .i64 n1] 41)).alloc (.cells #[.int .i64 k2, .bool l2, .int .i64 h2, .int .i64 n2] 41)) := ⟨_, rfl⟩
  have hB : Below w.heap.size w W0 := by rw [hW]; exact (((Below.refl _ _).alloc (by simp) _).alloc (by simp) _)
  have b0_0 : ∀ x : Ext W0, x.val.cell? ⟨w.heap.size, 0, none⟩ = some (.int .i64 k1) := Ext.cells (by rw [hW]; exact heap_cell (heap_alloc_keep (heap_alloc_at _ _ (by simp)) _) 0)
  have b0_1 : ∀ x : Ext W0, x.val.cell? ⟨w.heap.size, 1, none⟩ = some (.bool l1) := Ext.cells (by rw [hW]; exact heap_cell (heap_alloc_keep (heap_alloc_at _ _ (by simp)) _) 1)
  have b0_2 : ∀ x : Ext W0, x.val.cell? ⟨w.heap.size, 2, none⟩ = some (.int .i64 h1) := Ext.cells (by rw [hW]; exact heap_cell (heap_alloc_keep (heap_alloc_at _ _ (by simp)) _) 2)
  have b0_3 : ∀ x : Ext W0, x.val.cell? ⟨w.heap.size, 3, none⟩ = some (.int .i64 n1) := Ext.cells (by rw [hW]; exact heap_cell (heap_alloc_keep (heap_alloc_at _ _ (by simp)) _) 3)
  have b1_0 : ∀ x : Ext W0, x.val.cell? ⟨w.heap.size + 1, 0, none⟩ = some (.int .i64 k2) := Ext.cells (by rw [hW]; exact heap_cell (heap_alloc_at _ _ (by simp)) 0)
  have b1_1 : ∀ x : Ext W0, x.val.cell? ⟨w.heap.size + 1, 1, none⟩ = some (.bool l2) := Ext.cells (by rw [hW]; exact heap_cell (heap_alloc_at _ _ (by simp)) 1)
  have b1_2 : ∀ x : Ext W0, x.val.cell? ⟨w.heap.size + 1, 2, none⟩ = some (.int .i64 h2) := Ext.cells (by rw [hW]; exact heap_cell (heap_alloc_at _ _ (by simp)) 2)
  have b1_3 : ∀ x : Ext W0, x.val.cell? ⟨w.heap.size + 1, 3, none⟩ = some (.int .i64 n2) := Ext.cells (by rw [hW]; exact heap_cell (heap_alloc_at _ _ (by simp)) 3)
  have HW := Lib.hid hW; have HB := Lib.hid hB
  clear hW hB
  have H := Lib.hid (ht.below HB.out ht.lt)
  clear ht
  have hp2 : W0.cell? ⟨p, 0, none⟩ = some (.pointer (some ⟨T, 0, none⟩)) := by rw [HB.out.cell (World.block_lt_of_cell? _ _ hp)]; exact hp
  rw [HW.out] at hp2
  go_enter Try.func41, Try.ntmps41
  go_wp2_with fail
  rw [← HW.out]
  refine (Ext.call0 (val_tab T ⟨k1, l1, h1, n1⟩ ⟨k2, l2, h2, n2⟩ _ H.out)).mono ?_
  rintro e _ ⟨rfl, x1, rfl⟩
  go_wp2
  go_ret
  exact ⟨rfl, HB.out.trans (x1.2.mono HB.out.size)⟩

end Go.Proofs.Ytjjhdbjbjgkijaa
