/- The chapter's rows of package kind. -/
import Derived.Test.YtnaepekpgmalaaaDoorKdCopyB
import Derived.Test.YtnaepekpgmalaaaDoorKdTxt
import Derived.Test.YtnaepekpgmalaaaDoorKdGreat
namespace Go.Proofs.YtnaepekpgmalaaaDoor
open Go.RowKit

theorem add_block (a : Addr) (j : Nat) : (a.add j).block = a.block := by unfold Addr.add; split <;> rfl
theorem RowAt.upd {w w' : World} {c n : Nat} {v : Value} {xs : List Value} {b : Nat} {u : Value} (h : RowAt w c v n xs) (up : Upd (fun k => k = b) w w') (h0 : xs[0]? = some u) (hne : ∀ p : Addr, p.block = b → w.cell? p ≠ some u) : RowAt w' c v n xs := by
  obtain ⟨h1, h2 | ⟨a, cap, rfl, h2, h3⟩⟩ := h
  · exact ⟨h1, .inl h2⟩
  · refine ⟨h1, .inr ⟨a, cap, rfl, h2, fun j u' hj => up.cell_some (h3 j u' hj) (fun e => hne (a.add 0) (by rw [add_block] at e ⊢; exact e) (h3 0 u h0))⟩⟩
theorem cell_other {w : World} {b : Nat} {cs : Array Value} {t : TypeId} {fr : Nat × Nat} {u : Value} (h : w.heap[b]? = some (.cells cs t fr)) (hu : u ∉ cs) : ∀ p : Addr, p.block = b → w.cell? p ≠ some u := by
  rintro ⟨b', o, s⟩ rfl e
  have hs : s = none := by simpa using World.cell?_spot e
  subst hs
  rw [heap_cell h] at e
  exact hu (Array.mem_of_getElem? e)
set_option maxRecDepth 100000 in
set_option maxHeartbeats 8000000 in
theorem copy_known (b1 b2 : Nat) (w : World) (g1 : w.heap[b1]? = some (.cells #[.int .i64 13, .int .i64 2] 33 (0, 0))) (g2 : w.heap[b2]? = some (.cells #[.int .i64 8, .int .i64 1, .bool false, .int .i64 0, .int .i64 0, .bool true] 46 (0, 0))) :
    Calls Tryd.prog 12 #[.agg #[.bool false, .slice (some ⟨b1, 0, none⟩) 1 1, .int .i64 3, .slice none 0 0, .slice none 0 0, .slice (some ⟨b2, 0, none⟩) 1 1]] w
      fun e w' => ∃ c1 c5, e = .returned (.agg #[.bool false, c1, .int .i64 3, .slice none 0 0, .slice none 0 0, c5]) ∧ HpsAt w' c1 [⟨13, 2⟩] ∧ FlsAt w' c5 [⟨8, ⟨1, false, 0, 0⟩, true⟩] ∧ Below w.heap.size w w' := by
  obtain ⟨W0, hW0⟩ : ∃ W0, (w.alloc (.cells #[.bool false, .slice (some ⟨b1, 0, none⟩) 1 1, .int .i64 3, .slice none 0 0, .slice none 0 0, .slice (some ⟨b2, 0, none⟩) 1 1] 29)).alloc (.cells #[.bool false, .slice none 0 0, .int .i64 0, .slice none 0 0, .slice none 0 0, .slice none 0 0] 29) = W0 := ⟨_, rfl⟩
  have z0 : W0.heap[w.heap.size]? = some (.cells #[.bool false, .slice (some ⟨b1, 0, none⟩) 1 1, .int .i64 3, .slice none 0 0, .slice none 0 0, .slice (some ⟨b2, 0, none⟩) 1 1] 29 (0, 0)) := by rw [← hW0]; exact heap_alloc_keep (heap_alloc_at _ _ rfl) _
  have z1 : W0.heap[w.heap.size + 1]? = some (.cells #[.bool false, .slice none 0 0, .int .i64 0, .slice none 0 0, .slice none 0 0, .slice none 0 0] 29 (0, 0)) := by rw [← hW0]; exact heap_alloc_at _ _ (by simp)
  have hb0 : Below w.heap.size w W0 := by rw [← hW0]; exact ((Below.refl _ _).alloc (Nat.le_refl _) _).alloc (by simp) _
  have y1 : W0.heap[b1]? = _ := (hb0.block _ (heap_lt g1)).trans g1
  have y2 : W0.heap[b2]? = _ := (hb0.block _ (heap_lt g2)).trans g2
  have HW := Lib.hid hW0; have Z0 := Lib.hid z0; have Z1 := Lib.hid z1; have HB0 := Lib.hid hb0; have Y1 := Lib.hid y1; have Y2 := Lib.hid y2
  clear hW0 z0 z1 hb0 y1 y2 g1 g2
  go_enter Tryd.func12, Tryd.ntmps12
  go_wp2_with fail
  rw [HW.out]
  have hq0 : W0.drew.cell? ⟨w.heap.size, 0, none⟩ = some (.bool false) ∧ W0.drew.cell? ⟨w.heap.size, 1, none⟩ = some (.slice (some ⟨b1, 0, none⟩) 1 1) ∧ W0.drew.cell? ⟨w.heap.size, 2, none⟩ = some (.int .i64 3) ∧ W0.drew.cell? ⟨w.heap.size, 3, none⟩ = some (.slice none 0 0) ∧ W0.drew.cell? ⟨w.heap.size, 4, none⟩ = some (.slice none 0 0) ∧ W0.drew.cell? ⟨w.heap.size, 5, none⟩ = some (.slice (some ⟨b2, 0, none⟩) 1 1) := ⟨heap_cell Z0.out 0, heap_cell Z0.out 1, heap_cell Z0.out 2, heap_cell Z0.out 3, heap_cell Z0.out 4, heap_cell Z0.out 5⟩
  have HQ0 := Lib.hid hq0
  clear hq0
  go_region_held_law (fun w' => w'.cell? ⟨w.heap.size, 0, none⟩ = some (.bool false) ∧ w'.cell? ⟨w.heap.size, 1, none⟩ = some (.slice (some ⟨b1, 0, none⟩) 1 1) ∧ w'.cell? ⟨w.heap.size, 2, none⟩ = some (.int .i64 3) ∧ w'.cell? ⟨w.heap.size, 3, none⟩ = some (.slice none 0 0) ∧ w'.cell? ⟨w.heap.size, 4, none⟩ = some (.slice none 0 0) ∧ w'.cell? ⟨w.heap.size, 5, none⟩ = some (.slice (some ⟨b2, 0, none⟩) 1 1)) (first | with_reducible exact HQ0.out | with_reducible exact HQ1.out | with_reducible exact HQ2.out | (have q := HQ2.out; go_keep))
    (first
      | (go_simp; go_at_call 26; refine (heaps_known b1 b2 _ (show W0.drew.heap[b1]? = _ from Y1.out) (show W0.drew.heap[b2]? = _ from Y2.out)).mono ?_
         rintro e w1 ⟨v1, rfl, o1, hb1⟩
         have hb1 : Below W0.heap.size W0 w1 := ⟨hb1.os, hb1.tape, hb1.output, hb1.size, hb1.block⟩
         obtain ⟨lb, lc, cur, hv1, _, _, _, hc1⟩ := ownsRow_some o1 (by omega)
         subst hv1
         have HA1 := Lib.hid ((hb1.block _ (heap_lt Z0.out)).trans Z0.out); have HZ1 := Lib.hid ((hb1.block _ (heap_lt Z1.out)).trans Z1.out); have HY1 := Lib.hid ((hb1.block _ (heap_lt Y2.out)).trans Y2.out)
         have HB1 := Lib.hid (HB0.out.trans (hb1.mono HB0.out.size)); have L0 := Lib.hid (hc1 0 (by omega)); have L1 := Lib.hid (hc1 1 (by omega))
         have hq1 : w1.cell? ⟨w.heap.size, 0, none⟩ = some (.bool false) ∧ w1.cell? ⟨w.heap.size, 1, none⟩ = some (.slice (some ⟨b1, 0, none⟩) 1 1) ∧ w1.cell? ⟨w.heap.size, 2, none⟩ = some (.int .i64 3) ∧ w1.cell? ⟨w.heap.size, 3, none⟩ = some (.slice none 0 0) ∧ w1.cell? ⟨w.heap.size, 4, none⟩ = some (.slice none 0 0) ∧ w1.cell? ⟨w.heap.size, 5, none⟩ = some (.slice (some ⟨b2, 0, none⟩) 1 1) := ⟨heap_cell HA1.out 0, heap_cell HA1.out 1, heap_cell HA1.out 2, heap_cell HA1.out 3, heap_cell HA1.out 4, heap_cell HA1.out 5⟩
         have HQ1 := Lib.hid hq1
         clear o1 hb1 hc1 hq1
         dsimp only)
      | (go_simp; go_at_call 25; refine (with_known b1 b2 w1 lb 0 lc L0.out L1.out HY1.out).mono ?_
         rintro e w2 ⟨x1, x5, rfl, h1, h5, hb2⟩
         obtain ⟨a1, cp1, hx1⟩ : ∃ ao cap, x1 = .slice ao 1 cap := RowAt.form h1
         obtain ⟨a5, cp5, hx5⟩ : ∃ ao cap, x5 = .slice ao 1 cap := RowAt.form h5
         subst hx1 hx5
         have HA2 := Lib.hid ((hb2.block _ (heap_lt HA1.out)).trans HA1.out); have HZ2 := Lib.hid ((hb2.block _ (heap_lt HZ1.out)).trans HZ1.out)
         have HB2 := Lib.hid (HB1.out.trans (hb2.mono HB1.out.size)); have H1 := Lib.hid h1; have H5 := Lib.hid h5
         have u0 := heap_cell HZ2.out 0; have u1 := heap_cell HZ2.out 1; have u2 := heap_cell HZ2.out 2; have u3 := heap_cell HZ2.out 3; have u4 := heap_cell HZ2.out 4; have u5 := heap_cell HZ2.out 5
         have n0 := heap_frozen HZ2.out 0; have n1 := heap_frozen HZ2.out 1; have n2 := heap_frozen HZ2.out 2; have n3 := heap_frozen HZ2.out 3; have n4 := heap_frozen HZ2.out 4; have n5 := heap_frozen HZ2.out 5
         simp at u0 u1 u2 u3 u4 u5
         have hq2 : w2.cell? ⟨w.heap.size, 0, none⟩ = some (.bool false) ∧ w2.cell? ⟨w.heap.size, 1, none⟩ = some (.slice (some ⟨b1, 0, none⟩) 1 1) ∧ w2.cell? ⟨w.heap.size, 2, none⟩ = some (.int .i64 3) ∧ w2.cell? ⟨w.heap.size, 3, none⟩ = some (.slice none 0 0) ∧ w2.cell? ⟨w.heap.size, 4, none⟩ = some (.slice none 0 0) ∧ w2.cell? ⟨w.heap.size, 5, none⟩ = some (.slice (some ⟨b2, 0, none⟩) 1 1) := ⟨heap_cell HA2.out 0, heap_cell HA2.out 1, heap_cell HA2.out 2, heap_cell HA2.out 3, heap_cell HA2.out 4, heap_cell HA2.out 5⟩
         have HQ2 := Lib.hid hq2
         clear h1 h5 hb2 hq2
         dsimp only))
  go_wp2
  have yz := (heap_set_at (heap_set_at (heap_set_at (heap_set_at (heap_set_at (heap_set_at HZ2.out 0 (.bool false)) 1 ((.slice a1 1 cp1))) 2 (.int .i64 3)) 3 (.slice none 0 0)) 4 (.slice none 0 0)) 5 ((.slice a5 1 cp5)))
  simp at yz
  have e0 := heap_cell yz 0; have e1 := heap_cell yz 1; have e2 := heap_cell yz 2; have e3 := heap_cell yz 3; have e4 := heap_cell yz 4; have e5 := heap_cell yz 5
  simp at e0 e1 e2 e3 e4 e5
  have up := (((((((Upd.refl (fun k => k = w.heap.size + 1) w2).setCell (p := ⟨w.heap.size + 1, 0, none⟩) (.inl rfl) (.bool false)).setCell (p := ⟨w.heap.size + 1, 1, none⟩) (.inl rfl) ((.slice a1 1 cp1))).setCell (p := ⟨w.heap.size + 1, 2, none⟩) (.inl rfl) (.int .i64 3)).setCell (p := ⟨w.heap.size + 1, 3, none⟩) (.inl rfl) (.slice none 0 0)).setCell (p := ⟨w.heap.size + 1, 4, none⟩) (.inl rfl) (.slice none 0 0)).setCell (p := ⟨w.heap.size + 1, 5, none⟩) (.inl rfl) ((.slice a5 1 cp5)))
  have r1 := RowAt.upd H1.out up rfl (cell_other HZ2.out (by simp))
  have r5 := RowAt.upd H5.out up rfl (cell_other HZ2.out (by simp))
  have hbl := ((((((HB2.out.setCell (p := ⟨w.heap.size + 1, 0, none⟩) (by simp) (.bool false)).setCell (p := ⟨w.heap.size + 1, 1, none⟩) (by simp) ((.slice a1 1 cp1))).setCell (p := ⟨w.heap.size + 1, 2, none⟩) (by simp) (.int .i64 3)).setCell (p := ⟨w.heap.size + 1, 3, none⟩) (by simp) (.slice none 0 0)).setCell (p := ⟨w.heap.size + 1, 4, none⟩) (by simp) (.slice none 0 0)).setCell (p := ⟨w.heap.size + 1, 5, none⟩) (by simp) ((.slice a5 1 cp5)))
  refine bodyPost_ret (v := .agg #[Value.bool false, Value.slice a1 1 cp1, Value.int .i64 3, Value.slice none 0 0, Value.slice none 0 0, Value.slice a5 1 cp5]) (by simp [results, Tryd.results12, go_sem, e0, e1, e2, e3, e4, e5]) rfl ⟨_, _, rfl, r1, r5, hbl⟩

def s0 : Sb := (⟨false, [⟨13, 2⟩], 3, [], [], [⟨8, ⟨1, false, 0, 0⟩, true⟩]⟩ : Sb)
def t0 : Sb := (⟨true, [], 1, [⟨1, false, 0, 0⟩], [], []⟩ : Sb)
def v0 : Vl := (⟨3, true, 1, 0⟩ : Vl)
theorem s0_fits : Fits s0 := ⟨by simp [s0, B64], by simp [s0], by simp [s0], by simp [s0, B64], ⟨by simp [s0], by simp [s0], by simp [s0], by simp [s0]⟩⟩
theorem t0_fits : Fits t0 := ⟨by simp [t0], by simp [t0, B64], by simp [t0], by simp [t0], ⟨by simp [t0], by simp [t0], by simp [t0], by simp [t0]⟩⟩
theorem row_known {W : World} {b : Nat} {c : Nat} {cs : List Value} {e : TypeId} (h : W.heap[b]? = some (.cells cs.toArray e (0, 0))) (hl : cs.length = 1 * c) : RowAt W c (.slice (some ⟨b, 0, none⟩) 1 1) 1 cs :=
  ⟨hl, .inr ⟨_, 1, rfl, Nat.le_refl _, fun j u hj => row_cells h j u hj⟩⟩
set_option maxRecDepth 100000 in
set_option maxHeartbeats 8000000 in
theorem known_any (w : World) (ht : Tab w) : Calls Tryd.prog 4 #[] w fun e w' => e = .returned (.bool true) ∧ Below w.heap.size w w' := by
  obtain ⟨W0, hW⟩ : ∃ W0 : World, W0 = (((((w.alloc (.cells #[.int .i64 13, .int .i64 2] 33)).alloc (.cells #[.int .i64 8, .int .i64 1, .bool false, .int .i64 0, .int .i64 0, .bool true] 46)).alloc (.cells #[.bool false, .slice (some ⟨w.heap.size, 0, none⟩) 1 1, .int .i64 3, .slice none 0 0, .slice none 0 0, .slice (some ⟨w.heap.size + 1, 0, none⟩) 1 1] 29)).alloc (.cells #[.int .i64 1, .bool false, .int .i64 0, .int .i64 0] 35)).alloc (.cells #[.bool true, .slice none 0 0, .int .i64 1, .slice (some ⟨w.heap.size + 1 + 1 + 1, 0, none⟩) 1 1, .slice none 0 0, .slice none 0 0] 29)).alloc (.cells #[.int .i64 3, .bool true, .int .i64 1, .int .i64 0] 35) := ⟨_, rfl⟩
  have hB : Below w.heap.size w W0 := by rw [hW]; exact ((((((Below.refl _ _).alloc (by simp) _).alloc (by simp) _).alloc (by simp; omega) _).alloc (by simp; omega) _).alloc (by simp; omega) _).alloc (by simp; omega) _
  have z0 : W0.heap[w.heap.size]? = some (.cells #[.int .i64 13, .int .i64 2] 33 (0, 0)) := by rw [hW]; exact (heap_alloc_keep (heap_alloc_keep (heap_alloc_keep (heap_alloc_keep (heap_alloc_keep (heap_alloc_at _ _ (by simp)) _) _) _) _) _)
  have z1 : W0.heap[w.heap.size + 1]? = some (.cells #[.int .i64 8, .int .i64 1, .bool false, .int .i64 0, .int .i64 0, .bool true] 46 (0, 0)) := by rw [hW]; exact (heap_alloc_keep (heap_alloc_keep (heap_alloc_keep (heap_alloc_keep (heap_alloc_at _ _ (by simp)) _) _) _) _)
  have z2 : W0.heap[w.heap.size + 1 + 1]? = some (.cells #[.bool false, .slice (some ⟨w.heap.size, 0, none⟩) 1 1, .int .i64 3, .slice none 0 0, .slice none 0 0, .slice (some ⟨w.heap.size + 1, 0, none⟩) 1 1] 29 (0, 0)) := by rw [hW]; exact (heap_alloc_keep (heap_alloc_keep (heap_alloc_keep (heap_alloc_at _ _ (by simp)) _) _) _)
  have z3 : W0.heap[w.heap.size + 1 + 1 + 1]? = some (.cells #[.int .i64 1, .bool false, .int .i64 0, .int .i64 0] 35 (0, 0)) := by rw [hW]; exact (heap_alloc_keep (heap_alloc_keep (heap_alloc_at _ _ (by simp)) _) _)
  have z4 : W0.heap[w.heap.size + 1 + 1 + 1 + 1]? = some (.cells #[.bool true, .slice none 0 0, .int .i64 1, .slice (some ⟨w.heap.size + 1 + 1 + 1, 0, none⟩) 1 1, .slice none 0 0, .slice none 0 0] 29 (0, 0)) := by rw [hW]; exact (heap_alloc_keep (heap_alloc_at _ _ (by simp)) _)
  have z5 : W0.heap[w.heap.size + 1 + 1 + 1 + 1 + 1]? = some (.cells #[.int .i64 3, .bool true, .int .i64 1, .int .i64 0] 35 (0, 0)) := by rw [hW]; exact (heap_alloc_at _ _ (by simp))

  have qs : ∀ w', Below W0.heap.size W0 w' → SubAt w' [.bool false, .slice (some ⟨w.heap.size, 0, none⟩) 1 1, .int .i64 3, .slice none 0 0, .slice none 0 0, .slice (some ⟨w.heap.size + 1, 0, none⟩) 1 1] s0 := fun w' hb => SubAt.below ⟨⟨_, _, _, _, rfl, row_known (cs := [.int .i64 13, .int .i64 2]) z0 rfl, RowAt.nil _ _, RowAt.nil _ _, row_known (cs := [.int .i64 8, .int .i64 1, .bool false, .int .i64 0, .int .i64 0, .bool true]) z1 rfl⟩⟩ hb (Nat.le_refl _)
  have qt : ∀ w', Below W0.heap.size W0 w' → SubAt w' [.bool true, .slice none 0 0, .int .i64 1, .slice (some ⟨w.heap.size + 1 + 1 + 1, 0, none⟩) 1 1, .slice none 0 0, .slice none 0 0] t0 := fun w' hb => SubAt.below ⟨⟨_, _, _, _, rfl, RowAt.nil _ _, row_known (cs := [.int .i64 1, .bool false, .int .i64 0, .int .i64 0]) z3 rfl, RowAt.nil _ _, RowAt.nil _ _⟩⟩ hb (Nat.le_refl _)
  have hS : ∀ w', Below W0.heap.size W0 w' → w'.cell? ⟨w.heap.size + 1 + 1, 0, none⟩ = some (.bool false) ∧ w'.cell? ⟨w.heap.size + 1 + 1, 1, none⟩ = some (.slice (some ⟨w.heap.size, 0, none⟩) 1 1) ∧ w'.cell? ⟨w.heap.size + 1 + 1, 2, none⟩ = some (.int .i64 3) ∧ w'.cell? ⟨w.heap.size + 1 + 1, 3, none⟩ = some (.slice none 0 0) ∧ w'.cell? ⟨w.heap.size + 1 + 1, 4, none⟩ = some (.slice none 0 0) ∧ w'.cell? ⟨w.heap.size + 1 + 1, 5, none⟩ = some (.slice (some ⟨w.heap.size + 1, 0, none⟩) 1 1) ∧ w'.cell? ⟨w.heap.size + 1 + 1 + 1 + 1, 0, none⟩ = some (.bool true) ∧ w'.cell? ⟨w.heap.size + 1 + 1 + 1 + 1, 1, none⟩ = some (.slice none 0 0) ∧ w'.cell? ⟨w.heap.size + 1 + 1 + 1 + 1, 2, none⟩ = some (.int .i64 1) ∧ w'.cell? ⟨w.heap.size + 1 + 1 + 1 + 1, 3, none⟩ = some (.slice (some ⟨w.heap.size + 1 + 1 + 1, 0, none⟩) 1 1) ∧ w'.cell? ⟨w.heap.size + 1 + 1 + 1 + 1, 4, none⟩ = some (.slice none 0 0) ∧ w'.cell? ⟨w.heap.size + 1 + 1 + 1 + 1, 5, none⟩ = some (.slice none 0 0) ∧ w'.cell? ⟨w.heap.size + 1 + 1 + 1 + 1 + 1, 0, none⟩ = some (.int .i64 3) ∧ w'.cell? ⟨w.heap.size + 1 + 1 + 1 + 1 + 1, 1, none⟩ = some (.bool true) ∧ w'.cell? ⟨w.heap.size + 1 + 1 + 1 + 1 + 1, 2, none⟩ = some (.int .i64 1) ∧ w'.cell? ⟨w.heap.size + 1 + 1 + 1 + 1 + 1, 3, none⟩ = some (.int .i64 0) := fun w' hb => ⟨heap_cell ((hb.block _ (heap_lt z2)).trans z2) 0, heap_cell ((hb.block _ (heap_lt z2)).trans z2) 1, heap_cell ((hb.block _ (heap_lt z2)).trans z2) 2, heap_cell ((hb.block _ (heap_lt z2)).trans z2) 3, heap_cell ((hb.block _ (heap_lt z2)).trans z2) 4, heap_cell ((hb.block _ (heap_lt z2)).trans z2) 5, heap_cell ((hb.block _ (heap_lt z4)).trans z4) 0, heap_cell ((hb.block _ (heap_lt z4)).trans z4) 1, heap_cell ((hb.block _ (heap_lt z4)).trans z4) 2, heap_cell ((hb.block _ (heap_lt z4)).trans z4) 3, heap_cell ((hb.block _ (heap_lt z4)).trans z4) 4, heap_cell ((hb.block _ (heap_lt z4)).trans z4) 5, heap_cell ((hb.block _ (heap_lt z5)).trans z5) 0, heap_cell ((hb.block _ (heap_lt z5)).trans z5) 1, heap_cell ((hb.block _ (heap_lt z5)).trans z5) 2, heap_cell ((hb.block _ (heap_lt z5)).trans z5) 3⟩
  have QS := Lib.hid qs; have QT := Lib.hid qt; have HS := Lib.hid hS; have HT := Lib.hid (ht.on hB); have HW := Lib.hid hW; have HB := Lib.hid hB
  have Z0 := Lib.hid z0; have Z1 := Lib.hid z1
  clear qs qt hS ht hW hB z0 z1 z2 z3 z4 z5
  have k0 : ∀ w', Below W0.heap.size W0 w' → Calls Tryd.prog 6 #[.agg #[.bool false, .slice (some ⟨w.heap.size, 0, none⟩) 1 1, .int .i64 3, .slice none 0 0, .slice none 0 0, .slice (some ⟨w.heap.size + 1, 0, none⟩) 1 1]] w' fun e w'' => e = .returned (.bool true) ∧ Below w'.heap.size w' w'' := fun w' hb => (plainSub_any _ s0 _ (QS.out _ hb) (by first | exact s0_fits.small | exact t0_fits.small)).mono (by rintro e w2 ⟨rfl, h⟩; exact ⟨by rw [show plainS s0 = true by decide +kernel], h⟩)
  have K0 := Lib.hid k0
  clear k0
  have k1 : ∀ w', Below W0.heap.size W0 w' → Calls Tryd.prog 6 #[.agg #[.bool true, .slice none 0 0, .int .i64 1, .slice (some ⟨w.heap.size + 1 + 1 + 1, 0, none⟩) 1 1, .slice none 0 0, .slice none 0 0]] w' fun e w'' => e = .returned (.bool true) ∧ Below w'.heap.size w' w'' := fun w' hb => (plainSub_any _ t0 _ (QT.out _ hb) (by first | exact s0_fits.small | exact t0_fits.small)).mono (by rintro e w2 ⟨rfl, h⟩; exact ⟨by rw [show plainS t0 = true by decide +kernel], h⟩)
  have K1 := Lib.hid k1
  clear k1
  have k2 : ∀ w', Below W0.heap.size W0 w' → Calls Tryd.prog 7 #[.agg #[.bool false, .slice (some ⟨w.heap.size, 0, none⟩) 1 1, .int .i64 3, .slice none 0 0, .slice none 0 0, .slice (some ⟨w.heap.size + 1, 0, none⟩) 1 1]] w' fun e w'' => e = .returned (.string ⟨#[40, 115, 117, 98, 32, 50, 32, 40, 97, 114, 114, 97, 121, 32, 40, 109, 117, 116, 32, 105, 56, 41, 41, 41]⟩) ∧ Below w'.heap.size w' w'' := fun w' hb => (text_any _ s0 s0_fits _ (QS.out _ hb) (HT.out.on hb)).mono (by rintro e w2 ⟨rfl, h⟩; exact ⟨by rw [show subT s0 = #[40, 115, 117, 98, 32, 50, 32, 40, 97, 114, 114, 97, 121, 32, 40, 109, 117, 116, 32, 105, 56, 41, 41, 41].toList by decide +kernel], h⟩)
  have K2 := Lib.hid k2
  clear k2
  have k3 : ∀ w', Below W0.heap.size W0 w' → Calls Tryd.prog 7 #[.agg #[.bool true, .slice none 0 0, .int .i64 1, .slice (some ⟨w.heap.size + 1 + 1 + 1, 0, none⟩) 1 1, .slice none 0 0, .slice none 0 0]] w' fun e w'' => e = .returned (.string ⟨#[40, 115, 117, 98, 32, 102, 105, 110, 97, 108, 32, 40, 102, 117, 110, 99, 32, 40, 112, 97, 114, 97, 109, 32, 105, 51, 50, 41, 41, 41]⟩) ∧ Below w'.heap.size w' w'' := fun w' hb => (text_any _ t0 t0_fits _ (QT.out _ hb) (HT.out.on hb)).mono (by rintro e w2 ⟨rfl, h⟩; exact ⟨by rw [show subT t0 = #[40, 115, 117, 98, 32, 102, 105, 110, 97, 108, 32, 40, 102, 117, 110, 99, 32, 40, 112, 97, 114, 97, 109, 32, 105, 51, 50, 41, 41, 41].toList by decide +kernel], h⟩)
  have K3 := Lib.hid k3
  clear k3
  have k4 : ∀ w', Below W0.heap.size W0 w' → Calls Tryd.prog 10 #[.agg #[.int .i64 3, .bool true, .int .i64 1, .int .i64 0]] w' fun e w'' => e = .returned (.string ⟨#[40, 114, 101, 102, 32, 110, 117, 108, 108, 32, 97, 110, 121, 41]⟩) ∧ Below w'.heap.size w' w'' := fun w' hb => (valText_any v0 (by unfold v0 B64; decide) _ (HT.out.on hb)).mono (by rintro e w2 ⟨rfl, h⟩; exact ⟨by rw [show valT v0 = #[40, 114, 101, 102, 32, 110, 117, 108, 108, 32, 97, 110, 121, 41].toList by decide +kernel], h⟩)
  have K4 := Lib.hid k4
  clear k4
  have k5 : ∀ w', Below W0.heap.size W0 w' → Calls Tryd.prog 11 #[.agg #[.int .i64 3, .bool true, .int .i64 1, .int .i64 0]] w' fun e w'' => e = .returned (.bool true) ∧ Below w'.heap.size w' w'' := fun w' hb => (default_any v0 _).mono (by rintro e w2 ⟨rfl, h⟩; exact ⟨by rw [show firstV v0 = true by decide +kernel], h⟩)
  have K5 := Lib.hid k5
  clear k5
  have k6 : ∀ w', Below W0.heap.size W0 w' → Calls Tryd.prog 8 #[.agg #[.bool false, .slice (some ⟨w.heap.size, 0, none⟩) 1 1, .int .i64 3, .slice none 0 0, .slice none 0 0, .slice (some ⟨w.heap.size + 1, 0, none⟩) 1 1], .agg #[.bool true, .slice none 0 0, .int .i64 1, .slice (some ⟨w.heap.size + 1 + 1 + 1, 0, none⟩) 1 1, .slice none 0 0, .slice none 0 0]] w' fun e w'' => e = .returned (.bool false) ∧ Below w'.heap.size w' w'' := fun w' hb => (same_any _ _ s0 t0 _ (QS.out _ hb) (QT.out _ hb) s0_fits.small t0_fits.small).mono (by rintro e w2 ⟨rfl, h⟩; exact ⟨by rw [show decide (s0 = t0) = false by decide +kernel], h⟩)
  have K6 := Lib.hid k6
  clear k6

  have k7 : ∀ w', Below W0.heap.size W0 w' → Calls Tryd.prog 12 #[.agg #[.bool false, .slice (some ⟨w.heap.size, 0, none⟩) 1 1, .int .i64 3, .slice none 0 0, .slice none 0 0, .slice (some ⟨w.heap.size + 1, 0, none⟩) 1 1]] w' fun e w'' => ∃ c1 c5, e = .returned (.agg #[.bool false, c1, .int .i64 3, .slice none 0 0, .slice none 0 0, c5]) ∧ HpsAt w'' c1 [⟨13, 2⟩] ∧ FlsAt w'' c5 [⟨8, ⟨1, false, 0, 0⟩, true⟩] ∧ Below w'.heap.size w' w'' := fun w' hb => copy_known _ _ w' ((hb.block _ (heap_lt Z0.out)).trans Z0.out) ((hb.block _ (heap_lt Z1.out)).trans Z1.out)
  have K7 := Lib.hid k7
  clear k7
  have k8 : ∀ w' c1 c5, Below W0.heap.size W0 w' → HpsAt w' c1 [⟨13, 2⟩] → FlsAt w' c5 [⟨8, ⟨1, false, 0, 0⟩, true⟩] → Calls Tryd.prog 8 #[.agg #[.bool false, .slice (some ⟨w.heap.size, 0, none⟩) 1 1, .int .i64 3, .slice none 0 0, .slice none 0 0, .slice (some ⟨w.heap.size + 1, 0, none⟩) 1 1], .agg #[.bool false, c1, .int .i64 3, .slice none 0 0, .slice none 0 0, c5]] w' fun e w'' => e = .returned (.bool true) ∧ Below w'.heap.size w' w'' := fun w' c1 c5 hb h1 h5 => (same_any _ _ s0 s0 _ (QS.out _ hb) ⟨⟨c1, _, _, c5, rfl, h1, RowAt.nil _ _, RowAt.nil _ _, h5⟩⟩ s0_fits.small s0_fits.small).mono (by rintro e w2 ⟨rfl, h⟩; exact ⟨by rw [show decide (s0 = s0) = true by simp], h⟩)
  have K8 := Lib.hid k8
  clear k8
  go_enter Tryd.func4, Tryd.ntmps4
  go_wp2_with fail
  rw [← HW.out]
  have HE := Lib.hid (Below.refl W0.heap.size W0).drew
  have HQ := Lib.hid (HS.out _ HE.out)
  go_region_held_law (fun w' => w'.cell? ⟨w.heap.size + 1 + 1, 0, none⟩ = some (.bool false) ∧ w'.cell? ⟨w.heap.size + 1 + 1, 1, none⟩ = some (.slice (some ⟨w.heap.size, 0, none⟩) 1 1) ∧ w'.cell? ⟨w.heap.size + 1 + 1, 2, none⟩ = some (.int .i64 3) ∧ w'.cell? ⟨w.heap.size + 1 + 1, 3, none⟩ = some (.slice none 0 0) ∧ w'.cell? ⟨w.heap.size + 1 + 1, 4, none⟩ = some (.slice none 0 0) ∧ w'.cell? ⟨w.heap.size + 1 + 1, 5, none⟩ = some (.slice (some ⟨w.heap.size + 1, 0, none⟩) 1 1) ∧ w'.cell? ⟨w.heap.size + 1 + 1 + 1 + 1, 0, none⟩ = some (.bool true) ∧ w'.cell? ⟨w.heap.size + 1 + 1 + 1 + 1, 1, none⟩ = some (.slice none 0 0) ∧ w'.cell? ⟨w.heap.size + 1 + 1 + 1 + 1, 2, none⟩ = some (.int .i64 1) ∧ w'.cell? ⟨w.heap.size + 1 + 1 + 1 + 1, 3, none⟩ = some (.slice (some ⟨w.heap.size + 1 + 1 + 1, 0, none⟩) 1 1) ∧ w'.cell? ⟨w.heap.size + 1 + 1 + 1 + 1, 4, none⟩ = some (.slice none 0 0) ∧ w'.cell? ⟨w.heap.size + 1 + 1 + 1 + 1, 5, none⟩ = some (.slice none 0 0) ∧ w'.cell? ⟨w.heap.size + 1 + 1 + 1 + 1 + 1, 0, none⟩ = some (.int .i64 3) ∧ w'.cell? ⟨w.heap.size + 1 + 1 + 1 + 1 + 1, 1, none⟩ = some (.bool true) ∧ w'.cell? ⟨w.heap.size + 1 + 1 + 1 + 1 + 1, 2, none⟩ = some (.int .i64 1) ∧ w'.cell? ⟨w.heap.size + 1 + 1 + 1 + 1 + 1, 3, none⟩ = some (.int .i64 0)) (with_reducible exact HQ.out)
    (first
      | (go_simp; go_at_call 6; with_reducible refine (K0.out _ HE.out).mono ?_
         rintro e w1 ⟨rfl, hb⟩
         have HE := Lib.hid (HE.out.trans (hb.mono HE.out.size)); have HQ := Lib.hid (HS.out _ HE.out)
         clear hb
         dsimp only)
      | (go_simp; go_at_call 6; with_reducible refine (K1.out _ HE.out).mono ?_
         rintro e w1 ⟨rfl, hb⟩
         have HE := Lib.hid (HE.out.trans (hb.mono HE.out.size)); have HQ := Lib.hid (HS.out _ HE.out)
         clear hb
         dsimp only)
      | (go_simp; go_at_call 7; with_reducible refine (K2.out _ HE.out).mono ?_
         rintro e w1 ⟨rfl, hb⟩
         have HE := Lib.hid (HE.out.trans (hb.mono HE.out.size)); have HQ := Lib.hid (HS.out _ HE.out)
         clear hb
         dsimp only)
      | (go_simp; go_at_call 7; with_reducible refine (K3.out _ HE.out).mono ?_
         rintro e w1 ⟨rfl, hb⟩
         have HE := Lib.hid (HE.out.trans (hb.mono HE.out.size)); have HQ := Lib.hid (HS.out _ HE.out)
         clear hb
         dsimp only)
      | (go_simp; go_at_call 10; with_reducible refine (K4.out _ HE.out).mono ?_
         rintro e w1 ⟨rfl, hb⟩
         have HE := Lib.hid (HE.out.trans (hb.mono HE.out.size)); have HQ := Lib.hid (HS.out _ HE.out)
         clear hb
         dsimp only)
      | (go_simp; go_at_call 11; with_reducible refine (K5.out _ HE.out).mono ?_
         rintro e w1 ⟨rfl, hb⟩
         have HE := Lib.hid (HE.out.trans (hb.mono HE.out.size)); have HQ := Lib.hid (HS.out _ HE.out)
         clear hb
         dsimp only)
      | (go_simp; go_at_call 8; with_reducible refine (K6.out _ HE.out).mono ?_
         rintro e w1 ⟨rfl, hb⟩
         have HE := Lib.hid (HE.out.trans (hb.mono HE.out.size)); have HQ := Lib.hid (HS.out _ HE.out)
         clear hb
         dsimp only)
      | (go_simp; go_at_call 12; with_reducible refine (K7.out _ HE.out).mono ?_
         rintro e w1 ⟨c1, c5, rfl, h1, h5, hb⟩
         have HE := Lib.hid (HE.out.trans (hb.mono HE.out.size)); have HQ := Lib.hid (HS.out _ HE.out)
         have H1 := Lib.hid h1; have H5 := Lib.hid h5
         clear hb h1 h5
         dsimp only)
      | (go_simp; go_at_call 8; with_reducible refine (K8.out _ c1 c5 HE.out H1.out H5.out).mono ?_
         rintro e w1 ⟨rfl, hb⟩
         have HE := Lib.hid (HE.out.trans (hb.mono HE.out.size)); have HQ := Lib.hid (HS.out _ HE.out)
         clear hb
         dsimp only))
  go_wp2
  go_ret
  exact ⟨rfl, HB.out.trans (HE.out.mono HB.out.size)⟩
end Go.Proofs.YtnaepekpgmalaaaDoor
