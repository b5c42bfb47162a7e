/- geodelaw09: a table that is not there, or that New did not make. -/
import Derived.Test.YtmjehnjodaicfaaDoorRoKn
namespace Go.Proofs.YtmjehnjodaicfaaDoor
open Go.RowKit Go.Maps Go.WideMaps

inductive NoTab (w : World) : Value → Prop where
  | absent : NoTab w (.pointer none)
  | bare (q : Nat) (h : w.heap[q]? = some (.cells #[.slice none 0 0, .slice none 0 0, .map none, .pointer none] 63 (0, 0))) : NoTab w (.pointer (some ⟨q, 0, none⟩))
theorem NoTab.below {w w' : World} {p : Value} (h : NoTab w p) (hb : Below w.heap.size w w') : NoTab w' p := by
  cases h with
  | absent => exact .absent
  | bare q h => exact .bare q (by rw [hb.block q (heap_lt h)]; exact h)
set_option maxRecDepth 100000 in
theorem made_none (p : Value) (w : World) (h : NoTab w p) : Calls Tryd.prog 23 #[p] w fun e w' => e = .returned (.bool false) ∧ w' = w := by
  cases h with
  | absent =>
    go_enter Tryd.func23, Tryd.ntmps23
    go_wp2
    go_ret
    exact ⟨rfl, rfl⟩
  | bare q h =>
    have c3 := heap_cell h 3
    simp at c3
    have hq : ∀ w, (binOp .eql 30 (.pointer none) (.pointer (some ⟨q, 0, none⟩))).run Tryd.prog w = .ok (.bool false) w := fun _ => by rfl
    clear h
    go_enter Tryd.func23, Tryd.ntmps23
    go_wp2
    go_ret
    exact ⟨rfl, rfl⟩
variable {p : Value} {w : World}
set_option maxRecDepth 100000 in
theorem add_none (h : NoTab w p) (v1 v2 : Value) : Calls Tryd.prog 9 #[p, v1, v2] w fun e w' => e = .returned (.tuple #[.slice none 0 0, .int .i64 1]) ∧ w' = w := by
  have C := Lib.hid (made_none p w h)
  clear h
  go_enter Tryd.func9, Tryd.ntmps9
  go_wp2_with fail
  refine C.out.mono ?_
  rintro e w1 ⟨rfl, rfl⟩
  go_wp2
  go_ret2
  exact ⟨rfl, rfl⟩
set_option maxRecDepth 100000 in
theorem len_none (h : NoTab w p) : Calls Tryd.prog 15 #[p] w fun e w' => e = .returned (.int .i64 0) ∧ w' = w := by
  have C := Lib.hid (made_none p w h)
  clear h
  go_enter Tryd.func15, Tryd.ntmps15
  go_wp2_with fail
  refine C.out.mono ?_
  rintro e w1 ⟨rfl, rfl⟩
  go_wp2
  go_ret
  exact ⟨rfl, rfl⟩
set_option maxRecDepth 100000 in
theorem group_none (h : NoTab w p) (id : Int) : Calls Tryd.prog 19 #[p, .int .i64 id] w fun e w' => e = .returned (.tuple #[.int .i64 0, .int .i64 0, .int .i64 1]) ∧ w' = w := by
  have C := Lib.hid (made_none p w h)
  clear h
  go_enter Tryd.func19, Tryd.ntmps19
  go_wp2_with fail
  refine C.out.mono ?_
  rintro e w1 ⟨rfl, rfl⟩
  go_wp2
  refine bodyPost_ret (v := .tuple #[.int .i64 0, .int .i64 0, .int .i64 1]) (by simp [results, Tryd.results19, go_sem]) rfl ⟨rfl, rfl⟩
set_option maxRecDepth 100000 in
theorem copy_none (h : NoTab w p) : Calls Tryd.prog 21 #[p] w fun e w' => e = .returned (.pointer none) ∧ w' = w := by
  have C := Lib.hid (made_none p w h)
  clear h
  go_enter Tryd.func21, Tryd.ntmps21
  go_wp2_with fail
  refine C.out.mono ?_
  rintro e w1 ⟨rfl, rfl⟩
  go_wp2
  go_ret
  exact ⟨rfl, rfl⟩
def emptyS : Value := .agg #[.bool false, .slice none 0 0, .int .i64 0, .slice none 0 0, .slice none 0 0, .slice none 0 0]
set_option maxRecDepth 100000 in
theorem get_none (h : NoTab w p) (id : Int) : Calls Tryd.prog 18 #[p, .int .i64 id] w fun e w' => e = .returned (.tuple #[emptyS, .int .i64 1]) ∧ Below w.heap.size w w' := by
  have C := Lib.hid (made_none p (w.alloc (.cells #[.bool false, .slice none 0 0, .int .i64 0, .slice none 0 0, .slice none 0 0, .slice none 0 0] 48)) (h.below ((Below.refl _ _).alloc (Nat.le_refl _) _)))
  clear h
  go_enter Tryd.func18, Tryd.ntmps18
  go_wp2_with fail
  refine C.out.mono ?_
  rintro e w1 ⟨rfl, rfl⟩
  go_wp2
  refine bodyPost_ret (v := .tuple #[emptyS, .int .i64 1]) (by simp [results, Tryd.results18, go_sem, emptyS]) rfl ⟨rfl, ?_⟩
  exact (Below.refl _ _).alloc (Nat.le_refl _) _
def emptyV : Value := .agg #[.int .i64 0, .bool false, .int .i64 0, .int .i64 0]
set_option maxRecDepth 100000 in
theorem close_none (h : NoTab w p) (v1 : Value) (v : Vl) : Calls Tryd.prog 10 #[p, v1, .agg (cellsV v).toArray] w fun e w' => e = .returned (.tuple #[emptyV, .int .i64 1]) ∧ Below w.heap.size w w' := by
  obtain ⟨k, nl, hh, n⟩ := v
  rw [show cellsV ⟨k, nl, hh, n⟩ = [.int .i64 k, .bool nl, .int .i64 hh, .int .i64 n] from rfl]
  have C := Lib.hid (made_none p ((w.alloc (.cells #[.int .i64 k, .bool nl, .int .i64 hh, .int .i64 n] 28)).alloc (.cells #[.int .i64 0, .bool false, .int .i64 0, .int .i64 0] 28)) (h.below (((Below.refl _ _).alloc (Nat.le_refl _) _).alloc (by simp) _)))
  clear h
  go_enter Tryd.func10, Tryd.ntmps10
  go_wp2_with fail
  refine C.out.mono ?_
  rintro e w1 ⟨rfl, rfl⟩
  go_wp2
  refine bodyPost_ret (v := .tuple #[emptyV, .int .i64 1]) (by simp [results, Tryd.results10, go_sem, emptyV]) rfl ⟨rfl, ?_⟩
  exact ((Below.refl _ _).alloc (Nat.le_refl _) _).alloc (by simp) _
set_option maxRecDepth 100000 in
theorem refSameVals_nil (w : World) : Calls Tryd.prog 43 #[.slice none 0 0, .slice none 0 0] w fun e w' => e = .returned (.bool true) ∧ w' = w := by
  go_enter Tryd.func43, Tryd.ntmps43
  go_wp2
  go_loopw [5] (fun t5 wr => t5 = .int .i64 0 ∧ wr = w) (fun _ _ => 0)
  case atStart => exact ⟨rfl, rfl⟩
  case round =>
    obtain ⟨rfl, rfl⟩ := hrel
    go_wp2
    go_ret
    exact ⟨rfl, rfl⟩
set_option maxRecDepth 100000 in
set_option maxHeartbeats 4000000 in
theorem refSame_empty (w : World) : Calls Tryd.prog 20 #[emptyS, emptyS] w fun e w' => e = .returned (.bool true) ∧ Below w.heap.size w w' := by
  unfold emptyS
  go_enter Tryd.func20, Tryd.ntmps20
  go_wp2
  obtain ⟨W0, hW0⟩ : ∃ W0, W0 = ((w.alloc (.cells #[.bool false, .slice none 0 0, .int .i64 0, .slice none 0 0, .slice none 0 0, .slice none 0 0] 48)).alloc (.cells #[.bool false, .slice none 0 0, .int .i64 0, .slice none 0 0, .slice none 0 0, .slice none 0 0] 48)) := ⟨_, rfl⟩
  rw [← hW0]
  have hB : Below w.heap.size w W0 := by rw [hW0]; exact ((Below.refl _ _).alloc (Nat.le_refl _) _).alloc (by simp) _
  have z0 : W0.heap[w.heap.size]? = some (.cells #[.bool false, .slice none 0 0, .int .i64 0, .slice none 0 0, .slice none 0 0, .slice none 0 0] 48 (0, 0)) := by rw [hW0]; exact heap_alloc_keep (heap_alloc_at _ _ rfl) _
  have z1 : W0.heap[w.heap.size + 1]? = some (.cells #[.bool false, .slice none 0 0, .int .i64 0, .slice none 0 0, .slice none 0 0, .slice none 0 0] 48 (0, 0)) := by rw [hW0]; exact heap_alloc_at _ _ (by simp)
  have c1 := heap_cell z0 1; have c3 := heap_cell z0 3; have c4 := heap_cell z0 4; have c5 := heap_cell z0 5
  have d1 := heap_cell z1 1; have d3 := heap_cell z1 3; have d4 := heap_cell z1 4; have d5 := heap_cell z1 5
  simp at c1 c3 c4 c5 d1 d3 d4 d5
  have HB := Lib.hid hB
  clear hW0 hB z0 z1
  go_loopw [5] (fun t5 wr => t5 = .int .i64 0 ∧ wr = W0) (fun _ _ => 0)
  case atStart => exact ⟨rfl, rfl⟩
  case round =>
    obtain ⟨rfl, rfl⟩ := hrel
    go_wp2
    go_loopw [6] (fun t6 wq => t6 = .int .i64 0 ∧ wq = wr) (fun _ _ => 0)
    case atStart => exact ⟨rfl, rfl⟩
    case round =>
      obtain ⟨rfl, rfl⟩ := hrel
      go_wp2_with fail
      refine (refSameVals_nil _).mono ?_
      rintro e w1 ⟨rfl, rfl⟩
      go_wp2_with fail
      refine (refSameVals_nil _).mono ?_
      rintro e w1 ⟨rfl, rfl⟩
      go_wp2
      go_ret
      exact ⟨rfl, HB.out⟩
set_option maxRecDepth 100000 in
set_option maxHeartbeats 8000000 in
theorem rollNone_any (id : Int) (v : Vl) (w : World) (htab : Tab w) : Calls Tryd.prog 6 #[.int .i64 id, .agg (cellsV v).toArray] w fun e w' => e = .returned (.bool true) ∧ Below w.heap.size w w' := by
  obtain ⟨k, nl, hh, n⟩ := v
  rw [show cellsV ⟨k, nl, hh, n⟩ = [.int .i64 k, .bool nl, .int .i64 hh, .int .i64 n] from rfl]
  have HTAB := Lib.hid htab
  obtain ⟨W0, hW0⟩ : ∃ W0, W0 = (((w.alloc (.cells #[.int .i64 k, .bool nl, .int .i64 hh, .int .i64 n] 28)).alloc (.cells #[.slice none 0 0, .slice none 0 0, .map none, .pointer none] 63)).alloc (.cells #[.pointer none, .pointer (some ⟨w.heap.size + 1, 0, none⟩)] 64)) := ⟨_, rfl⟩
  have hB : Below w.heap.size w W0 := by rw [hW0]; exact (((Below.refl _ _).alloc (Nat.le_refl _) _).alloc (by simp) _).alloc (by simp; omega) _
  have z0 : W0.heap[w.heap.size]? = some (.cells #[.int .i64 k, .bool nl, .int .i64 hh, .int .i64 n] 28 (0, 0)) := by rw [hW0]; exact heap_alloc_keep (heap_alloc_keep (heap_alloc_at _ _ rfl) _) _
  have z1 : W0.heap[w.heap.size + 1]? = some (.cells #[.slice none 0 0, .slice none 0 0, .map none, .pointer none] 63 (0, 0)) := by rw [hW0]; exact heap_alloc_keep (heap_alloc_at _ _ (by simp)) _
  have z2 : W0.heap[w.heap.size + 1 + 1]? = some (.cells #[.pointer none, .pointer (some ⟨w.heap.size + 1, 0, none⟩)] 64 (0, 0)) := by rw [hW0]; exact heap_alloc_at _ _ (by simp)
  have HW0 := Lib.hid hW0; have HB := Lib.hid hB; have Z0 := Lib.hid z0; have Z1 := Lib.hid z1; have Z2 := Lib.hid z2
  clear htab hW0 hB z0 z1 z2
  go_enter Tryd.func6, Tryd.ntmps6
  go_wp2
  rw [← HW0.out]
  go_loopw [7] (fun t7 wr => ∃ i : Nat, t7 = .int .i64 i ∧ i ≤ 2 ∧ Below W0.heap.size W0 wr) (fun t7 _ => 2 - (intOf t7).toNat)
  case atStart => exact ⟨0, rfl, by omega, Below.refl _ _⟩
  case round =>
    obtain ⟨i, rfl, hi, hbe⟩ := hrel
    by_cases hlt : i < 2
    · obtain ⟨p, hp, hn⟩ : ∃ p, wr.cell? ⟨w.heap.size + 1 + 1, i, none⟩ = some p ∧ NoTab wr p := by
        have y2 := (hbe.block _ (heap_lt Z2.out)).trans Z2.out
        have hi2 : i = 0 ∨ i = 1 := by omega
        rcases hi2 with rfl | rfl
        · exact ⟨_, heap_cell y2 0, .absent⟩
        · exact ⟨_, heap_cell y2 1, .bare _ ((hbe.block _ (heap_lt Z1.out)).trans Z1.out)⟩
      have y0 := (hbe.block _ (heap_lt Z0.out)).trans Z0.out
      have HN := Lib.hid hn; have HBE := Lib.hid hbe; have HLT := Lib.hid hlt; have Y0 := Lib.hid y0
      have hlt' : (i : Int) < 2 := by omega
      have hlt2 : i < 2 := hlt
      clear hn hbe hlt y0 hi
      go_wp2_with fail
      refine (box_any 0 wr).mono ?_
      rintro e x1 ⟨a4, c4, rfl, _, hx1⟩
      have HX1 := Lib.hid hx1
      clear hx1
      go_wp2_with fail
      have hA1 : Below wr.heap.size wr (x1.alloc (.cells #[.bool false, .slice none 0 0, .int .i64 2, .slice none 0 0, .slice none 0 0, .slice a4 1 c4] 48)) := HX1.out.alloc HX1.out.size _
      refine (add_none (HN.out.below hA1) _ _).mono ?_
      rintro e x1' ⟨rfl, hx1'⟩
      have hb1 : Below wr.heap.size wr x1' := by rw [hx1']; exact hA1
      have HBX1 := Lib.hid hb1
      clear hA1 hb1 hx1'
      go_wp2_with fail
      refine (get_none (HN.out.below HBX1.out) id).mono ?_
      rintro e x2 ⟨rfl, hx2⟩
      have hb2 : Below wr.heap.size wr (x2.alloc (.cells #[.bool false, .slice none 0 0, .int .i64 0, .slice none 0 0, .slice none 0 0, .slice none 0 0] 48)) := (HBX1.out.trans (hx2.mono HBX1.out.size)).alloc (HBX1.out.trans (hx2.mono HBX1.out.size)).size _
      have HX2 := Lib.hid hx2; have HB2 := Lib.hid hb2
      clear hx2 hb2
      unfold emptyS
      go_wp2_with fail
      refine (group_none (HN.out.below HB2.out) id).mono ?_
      rintro e x2' ⟨rfl, hx2'⟩
      have hb3 : Below wr.heap.size wr x2' := by rw [hx2']; exact HB2.out
      have s0 : x2'.heap[x2.heap.size]? = some (.cells #[.bool false, .slice none 0 0, .int .i64 0, .slice none 0 0, .slice none 0 0, .slice none 0 0] 48 (0, 0)) := by rw [hx2']; exact heap_alloc_at _ _ rfl
      have y0 : x2'.heap[w.heap.size]? = some (.cells #[.int .i64 k, .bool nl, .int .i64 hh, .int .i64 n] 28 (0, 0)) := by rw [hb3.block _ (heap_lt Y0.out)]; exact Y0.out
      have e0 := heap_cell y0 0; have e1 := heap_cell y0 1; have e2 := heap_cell y0 2; have e3 := heap_cell y0 3
      simp at e0 e1 e2 e3
      have HB3 := Lib.hid hb3; have S0 := Lib.hid s0
      clear hx2' hb3 s0 y0
      go_wp2_with fail
      refine (close_none (HN.out.below HB3.out) _ ⟨k, nl, hh, n⟩).mono ?_
      rintro e x3 ⟨rfl, hx3⟩
      have hb4 : Below wr.heap.size wr (x3.alloc (.cells #[.int .i64 0, .bool false, .int .i64 0, .int .i64 0] 28)) := (HB3.out.trans (hx3.mono HB3.out.size)).alloc (HB3.out.trans (hx3.mono HB3.out.size)).size _
      have s1 : (x3.alloc (.cells #[.int .i64 0, .bool false, .int .i64 0, .int .i64 0] 28)).heap[x2.heap.size]? = some (.cells #[.bool false, .slice none 0 0, .int .i64 0, .slice none 0 0, .slice none 0 0, .slice none 0 0] 48 (0, 0)) := heap_alloc_keep ((hx3.block _ (heap_lt S0.out)).trans S0.out) _
      have g0 := heap_cell s1 0; have g1 := heap_cell s1 1; have g2 := heap_cell s1 2; have g3 := heap_cell s1 3; have g4 := heap_cell s1 4; have g5 := heap_cell s1 5
      simp at g0 g1 g2 g3 g4 g5
      have HB4 := Lib.hid hb4
      clear hx3 hb4 s1 e0 e1 e2 e3
      unfold emptyV
      go_wp2_with fail
      refine (refSame_empty _).mono ?_
      rintro e x4 ⟨rfl, hx4⟩
      have t0 : x4.heap[x3.heap.size]? = some (.cells #[.int .i64 0, .bool false, .int .i64 0, .int .i64 0] 28 (0, 0)) := (hx4.block _ (by simp)).trans (heap_alloc_at _ _ rfl)
      have v0 := heap_cell t0 0; have v1 := heap_cell t0 1; have v2 := heap_cell t0 2; have v3 := heap_cell t0 3
      simp at v0 v1 v2 v3
      have HB5 := Lib.hid (HB4.out.trans (hx4.mono HB4.out.size))
      clear hx4 t0 g0 g1 g2 g3 g4 g5
      go_wp2_with fail
      refine (len_none (HN.out.below HB5.out)).mono ?_
      rintro e x5 ⟨rfl, hx5⟩
      rw [← hx5] at HB5
      clear hx5 v0 v1 v2 v3
      go_wp2_with fail
      refine (copy_none (HN.out.below HB5.out)).mono ?_
      rintro e x6 ⟨rfl, hx6⟩
      rw [← hx6] at HB5
      clear hx6
      go_wp2
      go_roundw
      case rel => exact ⟨i + 1, by go_num, HLT.out, HBE.out.trans (HB5.out.mono HBE.out.size)⟩
      case measure => have := HLT.out; simp [intOf]; omega
    · obtain rfl : i = 2 := by omega
      have HBE := Lib.hid hbe
      clear hbe hlt hi
      go_wp2_with fail
      have hb := HB.out.trans (HBE.out.mono HB.out.size)
      refine (known_any _ (HTAB.out.on hb)).mono ?_
      rintro e w1 ⟨rfl, hb1⟩
      have HB2 := Lib.hid (hb.trans (hb1.mono hb.size))
      clear hb hb1
      go_wp2
      go_ret
      exact ⟨rfl, HB2.out⟩
end Go.Proofs.YtmjehnjodaicfaaDoor
