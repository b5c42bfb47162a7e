/- Layer 14 (stack): StackNone: a machine that is not there, or has no table, has nothing. For all numbers and lists. -/
import Derived.Test.YtjjhdbjbjgkijaaWithin
namespace Go.Proofs.Ytjjhdbjbjgkijaa
open Go.RowKit Go.Maps Go.WideMaps

def AbsM (w : World) (mv : Value) : Prop := mv = .pointer none ∨ ∃ M, mv = .pointer (some ⟨M, 0, none⟩) ∧ w.cell? ⟨M, 0, none⟩ = some (.pointer none)
theorem AbsM.ext {w w' : World} {mv : Value} (h : AbsM w mv) (hb : Below w.heap.size w w') : AbsM w' mv := by
  rcases h with h | ⟨M, rfl, h⟩
  · exact .inl h
  · exact .inr ⟨M, rfl, below_cell hb h⟩
theorem absent_abs (mv : Value) (w : World) (h : AbsM w mv) : Calls Try.prog 28 #[mv] w fun e w' => e = .returned (.bool true) ∧ w = w' := by
  rcases h with rfl | ⟨M, rfl, h⟩
  · go_enter Try.func28, Try.ntmps28
    go_wp2
    go_ret
    exact ⟨rfl, rfl⟩
  · go_enter Try.func28, Try.ntmps28
    go_wp2
    go_ret
    exact ⟨rfl, rfl⟩
theorem push_abs (mv : Value) (v : Value) (w : World) (h : AbsM w mv) : Calls Try.prog 10 #[mv, v] w fun e w' => e = .returned (.int .i64 1) ∧ Below w.heap.size w w' := by
  have H := Lib.hid h
  clear h
  go_enter Try.func10, Try.ntmps10
  go_wp2_with fail
  refine (absent_abs mv _ H.out).mono ?_
  rintro e w' ⟨rfl, rfl⟩
  go_wp2
  go_ret
  exact ⟨rfl, Below.refl _ _⟩
theorem take_abs (mv : Value) (v : Value) (w : World) (h : AbsM w mv) : Calls Try.prog 17 #[mv, v] w fun e w' => e = .returned (.int .i64 1) ∧ Below w.heap.size w w' := by
  have H := Lib.hid h
  clear h
  go_enter Try.func17, Try.ntmps17
  go_wp2_with fail
  refine (absent_abs mv _ H.out).mono ?_
  rintro e w' ⟨rfl, rfl⟩
  go_wp2
  go_ret
  exact ⟨rfl, Below.refl _ _⟩
theorem open_abs (mv : Value) (o : Int) (v u : Value) (w : World) (h : AbsM w mv) : Calls Try.prog 11 #[mv, .int .i64 o, v, u] w fun e w' => e = .returned (.int .i64 1) ∧ Below w.heap.size w w' := by
  have H := Lib.hid h
  clear h
  go_enter Try.func11, Try.ntmps11
  go_wp2_with fail
  refine (absent_abs mv _ H.out).mono ?_
  rintro e w' ⟨rfl, rfl⟩
  go_wp2
  go_ret
  exact ⟨rfl, Below.refl _ _⟩
theorem die_abs (mv : Value)  (w : World) (h : AbsM w mv) : Calls Try.prog 12 #[mv] w fun e w' => e = .returned (.int .i64 1) ∧ Below w.heap.size w w' := by
  have H := Lib.hid h
  clear h
  go_enter Try.func12, Try.ntmps12
  go_wp2_with fail
  refine (absent_abs mv _ H.out).mono ?_
  rintro e w' ⟨rfl, rfl⟩
  go_wp2
  go_ret
  exact ⟨rfl, Below.refl _ _⟩
theorem give_abs (mv : Value) (n : Int) (w : World) (h : AbsM w mv) : Calls Try.prog 21 #[mv, .int .i64 n] w fun e w' => e = .returned (.int .i64 1) ∧ Below w.heap.size w w' := by
  have H := Lib.hid h
  clear h
  go_enter Try.func21, Try.ntmps21
  go_wp2_with fail
  refine (absent_abs mv _ H.out).mono ?_
  rintro e w' ⟨rfl, rfl⟩
  go_wp2
  go_ret
  exact ⟨rfl, Below.refl _ _⟩
theorem given_abs (mv : Value) (n : Int) (w : World) (h : AbsM w mv) : Calls Try.prog 23 #[mv, .int .i64 n] w fun e w' => e = .returned (.bool false) ∧ Below w.heap.size w w' := by
  have H := Lib.hid h
  clear h
  go_enter Try.func23, Try.ntmps23
  go_wp2_with fail
  refine (absent_abs mv _ H.out).mono ?_
  rintro e w' ⟨rfl, rfl⟩
  go_wp2
  go_ret
  exact ⟨rfl, Below.refl _ _⟩
theorem height_abs (mv : Value)  (w : World) (h : AbsM w mv) : Calls Try.prog 14 #[mv] w fun e w' => e = .returned (.int .i64 0) ∧ Below w.heap.size w w' := by
  have H := Lib.hid h
  clear h
  go_enter Try.func14, Try.ntmps14
  go_wp2_with fail
  refine (absent_abs mv _ H.out).mono ?_
  rintro e w' ⟨rfl, rfl⟩
  go_wp2
  go_ret
  exact ⟨rfl, Below.refl _ _⟩
theorem frames_abs (mv : Value)  (w : World) (h : AbsM w mv) : Calls Try.prog 20 #[mv] w fun e w' => e = .returned (.int .i64 0) ∧ Below w.heap.size w w' := by
  have H := Lib.hid h
  clear h
  go_enter Try.func20, Try.ntmps20
  go_wp2_with fail
  refine (absent_abs mv _ H.out).mono ?_
  rintro e w' ⟨rfl, rfl⟩
  go_wp2
  go_ret
  exact ⟨rfl, Below.refl _ _⟩
theorem top_abs (mv : Value) (n : Int) (w : World) (h : AbsM w mv) : Calls Try.prog 16 #[mv, .int .i64 n] w fun e w' => e = .returned (.slice none 0 0) ∧ Below w.heap.size w w' := by
  have H := Lib.hid h
  clear h
  go_enter Try.func16, Try.ntmps16
  go_wp2_with fail
  refine (absent_abs mv _ H.out).mono ?_
  rintro e w' ⟨rfl, rfl⟩
  go_wp2
  go_ret
  exact ⟨rfl, Below.refl _ _⟩
theorem label_abs (mv : Value) (n : Int) (w : World) (h : AbsM w mv) : Calls Try.prog 22 #[mv, .int .i64 n] w fun e w' => e = .returned (.tuple #[.slice none 0 0, .int .i64 1]) ∧ Below w.heap.size w w' := by
  have H := Lib.hid h
  clear h
  go_enter Try.func22, Try.ntmps22
  go_wp2_with fail
  refine (absent_abs mv _ H.out).mono ?_
  rintro e w' ⟨rfl, rfl⟩
  go_wp2
  go_ret2
  exact ⟨rfl, Below.refl _ _⟩
theorem pop_abs (mv : Value) (w : World) (h : AbsM w mv) : Calls Try.prog 18 #[mv] w fun e w' => e = .returned (.tuple #[.agg #[.int .i64 0, .bool false, .int .i64 0, .int .i64 0], .int .i64 1]) ∧ Below w.heap.size w w' := by
  have hb : Below w.heap.size w (w.alloc (.cells #[.int .i64 0, .bool false, .int .i64 0, .int .i64 0] 41)) := (Below.refl _ _).alloc (Nat.le_refl _) _
  have H := Lib.hid (h.ext hb)
  have HB := Lib.hid hb
  clear h hb
  go_enter Try.func18, Try.ntmps18
  go_wp2_with fail
  refine (absent_abs mv _ H.out).mono ?_
  rintro e w' ⟨rfl, rfl⟩
  go_wp2
  exact bodyPost_ret (v := .tuple #[.agg #[.int .i64 0, .bool false, .int .i64 0, .int .i64 0], .int .i64 1]) (by simp [results, Try.results18, go_sem]) rfl ⟨rfl, HB.out⟩
theorem close_abs0 (w : World) : Calls Try.prog 19 #[.pointer none] w fun e w' => e = .returned (.tuple #[.int .i64 0, .slice none 0 0, .slice none 0 0, .int .i64 1]) ∧ Below w.heap.size w w' := by
  have hb : Below w.heap.size w (w.alloc (.cells #[.pointer none] 24)) := (Below.refl _ _).alloc (Nat.le_refl _) _
  have HB := Lib.hid hb
  clear hb
  go_enter_defers Try.func19, Try.ntmps19
  go_wp2_with fail
  refine (absent_abs (.pointer none) _ (.inl rfl)).mono ?_
  rintro e w' ⟨rfl, rfl⟩
  go_wp2
  exact ⟨_, by simp [results, Try.results19, go_sem], rfl, HB.out⟩
theorem close_abs1 (M : Nat) (w : World) (h : w.cell? ⟨M, 0, none⟩ = some (.pointer none)) : Calls Try.prog 19 #[.pointer (some ⟨M, 0, none⟩)] w fun e w' => e = .returned (.tuple #[.int .i64 0, .slice none 0 0, .slice none 0 0, .int .i64 1]) ∧ Below w.heap.size w w' := by
  have hb : Below w.heap.size w (w.alloc (.cells #[.pointer (some ⟨M, 0, none⟩)] 24)) := (Below.refl _ _).alloc (Nat.le_refl _) _
  have H := Lib.hid (below_cell hb h)
  have HB := Lib.hid hb
  clear h hb
  go_enter_defers Try.func19, Try.ntmps19
  go_wp2_with fail
  refine (absent_abs (.pointer (some ⟨M, 0, none⟩)) _ (.inr ⟨M, rfl, H.out⟩)).mono ?_
  rintro e w' ⟨rfl, rfl⟩
  go_wp2
  exact ⟨_, by simp [results, Try.results19, go_sem], rfl, HB.out⟩
theorem close_abs (mv : Value) (w : World) (h : AbsM w mv) : Calls Try.prog 19 #[mv] w fun e w' => e = .returned (.tuple #[.int .i64 0, .slice none 0 0, .slice none 0 0, .int .i64 1]) ∧ Below w.heap.size w w' := by
  rcases h with rfl | ⟨M, rfl, h⟩
  · exact close_abs0 w
  · exact close_abs1 M w h
theorem dead_abs (mv : Value) (w : World) (h : AbsM w mv) : Calls Try.prog 13 #[mv] w fun e w' => e = .returned (.bool false) ∧ Below w.heap.size w w' := by
  have H := Lib.hid h
  clear h
  go_enter Try.func13, Try.ntmps13
  go_wp2
  refine wp_region_calm (by kernel_rfl) (by kernel_rfl) ?_
  repeat (go_big_quiet_step ((exact Ext.call _ ((absent_abs mv _ (H.out.ext (Subtype.property _))).mono (by rintro e w' ⟨rfl, rfl⟩; exact ⟨rfl, Below.refl _ _⟩)))))
  refine wpQuiet_nil ?_
  rintro _ ⟨x, rfl⟩
  have hx := Lib.hid x.2
  go_wp2
  go_ret
  exact ⟨rfl, hx.out⟩
def AbsNew (w : World) (e : Ending) (w' : World) : Prop := ∃ M, e = .returned (.pointer (some ⟨M, 0, none⟩)) ∧ w'.cell? ⟨M, 0, none⟩ = some (.pointer none) ∧ Below w.heap.size w w'
theorem new_nil (w : World) : Calls Try.prog 8 #[.pointer none] w (AbsNew w) := by
  go_enter Try.func8, Try.ntmps8
  go_wp2_with fail
  refine (get_nil (-1) _).mono ?_
  rintro e w1 ⟨rfl, hb⟩
  go_wp2
  go_ret
  exact ⟨_, rfl, by (have := heap_cell (heap_alloc_at (w1.alloc (.cells #[.bool false, .slice none 0 0, .int .i64 0, .slice none 0 0, .slice none 0 0, .slice none 0 0] 69)) (.cells #[.pointer none, .slice none 0 0, .slice none 0 0, .map none] 57) (b := w1.heap.size + 1) (by simp)) 0; exact this), (hb.alloc hb.size _).alloc (by have := hb.size; simp; omega) _⟩
set_option maxRecDepth 100000 in
set_option maxHeartbeats 8000000 in
theorem none_any (n : Int) (l : List Vl) (v : Value) (w : World) (hv : ValsAt w v l) (hl : l.length ≤ maxLen) : Calls Try.prog 5 #[.int .i64 n, v] w (LawPost w) := by
  obtain ⟨ao, ca, rfl⟩ := hv.form
  clear hv
  unfold maxLen at hl
  by_cases h20 : 20 < l.length
  · have h2 : (20 : Int) < l.length := by omega
    go_enter Try.func5, Try.ntmps5
    go_wp2_with fail
    refine (known_any _).mono ?_
    rintro e w1 ⟨rfl, hb⟩
    go_wp2
    go_ret
    exact ⟨rfl, hb⟩
  · have h2 : ¬ (20 : Int) < l.length := by omega
    go_enter Try.func5, Try.ntmps5
    go_wp2_with fail
    refine (new_nil _).mono ?_
    rintro e w1 ⟨M, rfl, hM, hb⟩
    have hbx : Below w.heap.size w (w.alloc (.cells #[.pointer none, .slice none 0 0, .slice none 0 0, .map none] 57)) := (Below.refl _ _).alloc (Nat.le_refl _) _
    have z1 : (w.alloc (.cells #[.pointer none, .slice none 0 0, .slice none 0 0, .map none] 57)).cell? ⟨w.heap.size, 0, none⟩ = some (.pointer none) := heap_cell (heap_alloc_at w (.cells #[.pointer none, .slice none 0 0, .slice none 0 0, .map none] 57) (b := w.heap.size) rfl) 0
    have z2 := below_cell hb z1
    have hb1 := hbx.trans (hb.mono hbx.size)
    have HB1 := Lib.hid hb1; have HM := Lib.hid hM; have HZ := Lib.hid z2
    clear hb hbx z1 z2 hM hb1
    go_wp2
    have hW : Below w1.heap.size w1 (w1.alloc (.cells #[.pointer none, .pointer (some ⟨w.heap.size, 0, none⟩), .pointer (some ⟨M, 0, none⟩)] 58)) := (Below.refl _ _).alloc (Nat.le_refl _) _
    have A0 := Lib.hid (show AbsM (w1.alloc (.cells #[.pointer none, .pointer (some ⟨w.heap.size, 0, none⟩), .pointer (some ⟨M, 0, none⟩)] 58)) (.pointer none) from .inl rfl)
    have A1 := Lib.hid (show AbsM (w1.alloc (.cells #[.pointer none, .pointer (some ⟨w.heap.size, 0, none⟩), .pointer (some ⟨M, 0, none⟩)] 58)) (.pointer (some ⟨w.heap.size, 0, none⟩)) from .inr ⟨_, rfl, below_cell hW HZ.out⟩)
    have A2 := Lib.hid (show AbsM (w1.alloc (.cells #[.pointer none, .pointer (some ⟨w.heap.size, 0, none⟩), .pointer (some ⟨M, 0, none⟩)] 58)) (.pointer (some ⟨M, 0, none⟩)) from .inr ⟨_, rfl, below_cell hW HM.out⟩)
    have k := heap_alloc_at w1 (.cells #[.pointer none, .pointer (some ⟨w.heap.size, 0, none⟩), .pointer (some ⟨M, 0, none⟩)] 58) (b := w1.heap.size) rfl
    have c0 := Ext.cells (heap_cell k 0); have c1 := Ext.cells (heap_cell k 1); have c2 := Ext.cells (heap_cell k 2)
    simp at c0 c1 c2
    have HB2 := Lib.hid (HB1.out.trans (hW.mono HB1.out.size))
    clear hW k
    go_loopw [7] (fun t7 wr => ∃ i : Nat, i ≤ 3 ∧ t7 = .int .i64 i ∧ ∃ x : Ext (w1.alloc (.cells #[.pointer none, .pointer (some ⟨w.heap.size, 0, none⟩), .pointer (some ⟨M, 0, none⟩)] 58)), wr = x.val) (fun t7 _ => 3 - (intOf t7).toNat)
    case atStart => exact ⟨0, by omega, rfl, ⟨_, Below.refl _ _⟩, rfl⟩
    case round =>
      obtain ⟨i, hi, rfl, x, rfl⟩ := hrel
      have HX := Lib.hid x.2
      have hcase : i = 0 ∨ i = 1 ∨ i = 2 ∨ i = 3 := by omega
      rcases hcase with rfl | rfl | rfl | rfl
      · go_wp2_with fail
        refine (Ext.call ⟨_, HX.out⟩ (pop_abs (.pointer none) _ (A0.out.ext HX.out))).mono ?_
        rintro e _ ⟨rfl, x2, rfl⟩
        have HX2 := Lib.hid x2.2
        clear HX
        have HX := HX2
        clear HX2
        go_wp2_with fail
        have HX3 := Lib.hid (HX.out.alloc HX.out.size (.cells #[.int .i64 0, .bool false, .int .i64 0, .int .i64 0] 41))
        clear HX
        have HX := HX3
        clear HX3
        refine (Ext.call ⟨_, HX.out⟩ (close_abs (.pointer none) _ (A0.out.ext HX.out))).mono ?_
        rintro e _ ⟨rfl, x2, rfl⟩
        have HX2 := Lib.hid x2.2
        clear HX
        have HX := HX2
        clear HX2
        go_wp2_with fail
        refine (Ext.call ⟨_, HX.out⟩ (label_abs (.pointer none) n _ (A0.out.ext HX.out))).mono ?_
        rintro e _ ⟨rfl, x2, rfl⟩
        have HX2 := Lib.hid x2.2
        clear HX
        have HX := HX2
        clear HX2
        go_wp2_with fail
        refine (Ext.call ⟨_, HX.out⟩ (push_abs (.pointer none) _ _ (A0.out.ext HX.out))).mono ?_
        rintro e _ ⟨rfl, x2, rfl⟩
        have HX2 := Lib.hid x2.2
        clear HX
        have HX := HX2
        clear HX2
        go_wp2_with fail
        refine (Ext.call ⟨_, HX.out⟩ (take_abs (.pointer none) _ _ (A0.out.ext HX.out))).mono ?_
        rintro e _ ⟨rfl, x2, rfl⟩
        have HX2 := Lib.hid x2.2
        clear HX
        have HX := HX2
        clear HX2
        go_wp2_with fail
        refine (Ext.call ⟨_, HX.out⟩ (open_abs (.pointer none) 2 _ _ _ (A0.out.ext HX.out))).mono ?_
        rintro e _ ⟨rfl, x2, rfl⟩
        have HX2 := Lib.hid x2.2
        clear HX
        have HX := HX2
        clear HX2
        go_wp2_with fail
        refine (Ext.call ⟨_, HX.out⟩ (die_abs (.pointer none) _ (A0.out.ext HX.out))).mono ?_
        rintro e _ ⟨rfl, x2, rfl⟩
        have HX2 := Lib.hid x2.2
        clear HX
        have HX := HX2
        clear HX2
        go_wp2_with fail
        refine (Ext.call ⟨_, HX.out⟩ (give_abs (.pointer none) n _ (A0.out.ext HX.out))).mono ?_
        rintro e _ ⟨rfl, x2, rfl⟩
        have HX2 := Lib.hid x2.2
        clear HX
        have HX := HX2
        clear HX2
        go_wp2_with fail
        refine (Ext.call ⟨_, HX.out⟩ (given_abs (.pointer none) n _ (A0.out.ext HX.out))).mono ?_
        rintro e _ ⟨rfl, x2, rfl⟩
        have HX2 := Lib.hid x2.2
        clear HX
        have HX := HX2
        clear HX2
        go_wp2_with fail
        refine (Ext.call ⟨_, HX.out⟩ (dead_abs (.pointer none) _ (A0.out.ext HX.out))).mono ?_
        rintro e _ ⟨rfl, x2, rfl⟩
        have HX2 := Lib.hid x2.2
        clear HX
        have HX := HX2
        clear HX2
        go_wp2_with fail
        refine (Ext.call ⟨_, HX.out⟩ (height_abs (.pointer none) _ (A0.out.ext HX.out))).mono ?_
        rintro e _ ⟨rfl, x2, rfl⟩
        have HX2 := Lib.hid x2.2
        clear HX
        have HX := HX2
        clear HX2
        go_wp2_with fail
        refine (Ext.call ⟨_, HX.out⟩ (frames_abs (.pointer none) _ (A0.out.ext HX.out))).mono ?_
        rintro e _ ⟨rfl, x2, rfl⟩
        have HX2 := Lib.hid x2.2
        clear HX
        have HX := HX2
        clear HX2
        go_wp2_with fail
        refine (Ext.call ⟨_, HX.out⟩ (top_abs (.pointer none) n _ (A0.out.ext HX.out))).mono ?_
        rintro e _ ⟨rfl, x2, rfl⟩
        have HX2 := Lib.hid x2.2
        clear HX
        have HX := HX2
        clear HX2
        go_wp2
        go_roundw
        case rel => exact ⟨1, by omega, rfl, x2, rfl⟩
        case measure => simp [intOf]
      · go_wp2_with fail
        refine (Ext.call ⟨_, HX.out⟩ (pop_abs (.pointer (some ⟨w.heap.size, 0, none⟩)) _ (A1.out.ext HX.out))).mono ?_
        rintro e _ ⟨rfl, x2, rfl⟩
        have HX2 := Lib.hid x2.2
        clear HX
        have HX := HX2
        clear HX2
        go_wp2_with fail
        have HX3 := Lib.hid (HX.out.alloc HX.out.size (.cells #[.int .i64 0, .bool false, .int .i64 0, .int .i64 0] 41))
        clear HX
        have HX := HX3
        clear HX3
        refine (Ext.call ⟨_, HX.out⟩ (close_abs (.pointer (some ⟨w.heap.size, 0, none⟩)) _ (A1.out.ext HX.out))).mono ?_
        rintro e _ ⟨rfl, x2, rfl⟩
        have HX2 := Lib.hid x2.2
        clear HX
        have HX := HX2
        clear HX2
        go_wp2_with fail
        refine (Ext.call ⟨_, HX.out⟩ (label_abs (.pointer (some ⟨w.heap.size, 0, none⟩)) n _ (A1.out.ext HX.out))).mono ?_
        rintro e _ ⟨rfl, x2, rfl⟩
        have HX2 := Lib.hid x2.2
        clear HX
        have HX := HX2
        clear HX2
        go_wp2_with fail
        refine (Ext.call ⟨_, HX.out⟩ (push_abs (.pointer (some ⟨w.heap.size, 0, none⟩)) _ _ (A1.out.ext HX.out))).mono ?_
        rintro e _ ⟨rfl, x2, rfl⟩
        have HX2 := Lib.hid x2.2
        clear HX
        have HX := HX2
        clear HX2
        go_wp2_with fail
        refine (Ext.call ⟨_, HX.out⟩ (take_abs (.pointer (some ⟨w.heap.size, 0, none⟩)) _ _ (A1.out.ext HX.out))).mono ?_
        rintro e _ ⟨rfl, x2, rfl⟩
        have HX2 := Lib.hid x2.2
        clear HX
        have HX := HX2
        clear HX2
        go_wp2_with fail
        refine (Ext.call ⟨_, HX.out⟩ (open_abs (.pointer (some ⟨w.heap.size, 0, none⟩)) 2 _ _ _ (A1.out.ext HX.out))).mono ?_
        rintro e _ ⟨rfl, x2, rfl⟩
        have HX2 := Lib.hid x2.2
        clear HX
        have HX := HX2
        clear HX2
        go_wp2_with fail
        refine (Ext.call ⟨_, HX.out⟩ (die_abs (.pointer (some ⟨w.heap.size, 0, none⟩)) _ (A1.out.ext HX.out))).mono ?_
        rintro e _ ⟨rfl, x2, rfl⟩
        have HX2 := Lib.hid x2.2
        clear HX
        have HX := HX2
        clear HX2
        go_wp2_with fail
        refine (Ext.call ⟨_, HX.out⟩ (give_abs (.pointer (some ⟨w.heap.size, 0, none⟩)) n _ (A1.out.ext HX.out))).mono ?_
        rintro e _ ⟨rfl, x2, rfl⟩
        have HX2 := Lib.hid x2.2
        clear HX
        have HX := HX2
        clear HX2
        go_wp2_with fail
        refine (Ext.call ⟨_, HX.out⟩ (given_abs (.pointer (some ⟨w.heap.size, 0, none⟩)) n _ (A1.out.ext HX.out))).mono ?_
        rintro e _ ⟨rfl, x2, rfl⟩
        have HX2 := Lib.hid x2.2
        clear HX
        have HX := HX2
        clear HX2
        go_wp2_with fail
        refine (Ext.call ⟨_, HX.out⟩ (dead_abs (.pointer (some ⟨w.heap.size, 0, none⟩)) _ (A1.out.ext HX.out))).mono ?_
        rintro e _ ⟨rfl, x2, rfl⟩
        have HX2 := Lib.hid x2.2
        clear HX
        have HX := HX2
        clear HX2
        go_wp2_with fail
        refine (Ext.call ⟨_, HX.out⟩ (height_abs (.pointer (some ⟨w.heap.size, 0, none⟩)) _ (A1.out.ext HX.out))).mono ?_
        rintro e _ ⟨rfl, x2, rfl⟩
        have HX2 := Lib.hid x2.2
        clear HX
        have HX := HX2
        clear HX2
        go_wp2_with fail
        refine (Ext.call ⟨_, HX.out⟩ (frames_abs (.pointer (some ⟨w.heap.size, 0, none⟩)) _ (A1.out.ext HX.out))).mono ?_
        rintro e _ ⟨rfl, x2, rfl⟩
        have HX2 := Lib.hid x2.2
        clear HX
        have HX := HX2
        clear HX2
        go_wp2_with fail
        refine (Ext.call ⟨_, HX.out⟩ (top_abs (.pointer (some ⟨w.heap.size, 0, none⟩)) n _ (A1.out.ext HX.out))).mono ?_
        rintro e _ ⟨rfl, x2, rfl⟩
        have HX2 := Lib.hid x2.2
        clear HX
        have HX := HX2
        clear HX2
        go_wp2
        go_roundw
        case rel => exact ⟨2, by omega, rfl, x2, rfl⟩
        case measure => simp [intOf]
      · go_wp2_with fail
        refine (Ext.call ⟨_, HX.out⟩ (pop_abs (.pointer (some ⟨M, 0, none⟩)) _ (A2.out.ext HX.out))).mono ?_
        rintro e _ ⟨rfl, x2, rfl⟩
        have HX2 := Lib.hid x2.2
        clear HX
        have HX := HX2
        clear HX2
        go_wp2_with fail
        have HX3 := Lib.hid (HX.out.alloc HX.out.size (.cells #[.int .i64 0, .bool false, .int .i64 0, .int .i64 0] 41))
        clear HX
        have HX := HX3
        clear HX3
        refine (Ext.call ⟨_, HX.out⟩ (close_abs (.pointer (some ⟨M, 0, none⟩)) _ (A2.out.ext HX.out))).mono ?_
        rintro e _ ⟨rfl, x2, rfl⟩
        have HX2 := Lib.hid x2.2
        clear HX
        have HX := HX2
        clear HX2
        go_wp2_with fail
        refine (Ext.call ⟨_, HX.out⟩ (label_abs (.pointer (some ⟨M, 0, none⟩)) n _ (A2.out.ext HX.out))).mono ?_
        rintro e _ ⟨rfl, x2, rfl⟩
        have HX2 := Lib.hid x2.2
        clear HX
        have HX := HX2
        clear HX2
        go_wp2_with fail
        refine (Ext.call ⟨_, HX.out⟩ (push_abs (.pointer (some ⟨M, 0, none⟩)) _ _ (A2.out.ext HX.out))).mono ?_
        rintro e _ ⟨rfl, x2, rfl⟩
        have HX2 := Lib.hid x2.2
        clear HX
        have HX := HX2
        clear HX2
        go_wp2_with fail
        refine (Ext.call ⟨_, HX.out⟩ (take_abs (.pointer (some ⟨M, 0, none⟩)) _ _ (A2.out.ext HX.out))).mono ?_
        rintro e _ ⟨rfl, x2, rfl⟩
        have HX2 := Lib.hid x2.2
        clear HX
        have HX := HX2
        clear HX2
        go_wp2_with fail
        refine (Ext.call ⟨_, HX.out⟩ (open_abs (.pointer (some ⟨M, 0, none⟩)) 2 _ _ _ (A2.out.ext HX.out))).mono ?_
        rintro e _ ⟨rfl, x2, rfl⟩
        have HX2 := Lib.hid x2.2
        clear HX
        have HX := HX2
        clear HX2
        go_wp2_with fail
        refine (Ext.call ⟨_, HX.out⟩ (die_abs (.pointer (some ⟨M, 0, none⟩)) _ (A2.out.ext HX.out))).mono ?_
        rintro e _ ⟨rfl, x2, rfl⟩
        have HX2 := Lib.hid x2.2
        clear HX
        have HX := HX2
        clear HX2
        go_wp2_with fail
        refine (Ext.call ⟨_, HX.out⟩ (give_abs (.pointer (some ⟨M, 0, none⟩)) n _ (A2.out.ext HX.out))).mono ?_
        rintro e _ ⟨rfl, x2, rfl⟩
        have HX2 := Lib.hid x2.2
        clear HX
        have HX := HX2
        clear HX2
        go_wp2_with fail
        refine (Ext.call ⟨_, HX.out⟩ (given_abs (.pointer (some ⟨M, 0, none⟩)) n _ (A2.out.ext HX.out))).mono ?_
        rintro e _ ⟨rfl, x2, rfl⟩
        have HX2 := Lib.hid x2.2
        clear HX
        have HX := HX2
        clear HX2
        go_wp2_with fail
        refine (Ext.call ⟨_, HX.out⟩ (dead_abs (.pointer (some ⟨M, 0, none⟩)) _ (A2.out.ext HX.out))).mono ?_
        rintro e _ ⟨rfl, x2, rfl⟩
        have HX2 := Lib.hid x2.2
        clear HX
        have HX := HX2
        clear HX2
        go_wp2_with fail
        refine (Ext.call ⟨_, HX.out⟩ (height_abs (.pointer (some ⟨M, 0, none⟩)) _ (A2.out.ext HX.out))).mono ?_
        rintro e _ ⟨rfl, x2, rfl⟩
        have HX2 := Lib.hid x2.2
        clear HX
        have HX := HX2
        clear HX2
        go_wp2_with fail
        refine (Ext.call ⟨_, HX.out⟩ (frames_abs (.pointer (some ⟨M, 0, none⟩)) _ (A2.out.ext HX.out))).mono ?_
        rintro e _ ⟨rfl, x2, rfl⟩
        have HX2 := Lib.hid x2.2
        clear HX
        have HX := HX2
        clear HX2
        go_wp2_with fail
        refine (Ext.call ⟨_, HX.out⟩ (top_abs (.pointer (some ⟨M, 0, none⟩)) n _ (A2.out.ext HX.out))).mono ?_
        rintro e _ ⟨rfl, x2, rfl⟩
        have HX2 := Lib.hid x2.2
        clear HX
        have HX := HX2
        clear HX2
        go_wp2
        go_roundw
        case rel => exact ⟨3, by omega, rfl, x2, rfl⟩
        case measure => simp [intOf]
      · go_wp2_with fail
        refine (Ext.call ⟨_, HX.out⟩ (known_any _)).mono ?_
        rintro e _ ⟨rfl, x2, rfl⟩
        have HX2 := Lib.hid x2.2
        go_wp2
        go_ret
        exact ⟨rfl, HB2.out.trans (HX2.out.mono HB2.out.size)⟩
end Go.Proofs.Ytjjhdbjbjgkijaa
