/- package chain: next. -/
import Derived.Test.YtkgmfbfpmlnfcaaGreatDoorQChMem
import Derived.Test.YtkgmfbfpmlnfcaaGreatDoorQKdSubP
import Derived.Test.YtkgmfbfpmlnfcaaGreatDoorQQLoad
import Derived.Deep.MidRow
import Derived.Laws.CopyOwn
import Derived.Outline
namespace Go.Proofs.YtkgmfbfpmlnfcaaGreatDoor
open Go.RowKit

def zL : List Value := .int .i32 0 :: List.replicate 64 (.int .i32 0)
theorem zL_eq : Tryz.zeroCells69 = zL.toArray := by kernel_rfl
theorem Tryz.infoLine : (Tryz.prog.info? 69).map (fun i => (i.zero, i.size, i.bytes)) = some (some (.agg zL.toArray), 65, 260) := by kernel_rfl
theorem Tryz.sizeLine : (Tryz.prog.info? 69).map (·.size) = some 65 := by kernel_rfl
theorem line_one (id : Nat) : (zL.toArray.setIfInBounds 1 (.int .i32 id)).toList = lineC [id] := by
  simp [zL, lineC, idsC, List.replicate_succ]
theorem line_set {q : List Nat} (hq : q.length < 64) (id : Nat) : (Value.int .i32 (q.length : Int) :: idsC q).set (1 + q.length) (.int .i32 id) = lineC (q ++ [id]) := by
  rw [Nat.add_comm, List.set_cons_succ]
  unfold lineC idsC
  rw [List.set_append_right _ _ (by simp), List.length_map, Nat.sub_self]
  obtain ⟨m, hm⟩ : ∃ m, 64 - q.length = m + 1 := ⟨63 - q.length, by omega⟩
  rw [hm, List.replicate_succ, List.set_cons_zero]
  simp
  omega
theorem Below.setRow {B : Nat} {w W : World} (h : Below B w W) {g : Nat} (hg : B ≤ g) (cs : Array Value) : Below B w (W.setRow g cs) :=
  ⟨h.os, h.tape, h.output, by rw [size_setRow]; exact h.size, fun k hk => by rw [setRow_other _ _ _ _ (by omega)]; exact h.block k hk⟩
set_option maxRecDepth 100000 in
set_option maxHeartbeats 4000000 in
theorem next_nil (t id : Nat) (a : Option Addr) (c : Nat) (hid : id ≤ 10000) (w : World) :
    Calls Tryz.prog 21 #[.pointer (some ⟨t, 0, none⟩), .int .i64 id, .slice a 0 c] w fun e w' => e = .returned (.tuple #[.agg (lineC [id]).toArray, .int .i64 0]) ∧ Below w.heap.size w w' := by
  obtain ⟨Z, hZ⟩ : ∃ Z, Tryz.zeroCells69 = Z := ⟨_, rfl⟩
  have z0 : Z[0]? = some (.int .i32 0) := by rw [← hZ, zL_eq]; rfl
  have z1 : Z[1]? = some (.int .i32 0) := by rw [← hZ, zL_eq]; rfl
  have zs : Z.size = 65 := by rw [← hZ, zL_eq]; rfl
  have z0g : ∀ h : 0 < Z.size, Z[0]'h = .int .i32 0 := fun h => by
    have := Array.getElem?_eq_getElem h
    rw [z0] at this; exact (Option.some.inj this).symm
  have HZ := Lib.hid hZ
  have hwrap : IntKind.i32.wrap (id : Int) = id := by simp [IntKind.wrap, IntKind.bits, IntKind.signed]; omega
  obtain ⟨Y, hY⟩ : ∃ Y, Z.setIfInBounds 1 (.int .i32 (id : Int)) = Y := ⟨_, rfl⟩
  have hYL : Y = (lineC [id]).toArray := by rw [← hY, ← hZ, zL_eq, ← line_one]
  have hYs : Y.size = 65 := by rw [← hY]; simpa using zs
  have hY1 : Y.all (·.oneCell') = true := by rw [hYL]; exact all_oneCell_toArray (lineC_one _)
  have g8 : ((w.alloc (.cells Z 69)).alloc (.cells Y 69)).heap[w.heap.size + 1]? = some (.cells Y 69 (0, 0)) := heap_alloc_at _ _ (by simp)
  have g6 : ((w.alloc (.cells Z 69)).alloc (.cells Y 69)).heap[w.heap.size]? = some (.cells Z 69 (0, 0)) := heap_alloc_keep (heap_alloc_at _ _ rfl) _
  have HY := Lib.hid hY; have HYL := Lib.hid hYL; have HYS := Lib.hid hYs; have HY1 := Lib.hid hY1; have G8 := Lib.hid g8; have G6 := Lib.hid g6; have HZS := Lib.hid zs
  clear hYL hYs hY1 g8 g6
  go_enter Tryz.func21, Tryz.ntmps21
  go_wp2_with (first | (refine wpList_load_row rfl 69 _ rfl (w.heap.size + 1) rfl 69 Y (0, 0) _ G8.out Tryz.underlying69 rfl (by rw [HYS.out]; exact Tryz.sizeLine) ?_) | (refine wpList_store_row rfl 69 _ _ rfl w.heap.size Y rfl rfl 69 Z G6.out (by rw [HYS.out]; exact Tryz.sizeLine) (by rw [HYS.out, HZS.out]) HY1.out ?_) | fail)
  have hr : (loadVar 69 ⟨w.heap.size, 0, none⟩).run Tryz.prog (((w.alloc (.cells Z 69)).alloc (.cells Y 69)).setRow w.heap.size Y) = .ok (.agg Y) (((w.alloc (.cells Z 69)).alloc (.cells Y 69)).setRow w.heap.size Y) :=
    run_loadVar_row _ _ 69 69 Y (0, 0) _ (setRow_heap _ _ Z Y _ _ G6.out) Tryz.underlying69 rfl (by rw [HYS.out]; exact Tryz.sizeLine)
  refine bodyPost_ret (v := .tuple #[.agg Y, .int .i64 0]) (by simp [results, Tryz.results21, asAddr, hr]) rfl ⟨by rw [HYL.out], ?_⟩
  exact Below.setRow (((Below.refl _ _).alloc (Nat.le_refl _) _).alloc (by simp) _) (Nat.le_refl _) _
-- ONE SUPER

set_option maxRecDepth 100000 in
set_option maxHeartbeats 4000000 in
theorem next_kind {S : Nat → Prop} {t : Nat} {L : List (List Nat)} (w : World) (h : LinesAt S w t L) (id b off c : Nat) (k n : Int) (_ : id ≤ 10000) (c1 : w.cell? ⟨b, off, none⟩ = some (.int .i64 k)) (c2 : w.cell? ⟨b, off + 1, none⟩ = some (.int .i64 n)) (hk : ¬ k = 15) (m : Nat) (hm : m = 1) :
    Calls Tryz.prog 21 #[.pointer (some ⟨t, 0, none⟩), .int .i64 id, .slice (some ⟨b, off, none⟩) m c] w fun e w' => e = .returned (.tuple #[.agg zL.toArray, .int .i64 110]) ∧ Below w.heap.size w w' := by
  subst hm
  obtain ⟨Z, hZ⟩ : ∃ Z, Tryz.zeroCells69 = Z := ⟨_, rfl⟩
  have zL1 : Z = zL.toArray := by rw [← hZ, zL_eq]
  have zs : Z.size = 65 := by rw [zL1]; rfl
  have zo : Z.all (·.oneCell') = true := by rw [zL1]; exact all_oneCell_toArray fun v hv => by simp [zL] at hv; rcases hv with rfl | rfl <;> rfl
  have hbd : ∀ w, (Instr.build 69 #[]).run Tryz.prog w = .ok (.agg Z) w := fun w => run_build w _ _ _ (by rw [← hZ]; kernel_rfl)
  have HBD := Lib.hid hbd
  obtain ⟨W0, hW0⟩ : ∃ W0 : World, W0 = ((w.alloc (.cells Z 69)).alloc (.cells Z 69)).alloc (.cells #[.int .i64 k, .int .i64 n] 49) := ⟨_, rfl⟩
  have hb0 : Below w.heap.size w W0 := by rw [hW0]; exact (((Below.refl _ _).alloc (Nat.le_refl _) _).alloc (by simp) _).alloc (by simp; omega) _
  have g6 : W0.heap[w.heap.size]? = some (.cells Z 69 (0, 0)) := by rw [hW0]; exact heap_alloc_keep (heap_alloc_keep (heap_alloc_at _ _ rfl) _) _
  have G6x := Lib.hid g6; rw [hW0] at G6x; have d1 := cell_alloc (cell_alloc c1 (.cells Z 69)) (.cells Z 69); have d2 := cell_alloc (cell_alloc c2 (.cells Z 69)) (.cells Z 69); have HW0 := Lib.hid hW0; have HB0 := Lib.hid hb0; have G6 := Lib.hid g6; have HZS := Lib.hid zs; have HZO := Lib.hid zo; have HZL := Lib.hid zL1
  have H := Lib.hid (h.below hb0)
  have hk' : (k == 15) = false := by simpa using hk
  have hk2 : (k != 15) = true := by simpa using hk
  clear g6 hb0 hW0 zs zo zL1 h
  go_enter Tryz.func21, Tryz.ntmps21
  go_wp2_with (first | (refine wpList_store_row rfl 69 _ _ rfl w.heap.size Z rfl rfl 69 Z G6x.out (by rw [HZS.out]; exact Tryz.sizeLine) rfl HZO.out ?_) | fail)
  have hr : (loadVar 69 ⟨w.heap.size, 0, none⟩).run Tryz.prog (W0.setRow w.heap.size Z) = .ok (.agg Z) (W0.setRow w.heap.size Z) :=
    run_loadVar_row _ _ 69 69 Z (0, 0) _ (setRow_heap _ _ Z Z _ _ G6.out) Tryz.underlying69 rfl (by rw [HZS.out]; exact Tryz.sizeLine)
  rw [← HW0.out]
  refine bodyPost_ret (v := .tuple #[.agg Z, .int .i64 110]) (by simp [results, Tryz.results21, asAddr, hr]) rfl ⟨by rw [HZL.out], ?_⟩
  exact Below.setRow HB0.out (Nat.le_refl _) _

set_option maxRecDepth 100000 in
set_option maxHeartbeats 4000000 in
theorem next_late {S : Nat → Prop} {t : Nat} {L : List (List Nat)} (w : World) (h : LinesAt S w t L) (id b off c : Nat) (k n : Int) (_ : id ≤ 10000) (c1 : w.cell? ⟨b, off, none⟩ = some (.int .i64 k)) (c2 : w.cell? ⟨b, off + 1, none⟩ = some (.int .i64 n)) (hk : k = 15) (hn : (id : Int) ≤ n) (m : Nat) (hm : m = 1) :
    Calls Tryz.prog 21 #[.pointer (some ⟨t, 0, none⟩), .int .i64 id, .slice (some ⟨b, off, none⟩) m c] w fun e w' => e = .returned (.tuple #[.agg zL.toArray, .int .i64 110]) ∧ Below w.heap.size w w' := by
  subst hm
  obtain ⟨Z, hZ⟩ : ∃ Z, Tryz.zeroCells69 = Z := ⟨_, rfl⟩
  have zL1 : Z = zL.toArray := by rw [← hZ, zL_eq]
  have zs : Z.size = 65 := by rw [zL1]; rfl
  have zo : Z.all (·.oneCell') = true := by rw [zL1]; exact all_oneCell_toArray fun v hv => by simp [zL] at hv; rcases hv with rfl | rfl <;> rfl
  have hbd : ∀ w, (Instr.build 69 #[]).run Tryz.prog w = .ok (.agg Z) w := fun w => run_build w _ _ _ (by rw [← hZ]; kernel_rfl)
  have HBD := Lib.hid hbd
  obtain ⟨W0, hW0⟩ : ∃ W0 : World, W0 = ((w.alloc (.cells Z 69)).alloc (.cells Z 69)).alloc (.cells #[.int .i64 k, .int .i64 n] 49) := ⟨_, rfl⟩
  have hb0 : Below w.heap.size w W0 := by rw [hW0]; exact (((Below.refl _ _).alloc (Nat.le_refl _) _).alloc (by simp) _).alloc (by simp; omega) _
  have g6 : W0.heap[w.heap.size]? = some (.cells Z 69 (0, 0)) := by rw [hW0]; exact heap_alloc_keep (heap_alloc_keep (heap_alloc_at _ _ rfl) _) _
  have G6x := Lib.hid g6; rw [hW0] at G6x; have d1 := cell_alloc (cell_alloc c1 (.cells Z 69)) (.cells Z 69); have d2 := cell_alloc (cell_alloc c2 (.cells Z 69)) (.cells Z 69); have HW0 := Lib.hid hW0; have HB0 := Lib.hid hb0; have G6 := Lib.hid g6; have HZS := Lib.hid zs; have HZO := Lib.hid zo; have HZL := Lib.hid zL1
  have H := Lib.hid (h.below hb0)
  subst hk
  clear g6 hb0 hW0 zs zo zL1 h
  go_enter Tryz.func21, Tryz.ntmps21
  go_wp2_with (first | (refine wpList_store_row rfl 69 _ _ rfl w.heap.size Z rfl rfl 69 Z G6x.out (by rw [HZS.out]; exact Tryz.sizeLine) rfl HZO.out ?_) | fail)
  have hr : (loadVar 69 ⟨w.heap.size, 0, none⟩).run Tryz.prog (W0.setRow w.heap.size Z) = .ok (.agg Z) (W0.setRow w.heap.size Z) :=
    run_loadVar_row _ _ 69 69 Z (0, 0) _ (setRow_heap _ _ Z Z _ _ G6.out) Tryz.underlying69 rfl (by rw [HZS.out]; exact Tryz.sizeLine)
  rw [← HW0.out]
  refine bodyPost_ret (v := .tuple #[.agg Z, .int .i64 110]) (by simp [results, Tryz.results21, asAddr, hr]) rfl ⟨by rw [HZL.out], ?_⟩
  exact Below.setRow HB0.out (Nat.le_refl _) _

set_option maxRecDepth 100000 in
set_option maxHeartbeats 4000000 in
theorem next_out {S : Nat → Prop} {t : Nat} {L : List (List Nat)} (w : World) (h : LinesAt S w t L) (id b off c : Nat) (k n : Int) (_ : id ≤ 10000) (c1 : w.cell? ⟨b, off, none⟩ = some (.int .i64 k)) (c2 : w.cell? ⟨b, off + 1, none⟩ = some (.int .i64 n)) (hk : k = 15) (hn : ¬ (id : Int) ≤ n) (hout : hasL L n = false) (m : Nat) (hm : m = 1) :
    Calls Tryz.prog 21 #[.pointer (some ⟨t, 0, none⟩), .int .i64 id, .slice (some ⟨b, off, none⟩) m c] w fun e w' => e = .returned (.tuple #[.agg zL.toArray, .int .i64 110]) ∧ Below w.heap.size w w' := by
  subst hm
  obtain ⟨Z, hZ⟩ : ∃ Z, Tryz.zeroCells69 = Z := ⟨_, rfl⟩
  have zL1 : Z = zL.toArray := by rw [← hZ, zL_eq]
  have zs : Z.size = 65 := by rw [zL1]; rfl
  have zo : Z.all (·.oneCell') = true := by rw [zL1]; exact all_oneCell_toArray fun v hv => by simp [zL] at hv; rcases hv with rfl | rfl <;> rfl
  have hbd : ∀ w, (Instr.build 69 #[]).run Tryz.prog w = .ok (.agg Z) w := fun w => run_build w _ _ _ (by rw [← hZ]; kernel_rfl)
  have HBD := Lib.hid hbd
  obtain ⟨W0, hW0⟩ : ∃ W0 : World, W0 = ((w.alloc (.cells Z 69)).alloc (.cells Z 69)).alloc (.cells #[.int .i64 k, .int .i64 n] 49) := ⟨_, rfl⟩
  have hb0 : Below w.heap.size w W0 := by rw [hW0]; exact (((Below.refl _ _).alloc (Nat.le_refl _) _).alloc (by simp) _).alloc (by simp; omega) _
  have g6 : W0.heap[w.heap.size]? = some (.cells Z 69 (0, 0)) := by rw [hW0]; exact heap_alloc_keep (heap_alloc_keep (heap_alloc_at _ _ rfl) _) _
  have G6x := Lib.hid g6; rw [hW0] at G6x; have d1 := cell_alloc (cell_alloc c1 (.cells Z 69)) (.cells Z 69); have d2 := cell_alloc (cell_alloc c2 (.cells Z 69)) (.cells Z 69); have HW0 := Lib.hid hW0; have HB0 := Lib.hid hb0; have G6 := Lib.hid g6; have HZS := Lib.hid zs; have HZO := Lib.hid zo; have HZL := Lib.hid zL1
  have H := Lib.hid (h.below hb0)
  subst hk
  have C := chHas_any H.out n
  rw [hout] at C
  have C := Lib.hid C
  clear g6 hb0 hW0 zs zo zL1 h
  go_enter Tryz.func21, Tryz.ntmps21
  go_wp2_with fail
  rw [← HW0.out]
  refine C.out.mono ?_
  rintro e w1 ⟨rfl, hw1⟩
  have hw2 := hw1.symm
  subst hw2
  clear hw1
  go_wp2_with (first | (refine wpList_store_row rfl 69 _ _ rfl w.heap.size Z rfl rfl 69 Z G6.out (by rw [HZS.out]; exact Tryz.sizeLine) rfl HZO.out ?_) | fail)
  have hr : (loadVar 69 ⟨w.heap.size, 0, none⟩).run Tryz.prog (W0.setRow w.heap.size Z) = .ok (.agg Z) (W0.setRow w.heap.size Z) :=
    run_loadVar_row _ _ 69 69 Z (0, 0) _ (setRow_heap _ _ Z Z _ _ G6.out) Tryz.underlying69 rfl (by rw [HZS.out]; exact Tryz.sizeLine)
  refine bodyPost_ret (v := .tuple #[.agg Z, .int .i64 110]) (by simp [results, Tryz.results21, asAddr, hr]) rfl ⟨by rw [HZL.out], ?_⟩
  exact Below.setRow HB0.out (Nat.le_refl _) _

set_option maxRecDepth 100000 in
set_option maxHeartbeats 8000000 in
theorem chNext_deep {S : Nat → Prop} {t : Nat} {L : List (List Nat)} (w : World) (h : LinesAt S w t L) (id b off c m : Nat) (p : List Nat) (_ : id ≤ 10000) (c1 : w.cell? ⟨b, off, none⟩ = some (.int .i64 15)) (c2 : w.cell? ⟨b, off + 1, none⟩ = some (.int .i64 m)) (hm : m < id) (hp : L[m]? = some p) (hdeep : 64 ≤ p.length) (one : Nat) (hone : one = 1) :
    Calls Tryz.prog 21 #[.pointer (some ⟨t, 0, none⟩), .int .i64 id, .slice (some ⟨b, off, none⟩) one c] w fun e w' => e = .returned (.tuple #[.agg zL.toArray, .int .i64 111]) ∧ Below w.heap.size w w' := by
  subst hone
  obtain ⟨Z, hZ⟩ : ∃ Z, Tryz.zeroCells69 = Z := ⟨_, rfl⟩
  have zL1 : Z = zL.toArray := by rw [← hZ, zL_eq]
  have zs : Z.size = 65 := by rw [zL1]; rfl
  have zo : Z.all (·.oneCell') = true := by rw [zL1]; exact all_oneCell_toArray fun v hv => by simp [zL] at hv; rcases hv with rfl | rfl <;> rfl
  have hbd : ∀ w, (Instr.build 69 #[]).run Tryz.prog w = .ok (.agg Z) w := fun w => run_build w _ _ _ (by rw [← hZ]; kernel_rfl)
  have HBD := Lib.hid hbd
  obtain ⟨W0, hW0⟩ : ∃ W0 : World, W0 = ((w.alloc (.cells Z 69)).alloc (.cells Z 69)).alloc (.cells #[.int .i64 15, .int .i64 m] 49) := ⟨_, rfl⟩
  have hb0 : Below w.heap.size w W0 := by rw [hW0]; exact (((Below.refl _ _).alloc (Nat.le_refl _) _).alloc (by simp) _).alloc (by simp; omega) _
  have hsz : W0.heap.size = w.heap.size + 3 := by rw [hW0]; simp
  have g6 : W0.heap[w.heap.size]? = some (.cells Z 69 (0, 0)) := by rw [hW0]; exact heap_alloc_keep (heap_alloc_keep (heap_alloc_at _ _ rfl) _) _
  have g8 : W0.heap[w.heap.size + 1]? = some (.cells Z 69 (0, 0)) := by rw [hW0]; exact heap_alloc_keep (heap_alloc_at _ _ (by simp)) _
  have g9 : W0.heap[w.heap.size + 1 + 1]? = some (.cells #[.int .i64 15, .int .i64 m] 49 (0, 0)) := by rw [hW0]; exact heap_alloc_at _ _ (by simp)
  have d1 := cell_alloc (cell_alloc c1 (.cells Z 69)) (.cells Z 69)
  have d2 := cell_alloc (cell_alloc c2 (.cells Z 69)) (.cells Z 69)
  have h0 := h.below hb0
  have C := chHas_any h0 (m : Int)
  have hlt := (List.getElem?_eq_some_iff.1 hp).1
  have hL := h.ok.2.1
  rw [show hasL L (m : Int) = true by simp [hasL]; omega] at C
  obtain ⟨rb, co, d, q1, q2, q3, q4, q5, _, q6⟩ := h0.get hp
  have y0 : ∀ x : Ext W0, x.val.cell? ⟨t, 0, none⟩ = some (.slice (some ⟨rb, 0, none⟩) L.length co) := Ext.cells (by rw [heap_cell q1]; rfl)
  have y1 : ∀ x : Ext W0, x.val.cell? ⟨w.heap.size + 1 + 1, 1, none⟩ = some (.int .i64 m) := Ext.cells (by rw [heap_cell g9]; rfl)
  obtain ⟨YL, hYL⟩ : ∃ YL, lineC p = YL := ⟨_, rfl⟩
  have y2 : ∀ x : Ext W0, x.val.rangeAt rb (m * 65) YL := fun x => by rw [← hYL]; exact fun j v hv => x.cell (q6 j v hv)
  have hYLs : YL.length = 65 := by rw [← hYL]; exact lineC_len (h.ok.1 p (List.mem_of_getElem? hp)).1
  have hml : (m : Int) < L.length := by omega
  obtain ⟨Y, hY⟩ : ∃ Y, YL.toArray = Y := ⟨_, rfl⟩
  have hYs : Y.size = 65 := by rw [← hY]; simpa using hYLs
  have hY0 : Y[0]? = some (.int .i32 d) := by rw [← hY, ← hYL]; simp only [List.getElem?_toArray]; rw [lineC_zero, q3]; congr 2; omega
  have hY1 : Y.all (·.oneCell') = true := by rw [← hY, ← hYL]; exact all_oneCell_toArray (lineC_one p)
  have Y2 := Lib.hid y2; have HYLS := Lib.hid hYLs; have HYP := Lib.hid hYL
  have HW0 := Lib.hid hW0; have HB0 := Lib.hid hb0; have G6 := Lib.hid g6; have HZS := Lib.hid zs; have HZO := Lib.hid zo; have HZL := Lib.hid zL1; have C := Lib.hid C; have HYS := Lib.hid hYs; have HY0 := Lib.hid hY0; have HY1 := Lib.hid hY1; have HYL := Lib.hid hY; have G8 := Lib.hid g8; have HSZ := Lib.hid hsz; have HP := Lib.hid (h.ok.1 p (List.mem_of_getElem? hp)).1; have Q3 := Lib.hid q3
  have hnid : ¬ (id : Int) ≤ m := by omega
  clear g6 g8 g9 hb0 hW0 zs zo zL1 h h0 q1 q2 q3 q5 q6 hlt hp hYs hY0 hY1 hY hsz y2 hYL hYLs
  go_enter Tryz.func21, Tryz.ntmps21
  go_wp2_with fail
  rw [← HW0.out]
  refine C.out.mono ?_
  rintro e w1 ⟨rfl, hw1⟩
  have hw2 := hw1.symm
  subst hw2
  clear hw1
  go_wp2_with fail
  refine wp_region_held (S := fun w' => Below W0.heap.size W0 w') (by kernel_rfl) ?_
  have hHeld : Below W0.heap.size W0 { W0 with drawn := W0.drawn + 1 } := ⟨rfl, rfl, rfl, Nat.le_refl _, fun _ _ => rfl⟩
  refine wpAnyH_take (i := 0) (v := ?_) rfl (by kernel_rfl) (by kernel_rfl) (by kernel_rfl) (fun _ _ _ h => h) (Or.inl ⟨by rfl, ?_⟩) hHeld ?_
  rotate_left
  · intro w' hSw
    have e0 := y0 ⟨w', hSw⟩; have e1 := y1 ⟨w', hSw⟩
    dsimp only at e0 e1
    go_simp
    try with_reducible rfl
  simp only [Act.put, List.setIfInBounds_toArray]
  refine wpAnyH_take (i := 1) (v := ?_) rfl (by kernel_rfl) (by kernel_rfl) (by kernel_rfl) (fun _ _ _ h => h) (Or.inl ⟨by rfl, ?_⟩) hHeld ?_
  rotate_left
  · intro w' hSw
    have e0 := y0 ⟨w', hSw⟩; have e1 := y1 ⟨w', hSw⟩
    dsimp only at e0 e1
    go_simp
    try with_reducible rfl
  simp only [Act.put]
  refine wpAnyH_take (i := 2) (v := ?_) rfl (by kernel_rfl) (by kernel_rfl) (by kernel_rfl) (fun _ _ _ h => h) (Or.inl ⟨by rfl, ?_⟩) hHeld ?_
  rotate_left
  · intro w' hSw
    have e0 := y0 ⟨w', hSw⟩; have e1 := y1 ⟨w', hSw⟩
    dsimp only at e0 e1
    go_simp
    try with_reducible rfl
  simp only [Act.put]
  refine wpAnyH_take (i := 3) (v := ?_) rfl (by kernel_rfl) (by kernel_rfl) (by kernel_rfl) (fun _ _ _ h => h) (Or.inl ⟨by rfl, ?_⟩) hHeld ?_
  rotate_left
  · intro w' hSw
    have e0 := y0 ⟨w', hSw⟩; have e1 := y1 ⟨w', hSw⟩
    dsimp only at e0 e1
    go_simp
    try with_reducible rfl
  simp only [Act.put]
  refine wpAnyH_take (i := 4) (v := ?_) rfl (by kernel_rfl) (by kernel_rfl) (by kernel_rfl) (fun _ _ _ h => h) (Or.inl ⟨by rfl, ?_⟩) hHeld ?_
  rotate_left
  · intro w' hSw
    have e0 := y0 ⟨w', hSw⟩; have e1 := y1 ⟨w', hSw⟩
    dsimp only at e0 e1
    go_simp
    try with_reducible rfl
  simp only [Act.put]
  refine wpAnyH_take (i := 5) (v := ?_) rfl (by kernel_rfl) (by kernel_rfl) (by kernel_rfl) (fun _ _ _ h => h) (Or.inl ⟨by rfl, ?_⟩) hHeld ?_
  rotate_left
  · intro w' hSw
    have e0 := y0 ⟨w', hSw⟩; have e1 := y1 ⟨w', hSw⟩
    dsimp only at e0 e1
    go_simp
    try with_reducible rfl
  simp only [Act.put]
  refine wpAnyH_take (i := 6) (v := ?_) rfl (by kernel_rfl) (by kernel_rfl) (by kernel_rfl) (fun _ _ _ h => h) (Or.inl ⟨by rfl, ?_⟩) hHeld ?_
  rotate_left
  · intro w' hSw
    have e0 := y0 ⟨w', hSw⟩; have e1 := y1 ⟨w', hSw⟩
    dsimp only at e0 e1
    go_simp
    try with_reducible rfl
  simp only [Act.put]
  refine' wpAnyH_take (i := 7) (v := _) rfl (by kernel_rfl) (by kernel_rfl) (by kernel_rfl) (fun _ _ _ h => h) (yieldsIf_load_mid (by rfl) _ _ rfl rb (m * 65) rfl YL _ (fun w' hSw => Y2.out ⟨w', hSw⟩) Tryz.underlying69 rfl (by rw [HYLS.out]; exact Tryz.sizeLine)) hHeld ?_
  rw [HYL.out]
  simp only [Act.put]
  obtain ⟨w2, hw2⟩ : ∃ w2 : World, w2 = { W0 with drawn := W0.drawn + 1 } := ⟨_, rfl⟩
  rw [← hw2] at hHeld ⊢
  have hb2 : Below W0.heap.size W0 w2 := hHeld
  clear hw2 hHeld
  refine wpAnyH_ready (rs := [8]) (by kernel_rfl) (by simp) ?_
  refine AllReadyH.cons rfl (fun K hK => ?_) AllReadyH.nil
  go_simp
  refine hK.out _ _ (hb2.alloc (by have := hb2.size; omega) _) (fun _ => ?_)
  refine wpAnyH_ready (rs := [9]) (by kernel_rfl) (by simp) ?_
  refine AllReadyH.cons rfl (fun K2 hK2 => ?_) AllReadyH.nil
  rw [if_pos (by rfl)]
  refine wp_store_row 69 _ _ rfl w2.heap.size Y rfl rfl 69 Z (heap_alloc_at _ _ rfl) (by rw [HYS.out]; exact Tryz.sizeLine) (by rw [HYS.out, HZS.out]) HY1.out ?_
  have hs2 := hb2.size
  refine hK2.out _ _ (Below.setRow (hb2.alloc (by omega) _) (by omega) _) (fun _ => ?_)
  clear hK K hK2 K2
  refine wpAnyH_done (by kernel_rfl) ?_ _
  have k0 : ((w2.alloc (.cells Z 69)).setRow w2.heap.size Y).heap[w2.heap.size]? = some (.cells Y 69 (0, 0)) := setRow_heap _ _ Z Y _ _ (heap_alloc_at _ _ rfl)
  have k1 : ((w2.alloc (.cells Z 69)).setRow w2.heap.size Y).cell? ⟨w2.heap.size, 0, none⟩ = some (.int .i32 d) := by rw [heap_cell k0]; exact HY0.out
  have h1 := HSZ.out
  have k6 : ((w2.alloc (.cells Z 69)).setRow w2.heap.size Y).heap[w.heap.size]? = some (.cells Z 69 (0, 0)) := by
    rw [setRow_other _ _ _ _ (by omega)]
    exact heap_alloc_keep ((hb2.block _ (heap_lt G6.out)).trans G6.out) _
  have k8 : ((w2.alloc (.cells Z 69)).setRow w2.heap.size Y).heap[w.heap.size + 1]? = some (.cells Z 69 (0, 0)) := by
    rw [setRow_other _ _ _ _ (by omega)]
    exact heap_alloc_keep ((hb2.block _ (heap_lt G8.out)).trans G8.out) _
  have hbe : Below w.heap.size w ((w2.alloc (.cells Z 69)).setRow w2.heap.size Y) := Below.setRow ((HB0.out.trans (hb2.mono HB0.out.size)).alloc (by omega) _) (by omega) _
  have hs3 : ((w2.alloc (.cells Z 69)).setRow w2.heap.size Y).heap.size = w2.heap.size + 1 := by rw [size_setRow]; simp
  obtain ⟨W3, hW3⟩ : ∃ W3 : World, W3 = ((w2.alloc (.cells Z 69)).setRow w2.heap.size Y) := ⟨_, rfl⟩
  rw [← hW3] at k0 k1 k6 k8 hbe hs3 ⊢
  have hgt : w.heap.size + 3 ≤ w2.heap.size := by omega
  have K6 := Lib.hid k6; have HBE := Lib.hid hbe; have K0 := Lib.hid k0; have K8 := Lib.hid k8; have HGT := Lib.hid hgt; have HS3 := Lib.hid hs3
  clear y0 y1 k0 k6 k8 hbe hW3 hs3 hgt hs2 h1 hb2
  have hdd : (63 : Int) ≤ d := by have := Q3.out; omega
  go_wp2_with (first | (refine wpList_store_row rfl 69 _ _ rfl w.heap.size Z rfl rfl 69 Z K6.out (by rw [HZS.out]; exact Tryz.sizeLine) rfl HZO.out ?_) | fail)
  have hr : (loadVar 69 ⟨w.heap.size, 0, none⟩).run Tryz.prog (W3.setRow w.heap.size Z) = .ok (.agg Z) (W3.setRow w.heap.size Z) :=
    run_loadVar_row _ _ 69 69 Z (0, 0) _ (setRow_heap _ _ Z Z _ _ K6.out) Tryz.underlying69 rfl (by rw [HZS.out]; exact Tryz.sizeLine)
  refine bodyPost_ret (v := .tuple #[.agg Z, .int .i64 111]) (by simp [results, Tryz.results21, asAddr, hr]) rfl ⟨by rw [HZL.out], ?_⟩
  exact Below.setRow HBE.out (Nat.le_refl _) _

set_option maxRecDepth 100000 in
set_option maxHeartbeats 8000000 in
theorem chNext_ok {S : Nat → Prop} {t : Nat} {L : List (List Nat)} (w : World) (h : LinesAt S w t L) (id b off c m : Nat) (p : List Nat) (hid : id ≤ 10000) (c1 : w.cell? ⟨b, off, none⟩ = some (.int .i64 15)) (c2 : w.cell? ⟨b, off + 1, none⟩ = some (.int .i64 m)) (hm : m < id) (hp : L[m]? = some p) (hdeep : ¬ 64 ≤ p.length) (one : Nat) (hone : one = 1) :
    Calls Tryz.prog 21 #[.pointer (some ⟨t, 0, none⟩), .int .i64 id, .slice (some ⟨b, off, none⟩) one c] w fun e w' => e = .returned (.tuple #[.agg (lineC (p ++ [id])).toArray, .int .i64 0]) ∧ Below w.heap.size w w' := by
  subst hone
  obtain ⟨Z, hZ⟩ : ∃ Z, Tryz.zeroCells69 = Z := ⟨_, rfl⟩
  have zL1 : Z = zL.toArray := by rw [← hZ, zL_eq]
  have zs : Z.size = 65 := by rw [zL1]; rfl
  have zo : Z.all (·.oneCell') = true := by rw [zL1]; exact all_oneCell_toArray fun v hv => by simp [zL] at hv; rcases hv with rfl | rfl <;> rfl
  have hbd : ∀ w, (Instr.build 69 #[]).run Tryz.prog w = .ok (.agg Z) w := fun w => run_build w _ _ _ (by rw [← hZ]; kernel_rfl)
  have HBD := Lib.hid hbd
  obtain ⟨W0, hW0⟩ : ∃ W0 : World, W0 = ((w.alloc (.cells Z 69)).alloc (.cells Z 69)).alloc (.cells #[.int .i64 15, .int .i64 m] 49) := ⟨_, rfl⟩
  have hb0 : Below w.heap.size w W0 := by rw [hW0]; exact (((Below.refl _ _).alloc (Nat.le_refl _) _).alloc (by simp) _).alloc (by simp; omega) _
  have hsz : W0.heap.size = w.heap.size + 3 := by rw [hW0]; simp
  have g6 : W0.heap[w.heap.size]? = some (.cells Z 69 (0, 0)) := by rw [hW0]; exact heap_alloc_keep (heap_alloc_keep (heap_alloc_at _ _ rfl) _) _
  have g8 : W0.heap[w.heap.size + 1]? = some (.cells Z 69 (0, 0)) := by rw [hW0]; exact heap_alloc_keep (heap_alloc_at _ _ (by simp)) _
  have g9 : W0.heap[w.heap.size + 1 + 1]? = some (.cells #[.int .i64 15, .int .i64 m] 49 (0, 0)) := by rw [hW0]; exact heap_alloc_at _ _ (by simp)
  have d1 := cell_alloc (cell_alloc c1 (.cells Z 69)) (.cells Z 69)
  have d2 := cell_alloc (cell_alloc c2 (.cells Z 69)) (.cells Z 69)
  have h0 := h.below hb0
  have C := chHas_any h0 (m : Int)
  have hlt := (List.getElem?_eq_some_iff.1 hp).1
  have hL := h.ok.2.1
  rw [show hasL L (m : Int) = true by simp [hasL]; omega] at C
  obtain ⟨rb, co, d, q1, q2, q3, q4, q5, _, q6⟩ := h0.get hp
  have y0 : ∀ x : Ext W0, x.val.cell? ⟨t, 0, none⟩ = some (.slice (some ⟨rb, 0, none⟩) L.length co) := Ext.cells (by rw [heap_cell q1]; rfl)
  have y1 : ∀ x : Ext W0, x.val.cell? ⟨w.heap.size + 1 + 1, 1, none⟩ = some (.int .i64 m) := Ext.cells (by rw [heap_cell g9]; rfl)
  obtain ⟨YL, hYL⟩ : ∃ YL, lineC p = YL := ⟨_, rfl⟩
  have y2 : ∀ x : Ext W0, x.val.rangeAt rb (m * 65) YL := fun x => by rw [← hYL]; exact fun j v hv => x.cell (q6 j v hv)
  have hYLs : YL.length = 65 := by rw [← hYL]; exact lineC_len (h.ok.1 p (List.mem_of_getElem? hp)).1
  have hml : (m : Int) < L.length := by omega
  obtain ⟨Y, hY⟩ : ∃ Y, YL.toArray = Y := ⟨_, rfl⟩
  have hYs : Y.size = 65 := by rw [← hY]; simpa using hYLs
  have hY0 : Y[0]? = some (.int .i32 d) := by rw [← hY, ← hYL]; simp only [List.getElem?_toArray]; rw [lineC_zero, q3]; congr 2; omega
  have hY1 : Y.all (·.oneCell') = true := by rw [← hY, ← hYL]; exact all_oneCell_toArray (lineC_one p)
  have Y2 := Lib.hid y2; have HYLS := Lib.hid hYLs; have HYP := Lib.hid hYL
  have HW0 := Lib.hid hW0; have HB0 := Lib.hid hb0; have G6 := Lib.hid g6; have HZS := Lib.hid zs; have HZO := Lib.hid zo; have HZL := Lib.hid zL1; have C := Lib.hid C; have HYS := Lib.hid hYs; have HY0 := Lib.hid hY0; have HY1 := Lib.hid hY1; have HYL := Lib.hid hY; have G8 := Lib.hid g8; have HSZ := Lib.hid hsz; have HP := Lib.hid (h.ok.1 p (List.mem_of_getElem? hp)).1; have Q3 := Lib.hid q3
  have hnid : ¬ (id : Int) ≤ m := by omega
  clear g6 g8 g9 hb0 hW0 zs zo zL1 h h0 q1 q2 q3 q5 q6 hlt hp hYs hY0 hY1 hY hsz y2 hYL hYLs
  go_enter Tryz.func21, Tryz.ntmps21
  go_wp2_with fail
  rw [← HW0.out]
  refine C.out.mono ?_
  rintro e w1 ⟨rfl, hw1⟩
  have hw2 := hw1.symm
  subst hw2
  clear hw1
  go_wp2_with fail
  refine wp_region_held (S := fun w' => Below W0.heap.size W0 w') (by kernel_rfl) ?_
  have hHeld : Below W0.heap.size W0 { W0 with drawn := W0.drawn + 1 } := ⟨rfl, rfl, rfl, Nat.le_refl _, fun _ _ => rfl⟩
  refine wpAnyH_take (i := 0) (v := ?_) rfl (by kernel_rfl) (by kernel_rfl) (by kernel_rfl) (fun _ _ _ h => h) (Or.inl ⟨by rfl, ?_⟩) hHeld ?_
  rotate_left
  · intro w' hSw
    have e0 := y0 ⟨w', hSw⟩; have e1 := y1 ⟨w', hSw⟩
    dsimp only at e0 e1
    go_simp
    try with_reducible rfl
  simp only [Act.put, List.setIfInBounds_toArray]
  refine wpAnyH_take (i := 1) (v := ?_) rfl (by kernel_rfl) (by kernel_rfl) (by kernel_rfl) (fun _ _ _ h => h) (Or.inl ⟨by rfl, ?_⟩) hHeld ?_
  rotate_left
  · intro w' hSw
    have e0 := y0 ⟨w', hSw⟩; have e1 := y1 ⟨w', hSw⟩
    dsimp only at e0 e1
    go_simp
    try with_reducible rfl
  simp only [Act.put]
  refine wpAnyH_take (i := 2) (v := ?_) rfl (by kernel_rfl) (by kernel_rfl) (by kernel_rfl) (fun _ _ _ h => h) (Or.inl ⟨by rfl, ?_⟩) hHeld ?_
  rotate_left
  · intro w' hSw
    have e0 := y0 ⟨w', hSw⟩; have e1 := y1 ⟨w', hSw⟩
    dsimp only at e0 e1
    go_simp
    try with_reducible rfl
  simp only [Act.put]
  refine wpAnyH_take (i := 3) (v := ?_) rfl (by kernel_rfl) (by kernel_rfl) (by kernel_rfl) (fun _ _ _ h => h) (Or.inl ⟨by rfl, ?_⟩) hHeld ?_
  rotate_left
  · intro w' hSw
    have e0 := y0 ⟨w', hSw⟩; have e1 := y1 ⟨w', hSw⟩
    dsimp only at e0 e1
    go_simp
    try with_reducible rfl
  simp only [Act.put]
  refine wpAnyH_take (i := 4) (v := ?_) rfl (by kernel_rfl) (by kernel_rfl) (by kernel_rfl) (fun _ _ _ h => h) (Or.inl ⟨by rfl, ?_⟩) hHeld ?_
  rotate_left
  · intro w' hSw
    have e0 := y0 ⟨w', hSw⟩; have e1 := y1 ⟨w', hSw⟩
    dsimp only at e0 e1
    go_simp
    try with_reducible rfl
  simp only [Act.put]
  refine wpAnyH_take (i := 5) (v := ?_) rfl (by kernel_rfl) (by kernel_rfl) (by kernel_rfl) (fun _ _ _ h => h) (Or.inl ⟨by rfl, ?_⟩) hHeld ?_
  rotate_left
  · intro w' hSw
    have e0 := y0 ⟨w', hSw⟩; have e1 := y1 ⟨w', hSw⟩
    dsimp only at e0 e1
    go_simp
    try with_reducible rfl
  simp only [Act.put]
  refine wpAnyH_take (i := 6) (v := ?_) rfl (by kernel_rfl) (by kernel_rfl) (by kernel_rfl) (fun _ _ _ h => h) (Or.inl ⟨by rfl, ?_⟩) hHeld ?_
  rotate_left
  · intro w' hSw
    have e0 := y0 ⟨w', hSw⟩; have e1 := y1 ⟨w', hSw⟩
    dsimp only at e0 e1
    go_simp
    try with_reducible rfl
  simp only [Act.put]
  refine' wpAnyH_take (i := 7) (v := _) rfl (by kernel_rfl) (by kernel_rfl) (by kernel_rfl) (fun _ _ _ h => h) (yieldsIf_load_mid (by rfl) _ _ rfl rb (m * 65) rfl YL _ (fun w' hSw => Y2.out ⟨w', hSw⟩) Tryz.underlying69 rfl (by rw [HYLS.out]; exact Tryz.sizeLine)) hHeld ?_
  rw [HYL.out]
  simp only [Act.put]
  obtain ⟨w2, hw2⟩ : ∃ w2 : World, w2 = { W0 with drawn := W0.drawn + 1 } := ⟨_, rfl⟩
  rw [← hw2] at hHeld ⊢
  have hb2 : Below W0.heap.size W0 w2 := hHeld
  clear hw2 hHeld
  refine wpAnyH_ready (rs := [8]) (by kernel_rfl) (by simp) ?_
  refine AllReadyH.cons rfl (fun K hK => ?_) AllReadyH.nil
  go_simp
  refine hK.out _ _ (hb2.alloc (by have := hb2.size; omega) _) (fun _ => ?_)
  refine wpAnyH_ready (rs := [9]) (by kernel_rfl) (by simp) ?_
  refine AllReadyH.cons rfl (fun K2 hK2 => ?_) AllReadyH.nil
  rw [if_pos (by rfl)]
  refine wp_store_row 69 _ _ rfl w2.heap.size Y rfl rfl 69 Z (heap_alloc_at _ _ rfl) (by rw [HYS.out]; exact Tryz.sizeLine) (by rw [HYS.out, HZS.out]) HY1.out ?_
  have hs2 := hb2.size
  refine hK2.out _ _ (Below.setRow (hb2.alloc (by omega) _) (by omega) _) (fun _ => ?_)
  clear hK K hK2 K2
  refine wpAnyH_done (by kernel_rfl) ?_ _
  have k0 : ((w2.alloc (.cells Z 69)).setRow w2.heap.size Y).heap[w2.heap.size]? = some (.cells Y 69 (0, 0)) := setRow_heap _ _ Z Y _ _ (heap_alloc_at _ _ rfl)
  have k1 : ((w2.alloc (.cells Z 69)).setRow w2.heap.size Y).cell? ⟨w2.heap.size, 0, none⟩ = some (.int .i32 d) := by rw [heap_cell k0]; exact HY0.out
  have h1 := HSZ.out
  have k6 : ((w2.alloc (.cells Z 69)).setRow w2.heap.size Y).heap[w.heap.size]? = some (.cells Z 69 (0, 0)) := by
    rw [setRow_other _ _ _ _ (by omega)]
    exact heap_alloc_keep ((hb2.block _ (heap_lt G6.out)).trans G6.out) _
  have k8 : ((w2.alloc (.cells Z 69)).setRow w2.heap.size Y).heap[w.heap.size + 1]? = some (.cells Z 69 (0, 0)) := by
    rw [setRow_other _ _ _ _ (by omega)]
    exact heap_alloc_keep ((hb2.block _ (heap_lt G8.out)).trans G8.out) _
  have hbe : Below w.heap.size w ((w2.alloc (.cells Z 69)).setRow w2.heap.size Y) := Below.setRow ((HB0.out.trans (hb2.mono HB0.out.size)).alloc (by omega) _) (by omega) _
  have hs3 : ((w2.alloc (.cells Z 69)).setRow w2.heap.size Y).heap.size = w2.heap.size + 1 := by rw [size_setRow]; simp
  obtain ⟨W3, hW3⟩ : ∃ W3 : World, W3 = ((w2.alloc (.cells Z 69)).setRow w2.heap.size Y) := ⟨_, rfl⟩
  rw [← hW3] at k0 k1 k6 k8 hbe hs3 ⊢
  have hgt : w.heap.size + 3 ≤ w2.heap.size := by omega
  have K6 := Lib.hid k6; have HBE := Lib.hid hbe; have K0 := Lib.hid k0; have K8 := Lib.hid k8; have HGT := Lib.hid hgt; have HS3 := Lib.hid hs3
  clear y0 y1 k0 k6 k8 hbe hW3 hs3 hgt hs2 h1 hb2
  have hdd : ¬ (63 : Int) ≤ d := by have := Q3.out; omega
  have hwrap : IntKind.i32.wrap (id : Int) = id := by simp [IntKind.wrap, IntKind.bits, IntKind.signed]; omega
  obtain ⟨d1, hd1⟩ : ∃ d1 : Nat, d + 1 = d1 := ⟨_, rfl⟩
  have k8c : W3.cell? ⟨w.heap.size + 1, 0, none⟩ = some (.int .i32 0) := by rw [heap_cell K8.out, HZL.out]; rfl
  have k8f := heap_frozen K8.out 0
  go_wp2_with fail
  obtain ⟨W4, hW4⟩ : ∃ W4 : World, W4 = W3.setCell ⟨w.heap.size + 1, 0, none⟩ (.int .i32 ((d : Int) + 1)) := ⟨_, rfl⟩
  rw [← hW4]
  obtain ⟨CUR, hCUR⟩ : ∃ CUR : List Value, CUR = .int .i32 ((d : Int) + 1) :: List.replicate 64 (.int .i32 0) := ⟨_, rfl⟩
  obtain ⟨CS, hCS⟩ : ∃ CS : List Value, CS = p.map (fun k : Nat => Value.int .i32 (k : Int)) := ⟨_, rfl⟩
  have hgt := HGT.out
  have r8 : W4.heap[w.heap.size + 1]? = some (.cells CUR.toArray 69 (0, 0)) := by
    rw [hW4, heap_set_at K8.out 0, HZL.out, hCUR]
    simp [zL]
  have r0 : W4.heap[w2.heap.size]? = some (.cells Y 69 (0, 0)) := by rw [hW4]; exact heap_set_off K0.out (by simp; omega) _
  have r6 : W4.heap[w.heap.size]? = some (.cells Z 69 (0, 0)) := by rw [hW4]; exact heap_set_off K6.out (by simp) _
  have rb4 : Below w.heap.size w W4 := by rw [hW4]; exact HBE.out.setCell (by simp) _
  have x8 : ∀ x : Ext W4, x.val.cell? ⟨w.heap.size + 1, 0, none⟩ = some (.int .i32 (d1 : Int)) := Ext.cells (by rw [heap_cell r8, hCUR]; simp only [List.getElem?_toArray, List.getElem?_cons_zero]; congr 2; omega)
  have R8 := Lib.hid r8; have R0 := Lib.hid r0; have R6 := Lib.hid r6; have RB4 := Lib.hid rb4; have HCUR := Lib.hid hCUR; have HCS := Lib.hid hCS
  have hd64 : (d1 : Int) ≤ 64 := by omega
  have hd64n : d1 ≤ 64 := by omega
  clear r8 r0 r6 rb4 hCUR hCS hW4 k1 k8c k8f
  refine wp_region_calm_tail 6 (by kernel_rfl) (by kernel_rfl) ?_
  simp only [List.take_succ_cons, List.take_zero, List.drop_succ_cons, List.drop_zero]
  iterate 6 (go_big_quiet_step (fail))
  refine wpQuiet_nil ?_
  intro w5 hb5
  have hcsl : CS.length = d1 := by rw [HCS.out, List.length_map, Q3.out]; exact hd1
  have hcur : CUR.length = 65 := by rw [HCUR.out]; rfl
  refine wpList_copy_splice rfl _ _ 100 100 rfl 21 Tryz.underlying100 (by kernel_rfl) _ _ _ _ _ _ rfl rfl (w.heap.size + 1) 1 CUR 69 ((hb5.block _ (heap_lt R8.out)).trans R8.out) CS ?hn ?hpos (by rw [hcsl, hcur]; omega) (by rw [HCS.out]; intro v hv; obtain ⟨k, _, rfl⟩ := List.mem_map.1 hv; rfl) (w.heap.size + 1) w5 (Below.refl _ _) (Nat.le_refl _) ?_
  case hn => rw [hcsl]; exact (Nat.min_eq_left hd64n).symm
  case hpos =>
    intro _
    refine ⟨rfl, _, rfl, fun j v hv => ?_⟩
    have hj := (List.getElem?_eq_some_iff.1 hv).1
    rw [Addr.add_mid, (hb5.cell (p := ⟨w2.heap.size, 1 + j, none⟩) (heap_lt R0.out)), heap_cell R0.out, ← HYL.out, ← HYP.out]
    rw [HCS.out] at hv
    simp only [List.getElem?_toArray]
    rw [Nat.add_comm, lineC, List.getElem?_cons_succ, idsC, List.getElem?_append_left (by rw [List.length_map]; rw [hcsl] at hj; have := Q3.out; omega)]
    exact hv
  intro w6 hg6 hb6
  have r8 : w6.heap[w.heap.size + 1]? = some (.cells (Value.int .i32 (p.length : Int) :: idsC p).toArray 69 (0, 0)) := by
    rw [hg6.out, HCUR.out, HCS.out]
    have e : ((d : Int) + 1) = (p.length : Int) := by have := Q3.out; omega
    rw [splice, List.take_succ_cons, List.take_zero, Nat.add_comm 1, List.drop_succ_cons, List.drop_replicate, List.length_map, e]
    rfl
  have r6 : w6.heap[w.heap.size]? = some (.cells Z 69 (0, 0)) := by
    rw [hb6.block _ (by omega), hb5.block _ (heap_lt R6.out)]; exact R6.out
  have hbw : Below w.heap.size w w6 := RB4.out.trans ((hb5.mono RB4.out.size).trans (hb6.mono (by omega)))
  have hq : p.length = d1 := by rw [Q3.out]; exact hd1
  have r8c : w6.cell? ⟨w.heap.size + 1, 0, none⟩ = some (.int .i32 d1) := by rw [heap_cell r8, hq]; rfl
  have r8i : ∀ j, j < 65 → ∃ u, w6.cell? ⟨w.heap.size + 1, j, none⟩ = some u := fun j hj => by
    rw [heap_cell r8]
    refine ⟨(Value.int .i32 (p.length : Int) :: idsC p).toArray[j]'(by simp; rw [idsC_len HP.out]; omega), Array.getElem?_eq_getElem _⟩
  obtain ⟨ui, hui⟩ := r8i (1 + d1) (by omega)
  have hfz := heap_frozen r8 (1 + d1)
  obtain ⟨X, hX⟩ : ∃ X : List Value, X = lineC (p ++ [id]) := ⟨_, rfl⟩
  have hXl : X.length = 65 := by rw [hX]; exact lineC_len (by simp; omega)
  have s8 : (w6.setCell ⟨w.heap.size + 1, 1 + d1, none⟩ (.int .i32 id)).heap[w.heap.size + 1]? = some (.cells X.toArray 69 (0, 0)) := by
    rw [heap_set_at r8, hX, ← line_set (by omega) id, hq]
    simp
  have s6 : (w6.setCell ⟨w.heap.size + 1, 1 + d1, none⟩ (.int .i32 id)).heap[w.heap.size]? = some (.cells Z 69 (0, 0)) := heap_set_off r6 (by simp) _
  have hX1 : X.toArray.all (·.oneCell') = true := by rw [hX]; exact all_oneCell_toArray (lineC_one _)
  obtain ⟨XA, hXA⟩ : ∃ XA, X.toArray = XA := ⟨_, rfl⟩
  rw [hXA] at s8 hX1
  have hXs : XA.size = 65 := by rw [← hXA]; simpa using hXl
  have S8 := Lib.hid s8; have S6 := Lib.hid s6; have HX1 := Lib.hid hX1; have HXS := Lib.hid hXs; have HXA := Lib.hid hXA; have HX := Lib.hid hX; have HBW := Lib.hid hbw
  have hd63 : (d1 : Int) < 64 := by omega
  have hd63n : d1 < 64 := by omega
  clear s8 s6 hX1 hXs hXA hX hXl r8 r6 r8i hbw hq hcsl hcur hd64 hd64n hd1
  go_wp2_with (first | (refine wpList_load_row rfl 69 _ rfl (w.heap.size + 1) rfl 69 XA (0, 0) _ S8.out Tryz.underlying69 rfl (by rw [HXS.out]; exact Tryz.sizeLine) ?_) | (refine wpList_store_row rfl 69 _ _ rfl w.heap.size XA rfl rfl 69 Z S6.out (by rw [HXS.out]; exact Tryz.sizeLine) (by rw [HXS.out, HZS.out]) HX1.out ?_) | fail)
  have hr : (loadVar 69 ⟨w.heap.size, 0, none⟩).run Tryz.prog ((w6.setCell ⟨w.heap.size + 1, 1 + d1, none⟩ (.int .i32 id)).setRow w.heap.size XA) = .ok (.agg XA) ((w6.setCell ⟨w.heap.size + 1, 1 + d1, none⟩ (.int .i32 id)).setRow w.heap.size XA) :=
    run_loadVar_row _ _ 69 69 XA (0, 0) _ (setRow_heap _ _ Z XA _ _ S6.out) Tryz.underlying69 rfl (by rw [HXS.out]; exact Tryz.sizeLine)
  refine bodyPost_ret (v := .tuple #[.agg XA, .int .i64 0]) (by simp [results, Tryz.results21, asAddr, hr]) rfl ⟨by rw [← HXA.out, HX.out], ?_⟩
  exact Below.setRow (HBW.out.setCell (by simp) _) (Nat.le_refl _) _
end Go.Proofs.YtkgmfbfpmlnfcaaGreatDoor
