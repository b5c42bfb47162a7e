/- package arena: an arena that is not there; ArenaNone walked. -/
import Derived.Test.YtcjkmgjonnnapaaDoorArKnown
namespace Go.Proofs.YtcjkmgjonnnapaaDoor
open Go.RowKit Go.Shelf
attribute [local go_sem] Oper.semAt_some

theorem Take_nil (n : Int) (w : World) : Calls Tryd.prog 12 #[.pointer none, .int .i64 n] w fun e w' => e = .returned (.tuple #[.int .i64 0, .int .i64 1]) ∧ w = w' := by
  go_enter Tryd.func12, Tryd.ntmps12
  go_wp2_with fail
  refine (absent_nil w).mono ?_
  rintro e w1 ⟨rfl, rfl⟩
  go_wp2
  go_ret2
  exact ⟨rfl, rfl⟩
theorem word_nil (q n : Int) (w : World) : Calls Tryd.prog 52 #[.pointer none, .int .i64 q, .int .i64 n] w fun e w' => e = .returned (.int .i64 1) ∧ w = w' := by
  go_enter Tryd.func52, Tryd.ntmps52
  go_wp2_with fail
  refine (absent_nil w).mono ?_
  rintro e w1 ⟨rfl, rfl⟩
  go_wp2
  go_ret
  exact ⟨rfl, rfl⟩
theorem Get_nil (q n : Int) (w : World) : Calls Tryd.prog 22 #[.pointer none, .int .i64 q, .int .i64 n] w fun e w' => e = .returned (.tuple #[.int .u64 0, .int .i64 1]) ∧ w = w' := by
  go_enter Tryd.func22, Tryd.ntmps22
  go_wp2_with fail
  refine (word_nil q n w).mono ?_
  rintro e w1 ⟨rfl, rfl⟩
  go_wp2
  go_ret2
  exact ⟨rfl, rfl⟩
theorem Set_nil (q n x : Int) (w : World) : Calls Tryd.prog 16 #[.pointer none, .int .i64 q, .int .i64 n, .int .u64 x] w fun e w' => e = .returned (.int .i64 1) ∧ w = w' := by
  go_enter Tryd.func16, Tryd.ntmps16
  go_wp2_with fail
  refine (word_nil q n w).mono ?_
  rintro e w1 ⟨rfl, rfl⟩
  go_wp2
  go_ret
  exact ⟨rfl, rfl⟩
theorem Free_nil (q : Int) (w : World) : Calls Tryd.prog 14 #[.pointer none, .int .i64 q] w fun e w' => e = .returned (.int .i64 1) ∧ w = w' := by
  go_enter Tryd.func14, Tryd.ntmps14
  go_wp2_with fail
  refine (absent_nil w).mono ?_
  rintro e w1 ⟨rfl, rfl⟩
  go_wp2
  go_ret
  exact ⟨rfl, rfl⟩
theorem Size_nil (q : Int) (w : World) : Calls Tryd.prog 27 #[.pointer none, .int .i64 q] w fun e w' => e = .returned (.int .i64 0) ∧ w = w' := by
  go_enter Tryd.func27, Tryd.ntmps27
  go_wp2_with fail
  refine (absent_nil w).mono ?_
  rintro e w1 ⟨rfl, rfl⟩
  go_wp2
  go_ret
  exact ⟨rfl, rfl⟩
theorem Mark_nil (q : Int) (w : World) : Calls Tryd.prog 18 #[.pointer none, .int .i64 q] w fun e w' => e = .returned (.bool false) ∧ w = w' := by
  go_enter Tryd.func18, Tryd.ntmps18
  go_wp2_with fail
  refine (absent_nil w).mono ?_
  rintro e w1 ⟨rfl, rfl⟩
  go_wp2
  go_ret
  exact ⟨rfl, rfl⟩
theorem Marked_nil (q : Int) (w : World) : Calls Tryd.prog 28 #[.pointer none, .int .i64 q] w fun e w' => e = .returned (.bool false) ∧ w = w' := by
  go_enter Tryd.func28, Tryd.ntmps28
  go_wp2_with fail
  refine (absent_nil w).mono ?_
  rintro e w1 ⟨rfl, rfl⟩
  go_wp2
  go_ret
  exact ⟨rfl, rfl⟩
theorem Sweep_nil (w : World) : Calls Tryd.prog 20 #[.pointer none] w fun e w' => e = .returned (.int .i64 0) ∧ w = w' := by
  go_enter Tryd.func20, Tryd.ntmps20
  go_wp2_with fail
  refine (absent_nil w).mono ?_
  rintro e w1 ⟨rfl, rfl⟩
  go_wp2
  go_ret
  exact ⟨rfl, rfl⟩
theorem Cap_nil (w : World) : Calls Tryd.prog 29 #[.pointer none] w fun e w' => e = .returned (.int .i64 0) ∧ w = w' := by
  go_enter Tryd.func29, Tryd.ntmps29
  go_wp2_with fail
  refine (absent_nil w).mono ?_
  rintro e w1 ⟨rfl, rfl⟩
  go_wp2
  go_ret
  exact ⟨rfl, rfl⟩
theorem Used_nil (w : World) : Calls Tryd.prog 30 #[.pointer none] w fun e w' => e = .returned (.int .i64 0) ∧ w = w' := by
  go_enter Tryd.func30, Tryd.ntmps30
  go_wp2_with fail
  refine (absent_nil w).mono ?_
  rintro e w1 ⟨rfl, rfl⟩
  go_wp2
  go_ret
  exact ⟨rfl, rfl⟩
theorem Copy_nil (w : World) : Calls Tryd.prog 25 #[.pointer none] w fun e w' => e = .returned (.pointer none) ∧ w = w' := by
  go_enter Tryd.func25, Tryd.ntmps25
  go_wp2_with fail
  refine (absent_nil w).mono ?_
  rintro e w1 ⟨rfl, rfl⟩
  go_wp2
  go_ret
  exact ⟨rfl, rfl⟩
theorem Room_nil (w : World) : Calls Tryd.prog 31 #[.pointer none] w fun e w' => e = .returned (.int .i64 0) ∧ Below w.heap.size w w' := by
  go_enter Tryd.func31, Tryd.ntmps31
  go_wp2_with fail
  refine (absent_nil _).mono ?_
  rintro e w1 ⟨rfl, rfl⟩
  go_wp2
  have c2 : (w.alloc (.cells #[.int .i64 0] 3)).cell? ⟨w.heap.size, 0, none⟩ = some (.int .i64 0) := by simp
  refine bodyPost_ret (v := .int .i64 0) (by simp [results, Tryd.results31, go_sem, c2]) rfl ⟨rfl, (Below.refl _ _).alloc (Nat.le_refl _) _⟩
theorem Blocks_nil (w : World) : Calls Tryd.prog 26 #[.pointer none] w fun e w' => e = .returned (.func (.func 58) #[] #[.pointer (some ⟨w.heap.size, 0, none⟩)]) ∧ w' = w.alloc (.cells #[.pointer none] 24) := by
  go_enter Tryd.func26, Tryd.ntmps26
  go_wp2
  go_ret
  exact ⟨rfl, rfl⟩
theorem blocks_nil_iter (n cb : Nat) (hn : 1 ≤ n) (w : World) (hw : w.cell? ⟨cb, 0, none⟩ = some (.pointer none)) (Kp : World → World → Prop) (I : List Empty → World → Prop) (Ix : Code → List Empty → World → Prop) :
    IterAt Fence.wide n Tryd.prog 58 #[.pointer (some ⟨cb, 0, none⟩)] (fun _ : Empty => #[.int .i64 0, .int .i64 0]) w Kp I Ix (fun _ => True) (fun _ => False) 0 := by
  intro l L L' W1 hL hL' hbel hY h0 hL0
  have hc := below_cell hbel hw
  refine callsIn_of_wp Tryd.func58 rfl trivial ?_ rfl
  simp only [Tryd.ntmps58, List.size_toArray, List.length_cons, List.length_nil, Nat.reduceAdd, Nat.reduceSub, Array.replicate_succ, Array.replicate_zero, List.push_toArray, List.append_toArray, List.nil_append, List.cons_append]
  clear hY hbel
  gi_wp2_with (refine ⟨trivial, ?_⟩; gi_at_call 41; refine (callsIn_wide.2 (absent_nil _)).mono ?_; rintro e w1 ⟨rfl, rfl⟩)
  refine bodyPost_ret (results_none rfl _ _ _) rfl ?_
  exact ⟨⟨_, rfl⟩, .inl ⟨[], trivial, h0, hL0⟩⟩
/-- The cell of the result, between rounds. -/
def NoneI (w : World) (A : Nat) (W : World) : Prop := (∃ b, W.cell? ⟨A, 0, none⟩ = some (.bool b)) ∧ W.frozen? ⟨A, 0, none⟩ = false ∧ Below w.heap.size w W
theorem NoneI.putObj {w : World} {A : Nat} {W : World} {l : Nat} {o : Obj} (o' : Obj) (hl : w.heap.size ≤ l) (h : W.heap[l]? = some o) (ho : o.isCells = false) (hi : NoneI w A W) : NoneI w A (W.putObj l o') := by
  obtain ⟨⟨b, i1⟩, i2, i6⟩ := hi
  exact ⟨⟨b, cell_putObj o' h ho i1⟩, frozen_putObj o' h ho i1 i2, i6.grown (grownBy_putObj' W l o') i6.size (fun k e => by cases e; exact hl)⟩
theorem NoneI.below {w : World} {A : Nat} {W W' : World} (hi : NoneI w A W) (hb : Below W.heap.size W W') : NoneI w A W' := by
  obtain ⟨⟨b, i1⟩, i2, i6⟩ := hi
  have hA : A < W.heap.size := World.block_lt_of_cell? _ _ i1
  exact ⟨⟨b, below_cell hb i1⟩, (hb.frozen hA).trans i2, i6.trans (hb.mono i6.size)⟩
set_option maxRecDepth 100000 in
set_option maxHeartbeats 4000000 in
theorem none_any (q n x : Int) (w : World) :
    Calls Tryd.prog 4 #[.int .i64 q, .int .i64 n, .int .u64 x] w fun e w' => e = .returned (.bool true) ∧ Below w.heap.size w w' := by
  obtain ⟨A, hA⟩ : ∃ A, A = w.heap.size := ⟨_, rfl⟩
  obtain ⟨W0, hW0⟩ : ∃ W0, W0 = w.alloc (.cells #[.bool false] 4) := ⟨_, rfl⟩
  have b0 := heap_alloc_at w (.cells #[.bool false] 4) (b := A) hA
  rw [← hW0] at b0
  have q0 := heap_cell b0 0
  simp at q0
  have hN0 : NoneI w A W0 := ⟨⟨false, q0⟩, heap_frozen b0 0, by rw [hW0]; exact (Below.refl _ _).alloc (Nat.le_refl _) _⟩
  have HN0 := Lib.hid hN0
  clear hN0 b0 q0
  refine (callsIn_wide (n := 7)).1 ?_
  refine callsIn_of_wp_marks Tryd.func4 rfl trivial ?_ rfl
  simp only [Tryd.ntmps4, List.size_toArray, List.length_cons, List.length_nil, Nat.reduceAdd, Nat.reduceSub, Array.replicate_succ, Array.replicate_zero, List.push_toArray, List.append_toArray, List.nil_append, List.cons_append]
  gi_wp2_with fail
  rw [← hA, ← hW0]
  refine ⟨trivial, ?_⟩
  refine (callsIn_wide.2 (known_any W0)).mono ?_
  rintro e w1 ⟨rfl, hb1⟩
  have HN1 := Lib.hid (HN0.out.below hb1)
  have hAw : w.heap.size = A := hA.symm
  clear HN0 hb1 hW0 hA
  gi_wp2_with fail
  refine ⟨trivial, ?_⟩
  refine (callsIn_wide.2 (Take_nil n w1)).mono ?_
  rintro e w2 ⟨rfl, rfl⟩
  gi_wp2_with fail
  refine ⟨trivial, ?_⟩
  refine (callsIn_wide.2 (Get_nil q n w1)).mono ?_
  rintro e w2 ⟨rfl, rfl⟩
  gi_wp2_with fail
  refine ⟨trivial, ?_⟩
  refine (callsIn_wide.2 (Blocks_nil w1)).mono ?_
  rintro e w2 ⟨rfl, rfl⟩
  gi_wp2
  obtain ⟨B, hB⟩ : ∃ B, B = w1.heap.size := ⟨_, rfl⟩
  obtain ⟨wl, hwl⟩ : ∃ wl, wl = w1.alloc (.cells #[.pointer none] 24) := ⟨_, rfl⟩
  have bl := heap_alloc_at w1 (.cells #[.pointer none] 24) (b := B) hB
  rw [← hwl] at bl
  have ql := heap_cell bl 0
  simp at ql
  have hNl : NoneI w A wl := HN1.out.below (by rw [hwl]; exact (Below.refl _ _).alloc (Nat.le_refl _) _)
  have hsz : w.heap.size ≤ wl.heap.size := hNl.2.2.size
  rw [← hB, ← hwl]
  have HNL := Lib.hid hNl
  clear bl hNl hwl hB
  refine wpIn_range_at (F := Fence.wide) (n := 7) rfl (by omega) (gf := 58) (lb := #[.pointer (some ⟨B, 0, none⟩)]) rfl trivial (enters_of Tryd.func58 (by kernel_rfl) rfl)
    (encs := fun _ : Empty => #[.int .i64 0, .int .i64 0]) (fun _ => rfl) (fun _ _ => True) (fun _ W => NoneI w A W) (fun _ _ _ => False)
    (fun _ _ => trivial) (fun _ _ _ _ _ _ _ => trivial)
    (fun pre W l o o' hl h ho hi => hi.putObj o' (by omega) h ho) (fun c pre W l o o' hl h ho hi => hi)
    (fun o o' => HNL.out.below (((Below.refl _ _).alloc (Nat.le_refl _) _).alloc (by simp) _)) (fun x => x.elim)
    (blocks_nil_iter 6 B (by omega) wl ql _ _ _) ?assign ?body ?done ?stop
  case assign => intro l x; exact x.elim
  case body => rintro l pre x; exact x.elim
  case stop => rintro D c pre W h; exact h.elim
  case done =>
    clear ql
    rintro D xs W _ hi hK hle
    have HI := Lib.hid hi
    have HK := Lib.hid hK
    clear hi hK
    gi_wp2_with fail
    refine ⟨trivial, ?_⟩
    refine (callsIn_wide.2 (Free_nil q W)).mono ?_
    rintro e w2 ⟨rfl, rfl⟩
    gi_wp2_with fail
    refine ⟨trivial, ?_⟩
    refine (callsIn_wide.2 (Set_nil q n x W)).mono ?_
    rintro e w2 ⟨rfl, rfl⟩
    gi_wp2_with fail
    refine ⟨trivial, ?_⟩
    refine (callsIn_wide.2 (Size_nil q W)).mono ?_
    rintro e w2 ⟨rfl, rfl⟩
    gi_wp2_with fail
    refine ⟨trivial, ?_⟩
    refine (callsIn_wide.2 (Mark_nil q W)).mono ?_
    rintro e w2 ⟨rfl, rfl⟩
    gi_wp2_with fail
    refine ⟨trivial, ?_⟩
    refine (callsIn_wide.2 (Marked_nil q W)).mono ?_
    rintro e w2 ⟨rfl, rfl⟩
    gi_wp2_with fail
    refine ⟨trivial, ?_⟩
    refine (callsIn_wide.2 (Sweep_nil W)).mono ?_
    rintro e w2 ⟨rfl, rfl⟩
    gi_wp2_with fail
    refine ⟨trivial, ?_⟩
    refine (callsIn_wide.2 (Cap_nil W)).mono ?_
    rintro e w2 ⟨rfl, rfl⟩
    gi_wp2_with fail
    refine ⟨trivial, ?_⟩
    refine (callsIn_wide.2 (Used_nil W)).mono ?_
    rintro e w2 ⟨rfl, rfl⟩
    gi_wp2_with fail
    refine ⟨trivial, ?_⟩
    refine (callsIn_wide.2 (Room_nil W)).mono ?_
    rintro e w3 ⟨rfl, hb3⟩
    have HI3 := Lib.hid (HI.out.below hb3)
    have HK3 := Lib.hid (show w3.heap[D]? = some (.deferred (some [])) from (hb3.block D (Array.getElem?_eq_some_iff.1 HK.out).1).trans HK.out)
    clear hb3
    gi_wp2_with fail
    refine ⟨trivial, ?_⟩
    refine (callsIn_wide.2 (Copy_nil w3)).mono ?_
    rintro e w4 ⟨rfl, rfl⟩
    gi_wp2_with fail
    refine ⟨trivial, ?_⟩
    refine (callsIn_wide.2 (known_any w3)).mono ?_
    rintro e w4 ⟨rfl, hb4⟩
    have hi4 := HI3.out.below hb4
    have hk4 : w4.heap[D]? = some (.deferred (some [])) := (hb4.block D (Array.getElem?_eq_some_iff.1 HK3.out).1).trans HK3.out
    obtain ⟨⟨b4, c4⟩, f4, bw4⟩ := hi4
    have HK4 := Lib.hid hk4
    have HB4 := Lib.hid bw4
    clear hb4 hk4 bw4 HI HI3 HK HK3
    gi_wp2
    have hK2 := (KeepsOthers.setCell w4 ⟨A, 0, none⟩ (.bool true)).same D _ HK4.out rfl
    refine ⟨by simp, .inl ⟨_, _, rfl, run_takeDeferred hK2, ?_⟩⟩
    have c1 : (w4.setCell ⟨A, 0, none⟩ (.bool true)).cell? ⟨A, 0, none⟩ = some (.bool true) := World.cell?_setCell_same' _ _ _ (by rw [c4]; rfl)
    have c2 := cell_putObj (.deferred none) hK2 rfl c1
    refine ⟨.bool true, by simp [results, Tryd.results4, go_sem, c2], rfl, ?_⟩
    rw [← hAw]
    exact (HB4.out.setCell (by simp) _).grown (grownBy_putObj' _ D _) (by have := HB4.out.size; simp; omega) (fun k e => by cases e; omega)
end Go.Proofs.YtcjkmgjonnnapaaDoor
