/- package kind: mapVal, and the closures of Map. -/
import Derived.Test.YtnnbjenibfmcaaaGreatDoorQRoEach
namespace Go.Proofs.YtnnbjenibfmcaaaGreatDoor
open Go.RowKit

/-- A value type through a function of heap types. -/
def phiV {σ : Type} (φ : σ → Hp → Hp × σ) (s : σ) (v : Vl) : Vl × σ := if v.k = 3 then (⟨v.k, v.nl, (φ s ⟨v.h, v.n⟩).1.k, (φ s ⟨v.h, v.n⟩).1.n⟩, (φ s ⟨v.h, v.n⟩).2) else (v, s)
def phiF {σ : Type} (φ : σ → Hp → Hp × σ) (s : σ) (f : Fl) : Fl × σ := (⟨f.p, (phiV φ s f.v).1, f.m⟩, (phiV φ s f.v).2)
def DV (D : Hp → Prop) (v : Vl) : Prop := v.k = 3 → D ⟨v.h, v.n⟩
variable {σ : Type}
set_option maxRecDepth 100000 in
set_option maxHeartbeats 8000000 in
theorem mapVal_any {D : Hp → Prop} {f : FuncId} {cap : Array Value} {φ : σ → Hp → Hp × σ} {J : σ → Nat → (Nat → Prop) → World → Prop} {B : Nat} (F : FnOk Tryz.prog cellsH D f cap φ J B)
    (v : Vl) (s : σ) (m : Nat) (T : Nat → Prop) (w : World) (hd : DV D v) (hj : J s (m + 1) T w) :
    Calls Tryz.prog 65 #[.agg (cellsV v).toArray, .func (.func f) #[] cap] w fun e w' => ∃ T', e = .returned (.agg (cellsV (phiV φ s v).1).toArray) ∧ J (phiV φ s v).2 m T' w' ∧ Upd T w w' ∧ Fresh T w T' := by
  obtain ⟨k, nl, h, n⟩ := v
  rw [show cellsV ⟨k, nl, h, n⟩ = [.int .i64 k, .bool nl, .int .i64 h, .int .i64 n] from rfl]
  have HJ := Lib.hid hj; have HD := Lib.hid hd
  clear hj hd
  have hnf : ∀ w : World, (binOp BinOp.neq 108 (.func (.func f) #[] cap) .nilFunc).run Tryz.prog w = .ok (.bool true) w := fun _ => by rfl
  by_cases hk : k = 3
  · subst hk
    have hen := F.enter
    obtain ⟨y, hy⟩ : ∃ y, φ s ⟨h, n⟩ = y := ⟨_, rfl⟩
    obtain ⟨W0, hW⟩ : ∃ W0 : World, W0 = ((w.alloc (.cells #[.int .i64 3, .bool nl, .int .i64 h, .int .i64 n] 33)).alloc (.cells #[.int .i64 0, .bool false, .int .i64 0, .int .i64 0] 33)) := ⟨_, rfl⟩
    have hc := F.call ⟨h, n⟩ (HD.out rfl) (F.keep HJ.out (((Upd.refl _ w).alloc (.cells #[.int .i64 3, .bool nl, .int .i64 h, .int .i64 n] 33)).alloc (.cells #[.int .i64 0, .bool false, .int .i64 0, .int .i64 0] 33)))
    rw [← hW, hy] at hc
    have hsz : W0.heap.size = w.heap.size + 2 := by rw [hW]; simp
    have z0 : W0.heap[w.heap.size]? = some (.cells #[.int .i64 3, .bool nl, .int .i64 h, .int .i64 n] 33 (0, 0)) := by rw [hW]; exact heap_alloc_keep (heap_alloc_at _ _ rfl) _
    have z1 : W0.heap[w.heap.size + 1]? = some (.cells #[.int .i64 0, .bool false, .int .i64 0, .int .i64 0] 33 (0, 0)) := by rw [hW]; exact heap_alloc_at _ _ (by simp)
    have hu0 : Upd T w W0 := by rw [hW]; exact ((Upd.refl _ w).alloc _).alloc _
    have HC := Lib.hid hc; have HW := Lib.hid hW; have HY := Lib.hid hy; have HSZ := Lib.hid hsz; have Z0 := Lib.hid z0; have Z1 := Lib.hid z1; have HU0 := Lib.hid hu0
    clear hc hW hy hsz z0 z1 hu0
    go_enter Tryz.func65, Tryz.ntmps65
    go_wp2_with fail
    rw [← HW.out]
    refine HC.out.mono ?_
    rintro e w1 ⟨T2, he, hJ2, hU2, hF2⟩
    obtain rfl : e = .returned (.agg #[.int .i64 y.1.k, .int .i64 y.1.n]) := he
    have n0 : ∀ k, w.heap.size ≤ k → k < W0.heap.size → ¬ T k := fun k h1 _ hT => by have := (F.lt HJ.out).1 k hT; omega
    have a0 := hU2.heap_some Z0.out (n0 _ (Nat.le_refl _) (by rw [HSZ.out]; omega))
    have a1 := hU2.heap_some Z1.out (n0 _ (by omega) (by rw [HSZ.out]; omega))
    have c00 := heap_cell a0 0; have c01 := heap_cell a0 1; have c02 := heap_cell a0 2; have c03 := heap_cell a0 3
    have c10 := heap_cell a1 0; have c11 := heap_cell a1 1; have c12 := heap_cell a1 2; have c13 := heap_cell a1 3
    have f0 := fun i => heap_frozen a0 i
    have f1 := fun i => heap_frozen a1 i
    have HJ2 := Lib.hid hJ2; have HU2 := Lib.hid hU2; have HF2 := Lib.hid hF2; have N0 := Lib.hid n0; have A0 := Lib.hid a0; have A1 := Lib.hid a1
    clear hJ2 hU2 hF2 n0 a0 a1 hen
    simp at c00 c01 c02 c03 c10 c11 c12 c13
    go_wp2
    refine bodyPost_ret (v := .agg #[.int .i64 3, .bool nl, .int .i64 y.1.k, .int .i64 y.1.n]) (by simp [results, Tryz.results65, go_sem, c10, c11, c12, c13]) rfl ?_
    have hB : B ≤ w.heap.size := (F.lt HJ.out).2
    have h0 : ¬ T2 w.heap.size := HF2.out.off (N0.out _ (Nat.le_refl _) (by rw [HSZ.out]; omega)) (by rw [HSZ.out]; omega)
    have h1 : ¬ T2 (w.heap.size + 1) := HF2.out.off (N0.out _ (by omega) (by rw [HSZ.out]; omega)) (by rw [HSZ.out]; omega)
    refine ⟨T2, by simp [phiV, HY.out, cellsV], ?_, ?_, (Fresh.refl T w).trans HF2.out HU0.out.size⟩
    · simp only [phiV, if_true, HY.out]
      exact F.keep HJ2.out ((((((Upd.refl _ w1).setCell (.inl ⟨hB, h0⟩) _).setCell (.inl ⟨hB, h0⟩) _).setCell (.inl ⟨by simp; omega, h1⟩) _).setCell (.inl ⟨by simp; omega, h1⟩) _).setCell (.inl ⟨by simp; omega, h1⟩) _ |>.setCell (.inl ⟨by simp; omega, h1⟩) _)
    · exact ((((((HU0.out.trans (Fresh.refl _ _) HU2.out).setCell (.inr (Nat.le_refl _)) _).setCell (.inr (Nat.le_refl _)) _).setCell (.inr (by simp)) _).setCell (.inr (by simp)) _).setCell (.inr (by simp)) _).setCell (.inr (by simp)) _
  · have hk' : (k == 3) = false := by simpa using hk
    go_enter Tryz.func65, Tryz.ntmps65
    go_wp2
    refine bodyPost_ret (v := .agg #[.int .i64 k, .bool nl, .int .i64 h, .int .i64 n]) (by simp [results, Tryz.results65, go_sem]) rfl ?_
    have hu : Upd T w ((w.alloc (.cells #[.int .i64 k, .bool nl, .int .i64 h, .int .i64 n] 33)).alloc (.cells #[.int .i64 k, .bool nl, .int .i64 h, .int .i64 n] 33)) := ((Upd.refl _ w).alloc _).alloc _
    refine ⟨T, by simp [phiV, hk, cellsV], ?_, hu, Fresh.refl _ _⟩
    simp only [phiV, hk, if_false]
    exact F.keep (F.less HJ.out (Nat.le_succ _)) (((Upd.refl _ w).alloc _).alloc _)
end Go.Proofs.YtnnbjenibfmcaaaGreatDoor
