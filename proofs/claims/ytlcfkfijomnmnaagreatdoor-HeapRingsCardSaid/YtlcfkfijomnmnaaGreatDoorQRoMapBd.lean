import Derived.Test.YtlcfkfijomnmnaaGreatDoorQRoEachBd
namespace Go.Proofs.YtlcfkfijomnmnaaGreatDoor
open Lib (hid)
section
open Go.RowKit
def phiV {σ : Type} (φ : σ → Hp → Hp × σ) (s : σ) (v : Vl) : Vl × σ := if v.k = 3 then (⟨v.k, v.nl, (φ s ⟨v.h, v.n⟩).1.k, (φ s ⟨v.h, v.n⟩).1.n⟩, (φ s ⟨v.h, v.n⟩).2) else (v, s)
def phiF {σ : Type} (φ : σ → Hp → Hp × σ) (s : σ) (f : Fl) : Fl × σ := (⟨f.p, (phiV φ s f.v).1, f.m⟩, (phiV φ s f.v).2)
def DV (D : Hp → Prop) (v : Vl) : Prop := v.k = 3 → D ⟨v.h, v.n⟩
variable {σ : Type}
set_option maxRecDepth 100000 in
set_option maxHeartbeats 8000000 in
theorem mapVal_any {D : Hp → Prop} {f : FuncId} {cap : Array Value} {φ : σ → Hp → Hp × σ} {J : σ → Nat → (Nat → Prop) → World → Prop} {B : Nat} (F : FnOk Tryz.prog cellsH D f cap φ J B)
    (v : Vl) (s : σ) (m : Nat) (T : Nat → Prop) (w : World) (hd : DV D v) (hj : J s (m + 1) T w) :
    Calls Tryz.prog 76 #[.agg (cellsV v).toArray, .func (.func f) #[] cap] w fun e w' => ∃ T', e = .returned (.agg (cellsV (phiV φ s v).1).toArray) ∧ J (phiV φ s v).2 m T' w' ∧ Upd T w w' ∧ Fresh T w T' := by
  obtain ⟨k, nl, h, n⟩ := v
  rw [show cellsV ⟨k, nl, h, n⟩ = [.int .i64 k, .bool nl, .int .i64 h, .int .i64 n] from rfl]
  have HJ := hid hj; have HD := hid hd
  clear hj hd
  have hnf : ∀ w : World, (binOp BinOp.neq 110 (.func (.func f) #[] cap) .nilFunc).run Tryz.prog w = .ok (.bool true) w := fun _ => by rfl
  by_cases hk : k = 3
  · subst hk
    have hen := F.enter
    obtain ⟨y, hy⟩ : ∃ y, φ s ⟨h, n⟩ = y := ⟨_, rfl⟩
    obtain ⟨W0, hW⟩ : ∃ W0 : World, W0 = ((w.alloc (.cells #[.int .i64 3, .bool nl, .int .i64 h, .int .i64 n] 35)).alloc (.cells #[.int .i64 0, .bool false, .int .i64 0, .int .i64 0] 35)) := ⟨_, rfl⟩
    have hc := F.call ⟨h, n⟩ (HD.out rfl) (F.keep HJ.out (((Upd.refl _ w).alloc (.cells #[.int .i64 3, .bool nl, .int .i64 h, .int .i64 n] 35)).alloc (.cells #[.int .i64 0, .bool false, .int .i64 0, .int .i64 0] 35)))
    rw [← hW, hy] at hc
    have hsz : W0.heap.size = w.heap.size + 2 := by rw [hW]; simp
    have z0 : W0.heap[w.heap.size]? = some (.cells #[.int .i64 3, .bool nl, .int .i64 h, .int .i64 n] 35 (0, 0)) := by rw [hW]; exact heap_alloc_keep (heap_alloc_at _ _ rfl) _
    have z1 : W0.heap[w.heap.size + 1]? = some (.cells #[.int .i64 0, .bool false, .int .i64 0, .int .i64 0] 35 (0, 0)) := by rw [hW]; exact heap_alloc_at _ _ (by simp)
    have hu0 : Upd T w W0 := by rw [hW]; exact ((Upd.refl _ w).alloc _).alloc _
    have HC := hid hc; have HW := hid hW; have HY := hid hy; have HSZ := hid hsz; have Z0 := hid z0; have Z1 := hid z1; have HU0 := hid hu0
    clear hc hW hy hsz z0 z1 hu0
    go_enter Tryz.func76, Tryz.ntmps76
    go_wp2_with fail
    rw [← HW.out]
    refine HC.out.mono ?_
    rintro e w1 ⟨T2, he, hJ2, hU2, hF2⟩
    obtain rfl : e = .returned (.agg #[.int .i64 y.1.k, .int .i64 y.1.n]) := he
    have n0 : ∀ k, w.heap.size ≤ k → k < W0.heap.size → ¬ T k := fun k h1 _ hT => by have := (F.lt HJ.out).1 k hT; omega
    have a0 := hU2.heap_some Z0.out (n0 _ (Nat.le_refl _) (by rw [HSZ.out]; omega))
    have a1 := hU2.heap_some Z1.out (n0 _ (by omega) (by rw [HSZ.out]; omega))
    have c00 := heap_cell a0 0; have c01 := heap_cell a0 1; have c02 := heap_cell a0 2; have c03 := heap_cell a0 3
    have c10 := heap_cell a1 0; have c11 := heap_cell a1 1; have c12 := heap_cell a1 2; have c13 := heap_cell a1 3
    have f0 := fun i => heap_frozen a0 i
    have f1 := fun i => heap_frozen a1 i
    have HJ2 := hid hJ2; have HU2 := hid hU2; have HF2 := hid hF2; have N0 := hid n0; have A0 := hid a0; have A1 := hid a1
    clear hJ2 hU2 hF2 n0 a0 a1 hen
    simp at c00 c01 c02 c03 c10 c11 c12 c13
    go_wp2
    refine bodyPost_ret (v := .agg #[.int .i64 3, .bool nl, .int .i64 y.1.k, .int .i64 y.1.n]) (by simp [results, Tryz.results76, go_sem, c10, c11, c12, c13]) rfl ?_
    have hB : B ≤ w.heap.size := (F.lt HJ.out).2
    have h0 : ¬ T2 w.heap.size := HF2.out.off (N0.out _ (Nat.le_refl _) (by rw [HSZ.out]; omega)) (by rw [HSZ.out]; omega)
    have h1 : ¬ T2 (w.heap.size + 1) := HF2.out.off (N0.out _ (by omega) (by rw [HSZ.out]; omega)) (by rw [HSZ.out]; omega)
    refine ⟨T2, by simp [phiV, HY.out, cellsV], ?_, ?_, (Fresh.refl T w).trans HF2.out HU0.out.size⟩
    · simp only [phiV, if_true, HY.out]
      exact F.keep HJ2.out ((((((Upd.refl _ w1).setCell (.inl ⟨hB, h0⟩) _).setCell (.inl ⟨hB, h0⟩) _).setCell (.inl ⟨by simp; omega, h1⟩) _).setCell (.inl ⟨by simp; omega, h1⟩) _).setCell (.inl ⟨by simp; omega, h1⟩) _ |>.setCell (.inl ⟨by simp; omega, h1⟩) _)
    · exact ((((((HU0.out.trans (Fresh.refl _ _) HU2.out).setCell (.inr (Nat.le_refl _)) _).setCell (.inr (Nat.le_refl _)) _).setCell (.inr (by simp)) _).setCell (.inr (by simp)) _).setCell (.inr (by simp)) _).setCell (.inr (by simp)) _
  · have hk' : (k == 3) = false := by simpa using hk
    go_enter Tryz.func76, Tryz.ntmps76
    go_wp2
    refine bodyPost_ret (v := .agg #[.int .i64 k, .bool nl, .int .i64 h, .int .i64 n]) (by simp [results, Tryz.results76, go_sem]) rfl ?_
    have hu : Upd T w ((w.alloc (.cells #[.int .i64 k, .bool nl, .int .i64 h, .int .i64 n] 35)).alloc (.cells #[.int .i64 k, .bool nl, .int .i64 h, .int .i64 n] 35)) := ((Upd.refl _ w).alloc _).alloc _
    refine ⟨T, by simp [phiV, hk, cellsV], ?_, hu, Fresh.refl _ _⟩
    simp only [phiV, hk, if_false]
    exact F.keep (F.less HJ.out (Nat.le_succ _)) (((Upd.refl _ w).alloc _).alloc _)
end
section
open Go.RowKit
structure Boxed {σ : Type} (J : σ → Nat → (Nat → Prop) → World → Prop) (c : Nat) (fv : Value) (ty : TypeId) (B' : Nat) (s : σ) (n : Nat) (T : Nat → Prop) (w : World) : Prop where
  j : J s n T w
  box : w.heap[c]? = some (.cells #[fv] ty (0, 0))
  lt : c < B'
  le : B' ≤ w.heap.size
  off : ¬ T c
variable {σ : Type}
set_option maxRecDepth 100000 in
set_option maxHeartbeats 8000000 in
theorem ask_ok {D : Hp → Prop} {f : FuncId} {cap : Array Value} {φ : σ → Hp → Hp × σ} {J : σ → Nat → (Nat → Prop) → World → Prop} {B : Nat} (F : FnOk Tryz.prog cellsH D f cap φ J B) (c B' : Nat) (hB : B ≤ B') :
    FnOk Tryz.prog cellsV (DV D) 75 #[.pointer (some ⟨c, 0, none⟩)] (phiV φ) (Boxed J c (.func (.func f) #[] cap) 110 B') B' where
  enter := fun _ _ => rfl
  lt := fun h => ⟨(F.lt h.j).1, h.le⟩
  keep := fun h u => ⟨F.keep h.j (u.mono fun k _ hk => ⟨Nat.le_trans hB hk.1, hk.2⟩), u.heap_some h.box (fun hk => by have := h.lt; omega), h.lt, Nat.le_trans h.le u.size, h.off⟩
  less := fun h hm => ⟨F.less h.j hm, h.box, h.lt, h.le, h.off⟩
  call := by
    intro s n T w x hd hj
    obtain ⟨k, nl, h, m⟩ := x
    rw [show cellsV ⟨k, nl, h, m⟩ = [.int .i64 k, .bool nl, .int .i64 h, .int .i64 m] from rfl]
    show Calls Tryz.prog 75 #[.agg #[.int .i64 k, .bool nl, .int .i64 h, .int .i64 m], .pointer (some ⟨c, 0, none⟩)] w _
    obtain ⟨W0, hW⟩ : ∃ W0 : World, W0 = ((w.alloc (.cells #[.int .i64 k, .bool nl, .int .i64 h, .int .i64 m] 35)).alloc (.cells #[.int .i64 0, .bool false, .int .i64 0, .int .i64 0] 35)) := ⟨_, rfl⟩
    have hu0 : Upd T w W0 := by rw [hW]; exact ((Upd.refl _ w).alloc _).alloc _
    have hsz : W0.heap.size = w.heap.size + 2 := by rw [hW]; simp
    have hc := mapVal_any F ⟨k, nl, h, m⟩ s n T W0 hd (F.keep hj.j (by rw [hW]; exact ((Upd.refl _ w).alloc _).alloc _))
    have z1 : W0.heap[w.heap.size + 1]? = some (.cells #[.int .i64 0, .bool false, .int .i64 0, .int .i64 0] 35 (0, 0)) := by rw [hW]; exact heap_alloc_at _ _ (by simp)
    have zc := hu0.heap_some hj.box hj.off
    have cc := heap_cell zc 0
    simp at cc
    have hnT : ∀ k, w.heap.size ≤ k → ¬ T k := fun k h1 hT => by have := (F.lt hj.j).1 k hT; omega
    have hcw := heap_lt hj.box
    obtain ⟨y, hy⟩ : ∃ y, (phiV φ s ⟨k, nl, h, m⟩).1 = y := ⟨_, rfl⟩
    rw [hy] at hc ⊢
    have HC := hid hc; have HW := hid hW; have HJ := hid hj; have HSZ := hid hsz; have Z1 := hid z1; have HU0 := hid hu0; have HN := hid hnT; have HCW := hid hcw; have HY := hid hy
    rw [hW] at cc
    clear hc hW hj hsz z1 hu0 zc hnT hd hcw hy
    go_enter Tryz.func75, Tryz.ntmps75
    go_wp2_with fail
    rw [← HW.out]
    refine HC.out.mono ?_
    rintro e w1 ⟨T2, he, hJ2, hU2, hF2⟩
    obtain rfl : e = .returned (.agg #[.int .i64 y.k, .bool y.nl, .int .i64 y.h, .int .i64 y.n]) := he
    have a1 := hU2.heap_some Z1.out (HN.out _ (by omega))
    have c10 := heap_cell a1 0; have c11 := heap_cell a1 1; have c12 := heap_cell a1 2; have c13 := heap_cell a1 3
    have f1 := fun i => heap_frozen a1 i
    have HJ2 := hid hJ2; have HU2 := hid hU2; have HF2 := hid hF2; have A1 := hid a1
    clear hJ2 hU2 hF2 a1 cc
    simp at c10 c11 c12 c13
    go_wp2
    refine bodyPost_ret (v := .agg #[.int .i64 y.k, .bool y.nl, .int .i64 y.h, .int .i64 y.n]) (by simp [results, Tryz.results75, go_sem, c10, c11, c12, c13]) rfl ?_
    have hle : B' ≤ w.heap.size := HJ.out.le
    have h1 : ¬ T2 (w.heap.size + 1) := HF2.out.off (HN.out _ (by omega)) (by rw [HSZ.out]; omega)
    have hc2 : ¬ T2 c := HF2.out.off HJ.out.off (by rw [HSZ.out]; have := HCW.out; omega)
    have uu : Upd T w w1 := HU0.out.trans (Fresh.refl _ _) HU2.out
    have uf : Upd T w ((((w1.setCell ⟨w.heap.size + 1, 0, none⟩ (.int .i64 y.k)).setCell ⟨w.heap.size + 1, 1, none⟩ (.bool y.nl)).setCell ⟨w.heap.size + 1, 2, none⟩ (.int .i64 y.h)).setCell ⟨w.heap.size + 1, 3, none⟩ (.int .i64 y.n)) := (((uu.setCell (.inr (by simp)) _).setCell (.inr (by simp)) _).setCell (.inr (by simp)) _).setCell (.inr (by simp)) _
    refine ⟨T2, rfl, ⟨?_, uf.heap_some HJ.out.box HJ.out.off, HJ.out.lt, Nat.le_trans hle uf.size, hc2⟩, uf, (Fresh.refl T w).trans HF2.out HU0.out.size⟩
    exact F.keep HJ2.out (((((Upd.refl _ w1).setCell (.inl ⟨by simp; omega, h1⟩) _).setCell (.inl ⟨by simp; omega, h1⟩) _).setCell (.inl ⟨by simp; omega, h1⟩) _).setCell (.inl ⟨by simp; omega, h1⟩) _)
set_option maxRecDepth 100000 in
set_option maxHeartbeats 8000000 in
theorem field_ok {D : Hp → Prop} {f : FuncId} {cap : Array Value} {φ : σ → Hp → Hp × σ} {J : σ → Nat → (Nat → Prop) → World → Prop} {B : Nat} (F : FnOk Tryz.prog cellsV (DV D) f cap (phiV φ) J B) (c B' : Nat) (hB : B ≤ B') :
    FnOk Tryz.prog cellsF (fun x => DV D x.v) 81 #[.pointer (some ⟨c, 0, none⟩)] (phiF φ) (Boxed J c (.func (.func f) #[] cap) 151 B') B' where
  enter := fun _ _ => rfl
  lt := fun h => ⟨(F.lt h.j).1, h.le⟩
  keep := fun h u => ⟨F.keep h.j (u.mono fun k _ hk => ⟨Nat.le_trans hB hk.1, hk.2⟩), u.heap_some h.box (fun hk => by have := h.lt; omega), h.lt, Nat.le_trans h.le u.size, h.off⟩
  less := fun h hm => ⟨F.less h.j hm, h.box, h.lt, h.le, h.off⟩
  call := by
    intro s n T w x hd hj
    obtain ⟨p, ⟨k, nl, h, m⟩, mu⟩ := x
    rw [show cellsF ⟨p, ⟨k, nl, h, m⟩, mu⟩ = [.int .i64 p, .int .i64 k, .bool nl, .int .i64 h, .int .i64 m, .bool mu] from rfl]
    show Calls Tryz.prog 81 #[.agg #[.int .i64 p, .int .i64 k, .bool nl, .int .i64 h, .int .i64 m, .bool mu], .pointer (some ⟨c, 0, none⟩)] w _
    obtain ⟨W0, hW⟩ : ∃ W0 : World, W0 = ((w.alloc (.cells #[.int .i64 p, .int .i64 k, .bool nl, .int .i64 h, .int .i64 m, .bool mu] 39)).alloc (.cells #[.int .i64 0, .int .i64 0, .bool false, .int .i64 0, .int .i64 0, .bool false] 39)) := ⟨_, rfl⟩
    have hu0 : Upd T w W0 := by rw [hW]; exact ((Upd.refl _ w).alloc _).alloc _
    have hsz : W0.heap.size = w.heap.size + 2 := by rw [hW]; simp
    have hen := F.enter
    have hc := F.call ⟨k, nl, h, m⟩ hd (F.keep hj.j (w' := W0) (by rw [hW]; exact ((Upd.refl _ w).alloc _).alloc _))
    have z0 : W0.heap[w.heap.size]? = some (.cells #[.int .i64 p, .int .i64 k, .bool nl, .int .i64 h, .int .i64 m, .bool mu] 39 (0, 0)) := by rw [hW]; exact heap_alloc_keep (heap_alloc_at _ _ rfl) _
    have z1 : W0.heap[w.heap.size + 1]? = some (.cells #[.int .i64 0, .int .i64 0, .bool false, .int .i64 0, .int .i64 0, .bool false] 39 (0, 0)) := by rw [hW]; exact heap_alloc_at _ _ (by simp)
    have zc := hu0.heap_some hj.box hj.off
    have cc := heap_cell zc 0
    simp at cc
    have hnT : ∀ k, w.heap.size ≤ k → ¬ T k := fun k h1 hT => by have := (F.lt hj.j).1 k hT; omega
    have hcw := heap_lt hj.box
    obtain ⟨y, hy⟩ : ∃ y, (phiV φ s ⟨k, nl, h, m⟩).1 = y := ⟨_, rfl⟩
    rw [show phiF φ s ⟨p, ⟨k, nl, h, m⟩, mu⟩ = (⟨p, (phiV φ s ⟨k, nl, h, m⟩).1, mu⟩, (phiV φ s ⟨k, nl, h, m⟩).2) from rfl]
    dsimp only
    rw [hy] at hc ⊢
    have HC := hid hc; have HW := hid hW; have HJ := hid hj; have HSZ := hid hsz; have Z0 := hid z0; have Z1 := hid z1; have HU0 := hid hu0; have HN := hid hnT; have HCW := hid hcw; have HY := hid hy
    rw [hW] at cc
    clear hc hW hj hsz z1 z0 hu0 zc hnT hd hcw hy
    go_enter Tryz.func81, Tryz.ntmps81
    go_wp2_with fail
    rw [← HW.out]
    refine HC.out.mono ?_
    rintro e w1 ⟨T2, he, hJ2, hU2, hF2⟩
    obtain rfl : e = .returned (.agg #[.int .i64 y.k, .bool y.nl, .int .i64 y.h, .int .i64 y.n]) := he
    have a0 := hU2.heap_some Z0.out (HN.out _ (by omega))
    have c00 := heap_cell a0 0; have c01 := heap_cell a0 1; have c02 := heap_cell a0 2; have c03 := heap_cell a0 3; have c04 := heap_cell a0 4; have c05 := heap_cell a0 5
    have f0 := fun i => heap_frozen a0 i
    have a1 := hU2.heap_some Z1.out (HN.out _ (by omega))
    have c10 := heap_cell a1 0; have c11 := heap_cell a1 1; have c12 := heap_cell a1 2; have c13 := heap_cell a1 3; have c14 := heap_cell a1 4; have c15 := heap_cell a1 5
    have f1 := fun i => heap_frozen a1 i
    have HJ2 := hid hJ2; have HU2 := hid hU2; have HF2 := hid hF2; have A1 := hid a1; have A0 := hid a0
    clear hJ2 hU2 hF2 a1 a0 cc hen
    simp at c00 c01 c02 c03 c04 c05 c10 c11 c12 c13 c14 c15
    go_wp2
    refine bodyPost_ret (v := .agg #[.int .i64 p, .int .i64 y.k, .bool y.nl, .int .i64 y.h, .int .i64 y.n, .bool mu]) (by simp [results, Tryz.results81, go_sem, c10, c11, c12, c13, c14, c15]) rfl ?_
    have hle : B' ≤ w.heap.size := HJ.out.le
    have h0 : ¬ T2 (w.heap.size) := HF2.out.off (HN.out _ (by omega)) (by rw [HSZ.out]; omega)
    have h1 : ¬ T2 (w.heap.size + 1) := HF2.out.off (HN.out _ (by omega)) (by rw [HSZ.out]; omega)
    have hc2 : ¬ T2 c := HF2.out.off HJ.out.off (by rw [HSZ.out]; have := HCW.out; omega)
    have uu : Upd T w w1 := HU0.out.trans (Fresh.refl _ _) HU2.out
    have hB0 : B ≤ w.heap.size ∧ ¬ T2 w.heap.size := ⟨by omega, h0⟩
    have hB1 : B ≤ w.heap.size + 1 ∧ ¬ T2 (w.heap.size + 1) := ⟨by omega, h1⟩
    have key : ∀ {S : Nat → Prop} {a : World}, (S w.heap.size ∨ a.heap.size ≤ w.heap.size) → (S (w.heap.size + 1) ∨ a.heap.size ≤ w.heap.size + 1) → Upd S a w1 → Upd S a ((((((((((w1.setCell ⟨w.heap.size, 1, none⟩ (.int .i64 y.k)).setCell ⟨w.heap.size, 2, none⟩ (.bool y.nl)).setCell ⟨w.heap.size, 3, none⟩ (.int .i64 y.h)).setCell ⟨w.heap.size, 4, none⟩ (.int .i64 y.n)).setCell ⟨w.heap.size + 1, 0, none⟩ (.int .i64 p)).setCell ⟨w.heap.size + 1, 1, none⟩ (.int .i64 y.k)).setCell ⟨w.heap.size + 1, 2, none⟩ (.bool y.nl)).setCell ⟨w.heap.size + 1, 3, none⟩ (.int .i64 y.h)).setCell ⟨w.heap.size + 1, 4, none⟩ (.int .i64 y.n)).setCell ⟨w.heap.size + 1, 5, none⟩ (.bool mu)) :=
      fun g0 g1 u => (((((((((u.setCell g0 _).setCell g0 _).setCell g0 _).setCell g0 _).setCell g1 _).setCell g1 _).setCell g1 _).setCell g1 _).setCell g1 _).setCell g1 _
    have uf := key (S := T) (a := w) (.inr (Nat.le_refl _)) (.inr (Nat.le_succ _)) uu
    have uk := key (S := fun b => B ≤ b ∧ ¬ T2 b) (a := w1) (.inl hB0) (.inl hB1) (Upd.refl _ _)
    refine ⟨T2, rfl, ⟨F.keep HJ2.out uk, uf.heap_some HJ.out.box HJ.out.off, HJ.out.lt, Nat.le_trans hle uf.size, hc2⟩, uf, (Fresh.refl T w).trans HF2.out HU0.out.size⟩
end
section
open Go.RowKit
theorem map_idle (p : Addr) (w : World) :
    CallsD Tryz.prog 74 #[.pointer (some p)] .returning w fun e u' w' => e = .returned (.tuple #[]) ∧ u' = .returning ∧ w' = w := by
  refine callsD_of_wpS Tryz.func74 rfl fun c₀ cs hu => ?_
  apply wpS_seq
  apply wpS_region
  simp [wpOpsS, go_sem, recoverD, hu, Tryz.ntmps74, Exit.thenS]
  refine wpS_cond (t := false) (by simp [Act.eval, Array.replicate]) ?_
  simp only [Bool.false_eq_true, if_false]
  refine wpS_of_wp (wp_skip ?_)
  cases c₀
  simp_all [bodyPostS, results, Tryz.results74]
variable {σ : Type}
def mapSub (φ : σ → Hp → Hp × σ) (s : σ) (x : Sb) : Sb × σ :=
  let a := mapS φ s x.sups
  let b := mapS (phiV φ) a.2 x.ps
  let c := mapS (phiV φ) b.2 x.rs
  let d := mapS (phiF φ) c.2 x.fs
  (⟨x.fin, a.1, x.k, b.1, c.1, d.1⟩, d.2)
structure DS (D : Hp → Prop) (x : Sb) : Prop where
  sups : ∀ h ∈ x.sups, D h
  ps : ∀ v ∈ x.ps, DV D v
  rs : ∀ v ∈ x.rs, DV D v
  fs : ∀ f ∈ x.fs, DV D f.v
def cnt (x : Sb) : Nat := x.sups.length + (x.ps.length + (x.rs.length + x.fs.length))
structure MapSt (T : Nat → Prop) (w : World) (cs : List Value) (fv av : Value) (told : List Value) (Ti : Nat → Prop) (W : World) : Prop where
  a0 : W.heap[w.heap.size]? = some (.cells cs.toArray 46 (0, 0))
  a1 : W.heap[w.heap.size + 1]? = some (.cells #[fv] 110 (0, 0))
  a2 : W.heap[w.heap.size + 1 + 1]? = some (.cells told.toArray 46 (0, 0))
  a3 : W.heap[w.heap.size + 1 + 1 + 1]? = some (.cells #[av] 151 (0, 0))
  n : ∀ i, i < 4 → ¬ Ti (w.heap.size + i)
  hu : Upd T w W
  hf : Fresh T w Ti
variable {T Ti Tj : Nat → Prop} {w W W' : World} {cs told : List Value} {fv av : Value}
theorem MapSt.size (h : MapSt T w cs fv av told Ti W) : w.heap.size + 4 ≤ W.heap.size := heap_lt h.a3
theorem MapSt.call (h : MapSt T w cs fv av told Ti W) (u : Upd Ti W W') (f : Fresh Ti W Tj) : MapSt T w cs fv av told Tj W' :=
  ⟨u.heap_some h.a0 (h.n 0 (by omega)), u.heap_some h.a1 (h.n 1 (by omega)), u.heap_some h.a2 (h.n 2 (by omega)), u.heap_some h.a3 (h.n 3 (by omega)),
   fun i hi => f.off (h.n i hi) (by have := h.size; omega), h.hu.trans h.hf u, h.hf.trans f h.hu.size⟩
theorem MapSt.set (h : MapSt T w cs fv av told Ti W) (i : Nat) (u : Value) : MapSt T w cs fv av (told.set i u) Ti (W.setCell ⟨w.heap.size + 1 + 1, i, none⟩ u) :=
  ⟨heap_set_off h.a0 (by simp; omega) _, heap_set_off h.a1 (by simp) _, by have := heap_set_at h.a2 i u; simpa using this, heap_set_off h.a3 (by simp) _, h.n, h.hu.setCell (.inr (by simp; omega)) _, h.hf⟩
theorem MapSt.cells (h : MapSt T w cs fv av told Ti W) : (∀ i, W.cell? ⟨w.heap.size, i, none⟩ = cs[i]?) ∧ W.cell? ⟨w.heap.size + 1, 0, none⟩ = some fv ∧ (∀ i, W.cell? ⟨w.heap.size + 1 + 1, i, none⟩ = told[i]?) ∧ W.cell? ⟨w.heap.size + 1 + 1 + 1, 0, none⟩ = some av ∧ (∀ i, W.frozen? ⟨w.heap.size + 1 + 1, i, none⟩ = false) :=
  ⟨fun i => by rw [heap_cell h.a0]; simp, by rw [heap_cell h.a1]; simp, fun i => by rw [heap_cell h.a2]; simp, by rw [heap_cell h.a3]; simp, fun i => heap_frozen h.a2 i⟩
theorem MapSt.upd {B : Nat} (h : MapSt T w cs fv av told Ti W) (hB : B ≤ w.heap.size) (i : Nat) (u : Value) : Upd (fun b => B ≤ b ∧ ¬ Ti b) W (W.setCell ⟨w.heap.size + 1 + 1, i, none⟩ u) :=
  (Upd.refl _ W).setCell (.inl ⟨by simp; omega, h.n 2 (by omega)⟩) _
structure Held (w : World) (e : TypeId) (size : Nat) (u : Value) (n : Nat) (xs : List Value) (Ti : Nat → Prop) (W : World) : Prop where
  row : W.ownsRow (w.heap.size + 4) e size u n xs
  off : ∀ b, u.ownBlock = some b → ¬ Ti b
theorem Held.call {e : TypeId} {size n : Nat} {u : Value} {xs : List Value} (h : Held w e size u n xs Ti W) (k : Upd Ti W W') (f : Fresh Ti W Tj) : Held w e size u n xs Tj W' :=
  ⟨ownsRow_upd h.row k h.off, fun b hb => f.off (h.off b hb) (h.row.lt b hb).2⟩
theorem Held.set {e : TypeId} {size n : Nat} {u : Value} {xs : List Value} (h : Held w e size u n xs Ti W) (i : Nat) (v : Value) : Held w e size u n xs Ti (W.setCell ⟨w.heap.size + 1 + 1, i, none⟩ v) :=
  ⟨ownsRow_upd h.row ((Upd.refl (fun k => k = w.heap.size + 1 + 1) W).setCell (.inl rfl) v) (fun b hb e => by have := (h.row.lt b hb).1; omega), h.off⟩
theorem Held.end {e : TypeId} {size n : Nat} {u : Value} {xs : List Value} (h : Held w e size u n xs Ti W) {w'' : World} (k : Upd (fun b => b < w.heap.size ∨ Ti b) W w'') : RowAt w'' size u n xs :=
  RowAt.of_own (ownsRow_upd h.row k fun b hb hk => by have := (h.row.lt b hb).1; rcases hk with hk | hk; omega; exact h.off b hb hk)
set_option maxRecDepth 100000 in
set_option maxHeartbeats 16000000 in
theorem map_any {D : Hp → Prop} {f : FuncId} {cap : Array Value} {φ : σ → Hp → Hp × σ} {J : σ → Nat → (Nat → Prop) → World → Prop} {B : Nat} (F : FnOk Tryz.prog cellsH D f cap φ J B)
    (cs : List Value) (x : Sb) (s : σ) (m : Nat) (T : Nat → Prop) (w : World) (hx : ∀ w', Upd T w w' → SubAt w' cs x) (hm : Small x) (hd : DS D x) (hj : J s (cnt x + m) T w) :
    Calls Tryz.prog 43 #[.agg cs.toArray, .func (.func f) #[] cap] w fun e w' => ∃ ds, e = .returned (.agg ds.toArray) ∧ ∃ T', (∀ w'', Upd (fun b => b < w.heap.size ∨ T' b) w' w'' → SubAt w'' ds (mapSub φ s x).1) ∧ J (mapSub φ s x).2 m T' w' ∧ Upd T w w' ∧ Fresh T w T' := by
  obtain ⟨vs, vp, vr, vf, rfl, _, _, _, _⟩ := (hx w (Upd.refl _ _)).ex
  have hR : ∀ w', Upd T w w' → HpsAt w' vs x.sups ∧ ValsAt w' vp x.ps ∧ ValsAt w' vr x.rs ∧ FlsAt w' vf x.fs := fun w' hu => by
    obtain ⟨_, _, _, _, e, h1, h2, h3, h4⟩ := (hx w' hu).ex
    simp only [List.cons.injEq, and_true] at e
    obtain ⟨_, rfl, _, rfl, rfl, rfl⟩ := e
    exact ⟨h1, h2, h3, h4⟩
  obtain ⟨fin, sups, k, lp, lr, lf⟩ := x
  dsimp only [cnt] at hR hj ⊢
  have hmf : ∀ (fn : Fn) (first cap : Array Value) (w : World), (Instr.makeFunc fn first cap).run Tryz.prog w = .ok (.func fn first cap) w := fun _ _ _ _ => rfl
  have hnf : ∀ w : World, (binOp BinOp.eql 110 (.func (.func f) #[] cap) .nilFunc).run Tryz.prog w = .ok (.bool false) w := fun _ => by rfl
  have hst : ∀ (fn : Fn) (first cap : Array Value) (a : Addr) (w : World), (store a (.func fn first cap)).run Tryz.prog w = stored Tryz.prog w a (.func fn first cap) .plain := fun _ _ _ _ _ => run_store _ _ _ _ _ rfl
  have hB : B ≤ w.heap.size := (F.lt hj).2
  have hTw := (F.lt hj).1
  obtain ⟨W0, hW⟩ : ∃ W0 : World, W0 = ((((w.alloc (.cells #[.bool fin, vs, .int .i64 k, vp, vr, vf] 46)).alloc (.cells #[.func (.func f) #[] cap] 110)).alloc (.cells #[.bool fin, .slice none 0 0, .int .i64 0, .slice none 0 0, .slice none 0 0, .slice none 0 0] 46)).alloc (.cells #[.func (.func 75) #[] #[.pointer (some ⟨w.heap.size + 1, 0, none⟩)]] 151)) := ⟨_, rfl⟩
  have hu0 : Upd T w W0 := by rw [hW]; exact ((((Upd.refl _ w).alloc _).alloc _).alloc _).alloc _
  have S0 : MapSt T w [.bool fin, vs, .int .i64 k, vp, vr, vf] (.func (.func f) #[] cap) (.func (.func 75) #[] #[.pointer (some ⟨w.heap.size + 1, 0, none⟩)]) [.bool fin, .slice none 0 0, .int .i64 0, .slice none 0 0, .slice none 0 0, .slice none 0 0] T W0 :=
    ⟨by rw [hW]; exact heap_alloc_keep (heap_alloc_keep (heap_alloc_keep (heap_alloc_at _ _ rfl) _) _) _, by rw [hW]; exact heap_alloc_keep (heap_alloc_keep (heap_alloc_at _ _ (by simp)) _) _, by rw [hW]; exact heap_alloc_keep (heap_alloc_at _ _ (by simp)) _, by rw [hW]; exact heap_alloc_at _ _ (by simp), fun i _ h => by have := hTw _ h; omega, hu0, Fresh.refl _ _⟩
  have hj0 : J s (sups.length + (lp.length + (lr.length + (lf.length + m)))) T W0 := by
    rw [show sups.length + (lp.length + (lr.length + lf.length)) + m = sups.length + (lp.length + (lr.length + (lf.length + m))) by omega] at hj
    exact F.keep hj (by rw [hW]; exact ((((Upd.refl _ w).alloc _).alloc _).alloc _).alloc _)
  have HR := hid hR; have HM := hid hm; have HD := hid hd; have HW := hid hW; have HS0 := hid S0; have HJ0 := hid hj0; have HB := hid hB
  clear hR hm hd S0 hj0 hB hTw hu0 hj hx
  go_enter_defers Tryz.func43, Tryz.ntmps43
  go_wp2_with fail
  rw [← HW.out]
  refine (eachH_any F vs sups s _ T W0 (fun w' hu => (HR.out w' (HS0.out.hu.trans (Fresh.refl _ _) hu)).1) HM.out.sups HD.out.sups HJ0.out).mono ?_
  rintro e w1 ⟨u1, rfl, o1, T1, n1, j1, hu1, hf1⟩
  obtain ⟨s1, hs1⟩ : ∃ s1, (mapS φ s sups).2 = s1 := ⟨_, rfl⟩
  obtain ⟨l1, hl1⟩ : ∃ l1, (mapS φ s sups).1 = l1 := ⟨_, rfl⟩
  rw [hs1] at j1
  rw [hl1] at o1
  obtain ⟨ao1, cp1, rfl, _⟩ := ownsRow_form o1
  have S1 := HS0.out.call hu1 hf1
  have K1 : Held w _ _ _ _ _ T1 w1 := ⟨ownsRow_low o1 HS0.out.size, n1⟩
  obtain ⟨c1, c2, c3, c4, z1⟩ := S1.cells
  have c10 := c1 0; have c11 := c1 1; have c12 := c1 2; have c13 := c1 3; have c14 := c1 4; have c15 := c1 5
  have c30 := c3 0; have c31 := c3 1; have c32 := c3 2; have c33 := c3 3; have c34 := c3 4; have c35 := c3 5
  simp at c10 c11 c12 c13 c14 c15 c30 c31 c32 c33 c34 c35
  have HS1 := hid S1; have HK1 := hid K1; have HJ1 := hid j1; have HU1 := hid hu1; have HF1 := hid hf1; have HS_1 := hid hs1; have HL_1 := hid hl1
  clear S1 K1 j1 hu1 hf1 o1 n1 hs1 hl1 c1 c3
  -- PRINTED by mkmap.py
  obtain ⟨V2, hV2⟩ : ∃ V2, V2 = ((w1.setCell ⟨w.heap.size + 1 + 1, 1, none⟩ (.slice ao1 sups.length cp1)).setCell ⟨w.heap.size + 1 + 1, 2, none⟩ (.int .i64 k)) := ⟨_, rfl⟩
  have P2 := ((HS1.out.set 1 (.slice ao1 sups.length cp1)).set 2 (.int .i64 k))
  rw [← hV2] at P2
  have j1' := (F.keep (F.keep HJ1.out (HS1.out.upd HB.out 1 (.slice ao1 sups.length cp1))) ((HS1.out.set 1 (.slice ao1 sups.length cp1)).upd HB.out 2 (.int .i64 k)))
  rw [← hV2] at j1'
  have G1 := ((HK1.out.set 1 (.slice ao1 sups.length cp1)).set 2 (.int .i64 k))
  rw [← hV2] at G1
  have HV2 := hid hV2; have HP2 := hid P2; have HJV2 := hid j1'
  have HG1 := hid G1
  clear hV2 P2 j1' G1
  clear HK1
  go_wp2_with fail
  rw [← HV2.out]
  refine (eachV_any (ask_ok F (w.heap.size + 1) (w.heap.size + 4) (by have := HB.out; omega)) vp lp s1 _ T1 V2 (fun w' hu => (HR.out w' (HP2.out.hu.trans HP2.out.hf hu)).2.1) HM.out.ps HD.out.ps ⟨HJV2.out, HP2.out.a1, by omega, HP2.out.size, HP2.out.n 1 (by omega)⟩).mono ?_
  rintro e w2 ⟨u2, rfl, o2, T2, n2, j2, hu2, hf2⟩
  obtain ⟨s2, hs2⟩ : ∃ s2, (mapS (phiV φ) s1 lp).2 = s2 := ⟨_, rfl⟩
  obtain ⟨l2, hl2⟩ : ∃ l2, (mapS (phiV φ) s1 lp).1 = l2 := ⟨_, rfl⟩
  rw [hs2] at j2
  rw [hl2] at o2
  obtain ⟨ao2, cp2, rfl, _⟩ := ownsRow_form o2
  have S2 := HP2.out.call hu2 hf2
  have K1 := HG1.out.call hu2 hf2
  have K2 : Held w _ _ _ _ _ T2 w2 := ⟨ownsRow_low o2 HP2.out.size, n2⟩
  have j2' := j2.j
  clear c10 c11 c12 c13 c14 c15 c30 c31 c32 c33 c34 c35 c2 c4 z1
  obtain ⟨c1, c2, c3, c4, z1⟩ := S2.cells
  have c10 := c1 0
  have c11 := c1 1
  have c12 := c1 2
  have c13 := c1 3
  have c14 := c1 4
  have c15 := c1 5
  have c30 := c3 0
  have c31 := c3 1
  have c32 := c3 2
  have c33 := c3 3
  have c34 := c3 4
  have c35 := c3 5
  simp at c10 c11 c12 c13 c14 c15 c30 c31 c32 c33 c34 c35
  have HS2 := hid S2; have HJ2 := hid j2'; have HS_2 := hid hs2; have HL_2 := hid hl2
  have HK1 := hid K1
  have HK2 := hid K2
  clear S2 j2 j2' hu2 hf2 o2 n2 hs2 hl2 c1 c3 K1 K2
  clear HG1
  obtain ⟨V3, hV3⟩ : ∃ V3, V3 = (w2.setCell ⟨w.heap.size + 1 + 1, 3, none⟩ (.slice ao2 lp.length cp2)) := ⟨_, rfl⟩
  have P3 := (HS2.out.set 3 (.slice ao2 lp.length cp2))
  rw [← hV3] at P3
  have j2' := (F.keep HJ2.out (HS2.out.upd HB.out 3 (.slice ao2 lp.length cp2)))
  rw [← hV3] at j2'
  have G1 := (HK1.out.set 3 (.slice ao2 lp.length cp2))
  rw [← hV3] at G1
  have G2 := (HK2.out.set 3 (.slice ao2 lp.length cp2))
  rw [← hV3] at G2
  have HV3 := hid hV3; have HP3 := hid P3; have HJV3 := hid j2'
  have HG1 := hid G1
  have HG2 := hid G2
  clear hV3 P3 j2' G1 G2
  clear HK1 HK2
  go_wp2_with fail
  rw [← HV3.out]
  refine (eachV_any (ask_ok F (w.heap.size + 1) (w.heap.size + 4) (by have := HB.out; omega)) vr lr s2 _ T2 V3 (fun w' hu => (HR.out w' (HP3.out.hu.trans HP3.out.hf hu)).2.2.1) HM.out.rs HD.out.rs ⟨HJV3.out, HP3.out.a1, by omega, HP3.out.size, HP3.out.n 1 (by omega)⟩).mono ?_
  rintro e w3 ⟨u3, rfl, o3, T3, n3, j3, hu3, hf3⟩
  obtain ⟨s3, hs3⟩ : ∃ s3, (mapS (phiV φ) s2 lr).2 = s3 := ⟨_, rfl⟩
  obtain ⟨l3, hl3⟩ : ∃ l3, (mapS (phiV φ) s2 lr).1 = l3 := ⟨_, rfl⟩
  rw [hs3] at j3
  rw [hl3] at o3
  obtain ⟨ao3, cp3, rfl, _⟩ := ownsRow_form o3
  have S3 := HP3.out.call hu3 hf3
  have K1 := HG1.out.call hu3 hf3
  have K2 := HG2.out.call hu3 hf3
  have K3 : Held w _ _ _ _ _ T3 w3 := ⟨ownsRow_low o3 HP3.out.size, n3⟩
  have j3' := j3.j
  clear c10 c11 c12 c13 c14 c15 c30 c31 c32 c33 c34 c35 c2 c4 z1
  obtain ⟨c1, c2, c3, c4, z1⟩ := S3.cells
  have c10 := c1 0
  have c11 := c1 1
  have c12 := c1 2
  have c13 := c1 3
  have c14 := c1 4
  have c15 := c1 5
  have c30 := c3 0
  have c31 := c3 1
  have c32 := c3 2
  have c33 := c3 3
  have c34 := c3 4
  have c35 := c3 5
  simp at c10 c11 c12 c13 c14 c15 c30 c31 c32 c33 c34 c35
  have HS3 := hid S3; have HJ3 := hid j3'; have HS_3 := hid hs3; have HL_3 := hid hl3
  have HK1 := hid K1
  have HK2 := hid K2
  have HK3 := hid K3
  clear S3 j3 j3' hu3 hf3 o3 n3 hs3 hl3 c1 c3 K1 K2 K3
  clear HG1 HG2
  obtain ⟨V4, hV4⟩ : ∃ V4, V4 = (w3.setCell ⟨w.heap.size + 1 + 1, 4, none⟩ (.slice ao3 lr.length cp3)) := ⟨_, rfl⟩
  have P4 := (HS3.out.set 4 (.slice ao3 lr.length cp3))
  rw [← hV4] at P4
  have j3' := (F.keep HJ3.out (HS3.out.upd HB.out 4 (.slice ao3 lr.length cp3)))
  rw [← hV4] at j3'
  have G1 := (HK1.out.set 4 (.slice ao3 lr.length cp3))
  rw [← hV4] at G1
  have G2 := (HK2.out.set 4 (.slice ao3 lr.length cp3))
  rw [← hV4] at G2
  have G3 := (HK3.out.set 4 (.slice ao3 lr.length cp3))
  rw [← hV4] at G3
  have HV4 := hid hV4; have HP4 := hid P4; have HJV4 := hid j3'
  have HG1 := hid G1
  have HG2 := hid G2
  have HG3 := hid G3
  clear hV4 P4 j3' G1 G2 G3
  clear HK1 HK2 HK3
  go_wp2_with fail
  rw [← HV4.out]
  refine (eachF_any (field_ok (ask_ok F (w.heap.size + 1) (w.heap.size + 4) (by have := HB.out; omega)) (w.heap.size + 1 + 1 + 1) (w.heap.size + 4) (Nat.le_refl _)) vf lf s3 m T3 V4 (fun w' hu => (HR.out w' (HP4.out.hu.trans HP4.out.hf hu)).2.2.2) HM.out.fs HD.out.fs ⟨⟨HJV4.out, HP4.out.a1, by omega, HP4.out.size, HP4.out.n 1 (by omega)⟩, HP4.out.a3, by omega, HP4.out.size, HP4.out.n 3 (by omega)⟩).mono ?_
  rintro e w4 ⟨u4, rfl, o4, T4, n4, j4, hu4, hf4⟩
  obtain ⟨s4, hs4⟩ : ∃ s4, (mapS (phiF φ) s3 lf).2 = s4 := ⟨_, rfl⟩
  obtain ⟨l4, hl4⟩ : ∃ l4, (mapS (phiF φ) s3 lf).1 = l4 := ⟨_, rfl⟩
  rw [hs4] at j4
  rw [hl4] at o4
  obtain ⟨ao4, cp4, rfl, _⟩ := ownsRow_form o4
  have S4 := HP4.out.call hu4 hf4
  have K1 := HG1.out.call hu4 hf4
  have K2 := HG2.out.call hu4 hf4
  have K3 := HG3.out.call hu4 hf4
  have K4 : Held w _ _ _ _ _ T4 w4 := ⟨ownsRow_low o4 HP4.out.size, n4⟩
  have j4' := j4.j.j
  clear c10 c11 c12 c13 c14 c15 c30 c31 c32 c33 c34 c35 c2 c4 z1
  obtain ⟨c1, c2, c3, c4, z1⟩ := S4.cells
  have c10 := c1 0
  have c11 := c1 1
  have c12 := c1 2
  have c13 := c1 3
  have c14 := c1 4
  have c15 := c1 5
  have c30 := c3 0
  have c31 := c3 1
  have c32 := c3 2
  have c33 := c3 3
  have c34 := c3 4
  have c35 := c3 5
  simp at c10 c11 c12 c13 c14 c15 c30 c31 c32 c33 c34 c35
  have HS4 := hid S4; have HJ4 := hid j4'; have HS_4 := hid hs4; have HL_4 := hid hl4
  have HK1 := hid K1
  have HK2 := hid K2
  have HK3 := hid K3
  have HK4 := hid K4
  clear S4 j4 j4' hu4 hf4 o4 n4 hs4 hl4 c1 c3 K1 K2 K3 K4
  clear HG1 HG2 HG3
  go_wp2
  obtain ⟨V5, hV5⟩ : ∃ V5, V5 = (((((((w4.setCell ⟨w.heap.size + 1 + 1, 5, none⟩ (.slice ao4 lf.length cp4)).setCell ⟨w.heap.size + 1 + 1, 0, none⟩ (.bool fin)).setCell ⟨w.heap.size + 1 + 1, 1, none⟩ (.slice ao1 sups.length cp1)).setCell ⟨w.heap.size + 1 + 1, 2, none⟩ (.int .i64 k)).setCell ⟨w.heap.size + 1 + 1, 3, none⟩ (.slice ao2 lp.length cp2)).setCell ⟨w.heap.size + 1 + 1, 4, none⟩ (.slice ao3 lr.length cp3)).setCell ⟨w.heap.size + 1 + 1, 5, none⟩ (.slice ao4 lf.length cp4)) := ⟨_, rfl⟩
  have P5 := (((((((HS4.out.set 5 (.slice ao4 lf.length cp4)).set 0 (.bool fin)).set 1 (.slice ao1 sups.length cp1)).set 2 (.int .i64 k)).set 3 (.slice ao2 lp.length cp2)).set 4 (.slice ao3 lr.length cp3)).set 5 (.slice ao4 lf.length cp4))
  rw [← hV5] at P5
  have j5 := (F.keep (F.keep (F.keep (F.keep (F.keep (F.keep (F.keep HJ4.out (HS4.out.upd HB.out 5 (.slice ao4 lf.length cp4))) ((HS4.out.set 5 (.slice ao4 lf.length cp4)).upd HB.out 0 (.bool fin))) (((HS4.out.set 5 (.slice ao4 lf.length cp4)).set 0 (.bool fin)).upd HB.out 1 (.slice ao1 sups.length cp1))) ((((HS4.out.set 5 (.slice ao4 lf.length cp4)).set 0 (.bool fin)).set 1 (.slice ao1 sups.length cp1)).upd HB.out 2 (.int .i64 k))) (((((HS4.out.set 5 (.slice ao4 lf.length cp4)).set 0 (.bool fin)).set 1 (.slice ao1 sups.length cp1)).set 2 (.int .i64 k)).upd HB.out 3 (.slice ao2 lp.length cp2))) ((((((HS4.out.set 5 (.slice ao4 lf.length cp4)).set 0 (.bool fin)).set 1 (.slice ao1 sups.length cp1)).set 2 (.int .i64 k)).set 3 (.slice ao2 lp.length cp2)).upd HB.out 4 (.slice ao3 lr.length cp3))) (((((((HS4.out.set 5 (.slice ao4 lf.length cp4)).set 0 (.bool fin)).set 1 (.slice ao1 sups.length cp1)).set 2 (.int .i64 k)).set 3 (.slice ao2 lp.length cp2)).set 4 (.slice ao3 lr.length cp3)).upd HB.out 5 (.slice ao4 lf.length cp4)))
  rw [← hV5] at j5
  have G1 := (((((((HK1.out.set 5 (.slice ao4 lf.length cp4)).set 0 (.bool fin)).set 1 (.slice ao1 sups.length cp1)).set 2 (.int .i64 k)).set 3 (.slice ao2 lp.length cp2)).set 4 (.slice ao3 lr.length cp3)).set 5 (.slice ao4 lf.length cp4))
  rw [← hV5] at G1
  have G2 := (((((((HK2.out.set 5 (.slice ao4 lf.length cp4)).set 0 (.bool fin)).set 1 (.slice ao1 sups.length cp1)).set 2 (.int .i64 k)).set 3 (.slice ao2 lp.length cp2)).set 4 (.slice ao3 lr.length cp3)).set 5 (.slice ao4 lf.length cp4))
  rw [← hV5] at G2
  have G3 := (((((((HK3.out.set 5 (.slice ao4 lf.length cp4)).set 0 (.bool fin)).set 1 (.slice ao1 sups.length cp1)).set 2 (.int .i64 k)).set 3 (.slice ao2 lp.length cp2)).set 4 (.slice ao3 lr.length cp3)).set 5 (.slice ao4 lf.length cp4))
  rw [← hV5] at G3
  have G4 := (((((((HK4.out.set 5 (.slice ao4 lf.length cp4)).set 0 (.bool fin)).set 1 (.slice ao1 sups.length cp1)).set 2 (.int .i64 k)).set 3 (.slice ao2 lp.length cp2)).set 4 (.slice ao3 lr.length cp3)).set 5 (.slice ao4 lf.length cp4))
  rw [← hV5] at G4
  rw [← hV5]
  clear c10 c11 c12 c13 c14 c15 c30 c31 c32 c33 c34 c35 c2 c4 z1
  obtain ⟨c1, c2, c3, c4, z1⟩ := P5.cells
  have c30 := c3 0; have c31 := c3 1; have c32 := c3 2; have c33 := c3 3; have c34 := c3 4; have c35 := c3 5
  simp at c30 c31 c32 c33 c34 c35
  refine leaves_cons (f := 74) (args := #[.pointer (some ⟨w.heap.size + 1 + 1, 0, none⟩)]) (by simp) (by simp [go_sem]) ?_
  refine (map_idle ⟨w.heap.size + 1 + 1, 0, none⟩ _).mono ?_
  rintro e u' w5 ⟨rfl, rfl, hw5⟩
  rw [hw5]
  have hsub : (mapSub φ s ⟨fin, sups, k, lp, lr, lf⟩) = (⟨fin, l1, k, l2, l3, l4⟩, s4) := by
    simp only [mapSub, HS_1.out, HL_1.out, HS_2.out, HL_2.out, HS_3.out, HL_3.out, HS_4.out, HL_4.out]
  have e1 : sups.length = l1.length := by rw [← HL_1.out, mapS_len]
  have e2 : lp.length = l2.length := by rw [← HL_2.out, mapS_len]
  have e3 : lr.length = l3.length := by rw [← HL_3.out, mapS_len]
  have e4 : lf.length = l4.length := by rw [← HL_4.out, mapS_len]
  have hfin : ∃ ds : List Value, Ending.returned (.agg #[.bool fin, .slice ao1 sups.length cp1, .int .i64 k, .slice ao2 lp.length cp2, .slice ao3 lr.length cp3, .slice ao4 lf.length cp4]) = Ending.returned (.agg ds.toArray) ∧ ∃ T', (∀ w'', Upd (fun b => b < w.heap.size ∨ T' b) V5 w'' → SubAt w'' ds (mapSub φ s ⟨fin, sups, k, lp, lr, lf⟩).1) ∧ J (mapSub φ s ⟨fin, sups, k, lp, lr, lf⟩).2 m T' V5 ∧ Upd T w V5 ∧ Fresh T w T' := by
    refine ⟨[.bool fin, .slice ao1 sups.length cp1, .int .i64 k, .slice ao2 lp.length cp2, .slice ao3 lr.length cp3, .slice ao4 lf.length cp4], rfl, T4, ?_, ?_, P5.hu, P5.hf⟩
    · intro w'' hu
      rw [hsub]
      have r1 := G1.end hu; have r2 := G2.end hu; have r3 := G3.end hu; have r4 := G4.end hu
      refine ⟨_, _, _, _, rfl, ?_, ?_, ?_, ?_⟩
      · show RowAt w'' 2 _ l1.length _; rw [← e1]; exact r1
      · show RowAt w'' 4 _ l2.length _; rw [← e2]; exact r2
      · show RowAt w'' 4 _ l3.length _; rw [← e3]; exact r3
      · show RowAt w'' 6 _ l4.length _; rw [← e4]; exact r4
    · rw [hsub]; exact j5
  simp [Leaves, settle, results, Tryz.results43, go_sem, c30, c31, c32, c33, c34, c35]
  simpa using hfin
end
end Go.Proofs.YtlcfkfijomnmnaaGreatDoor
