/- package kind: mapVal, and the closures of Map. -/
import Derived.Test.YtoamhiaagaaaaaaGreatDoorQRoEach
namespace Go.Proofs.YtoamhiaagaaaaaaGreatDoor
open Go.RowKit

/-- A value type through a function of heap types. -/
def phiV {σ : Type} (φ : σ → Hp → Hp × σ) (s : σ) (v : Vl) : Vl × σ := if v.k = 3 then (⟨v.k, v.nl, (φ s ⟨v.h, v.n⟩).1.k, (φ s ⟨v.h, v.n⟩).1.n⟩, (φ s ⟨v.h, v.n⟩).2) else (v, s)
def phiF {σ : Type} (φ : σ → Hp → Hp × σ) (s : σ) (f : Fl) : Fl × σ := (⟨f.p, (phiV φ s f.v).1, f.m⟩, (phiV φ s f.v).2)
def DV (D : Hp → Prop) (v : Vl) : Prop := v.k = 3 → D ⟨v.h, v.n⟩
variable {σ : Type}
set_option maxRecDepth 100000 in
set_option maxHeartbeats 8000000 in
theorem mapVal_any {D : Hp → Prop} {f : FuncId} {cap : Array Value} {φ : σ → Hp → Hp × σ} {J : σ → Nat → (Nat → Prop) → World → Prop} {B : Nat} (F : FnOk Tryz.prog cellsH D f cap φ J B)
    (v : Vl) (s : σ) (m : Nat) (T : Nat → Prop) (w : World) (hd : DV D v) (hj : J s (m + 1) T w) :
    Calls Tryz.prog 105 #[.agg (cellsV v).toArray, .func (.func f) #[] cap] w fun e w' => ∃ T', e = .returned (.agg (cellsV (phiV φ s v).1).toArray) ∧ J (phiV φ s v).2 m T' w' ∧ Upd T w w' ∧ Fresh T w T' := by
  obtain ⟨k, nl, h, n⟩ := v
  rw [show cellsV ⟨k, nl, h, n⟩ = [.int .i64 k, .bool nl, .int .i64 h, .int .i64 n] from rfl]
  have HJ := Lib.hid hj; have HD := Lib.hid hd
  clear hj hd
  have hnf : ∀ w : World, (binOp BinOp.neq 145 (.func (.func f) #[] cap) .nilFunc).run Tryz.prog w = .ok (.bool true) w := fun _ => by rfl
  by_cases hk : k = 3
  · subst hk
    have hen := F.enter
    obtain ⟨y, hy⟩ : ∃ y, φ s ⟨h, n⟩ = y := ⟨_, rfl⟩
    obtain ⟨W0, hW⟩ : ∃ W0 : World, W0 = ((w.alloc (.cells #[.int .i64 3, .bool nl, .int .i64 h, .int .i64 n] 28)).alloc (.cells #[.int .i64 0, .bool false, .int .i64 0, .int .i64 0] 28)) := ⟨_, rfl⟩
    have hc := F.call ⟨h, n⟩ (HD.out rfl) (F.keep HJ.out (((Upd.refl _ w).alloc (.cells #[.int .i64 3, .bool nl, .int .i64 h, .int .i64 n] 28)).alloc (.cells #[.int .i64 0, .bool false, .int .i64 0, .int .i64 0] 28)))
    rw [← hW, hy] at hc
    have hsz : W0.heap.size = w.heap.size + 2 := by rw [hW]; simp
    have z0 : W0.heap[w.heap.size]? = some (.cells #[.int .i64 3, .bool nl, .int .i64 h, .int .i64 n] 28 (0, 0)) := by rw [hW]; exact heap_alloc_keep (heap_alloc_at _ _ rfl) _
    have z1 : W0.heap[w.heap.size + 1]? = some (.cells #[.int .i64 0, .bool false, .int .i64 0, .int .i64 0] 28 (0, 0)) := by rw [hW]; exact heap_alloc_at _ _ (by simp)
    have hu0 : Upd T w W0 := by rw [hW]; exact ((Upd.refl _ w).alloc _).alloc _
    have HC := Lib.hid hc; have HW := Lib.hid hW; have HY := Lib.hid hy; have HSZ := Lib.hid hsz; have Z0 := Lib.hid z0; have Z1 := Lib.hid z1; have HU0 := Lib.hid hu0
    clear hc hW hy hsz z0 z1 hu0
    go_enter Tryz.func105, Tryz.ntmps105
    go_wp2_with fail
    rw [← HW.out]
    refine HC.out.mono ?_
    rintro e w1 ⟨T2, he, hJ2, hU2, hF2⟩
    obtain rfl : e = .returned (.agg #[.int .i64 y.1.k, .int .i64 y.1.n]) := he
    have n0 : ∀ k, w.heap.size ≤ k → k < W0.heap.size → ¬ T k := fun k h1 _ hT => by have := (F.lt HJ.out).1 k hT; omega
    have a0 := hU2.heap_some Z0.out (n0 _ (Nat.le_refl _) (by rw [HSZ.out]; omega))
    have a1 := hU2.heap_some Z1.out (n0 _ (by omega) (by rw [HSZ.out]; omega))
    have c00 := heap_cell a0 0; have c01 := heap_cell a0 1; have c02 := heap_cell a0 2; have c03 := heap_cell a0 3
    have c10 := heap_cell a1 0; have c11 := heap_cell a1 1; have c12 := heap_cell a1 2; have c13 := heap_cell a1 3
    have f0 := fun i => heap_frozen a0 i
    have f1 := fun i => heap_frozen a1 i
    have HJ2 := Lib.hid hJ2; have HU2 := Lib.hid hU2; have HF2 := Lib.hid hF2; have N0 := Lib.hid n0; have A0 := Lib.hid a0; have A1 := Lib.hid a1
    clear hJ2 hU2 hF2 n0 a0 a1 hen
    simp at c00 c01 c02 c03 c10 c11 c12 c13
    go_wp2
    refine bodyPost_ret (v := .agg #[.int .i64 3, .bool nl, .int .i64 y.1.k, .int .i64 y.1.n]) (by simp [results, Tryz.results105, go_sem, c10, c11, c12, c13]) rfl ?_
    have hB : B ≤ w.heap.size := (F.lt HJ.out).2
    have h0 : ¬ T2 w.heap.size := HF2.out.off (N0.out _ (Nat.le_refl _) (by rw [HSZ.out]; omega)) (by rw [HSZ.out]; omega)
    have h1 : ¬ T2 (w.heap.size + 1) := HF2.out.off (N0.out _ (by omega) (by rw [HSZ.out]; omega)) (by rw [HSZ.out]; omega)
    refine ⟨T2, by simp [phiV, HY.out, cellsV], ?_, ?_, (Fresh.refl T w).trans HF2.out HU0.out.size⟩
    · simp only [phiV, if_true, HY.out]
      exact F.keep HJ2.out ((((((Upd.refl _ w1).setCell (.inl ⟨hB, h0⟩) _).setCell (.inl ⟨hB, h0⟩) _).setCell (.inl ⟨by simp; omega, h1⟩) _).setCell (.inl ⟨by simp; omega, h1⟩) _).setCell (.inl ⟨by simp; omega, h1⟩) _ |>.setCell (.inl ⟨by simp; omega, h1⟩) _)
    · exact ((((((HU0.out.trans (Fresh.refl _ _) HU2.out).setCell (.inr (Nat.le_refl _)) _).setCell (.inr (Nat.le_refl _)) _).setCell (.inr (by simp)) _).setCell (.inr (by simp)) _).setCell (.inr (by simp)) _).setCell (.inr (by simp)) _
  · have hk' : (k == 3) = false := by simpa using hk
    go_enter Tryz.func105, Tryz.ntmps105
    go_wp2
    refine bodyPost_ret (v := .agg #[.int .i64 k, .bool nl, .int .i64 h, .int .i64 n]) (by simp [results, Tryz.results105, go_sem]) rfl ?_
    have hu : Upd T w ((w.alloc (.cells #[.int .i64 k, .bool nl, .int .i64 h, .int .i64 n] 28)).alloc (.cells #[.int .i64 k, .bool nl, .int .i64 h, .int .i64 n] 28)) := ((Upd.refl _ w).alloc _).alloc _
    refine ⟨T, by simp [phiV, hk, cellsV], ?_, hu, Fresh.refl _ _⟩
    simp only [phiV, hk, if_false]
    exact F.keep (F.less HJ.out (Nat.le_succ _)) (((Upd.refl _ w).alloc _).alloc _)
end Go.Proofs.YtoamhiaagaaaaaaGreatDoor

/- package kind: the closures of Map: ask (a value type), and the one for fields. -/
namespace Go.Proofs.YtoamhiaagaaaaaaGreatDoor
open Go.RowKit

/-- A closure that reads what another one is out of the box c. -/
structure Boxed {σ : Type} (J : σ → Nat → (Nat → Prop) → World → Prop) (c : Nat) (fv : Value) (ty : TypeId) (B' : Nat) (s : σ) (n : Nat) (T : Nat → Prop) (w : World) : Prop where
  j : J s n T w
  box : w.heap[c]? = some (.cells #[fv] ty (0, 0))
  lt : c < B'
  le : B' ≤ w.heap.size
  off : ¬ T c
variable {σ : Type}
set_option maxRecDepth 100000 in
set_option maxHeartbeats 8000000 in
theorem ask_ok {D : Hp → Prop} {f : FuncId} {cap : Array Value} {φ : σ → Hp → Hp × σ} {J : σ → Nat → (Nat → Prop) → World → Prop} {B : Nat} (F : FnOk Tryz.prog cellsH D f cap φ J B) (c B' : Nat) (hB : B ≤ B') :
    FnOk Tryz.prog cellsV (DV D) 104 #[.pointer (some ⟨c, 0, none⟩)] (phiV φ) (Boxed J c (.func (.func f) #[] cap) 145 B') B' where
  enter := fun _ _ => rfl
  lt := fun h => ⟨(F.lt h.j).1, h.le⟩
  keep := fun h u => ⟨F.keep h.j (u.mono fun k _ hk => ⟨Nat.le_trans hB hk.1, hk.2⟩), u.heap_some h.box (fun hk => by have := h.lt; omega), h.lt, Nat.le_trans h.le u.size, h.off⟩
  less := fun h hm => ⟨F.less h.j hm, h.box, h.lt, h.le, h.off⟩
  call := by
    intro s n T w x hd hj
    obtain ⟨k, nl, h, m⟩ := x
    rw [show cellsV ⟨k, nl, h, m⟩ = [.int .i64 k, .bool nl, .int .i64 h, .int .i64 m] from rfl]
    show Calls Tryz.prog 104 #[.agg #[.int .i64 k, .bool nl, .int .i64 h, .int .i64 m], .pointer (some ⟨c, 0, none⟩)] w _
    obtain ⟨W0, hW⟩ : ∃ W0 : World, W0 = ((w.alloc (.cells #[.int .i64 k, .bool nl, .int .i64 h, .int .i64 m] 28)).alloc (.cells #[.int .i64 0, .bool false, .int .i64 0, .int .i64 0] 28)) := ⟨_, rfl⟩
    have hu0 : Upd T w W0 := by rw [hW]; exact ((Upd.refl _ w).alloc _).alloc _
    have hsz : W0.heap.size = w.heap.size + 2 := by rw [hW]; simp
    have hc := mapVal_any F ⟨k, nl, h, m⟩ s n T W0 hd (F.keep hj.j (by rw [hW]; exact ((Upd.refl _ w).alloc _).alloc _))
    have z1 : W0.heap[w.heap.size + 1]? = some (.cells #[.int .i64 0, .bool false, .int .i64 0, .int .i64 0] 28 (0, 0)) := by rw [hW]; exact heap_alloc_at _ _ (by simp)
    have zc := hu0.heap_some hj.box hj.off
    have cc := heap_cell zc 0
    simp at cc
    have hnT : ∀ k, w.heap.size ≤ k → ¬ T k := fun k h1 hT => by have := (F.lt hj.j).1 k hT; omega
    have hcw := heap_lt hj.box
    obtain ⟨y, hy⟩ : ∃ y, (phiV φ s ⟨k, nl, h, m⟩).1 = y := ⟨_, rfl⟩
    rw [hy] at hc ⊢
    have HC := Lib.hid hc; have HW := Lib.hid hW; have HJ := Lib.hid hj; have HSZ := Lib.hid hsz; have Z1 := Lib.hid z1; have HU0 := Lib.hid hu0; have HN := Lib.hid hnT; have HCW := Lib.hid hcw; have HY := Lib.hid hy
    rw [hW] at cc
    clear hc hW hj hsz z1 hu0 zc hnT hd hcw hy
    go_enter Tryz.func104, Tryz.ntmps104
    go_wp2_with fail
    rw [← HW.out]
    refine HC.out.mono ?_
    rintro e w1 ⟨T2, he, hJ2, hU2, hF2⟩
    obtain rfl : e = .returned (.agg #[.int .i64 y.k, .bool y.nl, .int .i64 y.h, .int .i64 y.n]) := he
    have a1 := hU2.heap_some Z1.out (HN.out _ (by omega))
    have c10 := heap_cell a1 0; have c11 := heap_cell a1 1; have c12 := heap_cell a1 2; have c13 := heap_cell a1 3
    have f1 := fun i => heap_frozen a1 i
    have HJ2 := Lib.hid hJ2; have HU2 := Lib.hid hU2; have HF2 := Lib.hid hF2; have A1 := Lib.hid a1
    clear hJ2 hU2 hF2 a1 cc
    simp at c10 c11 c12 c13
    go_wp2
    refine bodyPost_ret (v := .agg #[.int .i64 y.k, .bool y.nl, .int .i64 y.h, .int .i64 y.n]) (by simp [results, Tryz.results104, go_sem, c10, c11, c12, c13]) rfl ?_
    have hle : B' ≤ w.heap.size := HJ.out.le
    have h1 : ¬ T2 (w.heap.size + 1) := HF2.out.off (HN.out _ (by omega)) (by rw [HSZ.out]; omega)
    have hc2 : ¬ T2 c := HF2.out.off HJ.out.off (by rw [HSZ.out]; have := HCW.out; omega)
    have uu : Upd T w w1 := HU0.out.trans (Fresh.refl _ _) HU2.out
    have uf : Upd T w ((((w1.setCell ⟨w.heap.size + 1, 0, none⟩ (.int .i64 y.k)).setCell ⟨w.heap.size + 1, 1, none⟩ (.bool y.nl)).setCell ⟨w.heap.size + 1, 2, none⟩ (.int .i64 y.h)).setCell ⟨w.heap.size + 1, 3, none⟩ (.int .i64 y.n)) := (((uu.setCell (.inr (by simp)) _).setCell (.inr (by simp)) _).setCell (.inr (by simp)) _).setCell (.inr (by simp)) _
    refine ⟨T2, rfl, ⟨?_, uf.heap_some HJ.out.box HJ.out.off, HJ.out.lt, Nat.le_trans hle uf.size, hc2⟩, uf, (Fresh.refl T w).trans HF2.out HU0.out.size⟩
    exact F.keep HJ2.out (((((Upd.refl _ w1).setCell (.inl ⟨by simp; omega, h1⟩) _).setCell (.inl ⟨by simp; omega, h1⟩) _).setCell (.inl ⟨by simp; omega, h1⟩) _).setCell (.inl ⟨by simp; omega, h1⟩) _)
set_option maxRecDepth 100000 in
set_option maxHeartbeats 8000000 in
theorem field_ok {D : Hp → Prop} {f : FuncId} {cap : Array Value} {φ : σ → Hp → Hp × σ} {J : σ → Nat → (Nat → Prop) → World → Prop} {B : Nat} (F : FnOk Tryz.prog cellsV (DV D) f cap (phiV φ) J B) (c B' : Nat) (hB : B ≤ B') :
    FnOk Tryz.prog cellsF (fun x => DV D x.v) 110 #[.pointer (some ⟨c, 0, none⟩)] (phiF φ) (Boxed J c (.func (.func f) #[] cap) 168 B') B' where
  enter := fun _ _ => rfl
  lt := fun h => ⟨(F.lt h.j).1, h.le⟩
  keep := fun h u => ⟨F.keep h.j (u.mono fun k _ hk => ⟨Nat.le_trans hB hk.1, hk.2⟩), u.heap_some h.box (fun hk => by have := h.lt; omega), h.lt, Nat.le_trans h.le u.size, h.off⟩
  less := fun h hm => ⟨F.less h.j hm, h.box, h.lt, h.le, h.off⟩
  call := by
    intro s n T w x hd hj
    obtain ⟨p, ⟨k, nl, h, m⟩, mu⟩ := x
    rw [show cellsF ⟨p, ⟨k, nl, h, m⟩, mu⟩ = [.int .i64 p, .int .i64 k, .bool nl, .int .i64 h, .int .i64 m, .bool mu] from rfl]
    show Calls Tryz.prog 110 #[.agg #[.int .i64 p, .int .i64 k, .bool nl, .int .i64 h, .int .i64 m, .bool mu], .pointer (some ⟨c, 0, none⟩)] w _
    obtain ⟨W0, hW⟩ : ∃ W0 : World, W0 = ((w.alloc (.cells #[.int .i64 p, .int .i64 k, .bool nl, .int .i64 h, .int .i64 m, .bool mu] 107)).alloc (.cells #[.int .i64 0, .int .i64 0, .bool false, .int .i64 0, .int .i64 0, .bool false] 107)) := ⟨_, rfl⟩
    have hu0 : Upd T w W0 := by rw [hW]; exact ((Upd.refl _ w).alloc _).alloc _
    have hsz : W0.heap.size = w.heap.size + 2 := by rw [hW]; simp
    have hen := F.enter
    have hc := F.call ⟨k, nl, h, m⟩ hd (F.keep hj.j (w' := W0) (by rw [hW]; exact ((Upd.refl _ w).alloc _).alloc _))
    have z0 : W0.heap[w.heap.size]? = some (.cells #[.int .i64 p, .int .i64 k, .bool nl, .int .i64 h, .int .i64 m, .bool mu] 107 (0, 0)) := by rw [hW]; exact heap_alloc_keep (heap_alloc_at _ _ rfl) _
    have z1 : W0.heap[w.heap.size + 1]? = some (.cells #[.int .i64 0, .int .i64 0, .bool false, .int .i64 0, .int .i64 0, .bool false] 107 (0, 0)) := by rw [hW]; exact heap_alloc_at _ _ (by simp)
    have zc := hu0.heap_some hj.box hj.off
    have cc := heap_cell zc 0
    simp at cc
    have hnT : ∀ k, w.heap.size ≤ k → ¬ T k := fun k h1 hT => by have := (F.lt hj.j).1 k hT; omega
    have hcw := heap_lt hj.box
    obtain ⟨y, hy⟩ : ∃ y, (phiV φ s ⟨k, nl, h, m⟩).1 = y := ⟨_, rfl⟩
    rw [show phiF φ s ⟨p, ⟨k, nl, h, m⟩, mu⟩ = (⟨p, (phiV φ s ⟨k, nl, h, m⟩).1, mu⟩, (phiV φ s ⟨k, nl, h, m⟩).2) from rfl]
    dsimp only
    rw [hy] at hc ⊢
    have HC := Lib.hid hc; have HW := Lib.hid hW; have HJ := Lib.hid hj; have HSZ := Lib.hid hsz; have Z0 := Lib.hid z0; have Z1 := Lib.hid z1; have HU0 := Lib.hid hu0; have HN := Lib.hid hnT; have HCW := Lib.hid hcw; have HY := Lib.hid hy
    rw [hW] at cc
    clear hc hW hj hsz z1 z0 hu0 zc hnT hd hcw hy
    go_enter Tryz.func110, Tryz.ntmps110
    go_wp2_with fail
    rw [← HW.out]
    refine HC.out.mono ?_
    rintro e w1 ⟨T2, he, hJ2, hU2, hF2⟩
    obtain rfl : e = .returned (.agg #[.int .i64 y.k, .bool y.nl, .int .i64 y.h, .int .i64 y.n]) := he
    have a0 := hU2.heap_some Z0.out (HN.out _ (by omega))
    have c00 := heap_cell a0 0; have c01 := heap_cell a0 1; have c02 := heap_cell a0 2; have c03 := heap_cell a0 3; have c04 := heap_cell a0 4; have c05 := heap_cell a0 5
    have f0 := fun i => heap_frozen a0 i
    have a1 := hU2.heap_some Z1.out (HN.out _ (by omega))
    have c10 := heap_cell a1 0; have c11 := heap_cell a1 1; have c12 := heap_cell a1 2; have c13 := heap_cell a1 3; have c14 := heap_cell a1 4; have c15 := heap_cell a1 5
    have f1 := fun i => heap_frozen a1 i
    have HJ2 := Lib.hid hJ2; have HU2 := Lib.hid hU2; have HF2 := Lib.hid hF2; have A1 := Lib.hid a1; have A0 := Lib.hid a0
    clear hJ2 hU2 hF2 a1 a0 cc hen
    simp at c00 c01 c02 c03 c04 c05 c10 c11 c12 c13 c14 c15
    go_wp2
    refine bodyPost_ret (v := .agg #[.int .i64 p, .int .i64 y.k, .bool y.nl, .int .i64 y.h, .int .i64 y.n, .bool mu]) (by simp [results, Tryz.results110, go_sem, c10, c11, c12, c13, c14, c15]) rfl ?_
    have hle : B' ≤ w.heap.size := HJ.out.le
    have h0 : ¬ T2 (w.heap.size) := HF2.out.off (HN.out _ (by omega)) (by rw [HSZ.out]; omega)
    have h1 : ¬ T2 (w.heap.size + 1) := HF2.out.off (HN.out _ (by omega)) (by rw [HSZ.out]; omega)
    have hc2 : ¬ T2 c := HF2.out.off HJ.out.off (by rw [HSZ.out]; have := HCW.out; omega)
    have uu : Upd T w w1 := HU0.out.trans (Fresh.refl _ _) HU2.out
    have hB0 : B ≤ w.heap.size ∧ ¬ T2 w.heap.size := ⟨by omega, h0⟩
    have hB1 : B ≤ w.heap.size + 1 ∧ ¬ T2 (w.heap.size + 1) := ⟨by omega, h1⟩
    have key : ∀ {S : Nat → Prop} {a : World}, (S w.heap.size ∨ a.heap.size ≤ w.heap.size) → (S (w.heap.size + 1) ∨ a.heap.size ≤ w.heap.size + 1) → Upd S a w1 → Upd S a ((((((((((w1.setCell ⟨w.heap.size, 1, none⟩ (.int .i64 y.k)).setCell ⟨w.heap.size, 2, none⟩ (.bool y.nl)).setCell ⟨w.heap.size, 3, none⟩ (.int .i64 y.h)).setCell ⟨w.heap.size, 4, none⟩ (.int .i64 y.n)).setCell ⟨w.heap.size + 1, 0, none⟩ (.int .i64 p)).setCell ⟨w.heap.size + 1, 1, none⟩ (.int .i64 y.k)).setCell ⟨w.heap.size + 1, 2, none⟩ (.bool y.nl)).setCell ⟨w.heap.size + 1, 3, none⟩ (.int .i64 y.h)).setCell ⟨w.heap.size + 1, 4, none⟩ (.int .i64 y.n)).setCell ⟨w.heap.size + 1, 5, none⟩ (.bool mu)) :=
      fun g0 g1 u => (((((((((u.setCell g0 _).setCell g0 _).setCell g0 _).setCell g0 _).setCell g1 _).setCell g1 _).setCell g1 _).setCell g1 _).setCell g1 _).setCell g1 _
    have uf := key (S := T) (a := w) (.inr (Nat.le_refl _)) (.inr (Nat.le_succ _)) uu
    have uk := key (S := fun b => B ≤ b ∧ ¬ T2 b) (a := w1) (.inl hB0) (.inl hB1) (Upd.refl _ _)
    refine ⟨T2, rfl, ⟨F.keep HJ2.out uk, uf.heap_some HJ.out.box HJ.out.off, HJ.out.lt, Nat.le_trans hle uf.size, hc2⟩, uf, (Fresh.refl T w).trans HF2.out HU0.out.size⟩
end Go.Proofs.YtoamhiaagaaaaaaGreatDoor
