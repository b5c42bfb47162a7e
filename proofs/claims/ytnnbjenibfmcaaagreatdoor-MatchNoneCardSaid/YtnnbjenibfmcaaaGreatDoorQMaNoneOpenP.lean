/- geodelaw10: MatchNone. -/
import Derived.Test.YtnnbjenibfmcaaaGreatDoorQMaNone
import Derived.Test.YtnnbjenibfmcaaaGreatDoorQMaKnown
import Derived.Test.YtnnbjenibfmcaaaGreatDoorQFnP
namespace Go.Proofs.YtnnbjenibfmcaaaGreatDoor
open Go.RowKit

/-- A composite type that came in: its cells. -/
structure CompAt (w : World) (cs : List Value) (c : Sb) : Prop where
  ex : ∃ vp vr vf, cs = [.int .i64 c.k, vp, vr, vf] ∧ ValsAt w vp c.ps ∧ ValsAt w vr c.rs ∧ FlsAt w vf c.fs
set_option maxRecDepth 100000 in
set_option maxHeartbeats 16000000 in
theorem matchNone_any (a : Hp) (v : Vl) (cs : List Value) (c : Sb) (w : World) (hc : CompAt w cs c) (htab : Tab w) :
    Calls Tryz.prog 4 #[.agg (cellsH a).toArray, .agg (cellsV v).toArray, .agg cs.toArray] w fun e w' => e = .returned (.bool true) ∧ Below w.heap.size w w' := by
  obtain ⟨h, hn⟩ := a
  obtain ⟨vk, vl, vh, vn⟩ := v
  obtain ⟨vp, vr, vf, rfl, k1, k2, k3⟩ := hc.ex
  obtain ⟨a1, c1, rfl⟩ := RowAt.form k1
  obtain ⟨a2, c2, rfl⟩ := RowAt.form k2
  obtain ⟨a3, c3, rfl⟩ := RowAt.form k3
  obtain ⟨n1, hn1⟩ : ∃ n, c.ps.length = n := ⟨_, rfl⟩
  obtain ⟨n2, hn2⟩ : ∃ n, c.rs.length = n := ⟨_, rfl⟩
  obtain ⟨n3, hn3⟩ : ∃ n, c.fs.length = n := ⟨_, rfl⟩
  obtain ⟨ck, hck⟩ : ∃ k, c.k = k := ⟨_, rfl⟩
  rw [hn1, hn2, hn3, hck]
  clear k1 k2 k3 hc hn1 hn2 hn3 hck
  simp only [cellsH, cellsV]
  obtain ⟨W0, hW⟩ : ∃ W0 : World, W0 = (((w.alloc (.cells #[.int .i64 h, .int .i64 hn] 31)).alloc (.cells #[.int .i64 vk, .bool vl, .int .i64 vh, .int .i64 vn] 33)).alloc (.cells #[.int .i64 ck, .slice a1 n1 c1, .slice a2 n2 c2, .slice a3 n3 c3] 27)) := ⟨_, rfl⟩
  have hB : Below w.heap.size w W0 := by rw [hW]; exact ((((Below.refl _ _).alloc (by simp) _).alloc (by simp) _).alloc (by simp; omega) _)
  have z0 : W0.heap[w.heap.size]? = some (.cells #[.int .i64 h, .int .i64 hn] 31 (0, 0)) := by rw [hW]; exact heap_alloc_keep (heap_alloc_keep (heap_alloc_at _ _ rfl) _) _
  have z1 : W0.heap[w.heap.size + 1]? = some (.cells #[.int .i64 vk, .bool vl, .int .i64 vh, .int .i64 vn] 33 (0, 0)) := by rw [hW]; exact heap_alloc_keep (heap_alloc_at _ _ (by simp)) _
  have z2 : W0.heap[w.heap.size + 1 + 1]? = some (.cells #[.int .i64 ck, .slice a1 n1 c1, .slice a2 n2 c2, .slice a3 n3 c3] 27 (0, 0)) := by rw [hW]; exact heap_alloc_at _ _ (by simp)
  have HW := Lib.hid hW; have HB := Lib.hid hB; have HT := Lib.hid htab
  have Z0 := Lib.hid z0; have Z1 := Lib.hid z1; have Z2 := Lib.hid z2
  clear hB htab z0 z1 z2
  have hmany : ∀ W, Below W0.heap.size W0 W → Calls Tryz.prog 6 #[] W fun e w' => e = .returned (.bool true) ∧ Below w.heap.size w w' := fun W hb => by
    have h0 : Below w.heap.size w W := HB.out.trans (hb.mono HB.out.size)
    exact (mknown_any W (HT.out.on h0)).mono fun e w' ⟨he, hb⟩ => ⟨he, h0.trans (hb.mono h0.size)⟩
  have HM := Lib.hid hmany
  clear hmany
  by_cases hbig : (20 : Int) < n1 ∨ (20 : Int) < n2 ∨ (20 : Int) < n3
  · by_cases g1 : (20 : Int) < n1
    · go_enter Tryz.func4, Tryz.ntmps4
      go_wp2_with fail
      rw [← hW]
      refine (HM.out _ (Below.refl _ _)).mono ?_
      rintro e w1 ⟨rfl, hb1⟩
      go_wp2
      go_ret
      exact ⟨rfl, hb1⟩
    by_cases g2 : (20 : Int) < n2
    · go_enter Tryz.func4, Tryz.ntmps4
      go_wp2_with fail
      rw [← hW]
      refine (HM.out _ (Below.refl _ _)).mono ?_
      rintro e w1 ⟨rfl, hb1⟩
      go_wp2
      go_ret
      exact ⟨rfl, hb1⟩
    · have g3 : (20 : Int) < n3 := by omega
      clear hbig
      go_enter Tryz.func4, Tryz.ntmps4
      go_wp2_with fail
      rw [← hW]
      refine (HM.out _ (Below.refl _ _)).mono ?_
      rintro e w1 ⟨rfl, hb1⟩
      go_wp2
      go_ret
      exact ⟨rfl, hb1⟩
  · have g1 : ¬ (20 : Int) < n1 := by omega
    have g2 : ¬ (20 : Int) < n2 := by omega
    have g3 : ¬ (20 : Int) < n3 := by omega
    clear hbig
    obtain ⟨W1, hW1⟩ : ∃ W1 : World, W1 = W0.alloc (.cells #[.int .i64 0, .int .i64 vk, .bool vl, .int .i64 vh, .int .i64 vn, .bool false] 46) := ⟨_, rfl⟩
    have hb1 : Below W0.heap.size W0 W1 := by rw [hW1]; exact (Below.refl _ _).alloc (Nat.le_refl _) _
    have y0 : W1.heap[w.heap.size]? = some (.cells #[.int .i64 h, .int .i64 hn] 31 (0, 0)) := by rw [hW1]; exact heap_alloc_keep Z0.out _
    have y1 : W1.heap[w.heap.size + 1]? = some (.cells #[.int .i64 vk, .bool vl, .int .i64 vh, .int .i64 vn] 33 (0, 0)) := by rw [hW1]; exact heap_alloc_keep Z1.out _
    have y2 : W1.heap[w.heap.size + 1 + 1]? = some (.cells #[.int .i64 ck, .slice a1 n1 c1, .slice a2 n2 c2, .slice a3 n3 c3] 27 (0, 0)) := by rw [hW1]; exact heap_alloc_keep Z2.out _
    have y3 : W1.heap[W0.heap.size]? = some (.cells #[.int .i64 0, .int .i64 vk, .bool vl, .int .i64 vh, .int .i64 vn, .bool false] 46 (0, 0)) := by rw [hW1]; exact heap_alloc_at _ _ rfl
    have hsz : W0.heap.size = w.heap.size + 1 + 1 + 1 := by rw [HW.out]; simp
    rw [hsz] at y3
    have q0_0 : ∀ x : Ext W1, x.val.cell? ⟨w.heap.size, 0, none⟩ = some (.int .i64 h) := Ext.cells (heap_cell y0 0)
    have q0_1 : ∀ x : Ext W1, x.val.cell? ⟨w.heap.size, 1, none⟩ = some (.int .i64 hn) := Ext.cells (heap_cell y0 1)
    have q1_0 : ∀ x : Ext W1, x.val.cell? ⟨w.heap.size + 1, 0, none⟩ = some (.int .i64 vk) := Ext.cells (heap_cell y1 0)
    have q1_1 : ∀ x : Ext W1, x.val.cell? ⟨w.heap.size + 1, 1, none⟩ = some (.bool vl) := Ext.cells (heap_cell y1 1)
    have q1_2 : ∀ x : Ext W1, x.val.cell? ⟨w.heap.size + 1, 2, none⟩ = some (.int .i64 vh) := Ext.cells (heap_cell y1 2)
    have q1_3 : ∀ x : Ext W1, x.val.cell? ⟨w.heap.size + 1, 3, none⟩ = some (.int .i64 vn) := Ext.cells (heap_cell y1 3)
    have q2_0 : ∀ x : Ext W1, x.val.cell? ⟨w.heap.size + 1 + 1, 0, none⟩ = some (.int .i64 ck) := Ext.cells (heap_cell y2 0)
    have q2_1 : ∀ x : Ext W1, x.val.cell? ⟨w.heap.size + 1 + 1, 1, none⟩ = some (.slice a1 n1 c1) := Ext.cells (heap_cell y2 1)
    have q2_2 : ∀ x : Ext W1, x.val.cell? ⟨w.heap.size + 1 + 1, 2, none⟩ = some (.slice a2 n2 c2) := Ext.cells (heap_cell y2 2)
    have q2_3 : ∀ x : Ext W1, x.val.cell? ⟨w.heap.size + 1 + 1, 3, none⟩ = some (.slice a3 n3 c3) := Ext.cells (heap_cell y2 3)
    have q3_0 : ∀ x : Ext W1, x.val.cell? ⟨w.heap.size + 1 + 1 + 1, 0, none⟩ = some (.int .i64 0) := Ext.cells (heap_cell y3 0)
    have q3_1 : ∀ x : Ext W1, x.val.cell? ⟨w.heap.size + 1 + 1 + 1, 1, none⟩ = some (.int .i64 vk) := Ext.cells (heap_cell y3 1)
    have q3_2 : ∀ x : Ext W1, x.val.cell? ⟨w.heap.size + 1 + 1 + 1, 2, none⟩ = some (.bool vl) := Ext.cells (heap_cell y3 2)
    have q3_3 : ∀ x : Ext W1, x.val.cell? ⟨w.heap.size + 1 + 1 + 1, 3, none⟩ = some (.int .i64 vh) := Ext.cells (heap_cell y3 3)
    have q3_4 : ∀ x : Ext W1, x.val.cell? ⟨w.heap.size + 1 + 1 + 1, 4, none⟩ = some (.int .i64 vn) := Ext.cells (heap_cell y3 4)
    have q3_5 : ∀ x : Ext W1, x.val.cell? ⟨w.heap.size + 1 + 1 + 1, 5, none⟩ = some (.bool false) := Ext.cells (heap_cell y3 5)
    have HW1 := Lib.hid (show W1 = ((((w.alloc (.cells #[.int .i64 h, .int .i64 hn] 31)).alloc (.cells #[.int .i64 vk, .bool vl, .int .i64 vh, .int .i64 vn] 33)).alloc (.cells #[.int .i64 ck, .slice a1 n1 c1, .slice a2 n2 c2, .slice a3 n3 c3] 27)).alloc (.cells #[.int .i64 0, .int .i64 vk, .bool vl, .int .i64 vh, .int .i64 vn, .bool false] 46)) by rw [hW1, hW])
    have HB1 := Lib.hid hb1
    clear hW hW1 hb1 y0 y1 y2 y3 hsz
    go_enter Tryz.func4, Tryz.ntmps4
    go_wp2_with fail
    rw [← HW1.out]
    refine (Ext.call ⟨W1, Below.refl _ _⟩ (heap_nil h hn h hn _)).mono ?_
    rintro e _ ⟨rfl, x0, rfl⟩
    go_wp2_with fail
    refine (Ext.call x0 (val_nil ⟨vk, vl, vh, vn⟩ ⟨vk, vl, vh, vn⟩ _)).mono ?_
    rintro e _ ⟨rfl, x1, rfl⟩
    go_wp2_with fail
    refine (Ext.call x1 (vals_nil _ _ _)).mono ?_
    rintro e _ ⟨rfl, x2, rfl⟩
    go_wp2_with fail
    refine (Ext.call x2 (field_nil ⟨0, ⟨vk, vl, vh, vn⟩, false⟩ _)).mono ?_
    rintro e _ ⟨rfl, x3, rfl⟩
    go_wp2_with fail
    refine (Ext.call x3 (comp_nil _ _ _ _ _ _ _ _ _)).mono ?_
    rintro e _ ⟨rfl, x4, rfl⟩
    go_wp2_with fail
    refine (Ext.call x4 (top_nil h hn _)).mono ?_
    rintro e _ ⟨rfl, x5, rfl⟩
    go_wp2_with fail
    refine (Ext.call x5 (bottom_nil h hn _)).mono ?_
    rintro e _ ⟨rfl, x6, rfl⟩
    go_wp2_with fail
    refine (Ext.call x6 (global_nil ⟨vk, vl, vh, vn⟩ _)).mono ?_
    rintro e _ ⟨rfl, x7, rfl⟩
    go_wp2_with fail
    refine (Ext.call x7 (table_nil ⟨vk, vl, vh, vn⟩ _)).mono ?_
    rintro e _ ⟨rfl, x8, rfl⟩
    go_wp2_with fail
    refine (HM.out _ (HB1.out.trans (x8.2.mono HB1.out.size))).mono ?_
    rintro e w9 ⟨rfl, hb9⟩
    have HB9 := Lib.hid hb9
    clear hb9
    go_wp2
    go_ret
    exact ⟨rfl, HB9.out⟩
end Go.Proofs.YtnnbjenibfmcaaaGreatDoor

/- Heap types and composite types that came in. -/
namespace Go.Proofs.YtnnbjenibfmcaaaGreatDoor
open Go.Deep Go.ChangeShapes Go.WideShapes Go.ChangeAt Go.RowKit Go.Joins

set_option maxRecDepth 100000 in
theorem open_heapv {H : Type} {enc : TypeId × Value → H} {W : World} {r : Reach} {b0 base : Nat} {sp : Nat → Bool} {held : Bool} {v : Value} {d : DataW H} {ps : List MemPlace} (hval : Value.okWide Tryz.prog W r b0 31 v) (h : DataW.Trod enc Tryz.prog W base sp held 31 v d ps) :
    ∃ x : Hp, v = .agg (cellsH x).toArray ∧ B64 x.n := by
  obtain ⟨cs, rfl, hs⟩ := okWide_struct Tryz.underlying31 hval
  obtain ⟨fu, hm⟩ := h
  obtain ⟨l⟩ := cs
  obtain ⟨x, h1, h2⟩ := trod_heap hm
  exact ⟨x, by rw [← h1]; simp [Value.cells], h2⟩
set_option maxRecDepth 100000 in
theorem open_compv {H : Type} {enc : TypeId × Value → H} {W : World} {r : Reach} {b0 base : Nat} {sp : Nat → Bool} {held : Bool} {v : Value} {d : DataW H} {ps : List MemPlace} (hval : Value.okWide Tryz.prog W r b0 27 v) (h : DataW.Trod enc Tryz.prog W base sp held 27 v d ps) :
    ∃ (cs : List Value) (c : Sb), v = .agg cs.toArray ∧ CompAt W cs c := by
  obtain ⟨cs, rfl, hs⟩ := okWide_struct Tryz.underlying27 hval
  obtain ⟨fu, hm⟩ := h
  obtain ⟨l⟩ := cs
  obtain ⟨k, vp, vr, vf, lp, lr, lf, hcc, rp, rr, rf, _⟩ := trod_comp hm
  refine ⟨l, ⟨false, [], k, lp, lr, lf⟩, rfl, ⟨vp, vr, vf, ?_, rp, rr, rf⟩⟩
  simpa [Value.cells] using hcc
end Go.Proofs.YtnnbjenibfmcaaaGreatDoor
