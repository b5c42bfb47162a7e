/- package kind: KindWriting walked. -/
import Derived.Test.YtnaepekpgmalaaaDoorKdGood
import Derived.Test.YtnaepekpgmalaaaDoorKdTxt
import Derived.Test.YtnaepekpgmalaaaDoorKdSame
import Derived.Test.YtnaepekpgmalaaaDoorKdGreat
namespace Go.Proofs.YtnaepekpgmalaaaDoor
open Go.RowKit

theorem bytes_ne {a b : ByteArray} (h : a ≠ b) : (a.toList == b.toList) = false := by
  rw [beq_eq_false_iff_ne, ByteArray.toList_eq, ByteArray.toList_eq]
  exact fun e => h (ByteArray.ext (Array.toList_inj.1 e))
theorem bytes_eqd (a b : ByteArray) : (a.toList == b.toList) = decide (a = b) := by
  by_cases h : a = b
  · subst h; simp
  · rw [bytes_ne h, decide_eq_false h]
def KnownHolds : Prop := ∀ w, Tab w → Calls Tryd.prog 4 #[] w fun e w' => e = .returned (.bool true) ∧ Below w.heap.size w w'
theorem fits_of {s : Sb} (h : Small s) (h1 : ∀ x ∈ s.sups, B64 x.n) (h2 : ∀ v ∈ s.ps, B64 v.n) (h3 : ∀ v ∈ s.rs, B64 v.n) (h4 : ∀ f ∈ s.fs, B64 f.v.n ∧ B64 f.p) : Fits s := ⟨h1, h2, h3, h4, h⟩
set_option maxRecDepth 100000 in
set_option maxHeartbeats 16000000 in
theorem writing_any (hk : KnownHolds) (cs ds : List Value) (s t : Sb) (u x : Vl) (w : World) (hs : SubAt w cs s) (ht : SubAt w ds t) (htab : Tab w) (hfs : greatB s = false → Fits s) (hft : greatB t = false → Fits t) (hu : B64 u.n) (hx : B64 x.n) :
    Calls Tryd.prog 3 #[.agg cs.toArray, .agg ds.toArray, .agg (cellsV u).toArray, .agg (cellsV x).toArray] w fun e w' => e = .returned (.bool true) ∧ Below w.heap.size w w' := by
  have HS := Lib.hid hs; have HT := Lib.hid ht
  obtain ⟨vs1, vp1, vr1, vf1, rfl, _⟩ := hs.ex
  obtain ⟨vs2, vp2, vr2, vf2, rfl, _⟩ := ht.ex
  obtain ⟨uk, unl, uh, un⟩ := u
  obtain ⟨xk, xnl, xh, xn⟩ := x
  obtain ⟨fin1, k1, hf1, hk1⟩ : ∃ a b, s.fin = a ∧ s.k = b := ⟨_, _, rfl, rfl⟩
  obtain ⟨fin2, k2, hf2, hk2⟩ : ∃ a b, t.fin = a ∧ t.k = b := ⟨_, _, rfl, rfl⟩
  simp only [cellsV]
  rw [hf1, hk1, hf2, hk2]
  rw [hf1, hk1] at HS
  rw [hf2, hk2] at HT
  clear hs ht hf1 hk1 hf2 hk2
  obtain ⟨W0, hW⟩ : ∃ W0 : World, W0 = ((((w.alloc (.cells #[.bool fin1, vs1, .int .i64 k1, vp1, vr1, vf1] 29)).alloc (.cells #[.bool fin2, vs2, .int .i64 k2, vp2, vr2, vf2] 29)).alloc (.cells #[.int .i64 uk, .bool unl, .int .i64 uh, .int .i64 un] 35)).alloc (.cells #[.int .i64 xk, .bool xnl, .int .i64 xh, .int .i64 xn] 35)) := ⟨_, rfl⟩
  have hB : Below w.heap.size w W0 := by rw [hW]; exact (((((Below.refl _ _).alloc (by first | (simp; done) | (simp; omega)) _).alloc (by first | (simp; done) | (simp; omega)) _).alloc (by first | (simp; done) | (simp; omega)) _).alloc (by first | (simp; done) | (simp; omega)) _)
  have b0_0 : ∀ x : Ext W0, x.val.cell? ⟨w.heap.size, 0, none⟩ = some (.bool fin1) := Ext.cells (by rw [hW]; exact heap_cell (heap_alloc_keep (heap_alloc_keep (heap_alloc_keep (heap_alloc_at _ _ (by simp)) _) _) _) 0)
  have b0_1 : ∀ x : Ext W0, x.val.cell? ⟨w.heap.size, 1, none⟩ = some (vs1) := Ext.cells (by rw [hW]; exact heap_cell (heap_alloc_keep (heap_alloc_keep (heap_alloc_keep (heap_alloc_at _ _ (by simp)) _) _) _) 1)
  have b0_2 : ∀ x : Ext W0, x.val.cell? ⟨w.heap.size, 2, none⟩ = some (.int .i64 k1) := Ext.cells (by rw [hW]; exact heap_cell (heap_alloc_keep (heap_alloc_keep (heap_alloc_keep (heap_alloc_at _ _ (by simp)) _) _) _) 2)
  have b0_3 : ∀ x : Ext W0, x.val.cell? ⟨w.heap.size, 3, none⟩ = some (vp1) := Ext.cells (by rw [hW]; exact heap_cell (heap_alloc_keep (heap_alloc_keep (heap_alloc_keep (heap_alloc_at _ _ (by simp)) _) _) _) 3)
  have b0_4 : ∀ x : Ext W0, x.val.cell? ⟨w.heap.size, 4, none⟩ = some (vr1) := Ext.cells (by rw [hW]; exact heap_cell (heap_alloc_keep (heap_alloc_keep (heap_alloc_keep (heap_alloc_at _ _ (by simp)) _) _) _) 4)
  have b0_5 : ∀ x : Ext W0, x.val.cell? ⟨w.heap.size, 5, none⟩ = some (vf1) := Ext.cells (by rw [hW]; exact heap_cell (heap_alloc_keep (heap_alloc_keep (heap_alloc_keep (heap_alloc_at _ _ (by simp)) _) _) _) 5)
  have b1_0 : ∀ x : Ext W0, x.val.cell? ⟨w.heap.size + 1, 0, none⟩ = some (.bool fin2) := Ext.cells (by rw [hW]; exact heap_cell (heap_alloc_keep (heap_alloc_keep (heap_alloc_at _ _ (by simp)) _) _) 0)
  have b1_1 : ∀ x : Ext W0, x.val.cell? ⟨w.heap.size + 1, 1, none⟩ = some (vs2) := Ext.cells (by rw [hW]; exact heap_cell (heap_alloc_keep (heap_alloc_keep (heap_alloc_at _ _ (by simp)) _) _) 1)
  have b1_2 : ∀ x : Ext W0, x.val.cell? ⟨w.heap.size + 1, 2, none⟩ = some (.int .i64 k2) := Ext.cells (by rw [hW]; exact heap_cell (heap_alloc_keep (heap_alloc_keep (heap_alloc_at _ _ (by simp)) _) _) 2)
  have b1_3 : ∀ x : Ext W0, x.val.cell? ⟨w.heap.size + 1, 3, none⟩ = some (vp2) := Ext.cells (by rw [hW]; exact heap_cell (heap_alloc_keep (heap_alloc_keep (heap_alloc_at _ _ (by simp)) _) _) 3)
  have b1_4 : ∀ x : Ext W0, x.val.cell? ⟨w.heap.size + 1, 4, none⟩ = some (vr2) := Ext.cells (by rw [hW]; exact heap_cell (heap_alloc_keep (heap_alloc_keep (heap_alloc_at _ _ (by simp)) _) _) 4)
  have b1_5 : ∀ x : Ext W0, x.val.cell? ⟨w.heap.size + 1, 5, none⟩ = some (vf2) := Ext.cells (by rw [hW]; exact heap_cell (heap_alloc_keep (heap_alloc_keep (heap_alloc_at _ _ (by simp)) _) _) 5)
  have b2_0 : ∀ x : Ext W0, x.val.cell? ⟨w.heap.size + 1 + 1, 0, none⟩ = some (.int .i64 uk) := Ext.cells (by rw [hW]; exact heap_cell (heap_alloc_keep (heap_alloc_at _ _ (by simp)) _) 0)
  have b2_1 : ∀ x : Ext W0, x.val.cell? ⟨w.heap.size + 1 + 1, 1, none⟩ = some (.bool unl) := Ext.cells (by rw [hW]; exact heap_cell (heap_alloc_keep (heap_alloc_at _ _ (by simp)) _) 1)
  have b2_2 : ∀ x : Ext W0, x.val.cell? ⟨w.heap.size + 1 + 1, 2, none⟩ = some (.int .i64 uh) := Ext.cells (by rw [hW]; exact heap_cell (heap_alloc_keep (heap_alloc_at _ _ (by simp)) _) 2)
  have b2_3 : ∀ x : Ext W0, x.val.cell? ⟨w.heap.size + 1 + 1, 3, none⟩ = some (.int .i64 un) := Ext.cells (by rw [hW]; exact heap_cell (heap_alloc_keep (heap_alloc_at _ _ (by simp)) _) 3)
  have b3_0 : ∀ x : Ext W0, x.val.cell? ⟨w.heap.size + 1 + 1 + 1, 0, none⟩ = some (.int .i64 xk) := Ext.cells (by rw [hW]; exact heap_cell (heap_alloc_at _ _ (by simp)) 0)
  have b3_1 : ∀ x : Ext W0, x.val.cell? ⟨w.heap.size + 1 + 1 + 1, 1, none⟩ = some (.bool xnl) := Ext.cells (by rw [hW]; exact heap_cell (heap_alloc_at _ _ (by simp)) 1)
  have b3_2 : ∀ x : Ext W0, x.val.cell? ⟨w.heap.size + 1 + 1 + 1, 2, none⟩ = some (.int .i64 xh) := Ext.cells (by rw [hW]; exact heap_cell (heap_alloc_at _ _ (by simp)) 2)
  have b3_3 : ∀ x : Ext W0, x.val.cell? ⟨w.heap.size + 1 + 1 + 1, 3, none⟩ = some (.int .i64 xn) := Ext.cells (by rw [hW]; exact heap_cell (heap_alloc_at _ _ (by simp)) 3)
  have HW := Lib.hid hW; have HB := Lib.hid hB
  clear hW hB
  have HS0 := Lib.hid (HS.out.below HB.out (Nat.le_refl _)); have HT0 := Lib.hid (HT.out.below HB.out (Nat.le_refl _)); have HTab := Lib.hid (htab.on HB.out)
  have HFS := Lib.hid hfs; have HFT := Lib.hid hft; have HU := Lib.hid hu; have HX := Lib.hid hx; have HK := Lib.hid hk
  obtain ⟨g1, hg1⟩ : ∃ b, greatB s = b := ⟨_, rfl⟩
  obtain ⟨g2, hg2⟩ : ∃ b, greatB t = b := ⟨_, rfl⟩
  have G1 := Lib.hid hg1; have G2 := Lib.hid hg2
  clear htab hfs hft hu hx hk hg1 hg2
  go_enter Tryd.func3, Tryd.ntmps3
  go_wp2_with fail
  rw [← HW.out]
  refine (Ext.call0 (HK.out _ HTab.out)).mono ?_
  rintro e _ ⟨rfl, x1, rfl⟩
  go_wp2_with fail
  refine (Ext.call x1 (great_any _ s _ (HS0.out.ext x1))).mono ?_
  rintro e _ ⟨rfl, x2, rfl⟩
  rw [G1.out]
  cases g1
  case true =>
    go_wp2
    go_ret
    exact ⟨rfl, HB.out.trans (x2.2.mono HB.out.size)⟩
  go_wp2_with fail
  refine (Ext.call x2 (great_any _ t _ (HT0.out.ext x2))).mono ?_
  rintro e _ ⟨rfl, x3, rfl⟩
  rw [G2.out]
  cases g2
  case true =>
    go_wp2
    go_ret
    exact ⟨rfl, HB.out.trans (x3.2.mono HB.out.size)⟩
  have HFS1 := Lib.hid (HFS.out G1.out); have HFT1 := Lib.hid (HFT.out G2.out)
  obtain ⟨p1, hp1⟩ : ∃ b, plainS s = b := ⟨_, rfl⟩
  obtain ⟨p2, hp2⟩ : ∃ b, plainS t = b := ⟨_, rfl⟩
  have P1 := Lib.hid hp1; have P2 := Lib.hid hp2
  clear hp1 hp2
  obtain ⟨W3, hW3⟩ : ∃ W3, x3.val = W3 := ⟨_, rfl⟩
  have hb3 : Below W0.heap.size W0 W3 := by rw [← hW3]; exact x3.2
  rw [hW3]
  have d0_0 : ∀ x : Ext W3, x.val.cell? ⟨w.heap.size, 0, none⟩ = some (.bool fin1) := fun x => b0_0 ⟨x.val, hb3.trans (x.2.mono hb3.size)⟩
  have d0_1 : ∀ x : Ext W3, x.val.cell? ⟨w.heap.size, 1, none⟩ = some (vs1) := fun x => b0_1 ⟨x.val, hb3.trans (x.2.mono hb3.size)⟩
  have d0_2 : ∀ x : Ext W3, x.val.cell? ⟨w.heap.size, 2, none⟩ = some (.int .i64 k1) := fun x => b0_2 ⟨x.val, hb3.trans (x.2.mono hb3.size)⟩
  have d0_3 : ∀ x : Ext W3, x.val.cell? ⟨w.heap.size, 3, none⟩ = some (vp1) := fun x => b0_3 ⟨x.val, hb3.trans (x.2.mono hb3.size)⟩
  have d0_4 : ∀ x : Ext W3, x.val.cell? ⟨w.heap.size, 4, none⟩ = some (vr1) := fun x => b0_4 ⟨x.val, hb3.trans (x.2.mono hb3.size)⟩
  have d0_5 : ∀ x : Ext W3, x.val.cell? ⟨w.heap.size, 5, none⟩ = some (vf1) := fun x => b0_5 ⟨x.val, hb3.trans (x.2.mono hb3.size)⟩
  have d1_0 : ∀ x : Ext W3, x.val.cell? ⟨w.heap.size + 1, 0, none⟩ = some (.bool fin2) := fun x => b1_0 ⟨x.val, hb3.trans (x.2.mono hb3.size)⟩
  have d1_1 : ∀ x : Ext W3, x.val.cell? ⟨w.heap.size + 1, 1, none⟩ = some (vs2) := fun x => b1_1 ⟨x.val, hb3.trans (x.2.mono hb3.size)⟩
  have d1_2 : ∀ x : Ext W3, x.val.cell? ⟨w.heap.size + 1, 2, none⟩ = some (.int .i64 k2) := fun x => b1_2 ⟨x.val, hb3.trans (x.2.mono hb3.size)⟩
  have d1_3 : ∀ x : Ext W3, x.val.cell? ⟨w.heap.size + 1, 3, none⟩ = some (vp2) := fun x => b1_3 ⟨x.val, hb3.trans (x.2.mono hb3.size)⟩
  have d1_4 : ∀ x : Ext W3, x.val.cell? ⟨w.heap.size + 1, 4, none⟩ = some (vr2) := fun x => b1_4 ⟨x.val, hb3.trans (x.2.mono hb3.size)⟩
  have d1_5 : ∀ x : Ext W3, x.val.cell? ⟨w.heap.size + 1, 5, none⟩ = some (vf2) := fun x => b1_5 ⟨x.val, hb3.trans (x.2.mono hb3.size)⟩
  have d2_0 : ∀ x : Ext W3, x.val.cell? ⟨w.heap.size + 1 + 1, 0, none⟩ = some (.int .i64 uk) := fun x => b2_0 ⟨x.val, hb3.trans (x.2.mono hb3.size)⟩
  have d2_1 : ∀ x : Ext W3, x.val.cell? ⟨w.heap.size + 1 + 1, 1, none⟩ = some (.bool unl) := fun x => b2_1 ⟨x.val, hb3.trans (x.2.mono hb3.size)⟩
  have d2_2 : ∀ x : Ext W3, x.val.cell? ⟨w.heap.size + 1 + 1, 2, none⟩ = some (.int .i64 uh) := fun x => b2_2 ⟨x.val, hb3.trans (x.2.mono hb3.size)⟩
  have d2_3 : ∀ x : Ext W3, x.val.cell? ⟨w.heap.size + 1 + 1, 3, none⟩ = some (.int .i64 un) := fun x => b2_3 ⟨x.val, hb3.trans (x.2.mono hb3.size)⟩
  have d3_0 : ∀ x : Ext W3, x.val.cell? ⟨w.heap.size + 1 + 1 + 1, 0, none⟩ = some (.int .i64 xk) := fun x => b3_0 ⟨x.val, hb3.trans (x.2.mono hb3.size)⟩
  have d3_1 : ∀ x : Ext W3, x.val.cell? ⟨w.heap.size + 1 + 1 + 1, 1, none⟩ = some (.bool xnl) := fun x => b3_1 ⟨x.val, hb3.trans (x.2.mono hb3.size)⟩
  have d3_2 : ∀ x : Ext W3, x.val.cell? ⟨w.heap.size + 1 + 1 + 1, 2, none⟩ = some (.int .i64 xh) := fun x => b3_2 ⟨x.val, hb3.trans (x.2.mono hb3.size)⟩
  have d3_3 : ∀ x : Ext W3, x.val.cell? ⟨w.heap.size + 1 + 1 + 1, 3, none⟩ = some (.int .i64 xn) := fun x => b3_3 ⟨x.val, hb3.trans (x.2.mono hb3.size)⟩
  have HB3 := Lib.hid hb3
  clear hW3 hb3 b0_0 b0_1 b0_2 b0_3 b0_4 b0_5 b1_0 b1_1 b1_2 b1_3 b1_4 b1_5 b2_0 b2_1 b2_2 b2_3 b3_0 b3_1 b3_2 b3_3
  have calm : ∀ (y : Ext W3), Below W0.heap.size W0 y.val := fun y => HB3.out.trans (y.2.mono HB3.out.size)
  have HC := Lib.hid calm
  clear calm
  cases p1
  · go_wp2_with fail
    refine wp_region_calm (by kernel_rfl) (by kernel_rfl) ?_
    repeat (go_big_quiet_step (first | (go_at_call 6; exact Ext.call _ ((plainSub_any _ s _ (HS0.out.below (HC.out _) (Nat.le_refl _)) HFS1.out.small).mono (by rintro e w' ⟨rfl, hb⟩; exact ⟨by rw [P1.out], hb⟩)))))
    refine wpQuiet_nil ?_
    rintro w4 ⟨⟨w4, hb4⟩, rfl⟩
    go_wp2_with fail
    obtain ⟨pu, hpu⟩ : ∃ b, plainV ⟨uk, unl, uh, un⟩ = b := ⟨_, rfl⟩
    obtain ⟨px, hpx⟩ : ∃ b, plainV ⟨xk, xnl, xh, xn⟩ = b := ⟨_, rfl⟩
    have PU := Lib.hid hpu; have PX := Lib.hid hpx
    clear hpu hpx
    have e2_0 : ∀ x : Ext w4, x.val.cell? ⟨w.heap.size + 1 + 1, 0, none⟩ = some (.int .i64 uk) := fun x => d2_0 ⟨x.val, hb4.trans (x.2.mono hb4.size)⟩
    have e2_1 : ∀ x : Ext w4, x.val.cell? ⟨w.heap.size + 1 + 1, 1, none⟩ = some (.bool unl) := fun x => d2_1 ⟨x.val, hb4.trans (x.2.mono hb4.size)⟩
    have e2_2 : ∀ x : Ext w4, x.val.cell? ⟨w.heap.size + 1 + 1, 2, none⟩ = some (.int .i64 uh) := fun x => d2_2 ⟨x.val, hb4.trans (x.2.mono hb4.size)⟩
    have e2_3 : ∀ x : Ext w4, x.val.cell? ⟨w.heap.size + 1 + 1, 3, none⟩ = some (.int .i64 un) := fun x => d2_3 ⟨x.val, hb4.trans (x.2.mono hb4.size)⟩
    have e3_0 : ∀ x : Ext w4, x.val.cell? ⟨w.heap.size + 1 + 1 + 1, 0, none⟩ = some (.int .i64 xk) := fun x => d3_0 ⟨x.val, hb4.trans (x.2.mono hb4.size)⟩
    have e3_1 : ∀ x : Ext w4, x.val.cell? ⟨w.heap.size + 1 + 1 + 1, 1, none⟩ = some (.bool xnl) := fun x => d3_1 ⟨x.val, hb4.trans (x.2.mono hb4.size)⟩
    have e3_2 : ∀ x : Ext w4, x.val.cell? ⟨w.heap.size + 1 + 1 + 1, 2, none⟩ = some (.int .i64 xh) := fun x => d3_2 ⟨x.val, hb4.trans (x.2.mono hb4.size)⟩
    have e3_3 : ∀ x : Ext w4, x.val.cell? ⟨w.heap.size + 1 + 1 + 1, 3, none⟩ = some (.int .i64 xn) := fun x => d3_3 ⟨x.val, hb4.trans (x.2.mono hb4.size)⟩
    have hc4 : ∀ y : Ext w4, Below W0.heap.size W0 y.val := fun y => HC.out ⟨y.val, hb4.trans (y.2.mono hb4.size)⟩
    have HC4 := Lib.hid hc4
    clear hc4 hb4 HC d0_0 d0_1 d0_2 d0_3 d0_4 d0_5 d1_0 d1_1 d1_2 d1_3 d1_4 d1_5 d2_0 d2_1 d2_2 d2_3 d3_0 d3_1 d3_2 d3_3
    cases pu
    · go_wp2_with fail
      refine wp_region_calm (by kernel_rfl) (by kernel_rfl) ?_
      repeat (go_big_quiet_step (first | (go_at_call 9; exact Ext.call _ ((plainVal_any ⟨uk, unl, uh, un⟩ _).mono (by rintro e w' ⟨rfl, hb⟩; exact ⟨by rw [PU.out], hb⟩)))))
      refine wpQuiet_nil ?_
      rintro w5 ⟨⟨w5, hb5⟩, rfl⟩
      go_wp2
      go_ret
      exact ⟨rfl, HB.out.trans ((HC4.out ⟨w5, hb5⟩).mono HB.out.size)⟩
    · cases px
      · go_wp2_with fail
        refine wp_region_calm (by kernel_rfl) (by kernel_rfl) ?_
        iterate 3 (go_big_quiet_step (first | (go_at_call 9; exact Ext.call _ ((plainVal_any ⟨uk, unl, uh, un⟩ _).mono (by rintro e w' ⟨rfl, hb⟩; exact ⟨by rw [PU.out], hb⟩)))))
        repeat (go_big_quiet_step (first | (go_at_call 9; exact Ext.call _ ((plainVal_any ⟨xk, xnl, xh, xn⟩ _).mono (by rintro e w' ⟨rfl, hb⟩; exact ⟨by rw [PX.out], hb⟩)))))
        refine wpQuiet_nil ?_
        rintro w5 ⟨⟨w5, hb5⟩, rfl⟩
        go_wp2
        go_ret
        exact ⟨rfl, HB.out.trans ((HC4.out ⟨w5, hb5⟩).mono HB.out.size)⟩
      · by_cases hux : uk = xk ∧ unl = xnl ∧ uh = xh ∧ un = xn
        · obtain ⟨rfl, rfl, rfl, rfl⟩ := hux
          obtain ⟨Y1, hY1⟩ : ∃ Y, (⟨(valT ⟨uk, unl, uh, un⟩).toArray⟩ : ByteArray) = Y := ⟨_, rfl⟩
          have HY1 := Lib.hid hY1
          clear hY1
          go_wp2_with fail
          refine wp_region_calm (by kernel_rfl) (by kernel_rfl) ?_
          iterate 8 (go_big_quiet_step (first | (go_at_call 9; exact Ext.call _ ((plainVal_any ⟨uk, unl, uh, un⟩ _).mono (by rintro e w' ⟨rfl, hb⟩; exact ⟨by rw [PU.out], hb⟩)))))
          repeat (go_big_quiet_step (first | (go_at_call 10; exact Ext.call _ ((valText_any ⟨uk, unl, uh, un⟩ HU.out _ (HTab.out.on (HC4.out _))).mono (by rintro e w' ⟨rfl, hb⟩; exact ⟨by rw [HY1.out], hb⟩))) | (go_at_call 9; exact Ext.call _ ((plainVal_any ⟨uk, unl, uh, un⟩ _).mono (by rintro e w' ⟨rfl, hb⟩; exact ⟨by rw [PU.out], hb⟩)))))
          refine wpQuiet_nil ?_
          rintro w5 ⟨⟨w5, hb5⟩, rfl⟩
          go_wp2
          go_ret
          exact ⟨rfl, HB.out.trans ((HC4.out ⟨w5, hb5⟩).mono HB.out.size)⟩
        · have hwr : ¬ ((⟨(valT ⟨uk, unl, uh, un⟩).toArray⟩ : ByteArray) = ⟨(valT ⟨xk, xnl, xh, xn⟩).toArray⟩) := fun h => hux (by simpa using (val_writing PU.out PX.out).1 h)
          obtain ⟨Y1, hY1⟩ : ∃ Y, (⟨(valT ⟨uk, unl, uh, un⟩).toArray⟩ : ByteArray) = Y := ⟨_, rfl⟩
          obtain ⟨Y2, hY2⟩ : ∃ Y, (⟨(valT ⟨xk, xnl, xh, xn⟩).toArray⟩ : ByteArray) = Y := ⟨_, rfl⟩
          rw [hY1, hY2] at hwr
          have hy : (Y1.toList == Y2.toList) = false := bytes_ne hwr
          have HY1 := Lib.hid hY1; have HY2 := Lib.hid hY2; have HWR := Lib.hid hwr; have HUX := Lib.hid hux
          clear hY1 hY2 hwr hux
          rcases Classical.em (uk = xk) with e1 | e1
          · have m1 : (uk == xk) = true := by simpa using e1
            have k1 : decide (uk = xk) = true := by simpa using e1
            have E1 := Lib.hid e1
            clear e1
            rcases Classical.em (unl = xnl) with e2 | e2
            · have m2 : (unl == xnl) = true := by simpa using e2
              have k2 : decide (unl = xnl) = true := by simpa using e2
              have E2 := Lib.hid e2
              clear e2
              rcases Classical.em (uh = xh) with e3 | e3
              · have m3 : (uh == xh) = true := by simpa using e3
                have k3 : decide (uh = xh) = true := by simpa using e3
                have E3 := Lib.hid e3
                clear e3
                rcases Classical.em (un = xn) with e4 | e4
                · have m4 : (un == xn) = true := by simpa using e4
                  have k4 : decide (un = xn) = true := by simpa using e4
                  have E4 := Lib.hid e4
                  clear e4
                  exact absurd ⟨E1.out, E2.out, E3.out, E4.out⟩ HUX.out
                · have m4 : (un == xn) = false := by simpa using e4
                  have k4 : decide (un = xn) = false := by simpa using e4
                  clear e4
                  go_wp2_with fail
                  refine wp_region_calm (by kernel_rfl) (by kernel_rfl) ?_
                  iterate 3 (go_big_quiet_step (first | (go_at_call 9; exact Ext.call _ ((plainVal_any ⟨uk, unl, uh, un⟩ _).mono (by rintro e w' ⟨rfl, hb⟩; exact ⟨by rw [PU.out], hb⟩)))))
                  iterate 8 (go_big_quiet_step (first | (go_at_call 9; exact Ext.call _ ((plainVal_any ⟨xk, xnl, xh, xn⟩ _).mono (by rintro e w' ⟨rfl, hb⟩; exact ⟨by rw [PX.out], hb⟩))) | (go_at_call 10; exact Ext.call _ ((valText_any ⟨uk, unl, uh, un⟩ HU.out _ (HTab.out.on (HC4.out _))).mono (by rintro e w' ⟨rfl, hb⟩; exact ⟨by rw [HY1.out], hb⟩)))))
                  repeat (go_big_quiet_step (first | (go_at_call 10; exact Ext.call _ ((valText_any ⟨xk, xnl, xh, xn⟩ HX.out _ (HTab.out.on (HC4.out _))).mono (by rintro e w' ⟨rfl, hb⟩; exact ⟨by rw [HY2.out], hb⟩)))))
                  refine wpQuiet_nil ?_
                  rintro w5 ⟨⟨w5, hb5⟩, rfl⟩
                  go_wp2
                  go_ret
                  exact ⟨rfl, HB.out.trans ((HC4.out ⟨w5, hb5⟩).mono HB.out.size)⟩
              · have m3 : (uh == xh) = false := by simpa using e3
                have k3 : decide (uh = xh) = false := by simpa using e3
                clear e3
                go_wp2_with fail
                refine wp_region_calm (by kernel_rfl) (by kernel_rfl) ?_
                iterate 3 (go_big_quiet_step (first | (go_at_call 9; exact Ext.call _ ((plainVal_any ⟨uk, unl, uh, un⟩ _).mono (by rintro e w' ⟨rfl, hb⟩; exact ⟨by rw [PU.out], hb⟩)))))
                iterate 8 (go_big_quiet_step (first | (go_at_call 9; exact Ext.call _ ((plainVal_any ⟨xk, xnl, xh, xn⟩ _).mono (by rintro e w' ⟨rfl, hb⟩; exact ⟨by rw [PX.out], hb⟩))) | (go_at_call 10; exact Ext.call _ ((valText_any ⟨uk, unl, uh, un⟩ HU.out _ (HTab.out.on (HC4.out _))).mono (by rintro e w' ⟨rfl, hb⟩; exact ⟨by rw [HY1.out], hb⟩)))))
                repeat (go_big_quiet_step (first | (go_at_call 10; exact Ext.call _ ((valText_any ⟨xk, xnl, xh, xn⟩ HX.out _ (HTab.out.on (HC4.out _))).mono (by rintro e w' ⟨rfl, hb⟩; exact ⟨by rw [HY2.out], hb⟩)))))
                refine wpQuiet_nil ?_
                rintro w5 ⟨⟨w5, hb5⟩, rfl⟩
                go_wp2
                go_ret
                exact ⟨rfl, HB.out.trans ((HC4.out ⟨w5, hb5⟩).mono HB.out.size)⟩
            · have m2 : (unl == xnl) = false := by simpa using e2
              have k2 : decide (unl = xnl) = false := by simpa using e2
              clear e2
              go_wp2_with fail
              refine wp_region_calm (by kernel_rfl) (by kernel_rfl) ?_
              iterate 3 (go_big_quiet_step (first | (go_at_call 9; exact Ext.call _ ((plainVal_any ⟨uk, unl, uh, un⟩ _).mono (by rintro e w' ⟨rfl, hb⟩; exact ⟨by rw [PU.out], hb⟩)))))
              iterate 8 (go_big_quiet_step (first | (go_at_call 9; exact Ext.call _ ((plainVal_any ⟨xk, xnl, xh, xn⟩ _).mono (by rintro e w' ⟨rfl, hb⟩; exact ⟨by rw [PX.out], hb⟩))) | (go_at_call 10; exact Ext.call _ ((valText_any ⟨uk, unl, uh, un⟩ HU.out _ (HTab.out.on (HC4.out _))).mono (by rintro e w' ⟨rfl, hb⟩; exact ⟨by rw [HY1.out], hb⟩)))))
              repeat (go_big_quiet_step (first | (go_at_call 10; exact Ext.call _ ((valText_any ⟨xk, xnl, xh, xn⟩ HX.out _ (HTab.out.on (HC4.out _))).mono (by rintro e w' ⟨rfl, hb⟩; exact ⟨by rw [HY2.out], hb⟩)))))
              refine wpQuiet_nil ?_
              rintro w5 ⟨⟨w5, hb5⟩, rfl⟩
              go_wp2
              go_ret
              exact ⟨rfl, HB.out.trans ((HC4.out ⟨w5, hb5⟩).mono HB.out.size)⟩
          · have m1 : (uk == xk) = false := by simpa using e1
            have k1 : decide (uk = xk) = false := by simpa using e1
            clear e1
            go_wp2_with fail
            refine wp_region_calm (by kernel_rfl) (by kernel_rfl) ?_
            iterate 3 (go_big_quiet_step (first | (go_at_call 9; exact Ext.call _ ((plainVal_any ⟨uk, unl, uh, un⟩ _).mono (by rintro e w' ⟨rfl, hb⟩; exact ⟨by rw [PU.out], hb⟩)))))
            iterate 8 (go_big_quiet_step (first | (go_at_call 9; exact Ext.call _ ((plainVal_any ⟨xk, xnl, xh, xn⟩ _).mono (by rintro e w' ⟨rfl, hb⟩; exact ⟨by rw [PX.out], hb⟩))) | (go_at_call 10; exact Ext.call _ ((valText_any ⟨uk, unl, uh, un⟩ HU.out _ (HTab.out.on (HC4.out _))).mono (by rintro e w' ⟨rfl, hb⟩; exact ⟨by rw [HY1.out], hb⟩)))))
            repeat (go_big_quiet_step (first | (go_at_call 10; exact Ext.call _ ((valText_any ⟨xk, xnl, xh, xn⟩ HX.out _ (HTab.out.on (HC4.out _))).mono (by rintro e w' ⟨rfl, hb⟩; exact ⟨by rw [HY2.out], hb⟩)))))
            refine wpQuiet_nil ?_
            rintro w5 ⟨⟨w5, hb5⟩, rfl⟩
            go_wp2
            go_ret
            exact ⟨rfl, HB.out.trans ((HC4.out ⟨w5, hb5⟩).mono HB.out.size)⟩
  · have hp := P1.out
    cases p2
    · go_wp2_with fail
      refine wp_region_calm (by kernel_rfl) (by kernel_rfl) ?_
      iterate 4 (go_big_quiet_step (first | (go_at_call 6; exact Ext.call _ ((plainSub_any _ s _ (HS0.out.below (HC.out _) (Nat.le_refl _)) HFS1.out.small).mono (by rintro e w' ⟨rfl, hb⟩; exact ⟨by rw [P1.out], hb⟩)))))
      repeat (go_big_quiet_step (first | (go_at_call 6; exact Ext.call _ ((plainSub_any _ t _ (HT0.out.below (HC.out _) (Nat.le_refl _)) HFT1.out.small).mono (by rintro e w' ⟨rfl, hb⟩; exact ⟨by rw [P2.out], hb⟩)))))
      refine wpQuiet_nil ?_
      rintro w4 ⟨⟨w4, hb4⟩, rfl⟩
      go_wp2_with fail
      obtain ⟨pu, hpu⟩ : ∃ b, plainV ⟨uk, unl, uh, un⟩ = b := ⟨_, rfl⟩
      obtain ⟨px, hpx⟩ : ∃ b, plainV ⟨xk, xnl, xh, xn⟩ = b := ⟨_, rfl⟩
      have PU := Lib.hid hpu; have PX := Lib.hid hpx
      clear hpu hpx
      have e2_0 : ∀ x : Ext w4, x.val.cell? ⟨w.heap.size + 1 + 1, 0, none⟩ = some (.int .i64 uk) := fun x => d2_0 ⟨x.val, hb4.trans (x.2.mono hb4.size)⟩
      have e2_1 : ∀ x : Ext w4, x.val.cell? ⟨w.heap.size + 1 + 1, 1, none⟩ = some (.bool unl) := fun x => d2_1 ⟨x.val, hb4.trans (x.2.mono hb4.size)⟩
      have e2_2 : ∀ x : Ext w4, x.val.cell? ⟨w.heap.size + 1 + 1, 2, none⟩ = some (.int .i64 uh) := fun x => d2_2 ⟨x.val, hb4.trans (x.2.mono hb4.size)⟩
      have e2_3 : ∀ x : Ext w4, x.val.cell? ⟨w.heap.size + 1 + 1, 3, none⟩ = some (.int .i64 un) := fun x => d2_3 ⟨x.val, hb4.trans (x.2.mono hb4.size)⟩
      have e3_0 : ∀ x : Ext w4, x.val.cell? ⟨w.heap.size + 1 + 1 + 1, 0, none⟩ = some (.int .i64 xk) := fun x => d3_0 ⟨x.val, hb4.trans (x.2.mono hb4.size)⟩
      have e3_1 : ∀ x : Ext w4, x.val.cell? ⟨w.heap.size + 1 + 1 + 1, 1, none⟩ = some (.bool xnl) := fun x => d3_1 ⟨x.val, hb4.trans (x.2.mono hb4.size)⟩
      have e3_2 : ∀ x : Ext w4, x.val.cell? ⟨w.heap.size + 1 + 1 + 1, 2, none⟩ = some (.int .i64 xh) := fun x => d3_2 ⟨x.val, hb4.trans (x.2.mono hb4.size)⟩
      have e3_3 : ∀ x : Ext w4, x.val.cell? ⟨w.heap.size + 1 + 1 + 1, 3, none⟩ = some (.int .i64 xn) := fun x => d3_3 ⟨x.val, hb4.trans (x.2.mono hb4.size)⟩
      have hc4 : ∀ y : Ext w4, Below W0.heap.size W0 y.val := fun y => HC.out ⟨y.val, hb4.trans (y.2.mono hb4.size)⟩
      have HC4 := Lib.hid hc4
      clear hc4 hb4 HC d0_0 d0_1 d0_2 d0_3 d0_4 d0_5 d1_0 d1_1 d1_2 d1_3 d1_4 d1_5 d2_0 d2_1 d2_2 d2_3 d3_0 d3_1 d3_2 d3_3
      cases pu
      · go_wp2_with fail
        refine wp_region_calm (by kernel_rfl) (by kernel_rfl) ?_
        repeat (go_big_quiet_step (first | (go_at_call 9; exact Ext.call _ ((plainVal_any ⟨uk, unl, uh, un⟩ _).mono (by rintro e w' ⟨rfl, hb⟩; exact ⟨by rw [PU.out], hb⟩)))))
        refine wpQuiet_nil ?_
        rintro w5 ⟨⟨w5, hb5⟩, rfl⟩
        go_wp2
        go_ret
        exact ⟨rfl, HB.out.trans ((HC4.out ⟨w5, hb5⟩).mono HB.out.size)⟩
      · cases px
        · go_wp2_with fail
          refine wp_region_calm (by kernel_rfl) (by kernel_rfl) ?_
          iterate 3 (go_big_quiet_step (first | (go_at_call 9; exact Ext.call _ ((plainVal_any ⟨uk, unl, uh, un⟩ _).mono (by rintro e w' ⟨rfl, hb⟩; exact ⟨by rw [PU.out], hb⟩)))))
          repeat (go_big_quiet_step (first | (go_at_call 9; exact Ext.call _ ((plainVal_any ⟨xk, xnl, xh, xn⟩ _).mono (by rintro e w' ⟨rfl, hb⟩; exact ⟨by rw [PX.out], hb⟩)))))
          refine wpQuiet_nil ?_
          rintro w5 ⟨⟨w5, hb5⟩, rfl⟩
          go_wp2
          go_ret
          exact ⟨rfl, HB.out.trans ((HC4.out ⟨w5, hb5⟩).mono HB.out.size)⟩
        · by_cases hux : uk = xk ∧ unl = xnl ∧ uh = xh ∧ un = xn
          · obtain ⟨rfl, rfl, rfl, rfl⟩ := hux
            obtain ⟨Y1, hY1⟩ : ∃ Y, (⟨(valT ⟨uk, unl, uh, un⟩).toArray⟩ : ByteArray) = Y := ⟨_, rfl⟩
            have HY1 := Lib.hid hY1
            clear hY1
            go_wp2_with fail
            refine wp_region_calm (by kernel_rfl) (by kernel_rfl) ?_
            iterate 8 (go_big_quiet_step (first | (go_at_call 9; exact Ext.call _ ((plainVal_any ⟨uk, unl, uh, un⟩ _).mono (by rintro e w' ⟨rfl, hb⟩; exact ⟨by rw [PU.out], hb⟩)))))
            repeat (go_big_quiet_step (first | (go_at_call 10; exact Ext.call _ ((valText_any ⟨uk, unl, uh, un⟩ HU.out _ (HTab.out.on (HC4.out _))).mono (by rintro e w' ⟨rfl, hb⟩; exact ⟨by rw [HY1.out], hb⟩))) | (go_at_call 9; exact Ext.call _ ((plainVal_any ⟨uk, unl, uh, un⟩ _).mono (by rintro e w' ⟨rfl, hb⟩; exact ⟨by rw [PU.out], hb⟩)))))
            refine wpQuiet_nil ?_
            rintro w5 ⟨⟨w5, hb5⟩, rfl⟩
            go_wp2
            go_ret
            exact ⟨rfl, HB.out.trans ((HC4.out ⟨w5, hb5⟩).mono HB.out.size)⟩
          · have hwr : ¬ ((⟨(valT ⟨uk, unl, uh, un⟩).toArray⟩ : ByteArray) = ⟨(valT ⟨xk, xnl, xh, xn⟩).toArray⟩) := fun h => hux (by simpa using (val_writing PU.out PX.out).1 h)
            obtain ⟨Y1, hY1⟩ : ∃ Y, (⟨(valT ⟨uk, unl, uh, un⟩).toArray⟩ : ByteArray) = Y := ⟨_, rfl⟩
            obtain ⟨Y2, hY2⟩ : ∃ Y, (⟨(valT ⟨xk, xnl, xh, xn⟩).toArray⟩ : ByteArray) = Y := ⟨_, rfl⟩
            rw [hY1, hY2] at hwr
            have hy : (Y1.toList == Y2.toList) = false := bytes_ne hwr
            have HY1 := Lib.hid hY1; have HY2 := Lib.hid hY2; have HWR := Lib.hid hwr; have HUX := Lib.hid hux
            clear hY1 hY2 hwr hux
            rcases Classical.em (uk = xk) with e1 | e1
            · have m1 : (uk == xk) = true := by simpa using e1
              have k1 : decide (uk = xk) = true := by simpa using e1
              have E1 := Lib.hid e1
              clear e1
              rcases Classical.em (unl = xnl) with e2 | e2
              · have m2 : (unl == xnl) = true := by simpa using e2
                have k2 : decide (unl = xnl) = true := by simpa using e2
                have E2 := Lib.hid e2
                clear e2
                rcases Classical.em (uh = xh) with e3 | e3
                · have m3 : (uh == xh) = true := by simpa using e3
                  have k3 : decide (uh = xh) = true := by simpa using e3
                  have E3 := Lib.hid e3
                  clear e3
                  rcases Classical.em (un = xn) with e4 | e4
                  · have m4 : (un == xn) = true := by simpa using e4
                    have k4 : decide (un = xn) = true := by simpa using e4
                    have E4 := Lib.hid e4
                    clear e4
                    exact absurd ⟨E1.out, E2.out, E3.out, E4.out⟩ HUX.out
                  · have m4 : (un == xn) = false := by simpa using e4
                    have k4 : decide (un = xn) = false := by simpa using e4
                    clear e4
                    go_wp2_with fail
                    refine wp_region_calm (by kernel_rfl) (by kernel_rfl) ?_
                    iterate 3 (go_big_quiet_step (first | (go_at_call 9; exact Ext.call _ ((plainVal_any ⟨uk, unl, uh, un⟩ _).mono (by rintro e w' ⟨rfl, hb⟩; exact ⟨by rw [PU.out], hb⟩)))))
                    iterate 8 (go_big_quiet_step (first | (go_at_call 9; exact Ext.call _ ((plainVal_any ⟨xk, xnl, xh, xn⟩ _).mono (by rintro e w' ⟨rfl, hb⟩; exact ⟨by rw [PX.out], hb⟩))) | (go_at_call 10; exact Ext.call _ ((valText_any ⟨uk, unl, uh, un⟩ HU.out _ (HTab.out.on (HC4.out _))).mono (by rintro e w' ⟨rfl, hb⟩; exact ⟨by rw [HY1.out], hb⟩)))))
                    repeat (go_big_quiet_step (first | (go_at_call 10; exact Ext.call _ ((valText_any ⟨xk, xnl, xh, xn⟩ HX.out _ (HTab.out.on (HC4.out _))).mono (by rintro e w' ⟨rfl, hb⟩; exact ⟨by rw [HY2.out], hb⟩)))))
                    refine wpQuiet_nil ?_
                    rintro w5 ⟨⟨w5, hb5⟩, rfl⟩
                    go_wp2
                    go_ret
                    exact ⟨rfl, HB.out.trans ((HC4.out ⟨w5, hb5⟩).mono HB.out.size)⟩
                · have m3 : (uh == xh) = false := by simpa using e3
                  have k3 : decide (uh = xh) = false := by simpa using e3
                  clear e3
                  go_wp2_with fail
                  refine wp_region_calm (by kernel_rfl) (by kernel_rfl) ?_
                  iterate 3 (go_big_quiet_step (first | (go_at_call 9; exact Ext.call _ ((plainVal_any ⟨uk, unl, uh, un⟩ _).mono (by rintro e w' ⟨rfl, hb⟩; exact ⟨by rw [PU.out], hb⟩)))))
                  iterate 8 (go_big_quiet_step (first | (go_at_call 9; exact Ext.call _ ((plainVal_any ⟨xk, xnl, xh, xn⟩ _).mono (by rintro e w' ⟨rfl, hb⟩; exact ⟨by rw [PX.out], hb⟩))) | (go_at_call 10; exact Ext.call _ ((valText_any ⟨uk, unl, uh, un⟩ HU.out _ (HTab.out.on (HC4.out _))).mono (by rintro e w' ⟨rfl, hb⟩; exact ⟨by rw [HY1.out], hb⟩)))))
                  repeat (go_big_quiet_step (first | (go_at_call 10; exact Ext.call _ ((valText_any ⟨xk, xnl, xh, xn⟩ HX.out _ (HTab.out.on (HC4.out _))).mono (by rintro e w' ⟨rfl, hb⟩; exact ⟨by rw [HY2.out], hb⟩)))))
                  refine wpQuiet_nil ?_
                  rintro w5 ⟨⟨w5, hb5⟩, rfl⟩
                  go_wp2
                  go_ret
                  exact ⟨rfl, HB.out.trans ((HC4.out ⟨w5, hb5⟩).mono HB.out.size)⟩
              · have m2 : (unl == xnl) = false := by simpa using e2
                have k2 : decide (unl = xnl) = false := by simpa using e2
                clear e2
                go_wp2_with fail
                refine wp_region_calm (by kernel_rfl) (by kernel_rfl) ?_
                iterate 3 (go_big_quiet_step (first | (go_at_call 9; exact Ext.call _ ((plainVal_any ⟨uk, unl, uh, un⟩ _).mono (by rintro e w' ⟨rfl, hb⟩; exact ⟨by rw [PU.out], hb⟩)))))
                iterate 8 (go_big_quiet_step (first | (go_at_call 9; exact Ext.call _ ((plainVal_any ⟨xk, xnl, xh, xn⟩ _).mono (by rintro e w' ⟨rfl, hb⟩; exact ⟨by rw [PX.out], hb⟩))) | (go_at_call 10; exact Ext.call _ ((valText_any ⟨uk, unl, uh, un⟩ HU.out _ (HTab.out.on (HC4.out _))).mono (by rintro e w' ⟨rfl, hb⟩; exact ⟨by rw [HY1.out], hb⟩)))))
                repeat (go_big_quiet_step (first | (go_at_call 10; exact Ext.call _ ((valText_any ⟨xk, xnl, xh, xn⟩ HX.out _ (HTab.out.on (HC4.out _))).mono (by rintro e w' ⟨rfl, hb⟩; exact ⟨by rw [HY2.out], hb⟩)))))
                refine wpQuiet_nil ?_
                rintro w5 ⟨⟨w5, hb5⟩, rfl⟩
                go_wp2
                go_ret
                exact ⟨rfl, HB.out.trans ((HC4.out ⟨w5, hb5⟩).mono HB.out.size)⟩
            · have m1 : (uk == xk) = false := by simpa using e1
              have k1 : decide (uk = xk) = false := by simpa using e1
              clear e1
              go_wp2_with fail
              refine wp_region_calm (by kernel_rfl) (by kernel_rfl) ?_
              iterate 3 (go_big_quiet_step (first | (go_at_call 9; exact Ext.call _ ((plainVal_any ⟨uk, unl, uh, un⟩ _).mono (by rintro e w' ⟨rfl, hb⟩; exact ⟨by rw [PU.out], hb⟩)))))
              iterate 8 (go_big_quiet_step (first | (go_at_call 9; exact Ext.call _ ((plainVal_any ⟨xk, xnl, xh, xn⟩ _).mono (by rintro e w' ⟨rfl, hb⟩; exact ⟨by rw [PX.out], hb⟩))) | (go_at_call 10; exact Ext.call _ ((valText_any ⟨uk, unl, uh, un⟩ HU.out _ (HTab.out.on (HC4.out _))).mono (by rintro e w' ⟨rfl, hb⟩; exact ⟨by rw [HY1.out], hb⟩)))))
              repeat (go_big_quiet_step (first | (go_at_call 10; exact Ext.call _ ((valText_any ⟨xk, xnl, xh, xn⟩ HX.out _ (HTab.out.on (HC4.out _))).mono (by rintro e w' ⟨rfl, hb⟩; exact ⟨by rw [HY2.out], hb⟩)))))
              refine wpQuiet_nil ?_
              rintro w5 ⟨⟨w5, hb5⟩, rfl⟩
              go_wp2
              go_ret
              exact ⟨rfl, HB.out.trans ((HC4.out ⟨w5, hb5⟩).mono HB.out.size)⟩
    · obtain ⟨X1, hX1⟩ : ∃ X, (⟨(subT s).toArray⟩ : ByteArray) = X := ⟨_, rfl⟩
      obtain ⟨X2, hX2⟩ : ∃ X, (⟨(subT t).toArray⟩ : ByteArray) = X := ⟨_, rfl⟩
      have hwr := sub_writing P1.out P2.out
      rw [hX1, hX2] at hwr
      obtain ⟨q, hq⟩ : ∃ b, decide (s = t) = b := ⟨_, rfl⟩
      have hxq : decide (X1 = X2) = q := by rw [← hq]; exact decide_eq_decide.2 hwr
      have hxl : (X1.toList == X2.toList) = q := by rw [bytes_eqd, hxq]
      have HX1 := Lib.hid hX1; have HX2 := Lib.hid hX2; have HQ := Lib.hid hq
      clear hX1 hX2 hwr hq hp
      go_wp2_with fail
      refine wp_region_calm (by kernel_rfl) (by kernel_rfl) ?_
      iterate 4 (go_big_quiet_step (first | (go_at_call 6; exact Ext.call _ ((plainSub_any _ s _ (HS0.out.below (HC.out _) (Nat.le_refl _)) HFS1.out.small).mono (by rintro e w' ⟨rfl, hb⟩; exact ⟨by rw [P1.out], hb⟩)))))
      iterate 5 (go_big_quiet_step (first | (go_at_call 6; exact Ext.call _ ((plainSub_any _ t _ (HT0.out.below (HC.out _) (Nat.le_refl _)) HFT1.out.small).mono (by rintro e w' ⟨rfl, hb⟩; exact ⟨by rw [P2.out], hb⟩))) | (go_at_call 7; exact Ext.call _ ((text_any _ s HFS1.out _ (HS0.out.below (HC.out _) (Nat.le_refl _)) (HTab.out.on (HC.out _))).mono (by rintro e w' ⟨rfl, hb⟩; exact ⟨by rw [HX1.out], hb⟩)))))
      repeat (go_big_quiet_step (first | (go_at_call 7; exact Ext.call _ ((text_any _ t HFT1.out _ (HT0.out.below (HC.out _) (Nat.le_refl _)) (HTab.out.on (HC.out _))).mono (by rintro e w' ⟨rfl, hb⟩; exact ⟨by rw [HX2.out], hb⟩))) | (go_at_call 8; exact Ext.call _ ((same_any _ _ s t _ (HS0.out.below (HC.out _) (Nat.le_refl _)) (HT0.out.below (HC.out _) (Nat.le_refl _)) HFS1.out.small HFT1.out.small).mono (by rintro e w' ⟨rfl, hb⟩; exact ⟨by rw [HQ.out], hb⟩)))))
      refine wpQuiet_nil ?_
      rintro w4 ⟨⟨w4, hb4⟩, rfl⟩
      go_wp2_with fail
      obtain ⟨pu, hpu⟩ : ∃ b, plainV ⟨uk, unl, uh, un⟩ = b := ⟨_, rfl⟩
      obtain ⟨px, hpx⟩ : ∃ b, plainV ⟨xk, xnl, xh, xn⟩ = b := ⟨_, rfl⟩
      have PU := Lib.hid hpu; have PX := Lib.hid hpx
      clear hpu hpx
      have e2_0 : ∀ x : Ext w4, x.val.cell? ⟨w.heap.size + 1 + 1, 0, none⟩ = some (.int .i64 uk) := fun x => d2_0 ⟨x.val, hb4.trans (x.2.mono hb4.size)⟩
      have e2_1 : ∀ x : Ext w4, x.val.cell? ⟨w.heap.size + 1 + 1, 1, none⟩ = some (.bool unl) := fun x => d2_1 ⟨x.val, hb4.trans (x.2.mono hb4.size)⟩
      have e2_2 : ∀ x : Ext w4, x.val.cell? ⟨w.heap.size + 1 + 1, 2, none⟩ = some (.int .i64 uh) := fun x => d2_2 ⟨x.val, hb4.trans (x.2.mono hb4.size)⟩
      have e2_3 : ∀ x : Ext w4, x.val.cell? ⟨w.heap.size + 1 + 1, 3, none⟩ = some (.int .i64 un) := fun x => d2_3 ⟨x.val, hb4.trans (x.2.mono hb4.size)⟩
      have e3_0 : ∀ x : Ext w4, x.val.cell? ⟨w.heap.size + 1 + 1 + 1, 0, none⟩ = some (.int .i64 xk) := fun x => d3_0 ⟨x.val, hb4.trans (x.2.mono hb4.size)⟩
      have e3_1 : ∀ x : Ext w4, x.val.cell? ⟨w.heap.size + 1 + 1 + 1, 1, none⟩ = some (.bool xnl) := fun x => d3_1 ⟨x.val, hb4.trans (x.2.mono hb4.size)⟩
      have e3_2 : ∀ x : Ext w4, x.val.cell? ⟨w.heap.size + 1 + 1 + 1, 2, none⟩ = some (.int .i64 xh) := fun x => d3_2 ⟨x.val, hb4.trans (x.2.mono hb4.size)⟩
      have e3_3 : ∀ x : Ext w4, x.val.cell? ⟨w.heap.size + 1 + 1 + 1, 3, none⟩ = some (.int .i64 xn) := fun x => d3_3 ⟨x.val, hb4.trans (x.2.mono hb4.size)⟩
      have hc4 : ∀ y : Ext w4, Below W0.heap.size W0 y.val := fun y => HC.out ⟨y.val, hb4.trans (y.2.mono hb4.size)⟩
      have HC4 := Lib.hid hc4
      clear hc4 hb4 HC d0_0 d0_1 d0_2 d0_3 d0_4 d0_5 d1_0 d1_1 d1_2 d1_3 d1_4 d1_5 d2_0 d2_1 d2_2 d2_3 d3_0 d3_1 d3_2 d3_3
      cases pu
      · go_wp2_with fail
        refine wp_region_calm (by kernel_rfl) (by kernel_rfl) ?_
        repeat (go_big_quiet_step (first | (go_at_call 9; exact Ext.call _ ((plainVal_any ⟨uk, unl, uh, un⟩ _).mono (by rintro e w' ⟨rfl, hb⟩; exact ⟨by rw [PU.out], hb⟩)))))
        refine wpQuiet_nil ?_
        rintro w5 ⟨⟨w5, hb5⟩, rfl⟩
        go_wp2
        go_ret
        exact ⟨rfl, HB.out.trans ((HC4.out ⟨w5, hb5⟩).mono HB.out.size)⟩
      · cases px
        · go_wp2_with fail
          refine wp_region_calm (by kernel_rfl) (by kernel_rfl) ?_
          iterate 3 (go_big_quiet_step (first | (go_at_call 9; exact Ext.call _ ((plainVal_any ⟨uk, unl, uh, un⟩ _).mono (by rintro e w' ⟨rfl, hb⟩; exact ⟨by rw [PU.out], hb⟩)))))
          repeat (go_big_quiet_step (first | (go_at_call 9; exact Ext.call _ ((plainVal_any ⟨xk, xnl, xh, xn⟩ _).mono (by rintro e w' ⟨rfl, hb⟩; exact ⟨by rw [PX.out], hb⟩)))))
          refine wpQuiet_nil ?_
          rintro w5 ⟨⟨w5, hb5⟩, rfl⟩
          go_wp2
          go_ret
          exact ⟨rfl, HB.out.trans ((HC4.out ⟨w5, hb5⟩).mono HB.out.size)⟩
        · by_cases hux : uk = xk ∧ unl = xnl ∧ uh = xh ∧ un = xn
          · obtain ⟨rfl, rfl, rfl, rfl⟩ := hux
            obtain ⟨Y1, hY1⟩ : ∃ Y, (⟨(valT ⟨uk, unl, uh, un⟩).toArray⟩ : ByteArray) = Y := ⟨_, rfl⟩
            have HY1 := Lib.hid hY1
            clear hY1
            go_wp2_with fail
            refine wp_region_calm (by kernel_rfl) (by kernel_rfl) ?_
            iterate 8 (go_big_quiet_step (first | (go_at_call 9; exact Ext.call _ ((plainVal_any ⟨uk, unl, uh, un⟩ _).mono (by rintro e w' ⟨rfl, hb⟩; exact ⟨by rw [PU.out], hb⟩)))))
            repeat (go_big_quiet_step (first | (go_at_call 10; exact Ext.call _ ((valText_any ⟨uk, unl, uh, un⟩ HU.out _ (HTab.out.on (HC4.out _))).mono (by rintro e w' ⟨rfl, hb⟩; exact ⟨by rw [HY1.out], hb⟩))) | (go_at_call 9; exact Ext.call _ ((plainVal_any ⟨uk, unl, uh, un⟩ _).mono (by rintro e w' ⟨rfl, hb⟩; exact ⟨by rw [PU.out], hb⟩)))))
            refine wpQuiet_nil ?_
            rintro w5 ⟨⟨w5, hb5⟩, rfl⟩
            go_wp2
            go_ret
            exact ⟨rfl, HB.out.trans ((HC4.out ⟨w5, hb5⟩).mono HB.out.size)⟩
          · have hwr : ¬ ((⟨(valT ⟨uk, unl, uh, un⟩).toArray⟩ : ByteArray) = ⟨(valT ⟨xk, xnl, xh, xn⟩).toArray⟩) := fun h => hux (by simpa using (val_writing PU.out PX.out).1 h)
            obtain ⟨Y1, hY1⟩ : ∃ Y, (⟨(valT ⟨uk, unl, uh, un⟩).toArray⟩ : ByteArray) = Y := ⟨_, rfl⟩
            obtain ⟨Y2, hY2⟩ : ∃ Y, (⟨(valT ⟨xk, xnl, xh, xn⟩).toArray⟩ : ByteArray) = Y := ⟨_, rfl⟩
            rw [hY1, hY2] at hwr
            have hy : (Y1.toList == Y2.toList) = false := bytes_ne hwr
            have HY1 := Lib.hid hY1; have HY2 := Lib.hid hY2; have HWR := Lib.hid hwr; have HUX := Lib.hid hux
            clear hY1 hY2 hwr hux
            rcases Classical.em (uk = xk) with e1 | e1
            · have m1 : (uk == xk) = true := by simpa using e1
              have k1 : decide (uk = xk) = true := by simpa using e1
              have E1 := Lib.hid e1
              clear e1
              rcases Classical.em (unl = xnl) with e2 | e2
              · have m2 : (unl == xnl) = true := by simpa using e2
                have k2 : decide (unl = xnl) = true := by simpa using e2
                have E2 := Lib.hid e2
                clear e2
                rcases Classical.em (uh = xh) with e3 | e3
                · have m3 : (uh == xh) = true := by simpa using e3
                  have k3 : decide (uh = xh) = true := by simpa using e3
                  have E3 := Lib.hid e3
                  clear e3
                  rcases Classical.em (un = xn) with e4 | e4
                  · have m4 : (un == xn) = true := by simpa using e4
                    have k4 : decide (un = xn) = true := by simpa using e4
                    have E4 := Lib.hid e4
                    clear e4
                    exact absurd ⟨E1.out, E2.out, E3.out, E4.out⟩ HUX.out
                  · have m4 : (un == xn) = false := by simpa using e4
                    have k4 : decide (un = xn) = false := by simpa using e4
                    clear e4
                    go_wp2_with fail
                    refine wp_region_calm (by kernel_rfl) (by kernel_rfl) ?_
                    iterate 3 (go_big_quiet_step (first | (go_at_call 9; exact Ext.call _ ((plainVal_any ⟨uk, unl, uh, un⟩ _).mono (by rintro e w' ⟨rfl, hb⟩; exact ⟨by rw [PU.out], hb⟩)))))
                    iterate 8 (go_big_quiet_step (first | (go_at_call 9; exact Ext.call _ ((plainVal_any ⟨xk, xnl, xh, xn⟩ _).mono (by rintro e w' ⟨rfl, hb⟩; exact ⟨by rw [PX.out], hb⟩))) | (go_at_call 10; exact Ext.call _ ((valText_any ⟨uk, unl, uh, un⟩ HU.out _ (HTab.out.on (HC4.out _))).mono (by rintro e w' ⟨rfl, hb⟩; exact ⟨by rw [HY1.out], hb⟩)))))
                    repeat (go_big_quiet_step (first | (go_at_call 10; exact Ext.call _ ((valText_any ⟨xk, xnl, xh, xn⟩ HX.out _ (HTab.out.on (HC4.out _))).mono (by rintro e w' ⟨rfl, hb⟩; exact ⟨by rw [HY2.out], hb⟩)))))
                    refine wpQuiet_nil ?_
                    rintro w5 ⟨⟨w5, hb5⟩, rfl⟩
                    go_wp2
                    go_ret
                    exact ⟨rfl, HB.out.trans ((HC4.out ⟨w5, hb5⟩).mono HB.out.size)⟩
                · have m3 : (uh == xh) = false := by simpa using e3
                  have k3 : decide (uh = xh) = false := by simpa using e3
                  clear e3
                  go_wp2_with fail
                  refine wp_region_calm (by kernel_rfl) (by kernel_rfl) ?_
                  iterate 3 (go_big_quiet_step (first | (go_at_call 9; exact Ext.call _ ((plainVal_any ⟨uk, unl, uh, un⟩ _).mono (by rintro e w' ⟨rfl, hb⟩; exact ⟨by rw [PU.out], hb⟩)))))
                  iterate 8 (go_big_quiet_step (first | (go_at_call 9; exact Ext.call _ ((plainVal_any ⟨xk, xnl, xh, xn⟩ _).mono (by rintro e w' ⟨rfl, hb⟩; exact ⟨by rw [PX.out], hb⟩))) | (go_at_call 10; exact Ext.call _ ((valText_any ⟨uk, unl, uh, un⟩ HU.out _ (HTab.out.on (HC4.out _))).mono (by rintro e w' ⟨rfl, hb⟩; exact ⟨by rw [HY1.out], hb⟩)))))
                  repeat (go_big_quiet_step (first | (go_at_call 10; exact Ext.call _ ((valText_any ⟨xk, xnl, xh, xn⟩ HX.out _ (HTab.out.on (HC4.out _))).mono (by rintro e w' ⟨rfl, hb⟩; exact ⟨by rw [HY2.out], hb⟩)))))
                  refine wpQuiet_nil ?_
                  rintro w5 ⟨⟨w5, hb5⟩, rfl⟩
                  go_wp2
                  go_ret
                  exact ⟨rfl, HB.out.trans ((HC4.out ⟨w5, hb5⟩).mono HB.out.size)⟩
              · have m2 : (unl == xnl) = false := by simpa using e2
                have k2 : decide (unl = xnl) = false := by simpa using e2
                clear e2
                go_wp2_with fail
                refine wp_region_calm (by kernel_rfl) (by kernel_rfl) ?_
                iterate 3 (go_big_quiet_step (first | (go_at_call 9; exact Ext.call _ ((plainVal_any ⟨uk, unl, uh, un⟩ _).mono (by rintro e w' ⟨rfl, hb⟩; exact ⟨by rw [PU.out], hb⟩)))))
                iterate 8 (go_big_quiet_step (first | (go_at_call 9; exact Ext.call _ ((plainVal_any ⟨xk, xnl, xh, xn⟩ _).mono (by rintro e w' ⟨rfl, hb⟩; exact ⟨by rw [PX.out], hb⟩))) | (go_at_call 10; exact Ext.call _ ((valText_any ⟨uk, unl, uh, un⟩ HU.out _ (HTab.out.on (HC4.out _))).mono (by rintro e w' ⟨rfl, hb⟩; exact ⟨by rw [HY1.out], hb⟩)))))
                repeat (go_big_quiet_step (first | (go_at_call 10; exact Ext.call _ ((valText_any ⟨xk, xnl, xh, xn⟩ HX.out _ (HTab.out.on (HC4.out _))).mono (by rintro e w' ⟨rfl, hb⟩; exact ⟨by rw [HY2.out], hb⟩)))))
                refine wpQuiet_nil ?_
                rintro w5 ⟨⟨w5, hb5⟩, rfl⟩
                go_wp2
                go_ret
                exact ⟨rfl, HB.out.trans ((HC4.out ⟨w5, hb5⟩).mono HB.out.size)⟩
            · have m1 : (uk == xk) = false := by simpa using e1
              have k1 : decide (uk = xk) = false := by simpa using e1
              clear e1
              go_wp2_with fail
              refine wp_region_calm (by kernel_rfl) (by kernel_rfl) ?_
              iterate 3 (go_big_quiet_step (first | (go_at_call 9; exact Ext.call _ ((plainVal_any ⟨uk, unl, uh, un⟩ _).mono (by rintro e w' ⟨rfl, hb⟩; exact ⟨by rw [PU.out], hb⟩)))))
              iterate 8 (go_big_quiet_step (first | (go_at_call 9; exact Ext.call _ ((plainVal_any ⟨xk, xnl, xh, xn⟩ _).mono (by rintro e w' ⟨rfl, hb⟩; exact ⟨by rw [PX.out], hb⟩))) | (go_at_call 10; exact Ext.call _ ((valText_any ⟨uk, unl, uh, un⟩ HU.out _ (HTab.out.on (HC4.out _))).mono (by rintro e w' ⟨rfl, hb⟩; exact ⟨by rw [HY1.out], hb⟩)))))
              repeat (go_big_quiet_step (first | (go_at_call 10; exact Ext.call _ ((valText_any ⟨xk, xnl, xh, xn⟩ HX.out _ (HTab.out.on (HC4.out _))).mono (by rintro e w' ⟨rfl, hb⟩; exact ⟨by rw [HY2.out], hb⟩)))))
              refine wpQuiet_nil ?_
              rintro w5 ⟨⟨w5, hb5⟩, rfl⟩
              go_wp2
              go_ret
              exact ⟨rfl, HB.out.trans ((HC4.out ⟨w5, hb5⟩).mono HB.out.size)⟩
end Go.Proofs.YtnaepekpgmalaaaDoor
