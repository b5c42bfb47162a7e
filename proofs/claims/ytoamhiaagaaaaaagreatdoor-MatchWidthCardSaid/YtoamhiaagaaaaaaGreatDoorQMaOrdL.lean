/- geodelaw10: MatchOrder. -/
import Derived.Test.YtoamhiaagaaaaaaGreatDoorQMaBuilt
import Derived.Test.YtoamhiaagaaaaaaGreatDoorQMaFactsP
import Derived.Test.YtoamhiaagaaaaaaGreatDoorQKdSameP
import Derived.Deep.Cut
namespace Go.Proofs.YtoamhiaagaaaaaaGreatDoor
open Go.RowKit

theorem tab_cnt {gs : List (List Sb)} (hok : TabOk gs) {y : Sb} (hy : y ∈ tabL gs) : cnt y ≤ 1000000 := by
  obtain ⟨id, hid⟩ := List.getElem?_of_mem hy
  obtain ⟨j, k, g, x, h1, _, _, _, h2, rfl⟩ := tabL_loc hid
  have := ((hok.good g (List.mem_of_getElem? h1)).sm x (List.mem_of_getElem? h2)).cnt
  simpa [cnt, mapP] using this
theorem tabK_of {w0 w : World} {S R Q : Nat → Prop} {t r n : Nat} {gs : List (List Sb)} (h : Both w0 S R Q w t r n gs) : TabK S R w t gs := ⟨h.tab.tab, h.tab.ok, h.c⟩
set_option maxRecDepth 100000 in
set_option maxHeartbeats 32000000 in
theorem matchOrder_any (v0 : Value) (l : List Gp) (a b c : Hp) (u v x : Vl) (w : World) (hv : GpsAt w v0 l) (hr : RawP l) (htab : Tab w) :
    Calls Tryz.prog 6 #[v0, .agg (cellsH a).toArray, .agg (cellsH b).toArray, .agg (cellsH c).toArray, .agg (cellsV u).toArray, .agg (cellsV v).toArray, .agg (cellsV x).toArray] w fun e w' => e = .returned (.bool true) ∧ Below w.heap.size w w' := by
  obtain ⟨ah, an⟩ := a
  obtain ⟨bh, bn⟩ := b
  obtain ⟨ch, cn⟩ := c
  obtain ⟨uk, ul, uh, un⟩ := u
  obtain ⟨vk, vl, vh, vn⟩ := v
  obtain ⟨xk, xl, xh, xn⟩ := x
  simp only [cellsH, cellsV]
  obtain ⟨W0, hW⟩ : ∃ W0 : World, W0 = ((((((w.alloc (.cells #[.int .i64 ah, .int .i64 an] 26)).alloc (.cells #[.int .i64 bh, .int .i64 bn] 26)).alloc (.cells #[.int .i64 ch, .int .i64 cn] 26)).alloc (.cells #[.int .i64 uk, .bool ul, .int .i64 uh, .int .i64 un] 28)).alloc (.cells #[.int .i64 vk, .bool vl, .int .i64 vh, .int .i64 vn] 28)).alloc (.cells #[.int .i64 xk, .bool xl, .int .i64 xh, .int .i64 xn] 28)) := ⟨_, rfl⟩
  have hB : Below w.heap.size w W0 := by rw [hW]; exact (((((((Below.refl _ _).alloc (by simp) _).alloc (by simp) _).alloc (by simp; omega) _).alloc (by simp; omega) _).alloc (by simp; omega) _).alloc (by simp; omega) _)
  have z0 : W0.heap[w.heap.size]? = some (.cells #[.int .i64 ah, .int .i64 an] 26 (0, 0)) := by rw [hW]; exact heap_alloc_keep (heap_alloc_keep (heap_alloc_keep (heap_alloc_keep (heap_alloc_keep (heap_alloc_at _ _ rfl) _) _) _) _) _
  have z1 : W0.heap[w.heap.size + 1]? = some (.cells #[.int .i64 bh, .int .i64 bn] 26 (0, 0)) := by rw [hW]; exact heap_alloc_keep (heap_alloc_keep (heap_alloc_keep (heap_alloc_keep (heap_alloc_at _ _ (by simp)) _) _) _) _
  have z2 : W0.heap[w.heap.size + 1 + 1]? = some (.cells #[.int .i64 ch, .int .i64 cn] 26 (0, 0)) := by rw [hW]; exact heap_alloc_keep (heap_alloc_keep (heap_alloc_keep (heap_alloc_at _ _ (by simp)) _) _) _
  have z3 : W0.heap[w.heap.size + 1 + 1 + 1]? = some (.cells #[.int .i64 uk, .bool ul, .int .i64 uh, .int .i64 un] 28 (0, 0)) := by rw [hW]; exact heap_alloc_keep (heap_alloc_keep (heap_alloc_at _ _ (by simp)) _) _
  have z4 : W0.heap[w.heap.size + 1 + 1 + 1 + 1]? = some (.cells #[.int .i64 vk, .bool vl, .int .i64 vh, .int .i64 vn] 28 (0, 0)) := by rw [hW]; exact heap_alloc_keep (heap_alloc_at _ _ (by simp)) _
  have z5 : W0.heap[w.heap.size + 1 + 1 + 1 + 1 + 1]? = some (.cells #[.int .i64 xk, .bool xl, .int .i64 xh, .int .i64 xn] 28 (0, 0)) := by rw [hW]; exact heap_alloc_at _ _ (by simp)
  have HW := Lib.hid hW; have HB := Lib.hid hB; have HTAB := Lib.hid (htab.on hB); have HV := Lib.hid (hv.below hB (Nat.le_refl _)); have HR := Lib.hid hr
  have Z0 := Lib.hid z0; have Z1 := Lib.hid z1; have Z2 := Lib.hid z2; have Z3 := Lib.hid z3; have Z4 := Lib.hid z4; have Z5 := Lib.hid z5
  clear hW hB htab hv hr z0 z1 z2 z3 z4 z5
  go_enter Tryz.func6, Tryz.ntmps6
  go_wp2_with fail
  rw [← HW.out]
  refine (Ext.call0 (mknown_any _ HTAB.out)).mono ?_
  rintro e _ ⟨rfl, x1, rfl⟩
  go_wp2_with fail
  refine (built_any _ l x1.val (HV.out.below x1.2 (Nat.le_refl _)) HR.out (HTAB.out.on x1.2)).mono ?_
  rintro e w2 (⟨rfl, hb⟩ | ⟨t, r, n, S, R, Q, gs, rfl, hBo, _, hsup⟩)
  · go_wp2
    go_ret
    exact ⟨rfl, HB.out.trans ((x1.2.trans (hb.mono x1.2.size)).mono HB.out.size)⟩
  have hb2 : Below W0.heap.size W0 w2 := x1.2.trans (hBo.tab.be.mono x1.2.size)
  have ht := tabK_of hBo
  obtain ⟨qB, hq⟩ := heapT_ex gs
  have HQ := Lib.hid hq; have HT := Lib.hid ht; have HB2 := Lib.hid (HB.out.trans (hb2.mono HB.out.size)); have HC := Lib.hid hBo.c; have HS := Lib.hid hsup
  have y0 := (hb2.block _ (heap_lt Z0.out)).trans Z0.out
  have b0_0 : ∀ z : Ext w2, z.val.cell? ⟨w.heap.size, 0, none⟩ = some (.int .i64 ah) := Ext.cells (heap_cell y0 0)
  have b0_1 : ∀ z : Ext w2, z.val.cell? ⟨w.heap.size, 1, none⟩ = some (.int .i64 an) := Ext.cells (heap_cell y0 1)
  have y1 := (hb2.block _ (heap_lt Z1.out)).trans Z1.out
  have b1_0 : ∀ z : Ext w2, z.val.cell? ⟨w.heap.size + 1, 0, none⟩ = some (.int .i64 bh) := Ext.cells (heap_cell y1 0)
  have b1_1 : ∀ z : Ext w2, z.val.cell? ⟨w.heap.size + 1, 1, none⟩ = some (.int .i64 bn) := Ext.cells (heap_cell y1 1)
  have y2 := (hb2.block _ (heap_lt Z2.out)).trans Z2.out
  have b2_0 : ∀ z : Ext w2, z.val.cell? ⟨w.heap.size + 1 + 1, 0, none⟩ = some (.int .i64 ch) := Ext.cells (heap_cell y2 0)
  have b2_1 : ∀ z : Ext w2, z.val.cell? ⟨w.heap.size + 1 + 1, 1, none⟩ = some (.int .i64 cn) := Ext.cells (heap_cell y2 1)
  have y3 := (hb2.block _ (heap_lt Z3.out)).trans Z3.out
  have b3_0 : ∀ z : Ext w2, z.val.cell? ⟨w.heap.size + 1 + 1 + 1, 0, none⟩ = some (.int .i64 uk) := Ext.cells (heap_cell y3 0)
  have b3_1 : ∀ z : Ext w2, z.val.cell? ⟨w.heap.size + 1 + 1 + 1, 1, none⟩ = some (.bool ul) := Ext.cells (heap_cell y3 1)
  have b3_2 : ∀ z : Ext w2, z.val.cell? ⟨w.heap.size + 1 + 1 + 1, 2, none⟩ = some (.int .i64 uh) := Ext.cells (heap_cell y3 2)
  have b3_3 : ∀ z : Ext w2, z.val.cell? ⟨w.heap.size + 1 + 1 + 1, 3, none⟩ = some (.int .i64 un) := Ext.cells (heap_cell y3 3)
  have y4 := (hb2.block _ (heap_lt Z4.out)).trans Z4.out
  have b4_0 : ∀ z : Ext w2, z.val.cell? ⟨w.heap.size + 1 + 1 + 1 + 1, 0, none⟩ = some (.int .i64 vk) := Ext.cells (heap_cell y4 0)
  have b4_1 : ∀ z : Ext w2, z.val.cell? ⟨w.heap.size + 1 + 1 + 1 + 1, 1, none⟩ = some (.bool vl) := Ext.cells (heap_cell y4 1)
  have b4_2 : ∀ z : Ext w2, z.val.cell? ⟨w.heap.size + 1 + 1 + 1 + 1, 2, none⟩ = some (.int .i64 vh) := Ext.cells (heap_cell y4 2)
  have b4_3 : ∀ z : Ext w2, z.val.cell? ⟨w.heap.size + 1 + 1 + 1 + 1, 3, none⟩ = some (.int .i64 vn) := Ext.cells (heap_cell y4 3)
  have y5 := (hb2.block _ (heap_lt Z5.out)).trans Z5.out
  have b5_0 : ∀ z : Ext w2, z.val.cell? ⟨w.heap.size + 1 + 1 + 1 + 1 + 1, 0, none⟩ = some (.int .i64 xk) := Ext.cells (heap_cell y5 0)
  have b5_1 : ∀ z : Ext w2, z.val.cell? ⟨w.heap.size + 1 + 1 + 1 + 1 + 1, 1, none⟩ = some (.bool xl) := Ext.cells (heap_cell y5 1)
  have b5_2 : ∀ z : Ext w2, z.val.cell? ⟨w.heap.size + 1 + 1 + 1 + 1 + 1, 2, none⟩ = some (.int .i64 xh) := Ext.cells (heap_cell y5 2)
  have b5_3 : ∀ z : Ext w2, z.val.cell? ⟨w.heap.size + 1 + 1 + 1 + 1 + 1, 3, none⟩ = some (.int .i64 xn) := Ext.cells (heap_cell y5 3)
  clear hb2 ht hq hBo hsup y0 y1 y2 y3 y4 y5
  obtain ⟨y0, hy0⟩ : ∃ y : Ext w2, y.val = w2 := ⟨⟨w2, Below.refl _ _⟩, rfl⟩
  rw [← hy0]
  clear hy0
  go_upto_region 6 with fail
  go_cut [76] from 35 (fun sx wx => sx = .bool false ∧ ∃ z : Ext w2, wx = z.val)
  case first =>
    obtain ⟨r1, hr1⟩ : ∃ r, qB ⟨ah, an⟩ ⟨bh, bn⟩ = r := ⟨_, rfl⟩
    have R1 := Lib.hid hr1
    clear hr1
    go_wp2_with fail
    refine (Ext.call y0 (heap_k (HQ.out ⟨ah, an⟩ ⟨bh, bn⟩) (HT.out.ext y0))).mono ?_
    rintro e _ ⟨rfl, p1, rfl⟩
    rw [R1.out]
    cases r1
    · go_wp2_with fail
      go_meet
      exact ⟨rfl, p1, rfl⟩
    obtain ⟨l1, l2, l3, l4⟩ := heap_law HQ.out HC.out HS.out R1.out
    have L1 := Lib.hid l1; have L2 := Lib.hid l2; have L3 := Lib.hid (l3 ⟨ch, cn⟩); have L4 := Lib.hid l4
    clear l1 l2 l3 l4
    go_wp2_with fail
    refine (Ext.call p1 (heap_k (HQ.out ⟨ah, an⟩ ⟨ah, an⟩) (HT.out.ext p1))).mono ?_
    rintro e _ ⟨rfl, p2, rfl⟩
    rw [L1.out]
    go_wp2_with fail
    refine (Ext.call p2 (heap_k (HQ.out ⟨bh, bn⟩ ⟨bh, bn⟩) (HT.out.ext p2))).mono ?_
    rintro e _ ⟨rfl, p3, rfl⟩
    rw [L2.out]
    obtain ⟨r2, hr2⟩ : ∃ r, qB ⟨bh, bn⟩ ⟨ch, cn⟩ = r := ⟨_, rfl⟩
    obtain ⟨r3, hr3⟩ : ∃ r, qB ⟨bh, bn⟩ ⟨ah, an⟩ = r := ⟨_, rfl⟩
    have R2 := Lib.hid hr2; have R3 := Lib.hid hr3
    clear hr2 hr3
    go_wp2_with fail
    refine (Ext.call p3 (heap_k (HQ.out ⟨bh, bn⟩ ⟨ch, cn⟩) (HT.out.ext p3))).mono ?_
    rintro e _ ⟨rfl, p4, rfl⟩
    rw [R2.out]
    cases r2
    · skip
      go_wp2_with fail
      refine (Ext.call p4 (heap_k (HQ.out ⟨bh, bn⟩ ⟨ah, an⟩) (HT.out.ext p4))).mono ?_
      rintro e _ ⟨rfl, p6, rfl⟩
      rw [R3.out]
      cases r3
      · go_wp2_with fail
        go_meet
        exact ⟨rfl, p6, rfl⟩
      · have e6 := L4.out R3.out
        simp only [Hp.mk.injEq, Vl.mk.injEq] at e6
        obtain ⟨e1, e2⟩ := e6
        have e1' : (ah == bh) = true := by simpa using e1
        have e1n : (ah != bh) = false := by simpa using e1
        have e2' : (an == bn) = true := by simpa using e2
        have e2n : (an != bn) = false := by simpa using e2
        clear e1 e2
        go_wp2_with fail
        go_meet
        exact ⟨rfl, p6, rfl⟩
    · skip
      go_wp2_with fail
      refine (Ext.call p4 (heap_k (HQ.out ⟨ah, an⟩ ⟨ch, cn⟩) (HT.out.ext p4))).mono ?_
      rintro e _ ⟨rfl, p5, rfl⟩
      rw [L3.out R2.out]
      go_wp2_with fail
      refine (Ext.call p5 (heap_k (HQ.out ⟨bh, bn⟩ ⟨ah, an⟩) (HT.out.ext p5))).mono ?_
      rintro e _ ⟨rfl, p6, rfl⟩
      rw [R3.out]
      cases r3
      · go_wp2_with fail
        go_meet
        exact ⟨rfl, p6, rfl⟩
      · have e6 := L4.out R3.out
        simp only [Hp.mk.injEq, Vl.mk.injEq] at e6
        obtain ⟨e1, e2⟩ := e6
        have e1' : (ah == bh) = true := by simpa using e1
        have e1n : (ah != bh) = false := by simpa using e1
        have e2' : (an == bn) = true := by simpa using e2
        have e2n : (an != bn) = false := by simpa using e2
        clear e1 e2
        go_wp2_with fail
        go_meet
        exact ⟨rfl, p6, rfl⟩
  case rest =>
    obtain ⟨rfl, y1, rfl⟩ := hcut
    go_upto_region 8 with fail
    go_cut [118] from 35 (fun sx wx => sx = .bool false ∧ ∃ z : Ext w2, wx = z.val)
    case first =>
      obtain ⟨r1, hr1⟩ : ∃ r, valB (closedB (total gs)) qB ⟨uk, ul, uh, un⟩ ⟨vk, vl, vh, vn⟩ = r := ⟨_, rfl⟩
      have R1 := Lib.hid hr1
      clear hr1
      go_wp2_with fail
      refine (Ext.call y1 (val_tab HQ.out t ⟨uk, ul, uh, un⟩ ⟨vk, vl, vh, vn⟩ _ (HT.out.ext y1))).mono ?_
      rintro e _ ⟨rfl, p1, rfl⟩
      rw [R1.out]
      cases r1
      · go_wp2_with fail
        go_meet
        exact ⟨rfl, p1, rfl⟩
      obtain ⟨l1, l2, l3, l4⟩ := val_law HQ.out HC.out HS.out R1.out
      have L1 := Lib.hid l1; have L2 := Lib.hid l2; have L3 := Lib.hid (l3 ⟨xk, xl, xh, xn⟩); have L4 := Lib.hid l4
      clear l1 l2 l3 l4
      go_wp2_with fail
      refine (Ext.call p1 (val_tab HQ.out t ⟨uk, ul, uh, un⟩ ⟨uk, ul, uh, un⟩ _ (HT.out.ext p1))).mono ?_
      rintro e _ ⟨rfl, p2, rfl⟩
      rw [L1.out]
      go_wp2_with fail
      refine (Ext.call p2 (val_tab HQ.out t ⟨vk, vl, vh, vn⟩ ⟨vk, vl, vh, vn⟩ _ (HT.out.ext p2))).mono ?_
      rintro e _ ⟨rfl, p3, rfl⟩
      rw [L2.out]
      obtain ⟨r2, hr2⟩ : ∃ r, valB (closedB (total gs)) qB ⟨vk, vl, vh, vn⟩ ⟨xk, xl, xh, xn⟩ = r := ⟨_, rfl⟩
      obtain ⟨r3, hr3⟩ : ∃ r, valB (closedB (total gs)) qB ⟨vk, vl, vh, vn⟩ ⟨uk, ul, uh, un⟩ = r := ⟨_, rfl⟩
      have R2 := Lib.hid hr2; have R3 := Lib.hid hr3
      clear hr2 hr3
      go_wp2_with fail
      refine (Ext.call p3 (val_tab HQ.out t ⟨vk, vl, vh, vn⟩ ⟨xk, xl, xh, xn⟩ _ (HT.out.ext p3))).mono ?_
      rintro e _ ⟨rfl, p4, rfl⟩
      rw [R2.out]
      cases r2
      · skip
        go_wp2_with fail
        refine (Ext.call p4 (val_tab HQ.out t ⟨vk, vl, vh, vn⟩ ⟨uk, ul, uh, un⟩ _ (HT.out.ext p4))).mono ?_
        rintro e _ ⟨rfl, p6, rfl⟩
        rw [R3.out]
        cases r3
        · go_wp2_with fail
          go_meet
          exact ⟨rfl, p6, rfl⟩
        · have e6 := L4.out R3.out
          simp only [Hp.mk.injEq, Vl.mk.injEq] at e6
          obtain ⟨e1, e2, e3, e4⟩ := e6
          have e1' : (uk == vk) = true := by simpa using e1
          have e1n : (uk != vk) = false := by simpa using e1
          have e2' : (ul == vl) = true := by simpa using e2
          have e2n : (ul != vl) = false := by simpa using e2
          have e3' : (uh == vh) = true := by simpa using e3
          have e3n : (uh != vh) = false := by simpa using e3
          have e4' : (un == vn) = true := by simpa using e4
          have e4n : (un != vn) = false := by simpa using e4
          clear e1 e2 e3 e4
          go_wp2_with fail
          go_meet
          exact ⟨rfl, p6, rfl⟩
      · skip
        go_wp2_with fail
        refine (Ext.call p4 (val_tab HQ.out t ⟨uk, ul, uh, un⟩ ⟨xk, xl, xh, xn⟩ _ (HT.out.ext p4))).mono ?_
        rintro e _ ⟨rfl, p5, rfl⟩
        rw [L3.out R2.out]
        go_wp2_with fail
        refine (Ext.call p5 (val_tab HQ.out t ⟨vk, vl, vh, vn⟩ ⟨uk, ul, uh, un⟩ _ (HT.out.ext p5))).mono ?_
        rintro e _ ⟨rfl, p6, rfl⟩
        rw [R3.out]
        cases r3
        · go_wp2_with fail
          go_meet
          exact ⟨rfl, p6, rfl⟩
        · have e6 := L4.out R3.out
          simp only [Hp.mk.injEq, Vl.mk.injEq] at e6
          obtain ⟨e1, e2, e3, e4⟩ := e6
          have e1' : (uk == vk) = true := by simpa using e1
          have e1n : (uk != vk) = false := by simpa using e1
          have e2' : (ul == vl) = true := by simpa using e2
          have e2n : (ul != vl) = false := by simpa using e2
          have e3' : (uh == vh) = true := by simpa using e3
          have e3n : (uh != vh) = false := by simpa using e3
          have e4' : (un == vn) = true := by simpa using e4
          have e4n : (un != vn) = false := by simpa using e4
          clear e1 e2 e3 e4
          go_wp2_with fail
          go_meet
          exact ⟨rfl, p6, rfl⟩
    case rest =>
      obtain ⟨rfl, y2, rfl⟩ := hcut
      obtain ⟨tt, htt⟩ : ∃ n, total gs = n := ⟨_, rfl⟩
      have htl : (tabL gs).length = tt := by rw [tabL_len]; exact htt
      have ht6 : tt ≤ 10000 := by have := HT.out.ok.total; omega
      have HTT := Lib.hid htt; have HTL := Lib.hid htl; have HT6 := Lib.hid ht6
      clear htt htl ht6 b0_0 b0_1 b1_0 b1_1 b2_0 b2_1 b3_0 b3_1 b3_2 b3_3 b4_0 b4_1 b4_2 b4_3 b5_0 b5_1 b5_2 b5_3
      go_wp2
      go_loopw [18] (fun t18 wz => ∃ i : Nat, t18 = .int .i64 i ∧ i ≤ tt ∧ ∃ z : Ext w2, wz = z.val) (fun t18 _ => tt - (intOf t18).toNat)
      case atStart => exact ⟨0, rfl, Nat.zero_le _, _, rfl⟩
      case round =>
        obtain ⟨i, rfl, hi, z, rfl⟩ := hrel
        by_cases hlt : i < tt
        · obtain ⟨y, hy⟩ : ∃ y, (tabL gs)[i]? = some y := ⟨(tabL gs)[i]'(by rw [HTL.out]; exact hlt), by simp⟩
          have hlt' : (i : Int) < tt := by omega
          have HLT := Lib.hid hlt; have HY := Lib.hid hy; have HTY := Lib.hid (type_law HQ.out HC.out hy); have HCY := Lib.hid (tab_cnt HT.out.ok (List.mem_of_getElem? hy))
          clear hlt hi hy
          have CL := fun q : Ext w2 => lenK (HT.out.ext q)
          rw [HTT.out] at CL
          have HCL := Lib.hid CL
          clear CL
          go_wp2_with fail
          refine (Ext.call z (HCL.out z)).mono ?_
          rintro e _ ⟨rfl, z1, rfl⟩
          go_wp2_with fail
          refine (get_k (HT.out.ext z1) HY.out).mono ?_
          rintro e w7 ⟨ds, rfl, hs, hb7⟩
          have hbw7 : Below w2.heap.size w2 w7 := z1.2.trans (hb7.mono z1.2.size)
          obtain ⟨vs, vp, vr, vf, rfl, k1, k2, k3, k4⟩ := (hs w7 (Upd.refl _ _)).ex
          obtain ⟨a5, c5, rfl⟩ := RowAt.form k1
          obtain ⟨a6, c6, rfl⟩ := RowAt.form k2
          obtain ⟨a7, c7, rfl⟩ := RowAt.form k3
          obtain ⟨a8, c8, rfl⟩ := RowAt.form k4
          obtain ⟨W8, hW8⟩ : ∃ W8 : World, W8 = w7.alloc (.cells #[.bool y.fin, .slice a5 y.sups.length c5, .int .i64 y.k, .slice a6 y.ps.length c6, .slice a7 y.rs.length c7, .slice a8 y.fs.length c8] 48) := ⟨_, rfl⟩
          have hb8 : Below w7.heap.size w7 W8 := by rw [hW8]; exact (Below.refl _ _).alloc (Nat.le_refl _) _
          have z8 : W8.heap[w7.heap.size]? = some (.cells #[.bool y.fin, .slice a5 y.sups.length c5, .int .i64 y.k, .slice a6 y.ps.length c6, .slice a7 y.rs.length c7, .slice a8 y.fs.length c8] 48 (0, 0)) := by rw [hW8]; exact heap_alloc_at _ _ rfl
          have HW8 := Lib.hid hW8; have HB8 := Lib.hid (hbw7.trans (hb8.mono hbw7.size)); have HB78 := Lib.hid hb8; have Z8 := Lib.hid z8
          have K2 := Lib.hid k2; have K3 := Lib.hid k3; have K4 := Lib.hid k4
          clear hs hb7 hbw7 k1 k2 k3 k4 hW8 hb8 z8
          go_wp2_with fail
          rw [← HW8.out]
          refine (def_any (i : Int) W8).mono ?_
          rintro e w9 ⟨rfl, hb9⟩
          obtain ⟨WA, hWA⟩ : ∃ WA : World, WA = w9.alloc (.cells #[.int .i64 15, .int .i64 (i : Nat)] 26) := ⟨_, rfl⟩
          have hbA : Below w9.heap.size w9 WA := by rw [hWA]; exact (Below.refl _ _).alloc (Nat.le_refl _) _
          have zA : WA.heap[w9.heap.size]? = some (.cells #[.int .i64 15, .int .i64 (i : Nat)] 26 (0, 0)) := by rw [hWA]; exact heap_alloc_at _ _ rfl
          have h8A : Below W8.heap.size W8 WA := hb9.trans (hbA.mono hb9.size)
          have z8A := (h8A.block _ (heap_lt Z8.out)).trans Z8.out
          have h7A : Below w7.heap.size w7 WA := HB78.out.trans (h8A.mono HB78.out.size)
          have h2A : Below w2.heap.size w2 WA := HB8.out.trans (h8A.mono HB8.out.size)
          have g0 : ∀ q : Ext WA, q.val.cell? ⟨w9.heap.size, 0, none⟩ = some (.int .i64 15) := Ext.cells (heap_cell zA 0)
          have g1 : ∀ q : Ext WA, q.val.cell? ⟨w9.heap.size, 1, none⟩ = some (.int .i64 (i : Nat)) := Ext.cells (heap_cell zA 1)
          have s2 : ∀ q : Ext WA, q.val.cell? ⟨w7.heap.size, 2, none⟩ = some (.int .i64 y.k) := Ext.cells (heap_cell z8A 2)
          have s3 : ∀ q : Ext WA, q.val.cell? ⟨w7.heap.size, 3, none⟩ = some (.slice a6 y.ps.length c6) := Ext.cells (heap_cell z8A 3)
          have s4 : ∀ q : Ext WA, q.val.cell? ⟨w7.heap.size, 4, none⟩ = some (.slice a7 y.rs.length c7) := Ext.cells (heap_cell z8A 4)
          have s5 : ∀ q : Ext WA, q.val.cell? ⟨w7.heap.size, 5, none⟩ = some (.slice a8 y.fs.length c8) := Ext.cells (heap_cell z8A 5)
          have HTA := Lib.hid (HT.out.below h2A)
          have P2 := Lib.hid (fun q : Ext WA => (RowAt.ext (RowAt.below K2.out h7A (Nat.le_refl _)) q : ValsAt q.val (.slice a6 y.ps.length c6) y.ps))
          have P3 := Lib.hid (fun q : Ext WA => (RowAt.ext (RowAt.below K3.out h7A (Nat.le_refl _)) q : ValsAt q.val (.slice a7 y.rs.length c7) y.rs))
          have P4 := Lib.hid (fun q : Ext WA => (RowAt.ext (RowAt.below K4.out h7A (Nat.le_refl _)) q : FlsAt q.val (.slice a8 y.fs.length c8) y.fs))
          obtain ⟨pa, pb, hab⟩ : ∃ pa pb, fam (kindK y.k) = (pa, pb) := ⟨_, _, rfl⟩
          have hlaw := HTY.out
          have hends := hlaw.ends
          have hbot := hlaw.bot
          have htop := hlaw.top
          rw [hab] at hends hbot htop
          dsimp only at hends hbot htop
          have r1 : true = true ↔ HeapP (tabL gs) ⟨15, (i : Int)⟩ ⟨15, (i : Int)⟩ := by have h := HQ.out ⟨15, (i : Int)⟩ ⟨15, (i : Int)⟩; rw [hlaw.heap] at h; exact h
          have r4 : true = true ↔ HeapP (tabL gs) ⟨pb, 0⟩ ⟨15, (i : Int)⟩ := by have h := HQ.out ⟨pb, 0⟩ ⟨15, (i : Int)⟩; rw [hbot] at h; exact h
          have r6 : true = true ↔ HeapP (tabL gs) ⟨15, (i : Int)⟩ ⟨pa, 0⟩ := by have h := HQ.out ⟨15, (i : Int)⟩ ⟨pa, 0⟩; rw [htop] at h; exact h
          have d1 : ∀ q : Ext WA, Calls Tryz.prog 37 #[.pointer (some ⟨t, 0, none⟩), .agg #[.int .i64 15, .int .i64 (i : Nat)], .agg #[.int .i64 15, .int .i64 (i : Nat)]] q.val fun e w' => e = .returned (.bool true) ∧ Below q.val.heap.size q.val w' := fun q => heap_k r1 (HTA.out.ext q)
          have d2 : ∀ q : Ext WA, Calls Tryz.prog 33 #[.pointer (some ⟨t, 0, none⟩), .agg #[.int .i64 y.k, .slice a6 y.ps.length c6, .slice a7 y.rs.length c7, .slice a8 y.fs.length c8], .agg #[.int .i64 y.k, .slice a6 y.ps.length c6, .slice a7 y.rs.length c7, .slice a8 y.fs.length c8]] q.val fun e w' => e = .returned (.bool true) ∧ Below q.val.heap.size q.val w' := fun q => by
            have h := comp_tab HQ.out t y y _ _ _ _ _ _ q.val (P2.out q) (P3.out q) (P4.out q) (P2.out q) (P3.out q) (P4.out q) HCY.out HCY.out (HTA.out.ext q)
            rw [hlaw.comp] at h
            exact h
          have d3 : ∀ q : Ext WA, Calls Tryz.prog 40 #[.pointer (some ⟨t, 0, none⟩), .agg #[.int .i64 15, .int .i64 (i : Nat)]] q.val fun e w' => e = .returned (.agg #[.int .i64 pb, .int .i64 0]) ∧ Below q.val.heap.size q.val w' := fun q => bottom_any 15 (i : Int) pa pb q.val (HTA.out.ext q) hends
          have d4 : ∀ q : Ext WA, Calls Tryz.prog 37 #[.pointer (some ⟨t, 0, none⟩), .agg #[.int .i64 pb, .int .i64 0], .agg #[.int .i64 15, .int .i64 (i : Nat)]] q.val fun e w' => e = .returned (.bool true) ∧ Below q.val.heap.size q.val w' := fun q => heap_k r4 (HTA.out.ext q)
          have d5 : ∀ q : Ext WA, Calls Tryz.prog 41 #[.pointer (some ⟨t, 0, none⟩), .agg #[.int .i64 15, .int .i64 (i : Nat)]] q.val fun e w' => e = .returned (.agg #[.int .i64 pa, .int .i64 0]) ∧ Below q.val.heap.size q.val w' := fun q => top_any 15 (i : Int) pa pb q.val (HTA.out.ext q) hends
          have d6 : ∀ q : Ext WA, Calls Tryz.prog 37 #[.pointer (some ⟨t, 0, none⟩), .agg #[.int .i64 15, .int .i64 (i : Nat)], .agg #[.int .i64 pa, .int .i64 0]] q.val fun e w' => e = .returned (.bool true) ∧ Below q.val.heap.size q.val w' := fun q => heap_k r6 (HTA.out.ext q)
          have D1 := Lib.hid d1; have D2 := Lib.hid d2; have D3 := Lib.hid d3; have D4 := Lib.hid d4; have D5 := Lib.hid d5; have D6 := Lib.hid d6
          clear r1 r4 r6 d1 d2 d3 d4 d5 d6
          have HWA := Lib.hid hWA; have H2A := Lib.hid h2A
          clear hb9 hWA hbA zA h8A z8A h7A h2A hlaw hends hbot htop
          go_wp2
          rw [← HWA.out]
          refine wp_region_calm (by kernel_rfl) (by kernel_rfl) ?_
          iterate 7 (go_big_quiet_step (exact Ext.call _ (D1.out _)))
          iterate 9 (go_big_quiet_step (exact Ext.call _ (D2.out _)))
          iterate 7 (go_big_quiet_step (exact Ext.call _ (D3.out _)))
          iterate 2 (go_big_quiet_step (exact Ext.call _ (D4.out _)))
          iterate 8 (go_big_quiet_step (exact Ext.call _ (D5.out _)))
          iterate 1 (go_big_quiet_step (exact Ext.call _ (D6.out _)))
          iterate 2 (go_big_quiet_step (fail))
          refine wpQuiet_nil ?_
          rintro _ ⟨q0, rfl⟩
          clear g0 g1
          have CA := fun q : Ext WA => lenK (HTA.out.ext q)
          rw [HTT.out] at CA
          have HCA := Lib.hid CA
          clear CA D1 D2 D3 D4 D5 D6
          have SS := Lib.hid (fun q : Ext WA => And.intro (s2 q) (And.intro (s3 q) (And.intro (s4 q) (s5 q))))
          clear s2 s3 s4 s5
          go_wp2
          go_loopw [22] (fun t22 wz => ∃ k : Nat, t22 = .int .i64 k ∧ k ≤ tt ∧ ∃ q : Ext WA, wz = q.val) (fun t22 _ => tt - (intOf t22).toNat)
          case atStart => exact ⟨0, rfl, Nat.zero_le _, _, rfl⟩
          case round =>
            obtain ⟨k, rfl, hk, q, rfl⟩ := hrel
            by_cases hlk : k < tt
            · obtain ⟨x, hx⟩ : ∃ x, (tabL gs)[k]? = some x := ⟨(tabL gs)[k]'(by rw [HTL.out]; exact hlk), by simp⟩
              have hlk' : (k : Int) < tt := by omega
              have HLK := Lib.hid hlk; have HX := Lib.hid hx; have HCX := Lib.hid (tab_cnt HT.out.ok (List.mem_of_getElem? hx))
              clear hlk hk hx
              go_wp2_with fail
              refine (Ext.call q (HCA.out q)).mono ?_
              rintro e _ ⟨rfl, q1, rfl⟩
              go_wp2_with fail
              refine (get_k (HTA.out.ext q1) HX.out).mono ?_
              rintro e w8 ⟨du, rfl, hu, hb8⟩
              obtain ⟨vs, vp, vr, vf, rfl, k1, k2, k3, k4⟩ := (hu w8 (Upd.refl _ _)).ex
              obtain ⟨e5, n5, rfl⟩ := RowAt.form k1
              obtain ⟨e6, n6, rfl⟩ := RowAt.form k2
              obtain ⟨e7, n7, rfl⟩ := RowAt.form k3
              obtain ⟨e8, n8, rfl⟩ := RowAt.form k4
              obtain ⟨W9, hW9⟩ : ∃ W9 : World, W9 = w8.alloc (.cells #[.bool x.fin, .slice e5 x.sups.length n5, .int .i64 x.k, .slice e6 x.ps.length n6, .slice e7 x.rs.length n7, .slice e8 x.fs.length n8] 48) := ⟨_, rfl⟩
              have hb9 : Below w8.heap.size w8 W9 := by rw [hW9]; exact (Below.refl _ _).alloc (Nat.le_refl _) _
              have z9 : W9.heap[w8.heap.size]? = some (.cells #[.bool x.fin, .slice e5 x.sups.length n5, .int .i64 x.k, .slice e6 x.ps.length n6, .slice e7 x.rs.length n7, .slice e8 x.fs.length n8] 48 (0, 0)) := by rw [hW9]; exact heap_alloc_at _ _ rfl
              have hA9 : Below WA.heap.size WA W9 := (q1.2.trans (hb8.mono q1.2.size)).trans (hb9.mono (Nat.le_trans q1.2.size hb8.size))
              have X2 := Lib.hid (fun p : Ext W9 => (RowAt.ext (RowAt.below k2 hb9 (Nat.le_refl _)) p : ValsAt p.val (.slice e6 x.ps.length n6) x.ps))
              have X3 := Lib.hid (fun p : Ext W9 => (RowAt.ext (RowAt.below k3 hb9 (Nat.le_refl _)) p : ValsAt p.val (.slice e7 x.rs.length n7) x.rs))
              have X4 := Lib.hid (fun p : Ext W9 => (RowAt.ext (RowAt.below k4 hb9 (Nat.le_refl _)) p : FlsAt p.val (.slice e8 x.fs.length n8) x.fs))
              have x2 : ∀ p : Ext W9, p.val.cell? ⟨w8.heap.size, 2, none⟩ = some (.int .i64 x.k) := Ext.cells (heap_cell z9 2)
              have x3 : ∀ p : Ext W9, p.val.cell? ⟨w8.heap.size, 3, none⟩ = some (.slice e6 x.ps.length n6) := Ext.cells (heap_cell z9 3)
              have x4 : ∀ p : Ext W9, p.val.cell? ⟨w8.heap.size, 4, none⟩ = some (.slice e7 x.rs.length n7) := Ext.cells (heap_cell z9 4)
              have x5 : ∀ p : Ext W9, p.val.cell? ⟨w8.heap.size, 5, none⟩ = some (.slice e8 x.fs.length n8) := Ext.cells (heap_cell z9 5)
              have HA9 := Lib.hid hA9; have HW9 := Lib.hid hW9
              have s2 : ∀ p : Ext W9, p.val.cell? ⟨w7.heap.size, 2, none⟩ = some (.int .i64 y.k) := fun p => (SS.out ⟨p.val, HA9.out.trans (p.2.mono HA9.out.size)⟩).1
              have s3 : ∀ p : Ext W9, p.val.cell? ⟨w7.heap.size, 3, none⟩ = some (.slice a6 y.ps.length c6) := fun p => (SS.out ⟨p.val, HA9.out.trans (p.2.mono HA9.out.size)⟩).2.1
              have s4 : ∀ p : Ext W9, p.val.cell? ⟨w7.heap.size, 4, none⟩ = some (.slice a7 y.rs.length c7) := fun p => (SS.out ⟨p.val, HA9.out.trans (p.2.mono HA9.out.size)⟩).2.2.1
              have s5 : ∀ p : Ext W9, p.val.cell? ⟨w7.heap.size, 5, none⟩ = some (.slice a8 y.fs.length c8) := fun p => (SS.out ⟨p.val, HA9.out.trans (p.2.mono HA9.out.size)⟩).2.2.2
              obtain ⟨r1, hr1⟩ : ∃ r, compB (closedB (total gs)) qB y x = r := ⟨_, rfl⟩
              obtain ⟨r2, hr2⟩ : ∃ r, compB (closedB (total gs)) qB x y = r := ⟨_, rfl⟩
              have R1 := Lib.hid hr1; have R2 := Lib.hid hr2
              clear hr1 hr2 hW9 hb9 z9 hA9 k1 k2 k3 k4 hu hb8
              go_upto_region 21 with fail
              rw [← HW9.out]
              obtain ⟨p0, hp0⟩ : ∃ p : Ext W9, p.val = W9 := ⟨⟨W9, Below.refl _ _⟩, rfl⟩
              rw [← hp0]
              clear hp0
              go_wp2_with fail
              refine (Ext.call p0 (comp_tab HQ.out t y x _ _ _ _ _ _ _ (P2.out ⟨p0.val, HA9.out.trans (p0.2.mono HA9.out.size)⟩) (P3.out ⟨p0.val, HA9.out.trans (p0.2.mono HA9.out.size)⟩) (P4.out ⟨p0.val, HA9.out.trans (p0.2.mono HA9.out.size)⟩) (X2.out p0) (X3.out p0) (X4.out p0) HCY.out HCX.out (HTA.out.ext ⟨p0.val, HA9.out.trans (p0.2.mono HA9.out.size)⟩))).mono ?_
              rintro e _ ⟨rfl, p1, rfl⟩
              rw [R1.out]
              cases r1
              · go_wp2
                go_roundw
                case rel => exact ⟨k + 1, by rw [wrap_next (by have := HT6.out; have := HLK.out; omega)], HLK.out, ⟨p1.val, HA9.out.trans (p1.2.mono HA9.out.size)⟩, rfl⟩
                case measure => rw [wrap_next (by have := HT6.out; have := HLK.out; omega)]; exact meas_nat HLK.out
              · go_wp2_with fail
                refine (Ext.call p1 (comp_tab HQ.out t x y _ _ _ _ _ _ _ (X2.out p1) (X3.out p1) (X4.out p1) (P2.out ⟨p1.val, HA9.out.trans (p1.2.mono HA9.out.size)⟩) (P3.out ⟨p1.val, HA9.out.trans (p1.2.mono HA9.out.size)⟩) (P4.out ⟨p1.val, HA9.out.trans (p1.2.mono HA9.out.size)⟩) HCX.out HCY.out (HTA.out.ext ⟨p1.val, HA9.out.trans (p1.2.mono HA9.out.size)⟩))).mono ?_
                rintro e _ ⟨rfl, p2, rfl⟩
                rw [R2.out]
                cases r2
                · go_wp2
                  go_roundw
                  case rel => exact ⟨k + 1, by rw [wrap_next (by have := HT6.out; have := HLK.out; omega)], HLK.out, ⟨p2.val, HA9.out.trans (p2.2.mono HA9.out.size)⟩, rfl⟩
                  case measure => rw [wrap_next (by have := HT6.out; have := HLK.out; omega)]; exact meas_nat HLK.out
                · have hsame := anti_law HQ.out HC.out HS.out HY.out HX.out R1.out R2.out
                  have C := same_any [.bool false, .slice none 0 0, .int .i64 y.k, .slice a6 y.ps.length c6, .slice a7 y.rs.length c7, .slice a8 y.fs.length c8] [.bool false, .slice none 0 0, .int .i64 x.k, .slice e6 x.ps.length n6, .slice e7 x.rs.length n7, .slice e8 x.fs.length n8] ⟨false, [], y.k, y.ps, y.rs, y.fs⟩ ⟨false, [], x.k, x.ps, x.rs, x.fs⟩ p2.val ⟨_, _, _, _, rfl, RowAt.nil _ _, P2.out ⟨p2.val, HA9.out.trans (p2.2.mono HA9.out.size)⟩, P3.out ⟨p2.val, HA9.out.trans (p2.2.mono HA9.out.size)⟩, P4.out ⟨p2.val, HA9.out.trans (p2.2.mono HA9.out.size)⟩⟩ ⟨_, _, _, _, rfl, RowAt.nil _ _, X2.out p2, X3.out p2, X4.out p2⟩ (small_of_cnt (Nat.le_trans (by simp [cnt]) HCY.out)) (small_of_cnt (Nat.le_trans (by simp [cnt]) HCX.out))
                  rw [decide_eq_true hsame] at C
                  have HCS := Lib.hid C
                  clear C hsame
                  go_wp2_with fail
                  refine (Ext.call p2 HCS.out).mono ?_
                  rintro e _ ⟨rfl, p3, rfl⟩
                  go_wp2
                  go_roundw
                  case rel => exact ⟨k + 1, by rw [wrap_next (by have := HT6.out; have := HLK.out; omega)], HLK.out, ⟨p3.val, HA9.out.trans (p3.2.mono HA9.out.size)⟩, rfl⟩
                  case measure => rw [wrap_next (by have := HT6.out; have := HLK.out; omega)]; exact meas_nat HLK.out
            · obtain rfl : k = tt := by omega
              have hlk' : ¬ (k : Int) < k := by omega
              clear hlk hk
              go_wp2_with fail
              refine (Ext.call q (HCA.out q)).mono ?_
              rintro e _ ⟨rfl, q1, rfl⟩
              go_wp2
              go_roundw
              case rel => exact ⟨i + 1, by rw [wrap_next (by have := HT6.out; have := HLT.out; omega)], HLT.out, ⟨q1.val, H2A.out.trans (q1.2.mono H2A.out.size)⟩, rfl⟩
              case measure => rw [wrap_next (by have := HT6.out; have := HLT.out; omega)]; exact meas_nat HLT.out
        · obtain rfl : i = tt := by omega
          have hlt' : ¬ (i : Int) < i := by omega
          clear hlt hi
          have CL := fun q : Ext w2 => lenK (HT.out.ext q)
          rw [HTT.out] at CL
          have HCL := Lib.hid CL
          clear CL
          go_wp2_with fail
          refine (Ext.call z (HCL.out z)).mono ?_
          rintro e _ ⟨rfl, z1, rfl⟩
          go_wp2
          go_ret
          exact ⟨rfl, HB2.out.trans (z1.2.mono HB2.out.size)⟩
end Go.Proofs.YtoamhiaagaaaaaaGreatDoor
