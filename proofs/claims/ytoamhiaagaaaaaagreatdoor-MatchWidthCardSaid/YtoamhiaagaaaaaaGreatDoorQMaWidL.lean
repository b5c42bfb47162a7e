/- geodelaw10: MatchWidth. -/
import Derived.Test.YtoamhiaagaaaaaaGreatDoorQMaBuilt
import Derived.Test.YtoamhiaagaaaaaaGreatDoorQKdSameP
import Derived.Test.YtoamhiaagaaaaaaGreatDoorQMaOrdL
import Derived.Test.YtoamhiaagaaaaaaGreatDoorQRfHeapsP
import Derived.Deep.Cut
import Derived.Deep.RegionHeld3
import Derived.BigRegion
namespace Go.Proofs.YtoamhiaagaaaaaaGreatDoor
open Go.RowKit

/-- A composite type that came in: its cells. -/
structure CompA (w : World) (cs : List Value) (c : Sb) : Prop where
  ex : ∃ vp vr vf, cs = [.int .i64 c.k, vp, vr, vf] ∧ ValsAt w vp c.ps ∧ ValsAt w vr c.rs ∧ FlsAt w vf c.fs
set_option maxRecDepth 100000 in
set_option maxHeartbeats 32000000 in
theorem matchWidth_any (v0 v2 : Value) (l : List Gp) (cs : List Value) (c : Sb) (more : List Fl) (v x : Vl) (w : World) (hv : GpsAt w v0 l) (hr : RawP l) (hc : CompA w cs c) (hcs : c.sups = []) (hm : FlsAt w v2 more) (htab : Tab w) :
    Calls Tryz.prog 5 #[v0, .agg cs.toArray, v2, .agg (cellsV v).toArray, .agg (cellsV x).toArray] w fun e w' => e = .returned (.bool true) ∧ Below w.heap.size w w' := by
  obtain ⟨vk, vl, vh, vn⟩ := v
  obtain ⟨xk, xl, xh, xn⟩ := x
  obtain ⟨vp, vr, vf, rfl, k1, k2, k3⟩ := hc.ex
  obtain ⟨a1, c1, rfl⟩ := RowAt.form k1
  obtain ⟨a2, c2, rfl⟩ := RowAt.form k2
  obtain ⟨a3, c3, rfl⟩ := RowAt.form k3
  obtain ⟨a4, c4, rfl⟩ := RowAt.form hm
  obtain ⟨i2, hi2, hz02, hz12, hz22⟩ := info_parts Tryz.infoField
  have Hi2 := Lib.hid hi2; have Hz02 := Lib.hid hz02; have Hz12 := Lib.hid hz12; have Hz22 := Lib.hid hz22
  have HS0 := Lib.hid (show c.sups.length = 0 by rw [hcs]; rfl)
  clear hcs
  have K1 := Lib.hid k1; have K2 := Lib.hid k2; have K3 := Lib.hid k3; have K4 := Lib.hid hm
  obtain ⟨n1, hn1⟩ : ∃ n, c.ps.length = n := ⟨_, rfl⟩
  obtain ⟨n2, hn2⟩ : ∃ n, c.rs.length = n := ⟨_, rfl⟩
  obtain ⟨n3, hn3⟩ : ∃ n, c.fs.length = n := ⟨_, rfl⟩
  obtain ⟨n4, hn4⟩ : ∃ n, more.length = n := ⟨_, rfl⟩
  obtain ⟨ck, hck⟩ : ∃ k, c.k = k := ⟨_, rfl⟩
  have HN1 := Lib.hid hn1; have HN2 := Lib.hid hn2; have HN3 := Lib.hid hn3; have HN4 := Lib.hid hn4; have HCK := Lib.hid hck
  rw [hn1, hn2, hn3, hn4, hck]
  simp only [cellsV]
  clear k1 k2 k3 hm hc hn1 hn2 hn3 hn4 hck hi2 hz02 hz12 hz22
  obtain ⟨W0, hW⟩ : ∃ W0 : World, W0 = (((w.alloc (.cells #[.int .i64 ck, .slice a1 n1 c1, .slice a2 n2 c2, .slice a3 n3 c3] 46)).alloc (.cells #[.int .i64 vk, .bool vl, .int .i64 vh, .int .i64 vn] 28)).alloc (.cells #[.int .i64 xk, .bool xl, .int .i64 xh, .int .i64 xn] 28)) := ⟨_, rfl⟩
  have hB : Below w.heap.size w W0 := by rw [hW]; exact ((((Below.refl _ _).alloc (by simp) _).alloc (by simp) _).alloc (by simp; omega) _)
  have z0 : W0.heap[w.heap.size]? = some (.cells #[.int .i64 ck, .slice a1 n1 c1, .slice a2 n2 c2, .slice a3 n3 c3] 46 (0, 0)) := by rw [hW]; exact heap_alloc_keep (heap_alloc_keep (heap_alloc_at _ _ rfl) _) _
  have z1 : W0.heap[w.heap.size + 1]? = some (.cells #[.int .i64 vk, .bool vl, .int .i64 vh, .int .i64 vn] 28 (0, 0)) := by rw [hW]; exact heap_alloc_keep (heap_alloc_at _ _ (by simp)) _
  have z2 : W0.heap[w.heap.size + 1 + 1]? = some (.cells #[.int .i64 xk, .bool xl, .int .i64 xh, .int .i64 xn] 28 (0, 0)) := by rw [hW]; exact heap_alloc_at _ _ (by simp)
  have HW := Lib.hid hW; have HB := Lib.hid hB; have HTAB := Lib.hid (htab.on hB); have HV := Lib.hid (hv.below hB (Nat.le_refl _)); have HR := Lib.hid hr
  have Z0 := Lib.hid z0; have Z1 := Lib.hid z1; have Z2 := Lib.hid z2
  clear hW hB htab hv hr z0 z1 z2
  go_enter Tryz.func5, Tryz.ntmps5
  go_wp2_with fail
  rw [← HW.out]
  refine (Ext.call0 (mknown_any _ HTAB.out)).mono ?_
  rintro e _ ⟨rfl, x1, rfl⟩
  go_wp2_with fail
  refine (built_any _ l x1.val (HV.out.below x1.2 (Nat.le_refl _)) HR.out (HTAB.out.on x1.2)).mono ?_
  rintro e w2 (⟨rfl, hb⟩ | ⟨t, r, n, S, R, Q, gs, rfl, hBo, _, hsup⟩)
  · have hb0 := x1.2.trans (hb.mono x1.2.size)
    have y0 := (hb0.block _ (heap_lt Z0.out)).trans Z0.out
    have b0_1 := heap_cell y0 1; have b0_2 := heap_cell y0 2; have b0_3 := heap_cell y0 3
    simp at b0_1 b0_2 b0_3
    have HB0 := Lib.hid hb0
    clear y0 hb hb0
    go_wp2
    go_ret
    exact ⟨rfl, HB.out.trans (HB0.out.mono HB.out.size)⟩
  have hb2 : Below W0.heap.size W0 w2 := x1.2.trans (hBo.tab.be.mono x1.2.size)
  have ht := tabK_of hBo
  obtain ⟨qB, hq⟩ := heapT_ex gs
  have HQ := Lib.hid hq; have HT := Lib.hid ht; have HB2 := Lib.hid (HB.out.trans (hb2.mono HB.out.size))
  have y0 := (hb2.block _ (heap_lt Z0.out)).trans Z0.out
  have b0_0 : ∀ z : Ext w2, z.val.cell? ⟨w.heap.size, 0, none⟩ = some (.int .i64 ck) := Ext.cells (heap_cell y0 0)
  have b0_1 : ∀ z : Ext w2, z.val.cell? ⟨w.heap.size, 1, none⟩ = some (.slice a1 n1 c1) := Ext.cells (heap_cell y0 1)
  have b0_2 : ∀ z : Ext w2, z.val.cell? ⟨w.heap.size, 2, none⟩ = some (.slice a2 n2 c2) := Ext.cells (heap_cell y0 2)
  have b0_3 : ∀ z : Ext w2, z.val.cell? ⟨w.heap.size, 3, none⟩ = some (.slice a3 n3 c3) := Ext.cells (heap_cell y0 3)
  have y1 := (hb2.block _ (heap_lt Z1.out)).trans Z1.out
  have b1_0 : ∀ z : Ext w2, z.val.cell? ⟨w.heap.size + 1, 0, none⟩ = some (.int .i64 vk) := Ext.cells (heap_cell y1 0)
  have b1_1 : ∀ z : Ext w2, z.val.cell? ⟨w.heap.size + 1, 1, none⟩ = some (.bool vl) := Ext.cells (heap_cell y1 1)
  have b1_2 : ∀ z : Ext w2, z.val.cell? ⟨w.heap.size + 1, 2, none⟩ = some (.int .i64 vh) := Ext.cells (heap_cell y1 2)
  have b1_3 : ∀ z : Ext w2, z.val.cell? ⟨w.heap.size + 1, 3, none⟩ = some (.int .i64 vn) := Ext.cells (heap_cell y1 3)
  have y2 := (hb2.block _ (heap_lt Z2.out)).trans Z2.out
  have b2_0 : ∀ z : Ext w2, z.val.cell? ⟨w.heap.size + 1 + 1, 0, none⟩ = some (.int .i64 xk) := Ext.cells (heap_cell y2 0)
  have b2_1 : ∀ z : Ext w2, z.val.cell? ⟨w.heap.size + 1 + 1, 1, none⟩ = some (.bool xl) := Ext.cells (heap_cell y2 1)
  have b2_2 : ∀ z : Ext w2, z.val.cell? ⟨w.heap.size + 1 + 1, 2, none⟩ = some (.int .i64 xh) := Ext.cells (heap_cell y2 2)
  have b2_3 : ∀ z : Ext w2, z.val.cell? ⟨w.heap.size + 1 + 1, 3, none⟩ = some (.int .i64 xn) := Ext.cells (heap_cell y2 3)
  have E1 := Lib.hid (show ∀ z : Ext w2, ValsAt z.val (.slice a1 n1 c1) c.ps from fun z => by rw [← HN1.out]; exact RowAt.below K1.out (HB2.out.trans (z.2.mono HB2.out.size)) (Nat.le_refl _))
  have E2 := Lib.hid (show ∀ z : Ext w2, ValsAt z.val (.slice a2 n2 c2) c.rs from fun z => by rw [← HN2.out]; exact RowAt.below K2.out (HB2.out.trans (z.2.mono HB2.out.size)) (Nat.le_refl _))
  have E3 := Lib.hid (show ∀ z : Ext w2, FlsAt z.val (.slice a3 n3 c3) c.fs from fun z => by rw [← HN3.out]; exact RowAt.below K3.out (HB2.out.trans (z.2.mono HB2.out.size)) (Nat.le_refl _))
  have E4 := Lib.hid (show ∀ z : Ext w2, FlsAt z.val (.slice a4 n4 c4) more from fun z => by rw [← HN4.out]; exact RowAt.below K4.out (HB2.out.trans (z.2.mono HB2.out.size)) (Nat.le_refl _))
  clear hb2 ht hq hBo hsup y0 y1 y2
  obtain ⟨y0, hy0⟩ : ∃ y : Ext w2, y.val = w2 := ⟨⟨w2, Below.refl _ _⟩, rfl⟩
  rw [← hy0]
  clear hy0
  by_cases g0 : n1 ≤ 20
  case neg =>
    have g0a : (20 : Int) < n1 := by omega
    have g0b : decide ((20 : Int) < n1) = true := by simpa using g0a
    clear g0
    go_wp2
    go_ret
    exact ⟨rfl, HB2.out.trans (y0.2.mono HB2.out.size)⟩
  have G0 := Lib.hid g0
  have g0a : ¬ (20 : Int) < n1 := by omega
  have g0b : decide ((20 : Int) < n1) = false := by simpa using g0a
  clear g0
  by_cases g1 : n2 ≤ 20
  case neg =>
    have g1a : (20 : Int) < n2 := by omega
    have g1b : decide ((20 : Int) < n2) = true := by simpa using g1a
    clear g1
    go_wp2
    go_ret
    exact ⟨rfl, HB2.out.trans (y0.2.mono HB2.out.size)⟩
  have G1 := Lib.hid g1
  have g1a : ¬ (20 : Int) < n2 := by omega
  have g1b : decide ((20 : Int) < n2) = false := by simpa using g1a
  clear g1
  by_cases g2 : n3 ≤ 20
  case neg =>
    have g2a : (20 : Int) < n3 := by omega
    have g2b : decide ((20 : Int) < n3) = true := by simpa using g2a
    clear g2
    go_wp2
    go_ret
    exact ⟨rfl, HB2.out.trans (y0.2.mono HB2.out.size)⟩
  have G2 := Lib.hid g2
  have g2a : ¬ (20 : Int) < n3 := by omega
  have g2b : decide ((20 : Int) < n3) = false := by simpa using g2a
  clear g2
  by_cases g3 : n4 ≤ 20
  case neg =>
    have g3a : (20 : Int) < n4 := by omega
    have g3b : decide ((20 : Int) < n4) = true := by simpa using g3a
    clear g3
    go_wp2
    go_ret
    exact ⟨rfl, HB2.out.trans (y0.2.mono HB2.out.size)⟩
  have G3 := Lib.hid g3
  have g3a : ¬ (20 : Int) < n4 := by omega
  have g3b : decide ((20 : Int) < n4) = false := by simpa using g3a
  clear g3
  have HCN := Lib.hid (show cnt c ≤ 1000000 ∨ True from .inr trivial)
  obtain ⟨rc, hrc⟩ : ∃ r, compB (closedB (total gs)) qB c c = r := ⟨_, rfl⟩
  have RC := Lib.hid hrc
  clear hrc
  go_upto_region 6 with fail
  clear g0a g0b g1a g1b g2a g2b g3a g3b
  go_cut [60] from 52 (fun sx wx => ∃ d : Bool, sx = .bool d ∧ (d = true → ck = 2 ∧ rc = true) ∧ ∃ z : Ext w2, wx = z.val)
  case first =>
    by_cases hk : ck = 2
    · subst hk
      have hsz : cnt ⟨c.fin, [], c.k, c.ps, c.rs, c.fs⟩ ≤ 1000000 := by have h1 := G0.out; have h2 := G1.out; have h3 := G2.out; have h4 := HN1.out; have h5 := HN2.out; have h6 := HN3.out; simp [cnt]; omega
      have C := comp_tab HQ.out t ⟨c.fin, [], c.k, c.ps, c.rs, c.fs⟩ ⟨c.fin, [], c.k, c.ps, c.rs, c.fs⟩ _ _ _ _ _ _ y0.val (E1.out y0) (E2.out y0) (E3.out y0) (E1.out y0) (E2.out y0) (E3.out y0) hsz hsz (HT.out.ext y0)
      dsimp only at C
      rw [HCK.out] at C
      rw [show compB (closedB (total gs)) qB ⟨c.fin, [], 2, c.ps, c.rs, c.fs⟩ ⟨c.fin, [], 2, c.ps, c.rs, c.fs⟩ = compB (closedB (total gs)) qB c c from by rw [compB_2 rfl rfl, compB_2 HCK.out HCK.out], RC.out] at C
      have HC := Lib.hid C
      clear C hsz
      go_wp2_with fail
      refine (Ext.call y0 HC.out).mono ?_
      rintro e _ ⟨rfl, p1, rfl⟩
      go_wp2_with fail
      go_meet
      exact ⟨rc, rfl, (by intro h; simp [h]), p1, rfl⟩
    · have hk' : (ck == 2) = false := by simpa using hk
      clear hk
      go_wp2_with fail
      go_meet
      exact ⟨false, rfl, (fun h => by cases h), y0, rfl⟩
  case rest =>
    obtain ⟨d, rfl, hd, y1, rfl⟩ := hcut
    have HD := Lib.hid hd
    clear hd
    go_upto_if 60 with fail
    go_cut [14] from 61 (fun _ wx => ∃ z : Ext w2, wx = z.val)
    case first =>
      cases d
      · go_wp2_with fail
        go_meet
        exact ⟨y1, rfl⟩
      · obtain ⟨rfl, rfl⟩ := HD.out rfl
        obtain ⟨W3, hW3⟩ : ∃ W3 : World, W3 = y1.val.alloc (.cells #[.int .i64 2, .slice a1 n1 c1, .slice a2 n2 c2, .slice a3 n3 c3] 46) := ⟨_, rfl⟩
        have hb3 : Below y1.val.heap.size y1.val W3 := by rw [hW3]; exact (Below.refl _ _).alloc (Nat.le_refl _) _
        have z3 : W3.heap[y1.val.heap.size]? = some (.cells #[.int .i64 2, .slice a1 n1 c1, .slice a2 n2 c2, .slice a3 n3 c3] 46 (0, 0)) := by rw [hW3]; exact heap_alloc_at _ _ rfl
        have hy3 : Below w2.heap.size w2 W3 := y1.2.trans (hb3.mono y1.2.size)
        have hbs : y1.val.heap.size < W3.heap.size := heap_lt z3
        have HW3 := Lib.hid hW3; have HY3 := Lib.hid hy3; have Z3 := Lib.hid z3; have HBS := Lib.hid hbs
        have q6 := fun (W : World) (h : Below w2.heap.size w2 W) => b0_3 ⟨W, h⟩
        have Q6 := Lib.hid q6
        clear hW3 hb3 z3 hy3 hbs q6
        go_upto_region 8 with fail
        rw [← HW3.out]
        have q3 : W3.cell? ⟨w.heap.size, 3, none⟩ = some (.slice a3 n3 c3) := Q6.out W3 HY3.out
        have q3l : w.heap.size < W3.heap.size := World.block_lt_of_cell? _ _ q3
        go_wp2_with (at_builtin; refine wpList_append_row _ rfl _ _ 44 rfl W3.heap.size 107 i2 _ 6 48 Tryz.underlying44 Hi2.out Hz02.out Hz12.out Hz22.out rfl (by decide) _ 0 [] rfl (owns_e W3 (Nat.le_refl _) _ _ rfl) _ n3 (flatF c.fs) rfl (by have h := E3.out ⟨_, HY3.out.alloc HY3.out.size (.cells #[] 107)⟩; unfold FlsAt at h; rw [HN3.out] at h; exact h) (flatF_one _) (by have := G2.out; unfold maxLen; omega) (by have := G2.out; omega) (by simp) ?_)
        intro v3 w3 o3 gr3
        obtain ⟨a5, c5, rfl, _⟩ := ownsRow_form o3
        have hb4 : Below W3.heap.size W3 w3 := ((Below.refl _ _).alloc (Nat.le_refl _) _).grown gr3 (by simp) (fun k hk => by simp [Value.ownBlock] at hk; omega)
        have O3 := Lib.hid o3; have HB4 := Lib.hid hb4
        clear o3 gr3 hb4 q3 q3l
        go_wp2_with (at_builtin; refine wpList_append_row _ rfl _ _ 44 rfl W3.heap.size 107 i2 _ 6 48 Tryz.underlying44 Hi2.out Hz02.out Hz12.out Hz22.out rfl (by decide) _ _ _ rfl O3.out _ n4 (flatF more) rfl (by have h := E4.out ⟨w3, HY3.out.trans (HB4.out.mono HY3.out.size)⟩; unfold FlsAt at h; rw [HN4.out] at h; exact h) (flatF_one _) (by have := G2.out; have := G3.out; unfold maxLen; omega) (by have := G2.out; have := G3.out; omega) HB4.out.size ?_)
        intro v4 w4 o4 gr4
        obtain ⟨a6, c6, rfl, _⟩ := ownsRow_form o4
        have hb5 : Below W3.heap.size W3 w4 := HB4.out.grown gr4 HB4.out.size (fun k hk => (O3.out.lt k hk).1)
        have z4 := (hb5.block _ (heap_lt Z3.out)).trans Z3.out
        have d0 := heap_cell z4 0; have d1 := heap_cell z4 1; have d2 := heap_cell z4 2; have d3 := heap_cell z4 3
        have df := fun i => heap_frozen z4 i
        simp at d0 d1 d2 d3
        have O4 := Lib.hid o4; have HB5 := Lib.hid hb5; have Z4 := Lib.hid z4
        clear o4 gr4 hb5 z4
        go_upto_region 9 with fail
        obtain ⟨W5, hW5⟩ : ∃ W5 : World, w4.setCell ⟨y1.val.heap.size, 3, none⟩ (.slice a6 (n3 + n4) c6) = W5 := ⟨_, rfl⟩
        rw [hW5]
        have hY5 : Below w2.heap.size w2 W5 := by rw [← hW5]; exact (HY3.out.trans (HB5.out.mono HY3.out.size)).setCell y1.2.size _
        have z5 : W5.heap[y1.val.heap.size]? = some (.cells #[.int .i64 2, .slice a1 n1 c1, .slice a2 n2 c2, .slice a6 (n3 + n4) c6] 46 (0, 0)) := by rw [← hW5]; have q := heap_set_at Z4.out 3 (.slice a6 (n3 + n4) c6); simpa using q
        have o5 : FlsAt W5 (.slice a6 (n3 + n4) c6) (c.fs ++ more) := by
          rw [← hW5]
          have q := RowAt.of_own (ownsRow_upd O4.out ((Upd.refl (fun b => b = y1.val.heap.size) w4).setCell (p := ⟨y1.val.heap.size, 3, none⟩) (.inl rfl) (.slice a6 (n3 + n4) c6)) (fun b hb e => by have := (O4.out.lt b hb).1; have := HBS.out; omega))
          unfold FlsAt flatF
          rw [List.length_append, HN3.out, HN4.out, List.flatMap_append]
          exact q
        have HX5 := Lib.hid (fun z : Ext W5 => (hY5.trans (z.2.mono hY5.size) : Below w2.heap.size w2 z.val))
        have F5 := Lib.hid (fun z : Ext W5 => (RowAt.ext o5 z : FlsAt z.val (.slice a6 (n3 + n4) c6) (c.fs ++ more)))
        have hc1 : cnt c ≤ 1000000 := by have h1 := G0.out; have h2 := G1.out; have h3 := G2.out; have h4 := HN1.out; have h5 := HN2.out; have h6 := HN3.out; have h7 := HS0.out; simp only [cnt]; omega
        have hc2 : cnt (strS c (c.fs ++ more)) ≤ 1000000 := by have h1 := G0.out; have h2 := G1.out; have h3 := G2.out; have h4 := HN1.out; have h5 := HN2.out; have h6 := HN3.out; have h7 := HS0.out; have h8 := G3.out; have h9 := HN4.out; simp only [cnt, strS, List.length_append]; omega
        obtain ⟨hw1, hw2⟩ := width_law (more := more) HQ.out HCK.out RC.out
        have d1 : ∀ z : Ext W5, Calls Tryz.prog 33 #[.pointer (some ⟨t, 0, none⟩), .agg #[.int .i64 2, .slice a1 n1 c1, .slice a2 n2 c2, .slice a6 (n3 + n4) c6], .agg #[.int .i64 2, .slice a1 n1 c1, .slice a2 n2 c2, .slice a3 n3 c3]] z.val fun e w' => e = .returned (.bool true) ∧ Below z.val.heap.size z.val w' := fun z => by
          have h := comp_tab HQ.out t (strS c (c.fs ++ more)) c _ _ _ _ _ _ z.val (E1.out ⟨z.val, HX5.out z⟩) (E2.out ⟨z.val, HX5.out z⟩) (F5.out z) (E1.out ⟨z.val, HX5.out z⟩) (E2.out ⟨z.val, HX5.out z⟩) (E3.out ⟨z.val, HX5.out z⟩) hc2 hc1 (HT.out.ext ⟨z.val, HX5.out z⟩)
          rw [show (strS c (c.fs ++ more)).k = 2 from HCK.out, HCK.out, hw1] at h
          exact h
        have d2 : more ≠ [] → ∀ z : Ext W5, Calls Tryz.prog 33 #[.pointer (some ⟨t, 0, none⟩), .agg #[.int .i64 2, .slice a1 n1 c1, .slice a2 n2 c2, .slice a3 n3 c3], .agg #[.int .i64 2, .slice a1 n1 c1, .slice a2 n2 c2, .slice a6 (n3 + n4) c6]] z.val fun e w' => e = .returned (.bool false) ∧ Below z.val.heap.size z.val w' := fun hne z => by
          have h := comp_tab HQ.out t c (strS c (c.fs ++ more)) _ _ _ _ _ _ z.val (E1.out ⟨z.val, HX5.out z⟩) (E2.out ⟨z.val, HX5.out z⟩) (E3.out ⟨z.val, HX5.out z⟩) (E1.out ⟨z.val, HX5.out z⟩) (E2.out ⟨z.val, HX5.out z⟩) (F5.out z) hc1 hc2 (HT.out.ext ⟨z.val, HX5.out z⟩)
          rw [show (strS c (c.fs ++ more)).k = 2 from HCK.out, HCK.out, hw2 hne] at h
          exact h
        have u0 : ∀ z : Ext W5, z.val.cell? ⟨y1.val.heap.size, 0, none⟩ = some (.int .i64 2) := Ext.cells (heap_cell z5 0)
        have v0 : ∀ z : Ext W5, z.val.cell? ⟨w.heap.size, 0, none⟩ = some (.int .i64 2) := fun z => b0_0 ⟨z.val, HX5.out z⟩
        have u1 : ∀ z : Ext W5, z.val.cell? ⟨y1.val.heap.size, 1, none⟩ = some (.slice a1 n1 c1) := Ext.cells (heap_cell z5 1)
        have v1 : ∀ z : Ext W5, z.val.cell? ⟨w.heap.size, 1, none⟩ = some (.slice a1 n1 c1) := fun z => b0_1 ⟨z.val, HX5.out z⟩
        have u2 : ∀ z : Ext W5, z.val.cell? ⟨y1.val.heap.size, 2, none⟩ = some (.slice a2 n2 c2) := Ext.cells (heap_cell z5 2)
        have v2 : ∀ z : Ext W5, z.val.cell? ⟨w.heap.size, 2, none⟩ = some (.slice a2 n2 c2) := fun z => b0_2 ⟨z.val, HX5.out z⟩
        have u3 : ∀ z : Ext W5, z.val.cell? ⟨y1.val.heap.size, 3, none⟩ = some (.slice a6 (n3 + n4) c6) := Ext.cells (heap_cell z5 3)
        have v3 : ∀ z : Ext W5, z.val.cell? ⟨w.heap.size, 3, none⟩ = some (.slice a3 n3 c3) := fun z => b0_3 ⟨z.val, HX5.out z⟩
        have D1 := Lib.hid d1; have D2 := Lib.hid d2
        clear d1 d2 hw1 hw2 hc1 hc2 o5 z5 hY5 hW5 d0 d3 df
        obtain ⟨p0, hp0⟩ : ∃ p : Ext W5, p.val = W5 := ⟨⟨W5, Below.refl _ _⟩, rfl⟩
        rw [← hp0]
        clear hp0
        go_wp2_with fail
        refine (Ext.call p0 (D1.out p0)).mono ?_
        rintro e _ ⟨rfl, p1, rfl⟩
        by_cases h0 : n4 = 0
        · subst h0
          go_wp2_with fail
          go_meet
          exact ⟨⟨p1.val, HX5.out p1⟩, rfl⟩
        · have h0a : (0 : Int) < n4 := by omega
          have hne : more ≠ [] := fun e => by have := HN4.out; rw [e] at this; simp at this; omega
          have D3 := Lib.hid (D2.out hne)
          clear h0 hne
          go_wp2_with fail
          refine (Ext.call p1 (D3.out p1)).mono ?_
          rintro e _ ⟨rfl, p2, rfl⟩
          go_wp2_with fail
          go_meet
          exact ⟨⟨p2.val, HX5.out p2⟩, rfl⟩
    case rest =>
      obtain ⟨y2, rfl⟩ := hcut
      obtain ⟨rv, hrv⟩ : ∃ r, valB (closedB (total gs)) qB ⟨vk, vl, vh, vn⟩ ⟨xk, xl, xh, xn⟩ = r := ⟨_, rfl⟩
      have RV := Lib.hid hrv
      have cC : ∀ (p q : Nat) (W : World), Below w2.heap.size w2 W → ValsAt W (.slice (some ⟨p, 0, none⟩) 1 1) [⟨xk, xl, xh, xn⟩] → ValsAt W (.slice (some ⟨q, 0, none⟩) 1 1) [⟨vk, vl, vh, vn⟩] → Calls Tryz.prog 33 #[.pointer (some ⟨t, 0, none⟩), .agg #[.int .i64 1, .slice (some ⟨p, 0, none⟩) 1 1, .slice none 0 0, .slice none 0 0], .agg #[.int .i64 1, .slice (some ⟨q, 0, none⟩) 1 1, .slice none 0 0, .slice none 0 0]] W fun e w' => e = .returned (.bool rv) ∧ Below W.heap.size W w' := fun p q W hW h1 h2 => by
        have h := comp_tab HQ.out t (fnS [⟨xk, xl, xh, xn⟩] []) (fnS [⟨vk, vl, vh, vn⟩] []) _ _ _ _ _ _ W h1 (RowAt.nil _ _) (RowAt.nil _ _) h2 (RowAt.nil _ _) (RowAt.nil _ _) (by simp [cnt, fnS]) (by simp [cnt, fnS]) (HT.out.below hW)
        rw [takes_law, RV.out] at h
        exact h
      have cG : ∀ (p q : Nat) (W : World), Below w2.heap.size w2 W → ValsAt W (.slice (some ⟨p, 0, none⟩) 1 1) [⟨vk, vl, vh, vn⟩] → ValsAt W (.slice (some ⟨q, 0, none⟩) 1 1) [⟨xk, xl, xh, xn⟩] → Calls Tryz.prog 33 #[.pointer (some ⟨t, 0, none⟩), .agg #[.int .i64 1, .slice none 0 0, .slice (some ⟨p, 0, none⟩) 1 1, .slice none 0 0], .agg #[.int .i64 1, .slice none 0 0, .slice (some ⟨q, 0, none⟩) 1 1, .slice none 0 0]] W fun e w' => e = .returned (.bool rv) ∧ Below W.heap.size W w' := fun p q W hW h1 h2 => by
        have h := comp_tab HQ.out t (fnS [] [⟨vk, vl, vh, vn⟩]) (fnS [] [⟨xk, xl, xh, xn⟩]) _ _ _ _ _ _ W (RowAt.nil _ _) h1 (RowAt.nil _ _) (RowAt.nil _ _) h2 (RowAt.nil _ _) (by simp [cnt, fnS]) (by simp [cnt, fnS]) (HT.out.below hW)
        rw [tells_law, RV.out] at h
        exact h
      have cV : ∀ W : World, Below w2.heap.size w2 W → Calls Tryz.prog 36 #[.pointer (some ⟨t, 0, none⟩), .agg #[.int .i64 vk, .bool vl, .int .i64 vh, .int .i64 vn], .agg #[.int .i64 xk, .bool xl, .int .i64 xh, .int .i64 xn]] W fun e w' => e = .returned (.bool rv) ∧ Below W.heap.size W w' := fun W hW => by
        have h := val_tab HQ.out t ⟨vk, vl, vh, vn⟩ ⟨xk, xl, xh, xn⟩ W (HT.out.below hW)
        rw [RV.out] at h
        exact h
      have HCCC := Lib.hid cC; have HCCG := Lib.hid cG; have HVV := Lib.hid cV
      clear hrv cC cG cV
      go_upto_region 13 with fail
      go_cut [112] from 85 (fun sx wx => sx = .bool false ∧ ∃ z : Ext w2, wx = z.val)
      case first =>
        have KZ0 := Lib.hid (show y2.val.drew.cell? ⟨w.heap.size + 1, 0, none⟩ = some (.int .i64 vk) ∧ y2.val.drew.cell? ⟨w.heap.size + 1, 1, none⟩ = some (.bool vl) ∧ y2.val.drew.cell? ⟨w.heap.size + 1, 2, none⟩ = some (.int .i64 vh) ∧ y2.val.drew.cell? ⟨w.heap.size + 1, 3, none⟩ = some (.int .i64 vn) ∧ y2.val.drew.cell? ⟨w.heap.size + 1 + 1, 0, none⟩ = some (.int .i64 xk) ∧ y2.val.drew.cell? ⟨w.heap.size + 1 + 1, 1, none⟩ = some (.bool xl) ∧ y2.val.drew.cell? ⟨w.heap.size + 1 + 1, 2, none⟩ = some (.int .i64 xh) ∧ y2.val.drew.cell? ⟨w.heap.size + 1 + 1, 3, none⟩ = some (.int .i64 xn) from ⟨b1_0 ⟨y2.val.drew, y2.2.drew⟩, b1_1 ⟨y2.val.drew, y2.2.drew⟩, b1_2 ⟨y2.val.drew, y2.2.drew⟩, b1_3 ⟨y2.val.drew, y2.2.drew⟩, b2_0 ⟨y2.val.drew, y2.2.drew⟩, b2_1 ⟨y2.val.drew, y2.2.drew⟩, b2_2 ⟨y2.val.drew, y2.2.drew⟩, b2_3 ⟨y2.val.drew, y2.2.drew⟩⟩)
        go_region_held3 (fun w' => w'.cell? ⟨w.heap.size + 1, 0, none⟩ = some (.int .i64 vk) ∧ w'.cell? ⟨w.heap.size + 1, 1, none⟩ = some (.bool vl) ∧ w'.cell? ⟨w.heap.size + 1, 2, none⟩ = some (.int .i64 vh) ∧ w'.cell? ⟨w.heap.size + 1, 3, none⟩ = some (.int .i64 vn) ∧ w'.cell? ⟨w.heap.size + 1 + 1, 0, none⟩ = some (.int .i64 xk) ∧ w'.cell? ⟨w.heap.size + 1 + 1, 1, none⟩ = some (.bool xl) ∧ w'.cell? ⟨w.heap.size + 1 + 1, 2, none⟩ = some (.int .i64 xh) ∧ w'.cell? ⟨w.heap.size + 1 + 1, 3, none⟩ = some (.int .i64 xn)) (first | exact KZ0.out | exact KZ1.out | exact KZ2.out | exact KZ3.out | exact KZ4.out | exact KZ5.out | exact KZ6.out | exact KZ7.out | exact KZ8.out)
          (first
            | (have _q := HEG.out
               clear _q
               go_at_call 36
               refine (HVV.out wG HEG.out).mono ?_
               rintro e wH ⟨rfl, hbH⟩
               have hEH : Below w2.heap.size w2 wH := HEG.out.trans (hbH.mono HEG.out.size)
               have KZ8 := Lib.hid (show wH.cell? ⟨w.heap.size + 1, 0, none⟩ = some (.int .i64 vk) ∧ wH.cell? ⟨w.heap.size + 1, 1, none⟩ = some (.bool vl) ∧ wH.cell? ⟨w.heap.size + 1, 2, none⟩ = some (.int .i64 vh) ∧ wH.cell? ⟨w.heap.size + 1, 3, none⟩ = some (.int .i64 vn) ∧ wH.cell? ⟨w.heap.size + 1 + 1, 0, none⟩ = some (.int .i64 xk) ∧ wH.cell? ⟨w.heap.size + 1 + 1, 1, none⟩ = some (.bool xl) ∧ wH.cell? ⟨w.heap.size + 1 + 1, 2, none⟩ = some (.int .i64 xh) ∧ wH.cell? ⟨w.heap.size + 1 + 1, 3, none⟩ = some (.int .i64 xn) from ⟨b1_0 ⟨wH, hEH⟩, b1_1 ⟨wH, hEH⟩, b1_2 ⟨wH, hEH⟩, b1_3 ⟨wH, hEH⟩, b2_0 ⟨wH, hEH⟩, b2_1 ⟨wH, hEH⟩, b2_2 ⟨wH, hEH⟩, b2_3 ⟨wH, hEH⟩⟩)
               have HEH := Lib.hid hEH
               clear hbH hEH
               dsimp only)
            | (have _q := HEF.out
               clear _q
               go_at_call 33
               refine (HCCG.out _ _ wF HEF.out HWF.out HVF.out).mono ?_
               rintro e wG ⟨rfl, hbG⟩
               have hEG : Below w2.heap.size w2 wG := HEF.out.trans (hbG.mono HEF.out.size)
               have KZ7 := Lib.hid (show wG.cell? ⟨w.heap.size + 1, 0, none⟩ = some (.int .i64 vk) ∧ wG.cell? ⟨w.heap.size + 1, 1, none⟩ = some (.bool vl) ∧ wG.cell? ⟨w.heap.size + 1, 2, none⟩ = some (.int .i64 vh) ∧ wG.cell? ⟨w.heap.size + 1, 3, none⟩ = some (.int .i64 vn) ∧ wG.cell? ⟨w.heap.size + 1 + 1, 0, none⟩ = some (.int .i64 xk) ∧ wG.cell? ⟨w.heap.size + 1 + 1, 1, none⟩ = some (.bool xl) ∧ wG.cell? ⟨w.heap.size + 1 + 1, 2, none⟩ = some (.int .i64 xh) ∧ wG.cell? ⟨w.heap.size + 1 + 1, 3, none⟩ = some (.int .i64 xn) from ⟨b1_0 ⟨wG, hEG⟩, b1_1 ⟨wG, hEG⟩, b1_2 ⟨wG, hEG⟩, b1_3 ⟨wG, hEG⟩, b2_0 ⟨wG, hEG⟩, b2_1 ⟨wG, hEG⟩, b2_2 ⟨wG, hEG⟩, b2_3 ⟨wG, hEG⟩⟩)
               have HEG := Lib.hid hEG
               clear hbG hEG
               dsimp only)
            | (have _q := HEE.out
               clear _q
               go_at_call 35
               refine (tells_any ⟨xk, xl, xh, xn⟩ _).mono ?_
               rintro e wF ⟨aF, rfl, hvF, hbF⟩
               have hEF : Below w2.heap.size w2 wF := HEE.out.trans (hbF.mono HEE.out.size)
               have KZ6 := Lib.hid (show wF.cell? ⟨w.heap.size + 1, 0, none⟩ = some (.int .i64 vk) ∧ wF.cell? ⟨w.heap.size + 1, 1, none⟩ = some (.bool vl) ∧ wF.cell? ⟨w.heap.size + 1, 2, none⟩ = some (.int .i64 vh) ∧ wF.cell? ⟨w.heap.size + 1, 3, none⟩ = some (.int .i64 vn) ∧ wF.cell? ⟨w.heap.size + 1 + 1, 0, none⟩ = some (.int .i64 xk) ∧ wF.cell? ⟨w.heap.size + 1 + 1, 1, none⟩ = some (.bool xl) ∧ wF.cell? ⟨w.heap.size + 1 + 1, 2, none⟩ = some (.int .i64 xh) ∧ wF.cell? ⟨w.heap.size + 1 + 1, 3, none⟩ = some (.int .i64 xn) from ⟨b1_0 ⟨wF, hEF⟩, b1_1 ⟨wF, hEF⟩, b1_2 ⟨wF, hEF⟩, b1_3 ⟨wF, hEF⟩, b2_0 ⟨wF, hEF⟩, b2_1 ⟨wF, hEF⟩, b2_2 ⟨wF, hEF⟩, b2_3 ⟨wF, hEF⟩⟩)
               have HEF := Lib.hid hEF
               have HVF := Lib.hid hvF
               have HWF := Lib.hid (RowAt.below HVE.out hbF (Nat.le_refl _))
               clear hvF
               clear hbF hEF
               dsimp only)
            | (have _q := HED.out
               clear _q
               go_at_call 35
               refine (tells_any ⟨vk, vl, vh, vn⟩ _).mono ?_
               rintro e wE ⟨aE, rfl, hvE, hbE⟩
               have hEE : Below w2.heap.size w2 wE := HED.out.trans (hbE.mono HED.out.size)
               have KZ5 := Lib.hid (show wE.cell? ⟨w.heap.size + 1, 0, none⟩ = some (.int .i64 vk) ∧ wE.cell? ⟨w.heap.size + 1, 1, none⟩ = some (.bool vl) ∧ wE.cell? ⟨w.heap.size + 1, 2, none⟩ = some (.int .i64 vh) ∧ wE.cell? ⟨w.heap.size + 1, 3, none⟩ = some (.int .i64 vn) ∧ wE.cell? ⟨w.heap.size + 1 + 1, 0, none⟩ = some (.int .i64 xk) ∧ wE.cell? ⟨w.heap.size + 1 + 1, 1, none⟩ = some (.bool xl) ∧ wE.cell? ⟨w.heap.size + 1 + 1, 2, none⟩ = some (.int .i64 xh) ∧ wE.cell? ⟨w.heap.size + 1 + 1, 3, none⟩ = some (.int .i64 xn) from ⟨b1_0 ⟨wE, hEE⟩, b1_1 ⟨wE, hEE⟩, b1_2 ⟨wE, hEE⟩, b1_3 ⟨wE, hEE⟩, b2_0 ⟨wE, hEE⟩, b2_1 ⟨wE, hEE⟩, b2_2 ⟨wE, hEE⟩, b2_3 ⟨wE, hEE⟩⟩)
               have HEE := Lib.hid hEE
               have HVE := Lib.hid hvE
               clear hvE
               clear hbE hEE
               dsimp only)
            | (have _q := HEC.out
               clear _q
               go_at_call 36
               refine (HVV.out wC HEC.out).mono ?_
               rintro e wD ⟨rfl, hbD⟩
               have hED : Below w2.heap.size w2 wD := HEC.out.trans (hbD.mono HEC.out.size)
               have KZ4 := Lib.hid (show wD.cell? ⟨w.heap.size + 1, 0, none⟩ = some (.int .i64 vk) ∧ wD.cell? ⟨w.heap.size + 1, 1, none⟩ = some (.bool vl) ∧ wD.cell? ⟨w.heap.size + 1, 2, none⟩ = some (.int .i64 vh) ∧ wD.cell? ⟨w.heap.size + 1, 3, none⟩ = some (.int .i64 vn) ∧ wD.cell? ⟨w.heap.size + 1 + 1, 0, none⟩ = some (.int .i64 xk) ∧ wD.cell? ⟨w.heap.size + 1 + 1, 1, none⟩ = some (.bool xl) ∧ wD.cell? ⟨w.heap.size + 1 + 1, 2, none⟩ = some (.int .i64 xh) ∧ wD.cell? ⟨w.heap.size + 1 + 1, 3, none⟩ = some (.int .i64 xn) from ⟨b1_0 ⟨wD, hED⟩, b1_1 ⟨wD, hED⟩, b1_2 ⟨wD, hED⟩, b1_3 ⟨wD, hED⟩, b2_0 ⟨wD, hED⟩, b2_1 ⟨wD, hED⟩, b2_2 ⟨wD, hED⟩, b2_3 ⟨wD, hED⟩⟩)
               have HED := Lib.hid hED
               clear hbD hED
               dsimp only)
            | (have _q := HEB.out
               clear _q
               go_at_call 33
               refine (HCCC.out _ _ wB HEB.out HWB.out HVB.out).mono ?_
               rintro e wC ⟨rfl, hbC⟩
               have hEC : Below w2.heap.size w2 wC := HEB.out.trans (hbC.mono HEB.out.size)
               have KZ3 := Lib.hid (show wC.cell? ⟨w.heap.size + 1, 0, none⟩ = some (.int .i64 vk) ∧ wC.cell? ⟨w.heap.size + 1, 1, none⟩ = some (.bool vl) ∧ wC.cell? ⟨w.heap.size + 1, 2, none⟩ = some (.int .i64 vh) ∧ wC.cell? ⟨w.heap.size + 1, 3, none⟩ = some (.int .i64 vn) ∧ wC.cell? ⟨w.heap.size + 1 + 1, 0, none⟩ = some (.int .i64 xk) ∧ wC.cell? ⟨w.heap.size + 1 + 1, 1, none⟩ = some (.bool xl) ∧ wC.cell? ⟨w.heap.size + 1 + 1, 2, none⟩ = some (.int .i64 xh) ∧ wC.cell? ⟨w.heap.size + 1 + 1, 3, none⟩ = some (.int .i64 xn) from ⟨b1_0 ⟨wC, hEC⟩, b1_1 ⟨wC, hEC⟩, b1_2 ⟨wC, hEC⟩, b1_3 ⟨wC, hEC⟩, b2_0 ⟨wC, hEC⟩, b2_1 ⟨wC, hEC⟩, b2_2 ⟨wC, hEC⟩, b2_3 ⟨wC, hEC⟩⟩)
               have HEC := Lib.hid hEC
               clear hbC hEC
               dsimp only)
            | (have _q := HEA.out
               clear _q
               go_at_call 34
               refine (takes_any ⟨vk, vl, vh, vn⟩ _).mono ?_
               rintro e wB ⟨aB, rfl, hvB, hbB⟩
               have hEB : Below w2.heap.size w2 wB := HEA.out.trans (hbB.mono HEA.out.size)
               have KZ2 := Lib.hid (show wB.cell? ⟨w.heap.size + 1, 0, none⟩ = some (.int .i64 vk) ∧ wB.cell? ⟨w.heap.size + 1, 1, none⟩ = some (.bool vl) ∧ wB.cell? ⟨w.heap.size + 1, 2, none⟩ = some (.int .i64 vh) ∧ wB.cell? ⟨w.heap.size + 1, 3, none⟩ = some (.int .i64 vn) ∧ wB.cell? ⟨w.heap.size + 1 + 1, 0, none⟩ = some (.int .i64 xk) ∧ wB.cell? ⟨w.heap.size + 1 + 1, 1, none⟩ = some (.bool xl) ∧ wB.cell? ⟨w.heap.size + 1 + 1, 2, none⟩ = some (.int .i64 xh) ∧ wB.cell? ⟨w.heap.size + 1 + 1, 3, none⟩ = some (.int .i64 xn) from ⟨b1_0 ⟨wB, hEB⟩, b1_1 ⟨wB, hEB⟩, b1_2 ⟨wB, hEB⟩, b1_3 ⟨wB, hEB⟩, b2_0 ⟨wB, hEB⟩, b2_1 ⟨wB, hEB⟩, b2_2 ⟨wB, hEB⟩, b2_3 ⟨wB, hEB⟩⟩)
               have HEB := Lib.hid hEB
               have HVB := Lib.hid hvB
               have HWB := Lib.hid (RowAt.below HVA.out hbB (Nat.le_refl _))
               clear hvB
               clear hbB hEB
               dsimp only)
            | (go_at_call 34
               refine (takes_any ⟨xk, xl, xh, xn⟩ _).mono ?_
               rintro e wA ⟨aA, rfl, hvA, hbA⟩
               have hEA : Below w2.heap.size w2 wA := y2.2.drew.trans (hbA.mono y2.2.drew.size)
               have KZ1 := Lib.hid (show wA.cell? ⟨w.heap.size + 1, 0, none⟩ = some (.int .i64 vk) ∧ wA.cell? ⟨w.heap.size + 1, 1, none⟩ = some (.bool vl) ∧ wA.cell? ⟨w.heap.size + 1, 2, none⟩ = some (.int .i64 vh) ∧ wA.cell? ⟨w.heap.size + 1, 3, none⟩ = some (.int .i64 vn) ∧ wA.cell? ⟨w.heap.size + 1 + 1, 0, none⟩ = some (.int .i64 xk) ∧ wA.cell? ⟨w.heap.size + 1 + 1, 1, none⟩ = some (.bool xl) ∧ wA.cell? ⟨w.heap.size + 1 + 1, 2, none⟩ = some (.int .i64 xh) ∧ wA.cell? ⟨w.heap.size + 1 + 1, 3, none⟩ = some (.int .i64 xn) from ⟨b1_0 ⟨wA, hEA⟩, b1_1 ⟨wA, hEA⟩, b1_2 ⟨wA, hEA⟩, b1_3 ⟨wA, hEA⟩, b2_0 ⟨wA, hEA⟩, b2_1 ⟨wA, hEA⟩, b2_2 ⟨wA, hEA⟩, b2_3 ⟨wA, hEA⟩⟩)
               have HEA := Lib.hid hEA
               have HVA := Lib.hid hvA
               clear hvA
               clear hbA hEA
               dsimp only))
        all_goals
          go_wp2_with fail
          go_meet
          exact ⟨rfl, ⟨_, HEH.out⟩, rfl⟩
      case rest =>
        obtain ⟨rfl, y3, rfl⟩ := hcut
        obtain ⟨rs, hrs⟩ : ∃ r, valB (closedB (total gs)) qB ⟨vk, vl, vh, vn⟩ ⟨vk, vl, vh, vn⟩ = r := ⟨_, rfl⟩
        have RS := Lib.hid hrs
        have cS : ∀ z : Ext w2, Calls Tryz.prog 36 #[.pointer (some ⟨t, 0, none⟩), .agg #[.int .i64 vk, .bool vl, .int .i64 vh, .int .i64 vn], .agg #[.int .i64 vk, .bool vl, .int .i64 vh, .int .i64 vn]] z.val fun e w' => e = .returned (.bool rs) ∧ Below z.val.heap.size z.val w' := fun z => by
          have h := val_tab HQ.out t ⟨vk, vl, vh, vn⟩ ⟨vk, vl, vh, vn⟩ z.val (HT.out.ext z)
          rw [RS.out] at h
          exact h
        have HCS := Lib.hid cS
        clear hrs cS HCCC HCCG HVV
        go_upto_region 15 with fail
        go_cut [127] from 113 (fun sx wx => ∃ d : Bool, sx = .bool d ∧ (d = false → vk = 3 ∧ rs = true ∧ ¬ (vl = false ∧ vh = 0 ∧ vn = 0)) ∧ ∃ z : Ext w2, wx = z.val)
        case first =>
          by_cases h3 : vk = 3
          · subst h3
            go_wp2_with fail
            refine (Ext.call y3 (HCS.out y3)).mono ?_
            rintro e _ ⟨rfl, p1, rfl⟩
            cases rs
            · go_wp2_with fail
              go_meet
              exact ⟨true, rfl, (by intro h; cases h), p1, rfl⟩
            · by_cases e1 : vl = false
              · have e1a : (vl == false) = true := by simp [e1]
                by_cases e2 : vh = 0
                · have e2a : (vh == 0) = true := by simp [e2]
                  by_cases e3 : vn = 0
                  · have e3a : (vn == 0) = true := by simp [e3]
                    clear e1 e2 e3
                    go_wp2_with fail
                    go_meet
                    refine ⟨true, ?_, (by intro h; cases h), p1, rfl⟩
                    first | rfl | simp_all
                  · have e3a : (vn == 0) = false := by simpa using e3
                    have E3' := Lib.hid e3
                    clear e1 e2 e3
                    go_wp2_with fail
                    go_meet
                    refine ⟨false, ?_, fun _ => ⟨by first | rfl | trivial, by first | rfl | trivial, fun h => E3'.out h.2.2⟩, p1, rfl⟩
                    first | rfl | simp_all
                · have e2a : (vh == 0) = false := by simpa using e2
                  have E2' := Lib.hid e2
                  clear e1 e2
                  go_wp2_with fail
                  go_meet
                  refine ⟨false, ?_, fun _ => ⟨by first | rfl | trivial, by first | rfl | trivial, fun h => E2'.out h.2.1⟩, p1, rfl⟩
                  first | rfl | simp_all
              · have e1a : (vl == false) = false := by simpa using e1
                have E1' := Lib.hid e1
                clear e1
                go_wp2_with fail
                go_meet
                refine ⟨false, ?_, fun _ => ⟨by first | rfl | trivial, by first | rfl | trivial, fun h => E1'.out h.1⟩, p1, rfl⟩
                first | rfl | simp_all
          · have h3a : (vk == 3) = false := by simpa using h3
            have h3b : (vk != 3) = true := by simpa using h3
            clear h3
            go_wp2_with fail
            go_meet
            exact ⟨true, rfl, (by intro h; cases h), y3, rfl⟩
        case rest =>
          obtain ⟨d, rfl, hd, y4, rfl⟩ := hcut
          have HD := Lib.hid hd
          clear hd
          cases d
          case true =>
            go_wp2
            go_ret
            exact ⟨rfl, HB2.out.trans (y4.2.mono HB2.out.size)⟩
          obtain ⟨rfl, rfl, hnv⟩ := HD.out rfl
          have HNL := Lib.hid (null_law (v := ⟨3, vl, vh, vn⟩) rfl RS.out (fun e => hnv (by simpa using e)))
          clear hnv
          go_upto_region 17 with fail
          have v0_0 := b1_0 y4; have v0_1 := b1_1 y4; have v0_2 := b1_2 y4; have v0_3 := b1_3 y4
          go_cut [17, 18] from 128 (fun s17 s18 wx => ∃ p q : Nat, s17 = .pointer (some ⟨p, 0, none⟩) ∧ s18 = .pointer (some ⟨q, 0, none⟩) ∧ p ≠ q ∧ wx.heap[p]? = some (.cells #[.int .i64 3, .bool vl, .int .i64 vh, .int .i64 vn] 28 (0, 0)) ∧ wx.heap[q]? = some (.cells #[.int .i64 3, .bool vl, .int .i64 vh, .int .i64 vn] 28 (0, 0)) ∧ w2.heap.size ≤ p ∧ w2.heap.size ≤ q ∧ ∃ z : Ext w2, wx = z.val)
          case first =>
            have KK := Lib.hid (show ∀ w' : World, Below w2.heap.size w2 w' → (w'.cell? ⟨w.heap.size + 1, 0, none⟩ = some (.int .i64 3) ∧ w'.cell? ⟨w.heap.size + 1, 1, none⟩ = some (.bool vl) ∧ w'.cell? ⟨w.heap.size + 1, 2, none⟩ = some (.int .i64 vh) ∧ w'.cell? ⟨w.heap.size + 1, 3, none⟩ = some (.int .i64 vn)) from fun w' h => ⟨b1_0 ⟨w', h⟩, b1_1 ⟨w', h⟩, b1_2 ⟨w', h⟩, b1_3 ⟨w', h⟩⟩)
            have Y4 := Lib.hid y4.2
            clear v0_0 v0_1 v0_2 v0_3
            go_region_held3 (fun w' => w'.cell? ⟨w.heap.size + 1, 0, none⟩ = some (.int .i64 3) ∧ w'.cell? ⟨w.heap.size + 1, 1, none⟩ = some (.bool vl) ∧ w'.cell? ⟨w.heap.size + 1, 2, none⟩ = some (.int .i64 vh) ∧ w'.cell? ⟨w.heap.size + 1, 3, none⟩ = some (.int .i64 vn)) (first | (refine KK.out _ ?_; repeat (first | exact Y4.out | refine Below.drew ?_ | refine Below.alloc ?_ (by have := Y4.out.size; simp; omega) _ | refine Below.setCell ?_ (by have := Y4.out.size; simp; omega) _)))
              (fail)
            all_goals
              go_wp2_with fail
              go_meet
              refine ⟨_, _, rfl, rfl, by omega, ?_, ?_, ?_, ?_, ⟨_, ((Y4.out.alloc Y4.out.size _).alloc (by have := Y4.out.size; simp; omega) _).drew⟩, rfl⟩
              · first | exact heap_alloc_keep (heap_alloc_at _ _ rfl) _ | exact heap_alloc_at _ _ (by simp)
              · first | exact heap_alloc_keep (heap_alloc_at _ _ rfl) _ | exact heap_alloc_at _ _ (by simp)
              · have := Y4.out.size; omega
              · have := Y4.out.size; omega
          case rest =>
            obtain ⟨p, q, rfl, rfl, hpq, hp, hq, hp2, hq2, y5, rfl⟩ := hcut
            have p1 := heap_cell hp 1; have q1 := heap_cell hq 1
            have fp := fun i => heap_frozen hp i
            have fq := fun i => heap_frozen hq i
            simp at p1 q1
            have hqp : q ≠ p := fun e => hpq e.symm
            have HP := Lib.hid hp; have HQQ := Lib.hid hq; have HPQ := Lib.hid hpq; have HP2 := Lib.hid hp2; have HQ2 := Lib.hid hq2
            clear hp hq hp2 hq2
            go_upto_region 19 with fail
            obtain ⟨W6, hW6⟩ : ∃ W6 : World, (y5.val.setCell ⟨p, 1, none⟩ (.bool true)).setCell ⟨q, 1, none⟩ (.bool false) = W6 := ⟨_, rfl⟩
            rw [hW6]
            have hY6 : Below w2.heap.size w2 W6 := by rw [← hW6]; exact (y5.2.setCell HP2.out _).setCell HQ2.out _
            have zp : W6.heap[p]? = some (.cells #[.int .i64 3, .bool true, .int .i64 vh, .int .i64 vn] 28 (0, 0)) := by rw [← hW6]; exact heap_set_off (by have h := heap_set_at HP.out 1 (.bool true); simpa using h) HPQ.out _
            have zq : W6.heap[q]? = some (.cells #[.int .i64 3, .bool false, .int .i64 vh, .int .i64 vn] 28 (0, 0)) := by rw [← hW6]; have h := heap_set_at (heap_set_off HQQ.out (a := ⟨p, 1, none⟩) (fun e => HPQ.out e.symm) (.bool true)) 1 (.bool false); simpa using h
            have HX6 := Lib.hid (fun z : Ext W6 => (hY6.trans (z.2.mono hY6.size) : Below w2.heap.size w2 z.val))
            have d1 : ∀ z : Ext W6, Calls Tryz.prog 36 #[.pointer (some ⟨t, 0, none⟩), .agg #[.int .i64 3, .bool false, .int .i64 vh, .int .i64 vn], .agg #[.int .i64 3, .bool true, .int .i64 vh, .int .i64 vn]] z.val fun e w' => e = .returned (.bool true) ∧ Below z.val.heap.size z.val w' := fun z => by
              have h := val_tab HQ.out t ⟨3, false, vh, vn⟩ ⟨3, true, vh, vn⟩ z.val (HT.out.below (HX6.out z))
              rw [HNL.out.1] at h
              exact h
            have d2 : ∀ z : Ext W6, Calls Tryz.prog 36 #[.pointer (some ⟨t, 0, none⟩), .agg #[.int .i64 3, .bool true, .int .i64 vh, .int .i64 vn], .agg #[.int .i64 3, .bool false, .int .i64 vh, .int .i64 vn]] z.val fun e w' => e = .returned (.bool false) ∧ Below z.val.heap.size z.val w' := fun z => by
              have h := val_tab HQ.out t ⟨3, true, vh, vn⟩ ⟨3, false, vh, vn⟩ z.val (HT.out.below (HX6.out z))
              rw [HNL.out.2] at h
              exact h
            have mp0 : ∀ z : Ext W6, z.val.cell? ⟨p, 0, none⟩ = some (.int .i64 3) := Ext.cells (heap_cell zp 0)
            have mp1 : ∀ z : Ext W6, z.val.cell? ⟨p, 1, none⟩ = some (.bool true) := Ext.cells (heap_cell zp 1)
            have mp2 : ∀ z : Ext W6, z.val.cell? ⟨p, 2, none⟩ = some (.int .i64 vh) := Ext.cells (heap_cell zp 2)
            have mp3 : ∀ z : Ext W6, z.val.cell? ⟨p, 3, none⟩ = some (.int .i64 vn) := Ext.cells (heap_cell zp 3)
            have mq0 : ∀ z : Ext W6, z.val.cell? ⟨q, 0, none⟩ = some (.int .i64 3) := Ext.cells (heap_cell zq 0)
            have mq1 : ∀ z : Ext W6, z.val.cell? ⟨q, 1, none⟩ = some (.bool false) := Ext.cells (heap_cell zq 1)
            have mq2 : ∀ z : Ext W6, z.val.cell? ⟨q, 2, none⟩ = some (.int .i64 vh) := Ext.cells (heap_cell zq 2)
            have mq3 : ∀ z : Ext W6, z.val.cell? ⟨q, 3, none⟩ = some (.int .i64 vn) := Ext.cells (heap_cell zq 3)
            have D1 := Lib.hid d1; have D2 := Lib.hid d2
            clear d1 d2 zp zq hY6 hW6 p1 q1 fp fq hqp hpq
            obtain ⟨p0, hp0⟩ : ∃ p : Ext W6, p.val = W6 := ⟨⟨W6, Below.refl _ _⟩, rfl⟩
            rw [← hp0]
            clear hp0
            go_wp2_with fail
            refine (Ext.call p0 (D1.out p0)).mono ?_
            rintro e _ ⟨rfl, p1, rfl⟩
            go_wp2_with fail
            refine (Ext.call p1 (D2.out p1)).mono ?_
            rintro e _ ⟨rfl, p2, rfl⟩
            go_wp2
            go_ret
            exact ⟨rfl, HB2.out.trans ((HX6.out p2).mono HB2.out.size)⟩
end Go.Proofs.YtoamhiaagaaaaaaGreatDoor
