import Derived.Test.YtpddbaijnjbfdaaGreatDoorQDcStandBd
namespace Go.Proofs.YtpddbaijnjbfdaaGreatDoor
open Lib (hid)
section
open Go.RowKit Go.Maps Go.WideMaps
theorem tabL_cnt {gs : List (List Sb)} (hok : TabOk gs) {m : Nat} {y : Sb} (hy : (tabL gs)[m]? = some y) : cnt y ≤ 1000000 := by
  obtain ⟨j, k, g, x, h1, _, _, _, h5, h6⟩ := tabL_loc hy
  have h7 := ((hok.good g (List.mem_of_getElem? h1)).sm x (List.mem_of_getElem? h5)).cnt
  have h8 : cnt y = cnt x := by rw [h6]; simp [cnt, mapP]
  omega
theorem matchesD_some {ts : List Sb} {ids ds : List Int} {s lo up : Sb} {n k jn jk : Nat} {dk : Int} (h : superD s = some (k : Int)) (h1 : ids[n]? = some (jn : Int)) (h2 : ids[k]? = some (jk : Int)) (h3 : ts[jn]? = some lo) (h4 : ts[jk]? = some up) (h5 : ds[k]? = some dk) :
    (¬ CompP ts lo up → matchesD ts ids ds s n = (123, ds)) ∧ (CompP ts lo up → 63 < dk + 1 → matchesD ts ids ds s n = (111, ds)) ∧ (CompP ts lo up → ¬ 63 < dk + 1 → matchesD ts ids ds s n = (0, ds ++ [dk + 1])) := by
  have e1 : ids.getD n 0 = (jn : Int) := by simp [List.getD_eq_getElem?_getD, h1]
  have e2 : ids.getD (k : Int).toNat 0 = (jk : Int) := by simp [List.getD_eq_getElem?_getD, h2]
  have e3 : ds.getD (k : Int).toNat 0 = dk := by simp [List.getD_eq_getElem?_getD, h5]
  refine ⟨fun hc => matchesD_sub h (by rw [e1]; simpa using h3) (by rw [e2]; simpa using h4) hc, fun hc h6 => ?_, fun hc h6 => ?_⟩
  · rw [matchesD_ok h (by rw [e1]; simpa using h3) (by rw [e2]; simpa using h4) hc, e3, if_pos h6]
  · rw [matchesD_ok h (by rw [e1]; simpa using h3) (by rw [e2]; simpa using h4) hc, e3, if_neg h6]
theorem SubAt.rows {w : World} {f : Bool} {k : Int} {v1 v2 v3 v4 : Value} {y : Sb} (h : SubAt w [.bool f, v1, .int .i64 k, v2, v3, v4] y) : ValsAt w v2 y.ps ∧ ValsAt w v3 y.rs ∧ FlsAt w v4 y.fs := by
  obtain ⟨vs, vp, vr, vf, e, _, k2, k3, k4⟩ := h.ex
  simp only [List.cons.injEq, and_true] at e
  obtain ⟨_, _, _, rfl, rfl, rfl⟩ := e
  exact ⟨k2, k3, k4⟩
variable {w0 wE w : World} {S0 S R T : Nat → Prop} {t d : Nat} {dc : DcS} {vi vt vd : Value}
def DcM (w0 : World) (S0 : Nat → Prop) (wE : World) (S R T : Nat → Prop) (w : World) (t d : Nat) (dc : DcS) (vi vt : Value) (M : Int × List Int) (e : Ending) (w' : World) : Prop :=
  e = .returned (.int .i64 M.1) ∧ ∃ T' vd', DcAt w0 S0 wE S R T' w' t d { dc with depths := M.2 } vi vt vd' ∧ Upd (fun b => T b ∨ b = d) w w' ∧ Fresh T w T'
theorem DcM.same (h : DcAt w0 S0 wE S R T w t d dc vi vt vd) {w' : World} (hb : Below w.heap.size w w') {M : Int × List Int} {e : Int} (hM : M = (e, dc.depths)) : DcM w0 S0 wE S R T w t d dc vi vt M (.returned (.int .i64 e)) w' := by
  subst hM
  exact ⟨rfl, T, vd, h.below hb, Upd.of_below hb, Fresh.refl _ _⟩
theorem DcAt.cells (h : DcAt w0 S0 wE S R T w t d dc vi vt vd) : w.cell? ⟨d, 0, none⟩ = some (.pointer (some ⟨t, 0, none⟩)) ∧ w.cell? ⟨d, 1, none⟩ = some vi ∧ w.cell? ⟨d, 2, none⟩ = some vt ∧ w.cell? ⟨d, 3, none⟩ = some vd :=
  ⟨heap_cell h.box 0, heap_cell h.box 1, heap_cell h.box 2, heap_cell h.box 3⟩
theorem inTab_nat {gs : List (List Sb)} {i : Int} (h : inTab gs i = true) : ∃ n : Nat, i = n ∧ ∃ y, (tabL gs)[n]? = some y := by
  simp [inTab] at h
  refine ⟨i.toNat, by omega, (tabL gs)[i.toNat]'(by rw [tabL_len]; omega), by simp⟩
set_option maxRecDepth 100000 in
set_option maxHeartbeats 16000000 in
theorem dcMatches_any (h : DcAt w0 S0 wE S R T w t d dc vi vt vd) (cs : List Value) (s : Sb) (hs : SubAt w cs s) (n : Nat) (hn : n < dc.ids.length) (hlen : dc.depths.length = n) (hl : s.sups.length ≤ 1000000) (hn6 : dc.ids.length ≤ 100000)
    (hab : ∀ a, superD s = some a → 0 ≤ a ∧ a < n) (hin : ∀ i ∈ dc.ids, inTab dc.gs i = true) (hdep : ∀ x ∈ dc.depths, 0 ≤ x ∧ x ≤ 63) :
    Calls Tryz.prog 57 #[.pointer (some ⟨d, 0, none⟩), .agg cs.toArray, .int .i64 n] w (DcM w0 S0 wE S R T w t d dc vi vt (matchesD (tabL dc.gs) dc.ids dc.depths s n)) := by
  obtain ⟨i0, hi, hz0, hz1, hz2⟩ := info_parts Tryz.infoInt
  have Hi := hid hi; have Hz0 := hid hz0; have Hz1 := hid hz1; have Hz2 := hid hz2
  obtain ⟨vs, vp, vr, vf, rfl, k1, k2, k3, k4⟩ := hs.ex
  obtain ⟨a1, c1, rfl⟩ := RowAt.form k1
  obtain ⟨a2, c2, rfl⟩ := RowAt.form k2
  obtain ⟨a3, c3, rfl⟩ := RowAt.form k3
  obtain ⟨a4, c4, rfl⟩ := RowAt.form k4
  clear k1 k2 k3 k4 hi hz0 hz1 hz2
  obtain ⟨W1, hW1⟩ : ∃ W1 : World, W1 = w.alloc (.cells #[.bool s.fin, .slice a1 s.sups.length c1, .int .i64 s.k, .slice a2 s.ps.length c2, .slice a3 s.rs.length c3, .slice a4 s.fs.length c4] 46) := ⟨_, rfl⟩
  have hb1 : Below w.heap.size w W1 := by rw [hW1]; exact (Below.refl _ _).alloc (Nat.le_refl _) _
  have C1 := hid (super_any _ s W1 (hs.below hb1 (Nat.le_refl _)) hl)
  have HB1 := hid hb1; have H := hid h; have HN := hid hn; have HLEN := hid hlen; have HIN := hid hin; have HDEP := hid hdep; have HN6 := hid hn6; have HW1 := hid hW1
  clear hb1 hl h hs hW1 hn hlen hin hdep hn6
  obtain ⟨M, hM⟩ : ∃ M, matchesD (tabL dc.gs) dc.ids dc.depths s n = M := ⟨_, rfl⟩
  rw [hM]
  cases hsd : superD s with
  | none =>
    rw [matchesD_none hsd] at hM
    have e1 : superI s = 0 := by unfold superI; rw [hsd]
    have e2 : superB s = false := by unfold superB; rw [hsd]; rfl
    rw [e1, e2] at C1
    have HM := hid hM.symm
    clear hsd e1 e2 hM hab
    go_enter Tryz.func57, Tryz.ntmps57
    go_wp2_with fail
    rw [← HW1.out]
    refine C1.out.mono ?_
    rintro e w2 ⟨rfl, hb2⟩
    have hbe : Below w.heap.size w w2 := HB1.out.trans (hb2.mono HB1.out.size)
    have hdc := H.out.below hbe
    obtain ⟨ad, cd, hvd, -⟩ := ownsRow_form hdc.dep
    rw [hvd] at hdc
    have dep := hdc.dep
    obtain ⟨x0, x1, x2, x3⟩ := hdc.cells
    have hdl := heap_lt hdc.box
    have f3 := heap_frozen hdc.box 3
    have HDC := hid hdc; have HBE := hid hbe
    obtain ⟨ln, hln⟩ : ∃ ln, dc.depths.length = ln := ⟨_, rfl⟩
    have HLN := hid hln
    rw [hln] at dep x3
    have DEP := hid (dep.alloc (.cells #[.int .i64 0] 3))
    have HRW := hid (row_cells (cs := [.int .i64 0]) (heap_alloc_at w2 (.cells #[.int .i64 0] 3) rfl))
    have hln6 : ln ≤ 100000 := by have := HLEN.out; have := HN.out; have := HN6.out; omega
    have HLN6 := hid hln6
    have HSZ := hid (show wE.heap.size ≤ (w2.alloc (.cells #[.int .i64 0] 3)).heap.size by have := hdc.up.size; simp; omega)
    have hu := heap_alloc_keep hdc.box (.cells #[.int .i64 0] 3)
    have HU := hid hu
    clear hb2 hbe hdc dep hln hln6 hu
    go_wp2_with (at_builtin; refine wpList_append_own_at _ rfl _ _ 23 rfl wE.heap.size 3 i0 _ 1 8 Tryz.underlying23 Hi.out Hz0.out Hz1.out Hz2.out rfl (by decide) _ _ _ rfl DEP.out ⟨w2.heap.size, 0, none⟩ 1 1 [.int .i64 0] rfl rfl HRW.out (by intro u hu; simp at hu; subst hu; rfl) (by have := HLN6.out; unfold maxLen; omega) (by have := HLN6.out; omega) HSZ.out ?_)
    intro v9 w9 o9 gr9 mv0 mv9
    obtain ⟨a9, c9, rfl, -⟩ := ownsRow_form o9
    have hpush := HDC.out.push (x := 0) (v' := .slice a9 (ln + 1) c9) (w' := w9) ((Below.refl _ _).alloc (Nat.le_refl _) (.cells #[.int .i64 0] 3)) (by rw [List.length_append, List.map_append, HLN.out]; exact o9) (by rw [HLN.out]; exact gr9) (by rw [HLN.out]; simpa using mv9)
    have fb : w9.heap[d]? = some (.cells #[.pointer (some ⟨t, 0, none⟩), vi, vt, .slice ad ln cd] 104 (0, 0)) := by
      rw [gr9.block d (heap_lt HU.out) (fun e => (HDC.out.td d (HDC.out.tv d (by rw [HLN.out]; exact e.symm))).2.2.2.2 rfl)]
      have := HU.out
      rw [HLN.out] at this
      exact this
    have f9c := heap_cell fb 3
    have f9f := heap_frozen fb 3
    simp only [List.getElem?_toArray, List.getElem?_cons_succ, List.getElem?_cons_zero] at f9c
    have HP := hid hpush
    clear o9 gr9 mv0 mv9 fb hpush x3
    go_wp2
    go_ret
    obtain ⟨T', vd', h1, h2, h3⟩ := HP.out
    rw [HM.out]
    exact ⟨rfl, T', vd', h1, (Upd.of_below HBE.out).trans' h2, fun b hb => (h3 b hb).imp id (fun q => Nat.le_trans HBE.out.size q)⟩
  | some a =>
    obtain ⟨ha0, han⟩ := hab a hsd
    obtain ⟨k, rfl⟩ : ∃ k : Nat, a = k := ⟨a.toNat, by omega⟩
    have hkn : k < n := by omega
    obtain ⟨idn, hidn⟩ : ∃ x, dc.ids[n]? = some x := ⟨dc.ids[n]'(HN.out), by simp⟩
    obtain ⟨idk, hidk⟩ : ∃ x, dc.ids[k]? = some x := ⟨dc.ids[k]'(by have := HN.out; omega), by simp⟩
    obtain ⟨dk, hdk⟩ : ∃ x, dc.depths[k]? = some x := ⟨dc.depths[k]'(by have := HLEN.out; omega), by simp⟩
    obtain ⟨jn, rfl, lo, hlo⟩ := inTab_nat (HIN.out idn (List.mem_of_getElem? hidn))
    obtain ⟨jk, rfl, up, hup⟩ := inTab_nat (HIN.out idk (List.mem_of_getElem? hidk))
    obtain ⟨dk0, dk63⟩ := HDEP.out dk (List.mem_of_getElem? hdk)
    have hM3 := matchesD_some hsd hidn hidk hlo hup hdk
    rw [hM] at hM3
    have e1 : superI s = k := by unfold superI; rw [hsd]
    have e2 : superB s = true := by unfold superB; rw [hsd]; rfl
    rw [e1, e2] at C1
    obtain ⟨qB, hq⟩ := heapT_ex dc.gs
    have HM := hid hM3; have HLO := hid hlo; have HUP := hid hup; have HIDN := hid hidn; have HIDK := hid hidk; have HDK := hid hdk; have HQ := hid hq; have HKN := hid hkn
    obtain ⟨il, hil⟩ : ∃ il, dc.ids.length = il := ⟨_, rfl⟩
    have HIL := hid hil
    have hnl : (n : Int) < il := by have := HN.out; omega
    have hkl : (k : Int) < il := by have := HN.out; omega
    have hil6 : (il : Int) ≤ 100000 := by have := HN6.out; omega
    clear hsd e1 e2 hM hM3 hab hlo hup hidn hidk hdk hq ha0 han hkn hil
    go_enter Tryz.func57, Tryz.ntmps57
    go_wp2_with fail
    rw [← HW1.out]
    refine C1.out.mono ?_
    rintro e w2 ⟨rfl, hb2⟩
    have hbe : Below w.heap.size w w2 := HB1.out.trans (hb2.mono HB1.out.size)
    have hdc := H.out.below hbe
    obtain ⟨ai, ci, rfl⟩ := RowAt.form (hdc.ids w2 (Upd.refl _ _))
    obtain ⟨ib, io, hai, hib, p1⟩ := IntsAt.at (hdc.ids w2 (Upd.refl _ _)) HIDN.out
    obtain ⟨x0, x1, x2, x3⟩ := hdc.cells
    subst hai
    rw [HIL.out] at x1
    have C2 := hid (get_k hdc.k HLO.out)
    have HDC := hid hdc; have HBE := hid hbe
    clear hb2 hbe hdc hib
    go_wp2_with fail
    refine C2.out.mono ?_
    rintro e w3 ⟨ds1, rfl, hsub1, hb3⟩
    obtain ⟨b1, l1, b2, l2, b3, l3, b4, l4, rfl⟩ := (hsub1 w3 (Upd.refl _ _)).out
    obtain ⟨W4, hW4⟩ : ∃ W4 : World, W4 = w3.alloc (.cells #[.bool lo.fin, .slice b1 lo.sups.length l1, .int .i64 lo.k, .slice b2 lo.ps.length l2, .slice b3 lo.rs.length l3, .slice b4 lo.fs.length l4] 46) := ⟨_, rfl⟩
    have hb4 : Below w2.heap.size w2 W4 := by rw [hW4]; exact hb3.alloc hb3.size _
    have z4 : W4.heap[w3.heap.size]? = some (.cells #[.bool lo.fin, .slice b1 lo.sups.length l1, .int .i64 lo.k, .slice b2 lo.ps.length l2, .slice b3 lo.rs.length l3, .slice b4 lo.fs.length l4] 46 (0, 0)) := by rw [hW4]; exact heap_alloc_at _ _ rfl
    have hs1 := fun w'' (hu : Upd (fun b => b < w2.heap.size) W4 w'') => hsub1 w'' ((by rw [hW4]; exact (Upd.refl _ _).alloc _ : Upd (fun b => b < w2.heap.size) w3 W4).trans' hu)
    have hdc := HDC.out.below hb4
    obtain ⟨ib', io', hai, hib, q1⟩ := IntsAt.at (hdc.ids W4 (Upd.refl _ _)) HIDK.out
    simp only [Option.some.injEq, Addr.mk.injEq] at hai
    obtain ⟨rfl, rfl, _⟩ := hai
    obtain ⟨y0, y1, y2, y3⟩ := hdc.cells
    rw [HIL.out] at y1
    have C3 := hid (get_k hdc.k HUP.out)
    have HDC4 := hid hdc; have HB4 := hid hb4; have HS1 := hid hs1; have Z4 := hid z4
    clear hb3 hb4 hs1 hdc hib z4 hsub1 x0 x1 x2 x3 p1
    subst hW4
    go_wp2_with fail
    refine C3.out.mono ?_
    rintro e w5 ⟨ds2, rfl, hsub2, hb5⟩
    obtain ⟨d1, m1, d2, m2, d3, m3, d4, m4, rfl⟩ := (hsub2 w5 (Upd.refl _ _)).out
    obtain ⟨W4, hW4⟩ : ∃ W4 : World, W4 = w3.alloc (.cells #[.bool lo.fin, .slice b1 lo.sups.length l1, .int .i64 lo.k, .slice b2 lo.ps.length l2, .slice b3 lo.rs.length l3, .slice b4 lo.fs.length l4] 46) := ⟨_, rfl⟩
    rw [← hW4] at hb5 HDC4 HB4 HS1 Z4
    obtain ⟨W6, hW6⟩ : ∃ W6 : World, W6 = w5.alloc (.cells #[.bool up.fin, .slice d1 up.sups.length m1, .int .i64 up.k, .slice d2 up.ps.length m2, .slice d3 up.rs.length m3, .slice d4 up.fs.length m4] 46) := ⟨_, rfl⟩
    have hb6 : Below W4.heap.size W4 W6 := by rw [hW6]; exact hb5.alloc hb5.size _
    have z6 : W6.heap[w5.heap.size]? = some (.cells #[.bool up.fin, .slice d1 up.sups.length m1, .int .i64 up.k, .slice d2 up.ps.length m2, .slice d3 up.rs.length m3, .slice d4 up.fs.length m4] 46 (0, 0)) := by rw [hW6]; exact heap_alloc_at _ _ rfl
    have z5 := (hb6.block _ (heap_lt Z4.out)).trans Z4.out
    have hs2 := (hsub2 W6 (by rw [hW6]; exact (Upd.refl _ _).alloc _)).below (Below.refl W6.heap.size W6).drew (Nat.le_refl _)
    have hs1 := HS1.out W6.drew (Upd.of_below hb6).drew
    have hdc := HDC4.out.below hb6
    have C4 := hid (comp_tab HQ.out t lo up _ _ _ _ _ _ W6.drew hs1.rows.1 hs1.rows.2.1 hs1.rows.2.2 hs2.rows.1 hs2.rows.2.1 hs2.rows.2.2 (tabL_cnt hdc.tab.ok HLO.out) (tabL_cnt hdc.tab.ok HUP.out) (hdc.k.below (Below.refl W6.heap.size W6).drew))
    have hbw : Below w.heap.size w W6 := HBE.out.trans ((HB4.out.trans (hb6.mono HB4.out.size)).mono HBE.out.size)
    have v0 := hdc.cells.1
    have r1 := heap_cell z5 2; have r2 := heap_cell z5 3; have r3 := heap_cell z5 4; have r4 := heap_cell z5 5
    have t1 := heap_cell z6 2; have t2 := heap_cell z6 3; have t3 := heap_cell z6 4; have t4 := heap_cell z6 5
    simp only [List.getElem?_toArray, List.getElem?_cons_succ, List.getElem?_cons_zero] at r1 r2 r3 r4 t1 t2 t3 t4
    obtain ⟨cr, hcr⟩ : ∃ cr, compB (closedB (total dc.gs)) qB lo up = cr := ⟨_, rfl⟩
    rw [hcr] at C4
    have hcp : cr = true ↔ CompP (tabL dc.gs) lo up := by rw [← hcr]; exact compB_iff HQ.out
    have HBW := hid hbw; have HCP := hid hcp; have HDC6 := hid hdc
    clear hb5 hb6 hs1 hs2 hdc hsub2 y0 y1 y2 y3 q1 z5 z6 hbw hcr hcp
    have HW6 := hid hW6
    clear hW6
    go_wp2_with fail
    rw [← HW6.out]
    go_still_tail 8, (by kernel_rfl)
    change wpList _ _ _ _ _ W6.drew
    go_wp2_with fail
    refine C4.out.mono ?_
    rintro e w7 ⟨rfl, hb7⟩
    have hb8 : Below W6.heap.size W6 w7 := (Below.refl W6.heap.size W6).drew.trans hb7
    have hdc := HDC6.out.below hb8
    have hbw : Below w.heap.size w w7 := HBW.out.trans (hb8.mono HBW.out.size)
    obtain ⟨ad, cd, hvd, -⟩ := ownsRow_form hdc.dep
    obtain ⟨ln, hln⟩ : ∃ ln, dc.depths.length = ln := ⟨_, rfl⟩
    have hkl2 : k < ln := by have := HLEN.out; have := HKN.out; omega
    obtain ⟨db, dcap, dcur, hdv, _, _, _, hdcell⟩ := ownsRow_some hdc.dep (by omega)
    have hdkc : w7.cell? ⟨db, k, none⟩ = some (.int .i64 dk) := by rw [hdcell k (by omega)]; simp [HDK.out]
    subst hdv
    rw [hln] at hdc
    obtain ⟨x0, x1, x2, x3⟩ := hdc.cells
    have f3 := heap_frozen hdc.box 3
    have HDC := hid hdc; have HBE7 := hid hbw; have HLN := hid hln
    have hkl3 : (k : Int) < ln := by omega
    have hln6 : ln ≤ 100000 := by have := HLEN.out; have := HN.out; have := HN6.out; omega
    have HLN6 := hid hln6
    clear hb7 hb8 hbw hdcell hvd r1 r2 r3 r4 t1 t2 t3 t4 v0 C4 hkl2
    cases cr with
    | false =>
      have hM2 := HM.out.1 (fun q => by have := HCP.out.2 q; cases this)
      have HM2 := hid hM2
      clear hM2 hdc
      go_wp2
      go_ret
      exact DcM.same H.out HBE7.out HM2.out
    | true =>
      have hcp := HCP.out.1 rfl
      by_cases h63 : 63 < dk + 1
      · have HM2 := hid (HM.out.2.1 hcp (by omega))
        clear hcp hdc
        go_wp2
        go_ret
        exact DcM.same H.out HBE7.out HM2.out
      · have HM2 := hid (HM.out.2.2 hcp (by omega))
        have dep := hdc.dep
        rw [hln] at dep
        have DEP := hid (dep.alloc (.cells #[.int .i64 (dk + 1)] 3))
        have HRW := hid (row_cells (cs := [.int .i64 (dk + 1)]) (heap_alloc_at w7 (.cells #[.int .i64 (dk + 1)] 3) rfl))
        have HSZ := hid (show wE.heap.size ≤ (w7.alloc (.cells #[.int .i64 (dk + 1)] 3)).heap.size by have := hdc.up.size; simp; omega)
        have hu := heap_alloc_keep hdc.box (.cells #[.int .i64 (dk + 1)] 3)
        have HU := hid hu
        clear hcp hdc hln dep hln6 hu
        go_wp2_with (at_builtin; refine wpList_append_own_at _ rfl _ _ 23 rfl wE.heap.size 3 i0 _ 1 8 Tryz.underlying23 Hi.out Hz0.out Hz1.out Hz2.out rfl (by decide) _ _ _ rfl DEP.out ⟨w7.heap.size, 0, none⟩ 1 1 [.int .i64 (dk + 1)] rfl rfl HRW.out (by intro u hu; simp at hu; subst hu; rfl) (by have := HLN6.out; unfold maxLen; omega) (by have := HLN6.out; omega) HSZ.out ?_)
        intro v9 w9 o9 gr9 mv0 mv9
        obtain ⟨a9, c9, rfl, -⟩ := ownsRow_form o9
        have hpush := HDC.out.push (x := dk + 1) (v' := .slice a9 (ln + 1) c9) (w' := w9) ((Below.refl _ _).alloc (Nat.le_refl _) (.cells #[.int .i64 (dk + 1)] 3)) (by rw [List.length_append, List.map_append, HLN.out]; exact o9) gr9 (by simpa using mv9)
        have fb : w9.heap[d]? = some (.cells #[.pointer (some ⟨t, 0, none⟩), .slice (some ⟨ib, io, none⟩) dc.ids.length ci, vt, .slice (some ⟨db, 0, none⟩) ln dcap] 104 (0, 0)) := by
          rw [gr9.block d (heap_lt HU.out) (fun e => (HDC.out.td d (HDC.out.tv d e.symm)).2.2.2.2 rfl)]
          exact HU.out
        have f9c := heap_cell fb 3
        have f9f := heap_frozen fb 3
        simp only [List.getElem?_toArray, List.getElem?_cons_succ, List.getElem?_cons_zero] at f9c
        have HP := hid hpush
        clear o9 gr9 mv0 mv9 fb hpush x3
        go_wp2
        go_ret
        obtain ⟨T', vd', h1, h2, h3⟩ := HP.out
        rw [HM2.out]
        exact ⟨rfl, T', vd', h1, (Upd.of_below HBE7.out).trans' h2, fun b hb => (h3 b hb).imp id (fun q => Nat.le_trans HBE7.out.size q)⟩
end
section
open Go.RowKit Go.Maps Go.WideMaps
variable {w0 wE w : World} {S0 S R T : Nat → Prop} {t d : Nat} {dc : DcS} {vi vt vd : Value}
structure CloAt (w : World) (d b2 b3 b6 : Nat) (ag : Option Addr) (gl cg first : Nat) : Prop where
  p : w.heap[b2]? = some (.cells #[.pointer (some ⟨d, 0, none⟩)] 163 (0, 0))
  g : w.heap[b3]? = some (.cells #[.slice ag gl cg] 97 (0, 0))
  f : w.heap[b6]? = some (.cells #[.int .i64 first] 3 (0, 0))
theorem CloAt.keep {w' : World} {b2 b3 b6 : Nat} {ag : Option Addr} {gl cg first : Nat} (h : CloAt w d b2 b3 b6 ag gl cg first) {W : Nat → Prop} (hu : Upd W w w') (hW : ¬ W b2 ∧ ¬ W b3 ∧ ¬ W b6) : CloAt w' d b2 b3 b6 ag gl cg first :=
  ⟨hu.heap_some h.p hW.1, hu.heap_some h.g hW.2.1, hu.heap_some h.f hW.2.2⟩
theorem CloAt.below {w' : World} {b2 b3 b6 : Nat} {ag : Option Addr} {gl cg first : Nat} (h : CloAt w d b2 b3 b6 ag gl cg first) (hb : Below w.heap.size w w') : CloAt w' d b2 b3 b6 ag gl cg first :=
  h.keep (W := fun _ => False) (Upd.of_below hb) ⟨id, id, id⟩
set_option maxRecDepth 100000 in
set_option maxHeartbeats 8000000 in
theorem clo1_any (h : DcAt w0 S0 wE S R T w t d dc vi vt vd) {b2 b3 b6 : Nat} {ag : Option Addr} {cg first : Nat} {g : List Sb} (hc : CloAt w d b2 b3 b6 ag g.length cg first) (hg : GrpAt w (.slice ag g.length cg) g) {k : Nat} {x : Sb} (hx : g[k]? = some x) (hsm : x.sups.length ≤ 1000000) (hn : first + k ≤ dc.types.length) (hn6 : first + g.length ≤ 100000) :
    Calls Tryz.prog 54 #[.int .i64 k, .pointer (some ⟨b2, 0, none⟩), .pointer (some ⟨b3, 0, none⟩), .pointer (some ⟨b6, 0, none⟩)] w fun e w' => e = .returned (.int .i64 (standsD dc.types x (first + k))) ∧ Below w.heap.size w w' := by
  have hkl := (List.getElem?_eq_some_iff.1 hx).1
  obtain ⟨b, off, rfl, hb, a1, c1, a2, c2, a3, c3, a4, c4, sa, p0, p1, p2, p3, p4, p5⟩ := hg.at hx
  have y0 := heap_cell hc.p 0
  have y1 := heap_cell hc.g 0
  have y2 := heap_cell hc.f 0
  simp only [List.getElem?_toArray, List.getElem?_cons_zero] at y0 y1 y2
  have hd : Below w.heap.size w w.drew := (Below.refl _ _).drew
  have C := hid (dcStands_any (h.below hd) _ x (sa.below hd (Nat.le_refl _)) (first + k) hn hsm (by omega))
  have hkl' : (k : Int) < g.length := by omega
  have hk6 : (k : Int) < 1000000 := by omega
  have hf6 : (first : Int) ≤ 100000 := by omega
  obtain ⟨gl, hgl⟩ : ∃ gl, g.length = gl := ⟨_, rfl⟩
  rw [hgl] at hkl' y1
  clear h hc hg hx hsm hn hn6 hkl sa hd hb hgl
  go_enter Tryz.func54, Tryz.ntmps54
  go_wp2_with fail
  go_still_tail 8, (by kernel_rfl)
  change wpList _ _ _ _ _ w.drew
  go_wp2_with fail
  refine C.out.mono ?_
  rintro e w1 ⟨rfl, hb1⟩
  have HB := hid hb1
  clear hb1
  go_wp2
  go_ret
  exact ⟨rfl, (Below.refl w.heap.size w).drew.trans HB.out⟩
set_option maxRecDepth 100000 in
set_option maxHeartbeats 8000000 in
theorem clo2_any (h : DcAt w0 S0 wE S R T w t d dc vi vt vd) {b2 b3 b6 : Nat} {ag : Option Addr} {cg first : Nat} {g : List Sb} (hc : CloAt w d b2 b3 b6 ag g.length cg first) (hg : GrpAt w (.slice ag g.length cg) g) {k : Nat} {x : Sb} (hx : g[k]? = some x) (hsm : x.sups.length ≤ 1000000) (hn : first + k < dc.ids.length) (hlen : dc.depths.length = first + k) (hn6 : dc.ids.length ≤ 100000) (_ : first + g.length ≤ 100000)
    (hab : ∀ a, superD x = some a → 0 ≤ a ∧ a < ((first + k : Nat) : Int)) (hin : ∀ i ∈ dc.ids, inTab dc.gs i = true) (hdep : ∀ x ∈ dc.depths, 0 ≤ x ∧ x ≤ 63) :
    Calls Tryz.prog 56 #[.int .i64 k, .pointer (some ⟨b2, 0, none⟩), .pointer (some ⟨b3, 0, none⟩), .pointer (some ⟨b6, 0, none⟩)] w (DcM w0 S0 wE S R T w t d dc vi vt (matchesD (tabL dc.gs) dc.ids dc.depths x (first + k))) := by
  have hkl := (List.getElem?_eq_some_iff.1 hx).1
  obtain ⟨b, off, rfl, hb, a1, c1, a2, c2, a3, c3, a4, c4, sa, p0, p1, p2, p3, p4, p5⟩ := hg.at hx
  have y0 := heap_cell hc.p 0
  have y1 := heap_cell hc.g 0
  have y2 := heap_cell hc.f 0
  simp only [List.getElem?_toArray, List.getElem?_cons_zero] at y0 y1 y2
  have hd : Below w.heap.size w w.drew := (Below.refl _ _).drew
  have C := hid (dcMatches_any (h.below hd) _ x (sa.below hd (Nat.le_refl _)) (first + k) hn hlen hsm hn6 hab hin hdep)
  have hkl' : (k : Int) < g.length := by omega
  have hk6 : (k : Int) < 1000000 := by omega
  have hf6 : (first : Int) ≤ 100000 := by omega
  obtain ⟨gl, hgl⟩ : ∃ gl, g.length = gl := ⟨_, rfl⟩
  rw [hgl] at hkl' y1
  clear h hc hg hx hsm hn hn6 hkl sa hd hb hgl hlen hab hin hdep
  go_enter Tryz.func56, Tryz.ntmps56
  go_wp2_with fail
  go_still_tail 8, (by kernel_rfl)
  change wpList _ _ _ _ _ w.drew
  go_wp2_with fail
  refine C.out.mono ?_
  rintro e w1 ⟨rfl, T', vd', h1, h2, h3⟩
  have H1 := hid h1; have H2 := hid h2; have H3 := hid h3
  clear h1 h2 h3
  go_wp2
  go_ret
  exact ⟨rfl, T', vd', H1.out, (Upd.of_below ((Below.refl w.heap.size w).drew)).trans' H2.out, H3.out⟩
end
section
open Go.RowKit Go.Maps Go.WideMaps
structure GrpK (S0 : Nat → Prop) (wE : World) (v : Value) (g : List Sb) : Prop where
  ex : ∃ cs : List (List Value), cs.length = g.length ∧ (∀ c ∈ cs, c.length = 6) ∧ ∀ w'', Upd S0 wE w'' → RowAt w'' 6 v g.length cs.flatten ∧ ∀ (i : Nat) c x, cs[i]? = some c → g[i]? = some x → SubAt w'' c x
theorem GrpK.at {S0 : Nat → Prop} {wE w : World} {v : Value} {g : List Sb} (h : GrpK S0 wE v g) (hu : Upd S0 wE w) : GrpAt w v g := by
  obtain ⟨cs, h1, h2, h3⟩ := h.ex
  exact ⟨cs, h1, h2, (h3 w hu).1, (h3 w hu).2⟩
theorem GrpK.of {S0 : Nat → Prop} {w wE : World} {v : Value} {g : List Sb} (h : GrpAt w v g) (hb : Below w.heap.size w wE) (hS : ∀ b, S0 b → w.heap.size ≤ b) : GrpK S0 wE v g := by
  obtain ⟨cs, h1, h2, h3, h4⟩ := h
  refine ⟨cs, h1, h2, fun w'' hu => ?_⟩
  have hk : ∀ p u, w.cell? p = some u → w''.cell? p = some u := fun p u hp => by
    have hlt := World.block_lt_of_cell? _ _ hp
    refine hu.cell_some (by rw [hb.cell hlt]; exact hp) (fun q => by have := hS _ q; omega)
  exact ⟨h3.keep hk, fun i c x hc hx => (h4 i c x hc hx).keep hk⟩
theorem sub_one {w : World} {c : List Value} {x : Sb} (h : SubAt w c x) : ∀ u ∈ c, u.oneCell' = true := fun u hu => by
  obtain ⟨vs, vp, vr, vf, rfl, k1, k2, k3, k4⟩ := h.ex
  obtain ⟨a1, c1, rfl⟩ := RowAt.form k1
  obtain ⟨a2, c2, rfl⟩ := RowAt.form k2
  obtain ⟨a3, c3, rfl⟩ := RowAt.form k3
  obtain ⟨a4, c4, rfl⟩ := RowAt.form k4
  simp at hu
  rcases hu with rfl | rfl | rfl | rfl | rfl | rfl <;> rfl
variable {w0 wE w : World} {S0 S R T : Nat → Prop} {t d : Nat} {dc : DcS} {vi vt vd : Value}
theorem tys_news (h : TysAt S0 wE w vt dc.types) (hu : Upd S0 wE w) {v : Value} {g : List Sb} (hg : GrpK S0 wE v g) : ∃ cs gs : List (List Value), w.ownsRow wE.heap.size 46 6 vt dc.types.length cs.flatten ∧ RowAt w 6 v g.length gs.flatten ∧ (∀ u ∈ gs.flatten, u.oneCell' = true) ∧
    ∀ {w' : World} {v' : Value}, w'.ownsRow wE.heap.size 46 6 v' (dc.types.length + g.length) (cs.flatten ++ gs.flatten) → TysAt S0 wE w' v' (dc.types ++ g) := by
  obtain ⟨cs, h1, h2, h3, h4, h5⟩ := h.ex
  obtain ⟨gs, g1, g2, g3⟩ := hg.ex
  have hone : ∀ c ∈ gs, ∀ u ∈ c, u.oneCell' = true := fun c hc => by
    obtain ⟨i, hi⟩ := List.getElem?_of_mem hc
    obtain ⟨x, hx⟩ : ∃ x, g[i]? = some x := ⟨g[i]'(by have := (List.getElem?_eq_some_iff.1 hi).1; omega), by simp⟩
    exact sub_one ((g3 w hu).2 i c x hi hx)
  refine ⟨cs, gs, h4, (g3 w hu).1, fun u hu' => ?_, fun {w' v'} ho => ⟨cs ++ gs, by simp [h1, g1], fun c hc => ?_, fun c hc => ?_, ?_, fun i c x hc hx w'' hu2 => ?_⟩⟩
  · obtain ⟨c, hc, hu2⟩ := List.mem_flatten.1 hu'
    exact hone c hc u hu2
  · exact (List.mem_append.1 hc).elim (h2 c) (g2 c)
  · exact (List.mem_append.1 hc).elim (h3 c) (hone c)
  · rw [List.length_append, List.flatten_append]; exact ho
  · by_cases hlt : i < cs.length
    · rw [List.getElem?_append_left hlt] at hc
      rw [List.getElem?_append_left (by omega)] at hx
      exact h5 i c x hc hx w'' hu2
    · rw [List.getElem?_append_right (by omega)] at hc
      rw [List.getElem?_append_right (by omega)] at hx
      exact (g3 w'' hu2).2 _ c x hc (by rw [h1]; exact hx)
theorem DcAt.grow (h : DcAt w0 S0 wE S R T w t d dc vi vt vd) {W1 wc w9 : World} {S2 R2 : Nat → Prop} {A : List Int × Int × List (List Sb)} {g : List Sb} {u v9 : Value} (hb : Below w.heap.size w W1)
    (ht2 : TabN w0 S2 R2 wc t A.2.2) (hc2 : TabC A.2.2) (hi2 : ∀ w'', Upd (fun b => S2 b ∨ b < W1.heap.size) wc w'' → IntsAt w'' u A.1) (hup2 : Upd S W1 wc) (hfr2 : Fresh S W1 S2) (hrr2 : Fresh R W1 R2)
    (hg : (wc.setCell ⟨d, 1, none⟩ u).grownBy w9 vt.ownBlock) (hm : v9.ownBlock = vt.ownBlock ∨ v9.ownBlock = some wc.heap.size) {nn : Nat} {xs : List Value} (ho : w9.ownsRow wE.heap.size 46 6 v9 nn xs)
    (hty : ∀ {w' : World} {v' : Value}, w'.ownsRow wE.heap.size 46 6 v' nn xs → TysAt S0 wE w' v' (dc.types ++ g)) :
    ∃ T', DcAt w0 S0 wE S2 R2 T' (w9.setCell ⟨d, 2, none⟩ v9) t d ⟨A.1, dc.types ++ g, dc.depths, A.2.2⟩ u v9 vd ∧ (∀ b, T' b → T b ∨ wc.heap.size ≤ b) := by
  have hdl := heap_lt h.box
  have hs1 := hb.size
  have hs2 := hup2.size
  have hz3 : (wc.setCell ⟨d, 1, none⟩ u).heap.size = wc.heap.size := by simp [World.setCell]
  have hs9 : wc.heap.size ≤ w9.heap.size := by have := hg.size; omega
  have hvt : ∀ b, vt.ownBlock = some b → b < w.heap.size ∧ wE.heap.size ≤ b ∧ ¬ S b ∧ ¬ R b ∧ b ≠ d := fun b hb' => h.td b (h.tt b hb')
  have hS2 : ∀ b, b < w.heap.size → ¬ S b → ¬ S2 b := fun b hlt hn q => (hfr2 b q).elim hn (fun h => by omega)
  have hR2 : ∀ b, b < w.heap.size → ¬ R b → ¬ R2 b := fun b hlt hn q => (hrr2 b q).elim hn (fun h => by omega)
  have hu1 : Upd (fun b => b = d ∨ vt.ownBlock = some b) wc w9 := (Upd.setCell (S := fun b => b = d ∨ vt.ownBlock = some b) (Upd.refl _ _) (.inl (.inl rfl)) u).trans' ((Upd.refl _ _).grown hg (fun k hk => .inl (.inr hk)))
  have hu2 : Upd (fun b => b = d ∨ vt.ownBlock = some b) wc (w9.setCell ⟨d, 2, none⟩ v9) := hu1.setCell (.inl (.inl rfl)) _
  have hu3 : Upd (fun b => b = d) w9 (w9.setCell ⟨d, 2, none⟩ v9) := Upd.setCell (S := fun b => b = d) (Upd.refl _ _) (.inl rfl) _
  have hz9 : (w9.setCell ⟨d, 2, none⟩ v9).heap.size = w9.heap.size := by simp [World.setCell]
  have hboxc : wc.heap[d]? = some (.cells #[.pointer (some ⟨t, 0, none⟩), vi, vt, vd] 104 (0, 0)) := hup2.heap_some ((hb.block _ hdl).trans h.box) h.dd.1
  have hbox3 := heap_set_at hboxc 1 u
  have hbox9 : w9.heap[d]? = some (.cells #[.pointer (some ⟨t, 0, none⟩), u, vt, vd] 104 (0, 0)) := by
    rw [hg.block d (heap_lt hbox3) (fun e => (hvt d e.symm).2.2.2.2 rfl)]
    simpa using hbox3
  have hv9 : ∀ b, v9.ownBlock = some b → T b ∨ b = wc.heap.size := fun b hb' => hm.elim (fun e => .inl (h.tt b (e.symm.trans hb'))) (fun e => .inr (by rw [e] at hb'; cases hb'; rfl))
  have hw : ∀ b, (b = d ∨ vt.ownBlock = some b) → b < w.heap.size ∧ wE.heap.size ≤ b ∧ ¬ S b ∧ ¬ R b := fun b q => q.elim (fun e => by subst e; exact ⟨hdl, h.dd.2.2, h.dd.1, h.dd.2.1⟩) (fun e => have k := hvt b e; ⟨k.1, k.2.1, k.2.2.1, k.2.2.2.1⟩)
  have hT : ∀ b, (T b ∨ v9.ownBlock = some b) → b < (w9.setCell ⟨d, 2, none⟩ v9).heap.size ∧ wE.heap.size ≤ b ∧ ¬ S2 b ∧ ¬ R2 b ∧ b ≠ d := fun b q => by
    have q2 : T b ∨ (b = wc.heap.size ∧ v9.ownBlock = some b) := q.elim .inl (fun e => (hv9 b e).imp id (fun e2 => ⟨e2, e⟩))
    rw [hz9]
    rcases q2 with q2 | ⟨rfl, q3⟩
    · have k := h.td b q2
      exact ⟨by omega, k.2.1, hS2 b k.1 k.2.2.1, hR2 b k.1 k.2.2.2.1, k.2.2.2.2⟩
    · have k := ho.lt _ q3
      exact ⟨k.2, k.1, fun q => by have := (ht2.tab.lt _ q).1; omega, fun q => by have := ht2.tab.rlt _ q; omega, by omega⟩
  have hupE : Upd S0 wE wc := (h.up.trans' (Upd.of_below hb)).trans h.fr hup2
  refine ⟨fun b => T b ∨ v9.ownBlock = some b, ⟨ht2.upd hu2 (fun b q => ⟨hS2 b (hw b q).1 (hw b q).2.2.1, hR2 b (hw b q).1 (hw b q).2.2.2, Nat.le_trans h.e0 (hw b q).2.1⟩), hc2, ?_, fun w'' hu => ?_, ?_, ?_, fun b hb' => .inr hb', fun b hb' => .inl (h.tv b hb'), hT, ⟨hS2 d hdl h.dd.1, hR2 d hdl h.dd.2.1, h.dd.2.2⟩, ?_, ?_, h.e0⟩, fun b q => q.elim .inl (fun e => (hv9 b e).imp id (fun e2 => by omega))⟩
  · have := heap_set_at hbox9 2 v9
    simpa using this
  · refine hi2 w'' ((hu2.mono fun b _ q => .inr (by have := (hw b q).1; omega)).trans (fun b q => ?_) hu)
    rcases q with q | q | q | q
    · exact .inl (.inl q)
    · rcases q with q | q
      · exact .inl (.inr (by have := (h.td b q).1; omega))
      · exact (hv9 b q).elim (fun q => .inl (.inr (by have := (h.td b q).1; omega))) (fun e => .inr (by omega))
    · exact .inl (.inr (by omega))
    · exact .inl (.inr (by have := h.up.size; omega))
  · refine (hty ho).keep hu3 (fun b hb' e => (hT b (.inr hb')).2.2.2.2 e)
  · refine ownsRow_upd h.dep (((Upd.of_below hb : Upd (fun b => S b ∨ b = d ∨ vt.ownBlock = some b) w W1).trans' (hup2.mono fun b _ q => .inl q)).trans' (hu2.mono fun b _ q => .inr q)) (fun b hb' q => ?_)
    have k := h.td b (h.tv b hb')
    rcases q with q | q | q
    · exact k.2.2.1 q
    · exact k.2.2.2.2 q
    · exact h.apart b q hb'
  · exact hupE.trans (fun b q => .inr (hw b q).2.1) hu2
  · exact fun b q => (hfr2 b q).elim (h.fr b) (fun q => .inr (by have := h.up.size; omega))
end
section
open Go.RowKit Go.Maps
theorem wpList_append_row_at {P : Program} (w : World) {ops : Array Oper} {rest : List Oper} {o : Oper} {a : Act} {Q : Exit → Act → World → Prop} (hgd : o.guard = none) (s x : Operand) (t : TypeId)
    (ho : o.op = .call { callee := .builtin .append, args := #[s, x], argTypes := #[t, t] })
    (base : Nat) (e : TypeId) (i : TypeInfo) (z : Value) (size bytes : Nat) (ht : P.underlying t = some (.slice e)) (hi : P.info? e = some i) (hz : i.zero = some z)
    (hsize : i.size = size) (hby : i.bytes = bytes) (hzs : z.cells.size = size) (hsz : 0 < size)
    (v : Value) (n : Nat) (xs : List Value) (hs : a.eval s = v) (hown : w.ownsRow base e size v n xs)
    (y : Value) (m : Nat) (news : List Value) (hx : a.eval x = y) (hrow : RowAt w size y m news) (h1 : ∀ u ∈ news, u.oneCell' = true)
    (h63 : n + m ≤ maxLen) (hbytes : (n + m) * bytes ≤ 140737488355328) (hbase : base ≤ w.heap.size)
    (h : ∀ v' w', w'.ownsRow base e size v' (n + m) (xs ++ news) → w.grownBy w' v.ownBlock → (v'.ownBlock = v.ownBlock ∨ v'.ownBlock = some w.heap.size) → wpList P ops Q rest (a.put o.dst v') w') : wpList P ops Q (o :: rest) a w := by
  obtain ⟨hl, ⟨rfl, rfl⟩ | ⟨ad, cap, rfl, hc, hnews⟩⟩ := hrow
  · refine wpList_plain hgd fun K hK => ?_
    have hr := run_append_owned_none (P := P) (w := w) base t o.type e i size ht hi v n xs hown
    unfold Oper.wp execOp
    simp only [ho, resolve, invoke, builtin, Sem.run_bind, Sem.run_pure, Result.andThen_ok, List.map_toArray, List.map_cons, List.map_nil, hs, hx, hr]
    refine hK _ _ (h v w ?_ ⟨rfl, rfl, rfl, Nat.le_refl _, fun _ _ _ => rfl⟩ (.inl rfl))
    have hn : news = [] := List.eq_nil_of_length_eq_zero (by simpa using hl)
    subst hn
    simpa using hown
  · exact wpList_append_own_at w hgd s x t ho base e i z size bytes ht hi hz hsize hby hzs hsz v n xs hs hown ad m cap news hx hl hnews h1 h63 hbytes hbase (fun v' w' r1 r2 _ r4 => h v' w' r1 r2 r4)
end
end Go.Proofs.YtpddbaijnjbfdaaGreatDoor
