import Derived.Test.YtpddbaijnjbfdaaGreatDoorQRfAdd
namespace Go.Proofs.YtpddbaijnjbfdaaGreatDoor
open Lib (hid)
section
open Go.RowKit
structure RolU (f : Hp → Hp) (L : List Hp) (wB : World) (v : Value) (n k : Nat) (W : World) : Prop where
  le : k ≤ n
  own : W.ownsRow wB.heap.size 75 2 v n (flatH (part f L k))
  be : Below wB.heap.size wB W
def emptyC : List Value := [.bool false, .slice none 0 0, .int .i64 0, .slice none 0 0, .slice none 0 0, .slice none 0 0]
def GetP (w : World) (rs : List (List Sb)) (id : Int) (e : Ending) (w' : World) : Prop :=
  (∃ (m : Nat) (y : Sb) (cs : List Value), id = (m : Int) ∧ (tabL rs)[m]? = some y ∧ e = .returned (.tuple #[.agg cs.toArray, .int .i64 0]) ∧ cs.length = 6 ∧ ∀ w'', Upd (fun b => b < w.heap.size) w' w'' → SubAt w'' cs y) ∨ (inTab rs id = false ∧ e = .returned (.tuple #[.agg emptyC.toArray, .int .i64 4]))
set_option maxRecDepth 100000 in
set_option maxHeartbeats 16000000 in
theorem rGet_any {R : Nat → Prop} {w : World} {t : Nat} {rs : List (List Sb)} (ht : RefAt R w t rs) (htot : total rs ≤ 10000) (hl : rs.length ≤ 1000000) (hd : ∀ g ∈ rs, ∀ x ∈ g, DS DRec x ∧ cnt x ≤ 1000000) (id : Int) :
    Calls Tryz.prog 28 #[.pointer (some ⟨t, 0, none⟩), .int .i64 id] w fun e w' => GetP w rs id e w' ∧ Below w.heap.size w w' := by
  obtain ⟨W0, hW⟩ : ∃ W0 : World, W0 = w.alloc (.cells #[.bool false, .slice none 0 0, .int .i64 0, .slice none 0 0, .slice none 0 0, .slice none 0 0] 46) := ⟨_, rfl⟩
  have hB : Below w.heap.size w W0 := by rw [hW]; exact (Below.refl _ _).alloc (Nat.le_refl _) _
  have z0 : W0.heap[w.heap.size]? = some (.cells #[.bool false, .slice none 0 0, .int .i64 0, .slice none 0 0, .slice none 0 0, .slice none 0 0] 46 (0, 0)) := by rw [hW]; exact heap_alloc_at _ _ rfl
  have HW := Lib.hid hW; have HB := Lib.hid hB; have Z0 := Lib.hid (fun (W : World) (h : Below W0.heap.size W0 W) => (h.block _ (heap_lt z0)).trans z0)
  replace ht := ht.below hB
  clear hW hB z0
  obtain ⟨a, c, ht1, ht2⟩ := ht.grps
  have hc : ∀ x : Ext W0, x.val.cell? ⟨t, 0, none⟩ = some (.slice a rs.length c) := Ext.cells (heap_cell ht1 0)
  have HC := Lib.hid hc
  have H2 := Lib.hid (ht2 W0 (Upd.refl _ _))
  have HF := Lib.hid (rFind_any ht htot hl id)
  have HL := Lib.hid hl; have HTOT := Lib.hid htot; have HD := Lib.hid hd
  clear ht ht1 ht2 htot hc hl hd
  go_enter Tryz.func28, Tryz.ntmps28
  go_wp2_with fail
  rw [← HW.out]
  refine HF.out.mono ?_
  rintro e w1 ⟨i, first, k, rfl, hp, hb1⟩
  have HB1 := Lib.hid hb1
  clear HF
  rcases hp with ⟨j, m, g, hg, hm, hid, rfl, rfl, rfl⟩ | ⟨hno, rfl, rfl, rfl⟩
  · obtain ⟨x, hx⟩ : ∃ x, g[m]? = some x := ⟨g[m], by simp [hm]⟩
    have hc1 : w1.cell? ⟨t, 0, none⟩ = some (.slice a rs.length c) := HC.out ⟨w1, hb1⟩
    obtain ⟨b, off, a1, c1, rfl, q0, hgr⟩ := GrpsAt.at (H2.out.below hb1 (Nat.le_refl _)) hg
    obtain ⟨b2, o2, rfl, hb2, d1, f1, d2, f2, d3, f3, d4, f4, sb, p0, p1, p2, p3, p4, p5⟩ := hgr.at hx
    have hjl : j < rs.length := (List.getElem?_eq_some_iff.1 hg).1
    have hfa := firstOf_add hg
    have hdx := HD.out g (List.mem_of_getElem? hg) x (List.mem_of_getElem? hx)
    have htl := tabL_at hg hx
    obtain ⟨F, hF⟩ : ∃ F, firstOf rs j = F := ⟨_, rfl⟩
    rw [hF] at htl hid hfa
    have hF6 : (F : Int) ≤ 10000 := by have := HTOT.out; omega
    obtain ⟨n0, hn0⟩ : ∃ n, rs.length = n := ⟨_, rfl⟩
    obtain ⟨n1, hn1⟩ : ∃ n, g.length = n := ⟨_, rfl⟩
    rw [hn0] at hc1 hjl
    rw [hn1] at q0 hm
    have hj' : (j : Int) < n0 := by omega
    have hm' : (m : Int) < n1 := by omega
    have hj6 : (j : Int) < 1000000 := by have := HL.out; omega
    have hm6 : (m : Int) < 1000000 := by have := HTOT.out; omega
    have HF6 := Lib.hid hF6
    clear hj6 hm6 hF6
    have HID := Lib.hid hid; have HTL := Lib.hid htl; have HDX := Lib.hid hdx; have SB := Lib.hid sb; have HHF := Lib.hid hF
    rw [hF]
    clear hid htl hdx sb hF hg hx hfa hn0 hn1 hm hjl hb1 hb2
    obtain ⟨W1, hW1⟩ : ∃ W1 : World, W1 = w1.alloc (.cells #[.bool x.fin, .slice d1 x.sups.length f1, .int .i64 x.k, .slice d2 x.ps.length f2, .slice d3 x.rs.length f3, .slice d4 x.fs.length f4] 46) := ⟨_, rfl⟩
    have hbW1 : Below w1.heap.size w1 W1 := by rw [hW1]; exact (Below.refl _ _).alloc (Nat.le_refl _) _
    have zs : W1.heap[w1.heap.size]? = some (.cells #[.bool x.fin, .slice d1 x.sups.length f1, .int .i64 x.k, .slice d2 x.ps.length f2, .slice d3 x.rs.length f3, .slice d4 x.fs.length f4] 46 (0, 0)) := by rw [hW1]; exact heap_alloc_at _ _ rfl
    have ZS := Lib.hid (fun z : Ext W1 => And.intro (Ext.cells (heap_cell zs 0) z) (And.intro (Ext.cells (heap_cell zs 1) z) (And.intro (Ext.cells (heap_cell zs 2) z) (And.intro (Ext.cells (heap_cell zs 3) z) (And.intro (Ext.cells (heap_cell zs 4) z) (Ext.cells (heap_cell zs 5) z))))))
    have SB1 := Lib.hid (SB.out.below hbW1 (Nat.le_refl _))
    have HB1' := Lib.hid (HB1.out.trans (hbW1.mono HB1.out.size)); have HW1 := Lib.hid hW1
    clear hbW1 zs hW1
    have C := rHeaps_any _ x W1 SB1.out HDX.out.2
    have HC2 := Lib.hid C
    clear C
    go_wp2_with fail
    rw [← HW1.out]
    refine HC2.out.mono ?_
    rintro e wC ⟨u9, rfl, ow, hbC⟩
    obtain ⟨L, hL⟩ : ∃ L, heapsR x = L := ⟨_, rfl⟩
    obtain ⟨n, hn⟩ : ∃ n, L.length = n := ⟨_, rfl⟩
    rw [hL, hn] at ow
    obtain ⟨a9, c9, e9⟩ := RowAt.form (RowAt.of_own ow)
    subst e9
    have hdh : ∀ h ∈ L, DRec h := by rw [← hL]; exact ds_heaps.1 HDX.out.1
    have hn6 : n ≤ 1000000 := by rw [← hn, ← hL]; exact Nat.le_trans (heapsR_len x) HDX.out.2
    have HHL := Lib.hid hL; have HN := Lib.hid hn; have HDH := Lib.hid hdh; have HN6 := Lib.hid hn6; have OW0 := Lib.hid ow; have HBC := Lib.hid hbC
    clear hL hn hdh hn6 ow hbC HC2 hc1 q0 p0 p1 p2 p3 p4 p5
    go_wp2
    go_loopw [11] (fun t10 wz => ∃ k : Nat, t10 = .int .i64 k ∧ RolU (unroll (F : Int)) L W1 (.slice a9 n c9) n k wz) (fun t10 _ => n - (intOf t10).toNat)
    case atStart => exact ⟨0, rfl, Nat.zero_le _, by rw [part_zero]; exact OW0.out, HBC.out⟩
    case round =>
      obtain ⟨k, rfl, hk, ow, hbz⟩ := hrel
      have HBZ := Lib.hid hbz
      clear hbz
      by_cases hlk : k < n
      · obtain ⟨y, hy⟩ : ∃ y, L[k]? = some y := ⟨L[k]'(by rw [HN.out]; exact hlk), by simp⟩
        obtain ⟨yk, yn⟩ := y
        obtain ⟨g9, e9, hg9⟩ := own_form ow hlk
        subst e9
        have hpa := part_at (f := unroll (F : Int)) hy
        have HP : HpsAt wr (.slice (some ⟨g9, 0, none⟩) (part (unroll (F : Int)) L k).length c9) (part (unroll (F : Int)) L k) := by unfold HpsAt; rw [part_len, HN.out]; exact RowAt.of_own ow
        obtain ⟨b, off, e, _, p0, p1⟩ := hps_at HP hpa
        simp at e
        obtain ⟨rfl, rfl⟩ := e
        rw [Nat.zero_add] at p0 p1
        dsimp only at p0 p1
        have hlk' : (k : Int) < n := by omega
        have hk6 : (k : Int) < 1000000 := by have := HN6.out; omega
        have HY := Lib.hid hy; have OW := Lib.hid ow; have HLK := Lib.hid hlk; have HG9 := Lib.hid hg9
        clear HP hpa ow hk hg9
        by_cases h14 : yk = 14
        · subst h14
          obtain ⟨hn0, hn1⟩ := HDH.out _ (List.mem_of_getElem? hy) rfl
          dsimp only at hn0 hn1
          clear hy hlk
          have hsh : unroll (F : Int) ⟨14, yn⟩ = ⟨15, (F : Int) + yn⟩ := by unfold unroll; rw [if_pos rfl]
          have HSH := Lib.hid hsh
          clear hsh
          have hF6 := HF6.out
          have f0 : wr.frozen? ⟨g9, k * 2, none⟩ = false := OW.out.frozenAt _
          have f1 : wr.frozen? ⟨g9, k * 2 + 1, none⟩ = false := OW.out.frozenAt _
          go_wp2
          go_roundw
          case rel =>
            obtain ⟨o9, gr9⟩ := own_set2 (i := k) (y0 := .int .i64 15) (y1 := .int .i64 ((F : Int) + yn)) OW.out
            exact ⟨k + 1, by go_num, HLK.out, by rw [part_succ HY.out, HSH.out, flatH_set]; exact o9, HBZ.out.grown gr9 HBZ.out.size (fun q hq => by cases hq; exact HG9.out)⟩
          case measure => have := HLK.out; simp [intOf]; omega
        · have h14' : (yk == 14) = false := by simpa using h14
          have hsh : unroll (F : Int) ⟨yk, yn⟩ = ⟨yk, yn⟩ := by unfold unroll; simp [h14]
          have HSH := Lib.hid hsh
          clear hsh hy hlk h14
          go_wp2
          go_roundw
          case rel => exact ⟨k + 1, by go_num, HLK.out, by rw [part_same HY.out HSH.out]; exact OW.out, HBZ.out⟩
          case measure => have := HLK.out; simp [intOf]; omega
      · obtain rfl : k = n := by omega
        have hlk' : ¬ (k : Int) < k := by omega
        have hfull : part (unroll (F : Int)) L k = L.map (unroll (F : Int)) := part_full (by rw [HN.out]; exact Nat.le_refl _)
        rw [hfull] at ow
        have C := rWith_any (unroll (F : Int)) _ x (.slice a9 k c9) wr (SB1.out.below HBZ.out (Nat.le_refl _)) (by rw [HHL.out]; unfold HpsAt; rw [List.length_map, HN.out]; exact RowAt.of_own ow) HDX.out.2
        have HC2 := Lib.hid C
        clear C ow hfull hlk hk
        obtain ⟨s0, s1, s2, s3, s4, s5⟩ := ZS.out ⟨wr, HBZ.out⟩
        dsimp only at s0 s1 s2 s3 s4 s5
        go_wp2_with fail
        refine HC2.out.mono ?_
        rintro e w2 ⟨ds, rfl, hd6, hsub, hb2⟩
        have hbb := HB1'.out.trans ((HBZ.out.trans (hb2.mono HBZ.out.size)).mono HB1'.out.size)
        have hz : w.heap.size < wr.heap.size := by have h1 := HB1'.out.size; have h2 := HBZ.out.size; have h3 := heap_lt (Z0.out W0 (Below.refl _ _)); omega
        obtain ⟨x2, hx2⟩ : ∃ x2, mapP (unroll (F : Int)) x = x2 := ⟨_, rfl⟩
        rw [hx2] at hsub
        rw [hx2] at HTL
        obtain ⟨vs, vp, vr, vf, rfl, k1, k2, k3, k4⟩ := (hsub w2 (Upd.refl _ _)).ex
        obtain ⟨a5, c5, rfl⟩ := RowAt.form k1
        obtain ⟨a6, c6, rfl⟩ := RowAt.form k2
        obtain ⟨a7, c7, rfl⟩ := RowAt.form k3
        obtain ⟨a8, c8, rfl⟩ := RowAt.form k4
        have y1 := Z0.out w2 hbb
        have f1 := fun i => heap_frozen y1 i
        have u0 := heap_cell y1 0; have u1 := heap_cell y1 1; have u2 := heap_cell y1 2; have u3 := heap_cell y1 3; have u4 := heap_cell y1 4; have u5 := heap_cell y1 5
        simp at u0 u1 u2 u3 u4 u5
        have HSUB := Lib.hid hsub; have HBB := Lib.hid (HB.out.trans (hbb.mono HB.out.size)); have HZ := Lib.hid hz
        clear hsub hbb hz hx2 k1 k2 k3 k4 y1 hb2 HC2 hd6
        go_wp2
        refine bodyPost_ret (v := .tuple #[.agg #[.bool x2.fin, .slice a5 x2.sups.length c5, .int .i64 x2.k, .slice a6 x2.ps.length c6, .slice a7 x2.rs.length c7, .slice a8 x2.fs.length c8], .int .i64 0]) (by simp [results, Tryz.results28, go_sem, u0, u1, u2, u3, u4, u5]) rfl ?_
        refine ⟨.inl ⟨F + m, _, _, HID.out, HTL.out, rfl, rfl, fun w'' hu => HSUB.out w'' ?_⟩, (((((HBB.out.setCell (by simp) _).setCell (by simp) _).setCell (by simp) _).setCell (by simp) _).setCell (by simp) _).setCell (by simp) _⟩
        have hz := HZ.out
        have u0 : Upd (fun b => b < wr.heap.size) w2 w2 := Upd.refl _ _
        exact ((((((u0.setCell (.inl hz) _).setCell (.inl hz) _).setCell (.inl hz) _).setCell (.inl hz) _).setCell (.inl hz) _).setCell (.inl hz) _).trans' (hu.mono fun b _ hb => by omega)
  · have HNO := Lib.hid hno
    clear hno
    have y1 := Z0.out w1 HB1.out
    have f1 := fun i => heap_frozen y1 i
    have c0 := heap_cell y1 0; have c1 := heap_cell y1 1; have c2 := heap_cell y1 2; have c3 := heap_cell y1 3; have c4 := heap_cell y1 4; have c5 := heap_cell y1 5
    simp at c0 c1 c2 c3 c4 c5
    clear y1 hb1
    go_wp2
    refine bodyPost_ret (v := .tuple #[.agg emptyC.toArray, .int .i64 4]) (by simp [results, Tryz.results28, go_sem, c0, c1, c2, c3, c4, c5]; rfl) rfl ?_
    exact ⟨.inr ⟨HNO.out, rfl⟩, ((((((HB.out.trans (HB1.out.mono HB.out.size)).setCell (by simp) _).setCell (by simp) _).setCell (by simp) _).setCell (by simp) _).setCell (by simp) _).setCell (by simp) _⟩
end
section
open Go.RowKit Go.Maps Go.WideMaps
structure RefK (R : Nat → Prop) (w : World) (t n : Nat) (gs : List (List Sb)) : Prop where
  ex : ∃ rs, RefAt R w t rs ∧ RefOk gs rs ∧ rs.length ≤ n
variable {R : Nat → Prop} {w w' : World} {t n : Nat} {gs : List (List Sb)}
theorem RefK.keep (h : RefK R w t n gs) (u : Upd (fun b => ¬ R b ∧ b ≠ t) w w') : RefK R w' t n gs := by
  obtain ⟨rs, h1, h2, h3⟩ := h.ex
  exact ⟨rs, h1.keep u, h2, h3⟩
theorem RefK.below (h : RefK R w t n gs) (u : Below w.heap.size w w') : RefK R w' t n gs := h.keep ((Upd.of_below u : Upd (fun _ => False) w w').mono fun _ _ q => q.elim)
theorem RefK.tlt (h : RefK R w t n gs) : t < w.heap.size := by obtain ⟨rs, h1, _⟩ := h.ex; exact h1.tlt
theorem RefK.lt (h : RefK R w t n gs) : ∀ k, R k → k < w.heap.size := by obtain ⟨rs, h1, _⟩ := h.ex; exact h1.lt
theorem refK_new (h : w.heap[t]? = some (.cells #[.slice none 0 0] 31 (0, 0))) : RefK (fun _ => False) w t 0 [] :=
  ⟨[], ⟨⟨none, 0, [], h, rfl, fun w'' _ => RowAt.nil w'' 1, fun i v g hv => by simp at hv⟩, fun q => q, fun _ q => q.elim⟩, rfl, Nat.le_refl _⟩
theorem refOk_sm {rs : List (List Sb)} (h : RefOk gs rs) (ok : TabOk gs) : ∀ g ∈ rs, ∀ x ∈ g, cnt x ≤ 1000000 := fun g hg x hx => by
  rcases h.mem hg with rfl | hg
  · cases hx
  · exact ((ok.good g hg).sm x hx).cnt
theorem refOk_drec {rs : List (List Sb)} (h : RefOk gs rs) (ok : TabOk gs) (hc : TabC gs) : ∀ g ∈ rs, ∀ x ∈ g, DS DRec x ∧ cnt x ≤ 1000000 := fun g hg x hx => by
  refine ⟨?_, refOk_sm h ok g hg x hx⟩
  rcases h.mem hg with rfl | hg
  · cases hx
  · obtain ⟨j, hj⟩ := List.getElem?_of_mem hg
    exact hc.drec ok.total hj hx
theorem kLen_dr (h : RefK R w t n gs) (ok : TabOk gs) (hn : n ≤ 1000000) : Calls Tryz.prog 31 #[.pointer (some ⟨t, 0, none⟩)] w fun e w' => e = .returned (.int .i64 (total gs)) ∧ ∃ m, w' = w.drewN m := by
  obtain ⟨rs, h1, h2, h3⟩ := h.ex
  rw [← h2.total]
  exact rLen_dr h1 (by rw [h2.total]; exact ok.total) (Nat.le_trans h3 hn)
def KGet (w : World) (gs : List (List Sb)) (id : Int) (e : Ending) (w' : World) : Prop :=
  ((∃ (m : Nat) (y : Sb) (cs : List Value), id = (m : Int) ∧ (tabL gs)[m]? = some y ∧ e = .returned (.tuple #[.agg cs.toArray, .int .i64 0]) ∧ cs.length = 6 ∧ ∀ w'', Upd (fun b => b < w.heap.size) w' w'' → SubAt w'' cs y) ∨ (inTab gs id = false ∧ e = .returned (.tuple #[.agg emptyC.toArray, .int .i64 4]))) ∧ Below w.heap.size w w'
theorem kGet_any (h : RefK R w t n gs) (ok : TabOk gs) (hc : TabC gs) (hn : n ≤ 1000000) (id : Int) : Calls Tryz.prog 28 #[.pointer (some ⟨t, 0, none⟩), .int .i64 id] w (KGet w gs id) := by
  obtain ⟨rs, h1, h2, h3⟩ := h.ex
  have e1 : GetP w rs id = fun e w' => (∃ (m : Nat) (y : Sb) (cs : List Value), id = (m : Int) ∧ (tabL gs)[m]? = some y ∧ e = .returned (.tuple #[.agg cs.toArray, .int .i64 0]) ∧ cs.length = 6 ∧ ∀ w'', Upd (fun b => b < w.heap.size) w' w'' → SubAt w'' cs y) ∨ (inTab gs id = false ∧ e = .returned (.tuple #[.agg emptyC.toArray, .int .i64 4])) := by
    funext e w'; unfold GetP; rw [h2.tabL, h2.inTab]
  have C := rGet_any h1 (by rw [h2.total]; exact ok.total) (Nat.le_trans h3 hn) (refOk_drec h2 ok hc) id
  rw [e1] at C
  exact C
theorem addR_len (rs : List (List Sb)) (ids : List Int) (g : List Sb) : (addR rs ids g).2.2.length ≤ rs.length + 1 := by
  unfold addR
  split
  · exact Nat.le_succ _
  · split
    · exact Nat.le_succ _
    · split
      · exact Nat.le_succ _
      · split
        · exact Nat.le_succ _
        · simp
def KAdd (R : Nat → Prop) (w : World) (t n : Nat) (A : List Int × Int × List (List Sb)) (e : Ending) (w' : World) : Prop :=
  ∃ u R', e = .returned (.tuple #[u, .int .i64 A.2.1]) ∧ RefK R' w' t n A.2.2 ∧ (∀ w'', Upd (fun b => b < w.heap.size) w' w'' → IntsAt w'' u A.1) ∧ Upd (fun b => b = t) w w' ∧ Fresh R w R'
theorem kAdd_any {v1 v2 : Value} {ids : List Int} {g : List Sb} (h : RefK R w t n gs) (ok : TabOk gs) (hn : n ≤ 100000) (h1 : IntsAt w v1 ids) (hil : ids.length ≤ 100000) (h2 : GrpAt w v2 g) (hr : RawG g) :
    Calls Tryz.prog 27 #[.pointer (some ⟨t, 0, none⟩), v1, v2] w (KAdd R w t (n + 1) (addG gs ids g)) := by
  obtain ⟨rs, q1, q2, q3⟩ := h.ex
  refine (rAdd_any q1 (by rw [q2.total]; exact ok.total) (Nat.le_trans q3 hn) (refOk_sm q2 ok) h1 hil h2 hr.len (fun x hx => ⟨(hr.sm x hx).small, hr.cnt x hx⟩)).mono ?_
  rintro e w' ⟨u, R', he, k1, k2, k3, k4⟩
  obtain ⟨e1, e2, e3⟩ := addR_eq q2 ok ids g
  exact ⟨u, R', by rw [← e2]; exact he, ⟨_, k1, e3, Nat.le_trans (addR_len rs ids g) (Nat.succ_le_succ q3)⟩, by rw [← e1]; exact k2, k3, k4⟩
end
section
open Go.RowKit
structure RfK (R : Nat → Prop) (w : World) (t : Nat) (gs : List (List Sb)) : Prop where
  ref : ∃ n, RefK R w t n gs ∧ n ≤ 1000000
  ok : TabOk gs
  c : TabC gs
section
variable {R : Nat → Prop} {w : World} {t : Nat} {gs : List (List Sb)}
theorem RfK.below {w' : World} (h : RfK R w t gs) (hb : Below w.heap.size w w') : RfK R w' t gs := by
  obtain ⟨n, h1, h2⟩ := h.ref
  exact ⟨⟨n, h1.below hb, h2⟩, h.ok, h.c⟩
theorem RfK.ext (h : RfK R w t gs) (x : Ext w) : RfK R x.val t gs := h.below x.2
theorem rfLen (h : RfK R w t gs) : Calls Tryz.prog 31 #[.pointer (some ⟨t, 0, none⟩)] w fun e w' => e = .returned (.int .i64 (total gs)) ∧ Below w.heap.size w w' := by
  obtain ⟨n, h1, h2⟩ := h.ref
  exact (kLen_dr h1 h.ok h2).mono fun e w' ⟨he, m, hm⟩ => ⟨he, by subst hm; exact below_drewN _ m⟩
theorem rfGet (h : RfK R w t gs) {id : Nat} {y : Sb} (hy : (tabL gs)[id]? = some y) : Calls Tryz.prog 28 #[.pointer (some ⟨t, 0, none⟩), .int .i64 id] w fun e w' => ∃ ds : List Value, e = .returned (.tuple #[.agg ds.toArray, .int .i64 0]) ∧ (∀ w'', Upd (fun b => b < w.heap.size) w' w'' → SubAt w'' ds y) ∧ Below w.heap.size w w' := by
  obtain ⟨n, h1, h2⟩ := h.ref
  refine (kGet_any h1 h.ok h.c h2 id).mono ?_
  rintro e w' ⟨⟨m, y', cs, e1, e2, e3, _, e5⟩ | ⟨hno, _⟩, hb⟩
  · obtain rfl : id = m := by omega
    obtain rfl : y = y' := Option.some.inj (hy.symm.trans e2)
    exact ⟨cs, e3, e5, hb⟩
  · exfalso
    have hlt := (List.getElem?_eq_some_iff.1 hy).1
    rw [tabL_len] at hlt
    simp [inTab] at hno
    omega
end
set_option maxHeartbeats 4000000 in
theorem is_ref {R : Nat → Prop} {t : Nat} {gs : List (List Sb)} (h n : Int) (w : World) (ht : RfK R w t gs) : Calls Tryz.prog 119 #[.pointer (some ⟨t, 0, none⟩), .agg #[.int .i64 h, .int .i64 n]] w fun e w' => e = .returned (.bool (closedB (total gs) ⟨h, n⟩)) ∧ Below w.heap.size w w' := by
  have H := hid (ht.below ((Below.refl _ _).alloc (Nat.le_refl _) (.cells #[.int .i64 h, .int .i64 n] 75)))
  have htl := ht.ok.total
  clear ht
  have c0 : ∀ x : Ext (w.alloc (.cells #[.int .i64 h, .int .i64 n] 75)), x.val.cell? ⟨w.heap.size, 0, none⟩ = some (.int .i64 h) := fun x => x.cell (heap_cell (World.alloc_heap_new _ _) 0)
  have c1 : ∀ x : Ext (w.alloc (.cells #[.int .i64 h, .int .i64 n] 75)), x.val.cell? ⟨w.heap.size, 1, none⟩ = some (.int .i64 n) := fun x => x.cell (heap_cell (World.alloc_heap_new _ _) 1)
  have fin : ∀ (r : Bool) (x : Ext (w.alloc (.cells #[.int .i64 h, .int .i64 n] 75))), r = closedB (total gs) ⟨h, n⟩ → (Ending.returned (.bool r) = .returned (.bool (closedB (total gs) ⟨h, n⟩)) ∧ Below w.heap.size w x.val) := fun r x e => ⟨retb e, ((Below.refl _ _).alloc (Nat.le_refl _) _).trans (x.2.mono (by simp))⟩
  have FIN := hid fin
  clear fin
  by_cases hk : h = 15
  · subst hk
    rcases hn : decide (0 ≤ n) with _ | _
    · have hn' : ¬ 0 ≤ n := by simpa using hn
      have HN := hid hn'
      clear hn'
      go_enter Tryz.func119, Tryz.ntmps119
      go_wp2
      refine wp_region_calm (by kernel_rfl) (by kernel_rfl) ?_
      repeat (go_big_quiet_step (first | (go_at_call 31; exact Ext.call _ (rfLen (H.out.ext _)))))
      refine wpQuiet_nil ?_
      rintro _ ⟨x, rfl⟩
      go_wp2
      go_ret
      exact FIN.out _ x (by have h1 := HN.out; unfold closedB givenB; rw [Bool.eq_iff_iff]; simp; omega)
    · have hn' : 0 ≤ n := by simpa using hn
      have HN := hid hn'
      clear hn'
      rcases hl : decide (n < (total gs : Nat)) with _ | _
      all_goals
        have HL := hid hl
        go_enter Tryz.func119, Tryz.ntmps119
        go_wp2
        refine wp_region_calm (by kernel_rfl) (by kernel_rfl) ?_
        repeat (go_big_quiet_step (first | (go_at_call 31; exact Ext.call _ (rfLen (H.out.ext _)))))
        refine wpQuiet_nil ?_
        rintro _ ⟨x, rfl⟩
        go_wp2
        go_ret
        exact FIN.out _ x (by have h1 := HN.out; have h2 := HL.out; unfold closedB givenB; rw [Bool.eq_iff_iff]; simp at h2 ⊢; omega)
  · have hk' : (h == 15) = false := by simpa using hk
    have HK := hid hk
    clear hk
    go_enter Tryz.func119, Tryz.ntmps119
    go_wp2
    all_goals
      go_ret
      refine ⟨retb ?_, (Below.refl _ _).alloc (Nat.le_refl _) _⟩
      have h1 := HK.out
      unfold closedB givenB
      rw [Bool.eq_iff_iff]
      simp_all <;> omega
end
section
open Go.RowKit
section
variable {ts : List Sb}
theorem gk {k : Int} (h : 1 ≤ k ∧ k ≤ 12) : ∃ a : Fin 12, k = (a.val : Int) + 1 := ⟨⟨(k - 1).toNat, by omega⟩, by simp; omega⟩
theorem closed_cases {n : Nat} {h : Hp} (hc : ClosedP n h) : (∃ m : Nat, h = ⟨15, m⟩ ∧ m < n) ∨ (∃ k, h = ⟨k, 0⟩ ∧ (1 ≤ k ∧ k ≤ 12) ∧ k ≠ 15) := by
  obtain ⟨k, n'⟩ := h
  rcases hc with ⟨h1, h2, h3⟩ | ⟨h1, h2, h3⟩
  · dsimp only at h1 h2 h3; subst h3; exact .inr ⟨k, rfl, ⟨h1, h2⟩, by omega⟩
  · dsimp only at h1 h2 h3; subst h1; exact .inl ⟨n'.toNat, by rw [Int.toNat_of_nonneg h2], by omega⟩
theorem closed_def {n m : Nat} (h : m < n) : ClosedP n ⟨15, m⟩ := .inr ⟨rfl, by simp, by simpa using h⟩
theorem closed_giv {n : Nat} {k : Int} (h : 1 ≤ k ∧ k ≤ 12) : ClosedP n ⟨k, 0⟩ := .inl ⟨h.1, h.2, rfl⟩
-- value types
theorem never_not {n : Nat} {v : Vl} (h : NeverP v) : ¬ ClosedP n ⟨v.h, v.n⟩ := by
  rw [h]
  rintro (⟨h1, _⟩ | ⟨h1, _⟩)
  · simp at h1
  · simp at h1
-- composite types
theorem WfV.proper {n : Nat} {v : Vl} (h : WfV (fun h => GivenP h ∨ NumC n h) v) : ProperP n v := by
  rcases h with ⟨hk, e⟩ | ⟨hk, h⟩
  · exact .inr ⟨by omega, by omega, by omega, e⟩
  · exact .inl ⟨hk, .inr h⟩
end
end
section
open Go.RowKit
def fh (φ : Nat → Nat) (h : Hp) : Hp := if h.k = 15 then ⟨15, φ h.n.toNat⟩ else h
structure Emb (φ : Nat → Nat) (ts us : List Sb) : Prop where
  at_ : ∀ (i : Nat) y, ts[i]? = some y → us[φ i]? = some (mapP (fh φ) y)
  inj : ∀ i j, i < ts.length → j < ts.length → φ i = φ j → i = j
  cl : Clo ts
variable {φ : Nat → Nat} {ts us : List Sb}
theorem fh_k (h : Hp) : (fh φ h).k = h.k := by unfold fh; split <;> simp_all
theorem fh_def (n : Nat) : fh φ ⟨15, n⟩ = ⟨15, φ n⟩ := by simp [fh]
theorem fh_giv {h : Hp} (hk : h.k ≠ 15) : fh φ h = h := by simp [fh, hk]
theorem Emb.lt (E : Emb φ ts us) {i : Nat} (h : i < ts.length) : φ i < us.length := by
  have h1 := E.at_ i _ (List.getElem?_eq_getElem h)
  exact (List.getElem?_eq_some_iff.1 h1).1
theorem Emb.closed (E : Emb φ ts us) {h : Hp} (hc : ClosedP ts.length h) : ClosedP us.length (fh φ h) := by
  rcases closed_cases hc with ⟨m, rfl, hm⟩ | ⟨k, rfl, hk, h15⟩
  · rw [fh_def]; exact closed_def (E.lt hm)
  · rw [fh_giv h15]; exact closed_giv hk
theorem Emb.fh_inj (E : Emb φ ts us) {a b : Hp} (ha : ClosedP ts.length a) (hb : ClosedP ts.length b) (h : fh φ a = fh φ b) : a = b := by
  rcases closed_cases ha with ⟨m, rfl, hm⟩ | ⟨k, rfl, hk, h15⟩ <;> rcases closed_cases hb with ⟨m', rfl, hm'⟩ | ⟨k', rfl, hk', h15'⟩
  · rw [fh_def, fh_def] at h
    have h1 : φ m = φ m' := by simp at h; omega
    rw [E.inj m m' hm hm' h1]
  · rw [fh_def, fh_giv h15'] at h
    simp at h; omega
  · rw [fh_def, fh_giv h15] at h
    simp at h; omega
  · rw [fh_giv h15, fh_giv h15'] at h; exact h
theorem Emb.up (E : Emb φ ts us) {i j : Nat} (_ : i < ts.length) (h : UpTo ts i j) : UpTo us (φ i) (φ j) := by
  induction h with
  | refl => exact .refl
  | @step j k s hp h1 h2 h3 h4 ih =>
    obtain ⟨hk, h0, hn⟩ := (E.cl _ (List.mem_of_getElem? h2)).sups _ h3
    have e : hp = ⟨15, (k : Int)⟩ := by cases hp; simp_all
    refine ih.step (E.at_ j s h2) (h := fh φ hp) (List.mem_map.2 ⟨hp, h3, rfl⟩) ?_
    rw [e, fh_def]
theorem Emb.back (E : Emb φ ts us) {i q : Nat} (hi : i < ts.length) (h : UpTo us (φ i) q) : ∃ j, j < ts.length ∧ q = φ j ∧ UpTo ts i j := by
  generalize hp : φ i = p at h
  induction h with
  | refl => exact ⟨i, hi, hp.symm, .refl⟩
  | @step q r s h2 k1 k2 k3 k4 ih =>
    obtain ⟨j, hj, rfl, hu⟩ := ih
    have h1 := E.at_ j _ (List.getElem?_eq_getElem hj)
    rw [h1] at k2
    obtain rfl := Option.some.inj k2
    obtain ⟨x, hx, rfl⟩ := List.mem_map.1 k3
    obtain ⟨hk, h0, hn⟩ := (E.cl _ (List.getElem_mem hj)).sups _ hx
    obtain ⟨m, hm⟩ : ∃ m : Nat, x.n = m := ⟨x.n.toNat, by omega⟩
    have e : x = ⟨15, (m : Int)⟩ := by cases x; simp_all
    refine ⟨m, by omega, ?_, hu.step (List.getElem?_eq_getElem hj) hx hm⟩
    rw [e, fh_def] at k4
    simp at k4; omega
theorem Emb.heap (E : Emb φ ts us) {a b : Hp} (ha : ClosedP ts.length a) (hb : ClosedP ts.length b) : HeapP us (fh φ a) (fh φ b) ↔ HeapP ts a b := by
  have h1 := E.closed ha
  have h2 := E.closed hb
  have ku : ∀ {m : Nat} {s : Sb}, m < ts.length → us[φ m]? = some s → ∃ s', ts[m]? = some s' ∧ s'.k = s.k := fun {m s} hm hs => by
    have h := E.at_ m _ (List.getElem?_eq_getElem hm)
    rw [h] at hs
    obtain rfl := Option.some.inj hs
    exact ⟨_, List.getElem?_eq_getElem hm, rfl⟩
  constructor
  · rintro ⟨_, _, h | ⟨h, q, hq, hh⟩ | ⟨h, h', s, hs, hk⟩ | ⟨h, h', hk⟩⟩
    · exact ⟨ha, hb, .inl (E.fh_inj ha hb h)⟩
    · rw [fh_k] at h
      refine ⟨ha, hb, .inr (.inl ⟨h, ?_⟩)⟩
      rcases closed_cases ha with ⟨m, rfl, hm⟩ | ⟨k, rfl, hk, h15⟩
      · rw [fh_def] at hq
        obtain ⟨j, hj, rfl, hu⟩ := E.back hm (by simpa using hq)
        refine ⟨j, by simpa using hu, ?_⟩
        rcases hh with ⟨e1, e2⟩ | ⟨e1, s, hs, hk⟩
        · rcases closed_cases hb with ⟨m', rfl, hm'⟩ | ⟨k', rfl, hk', h15'⟩
          · rw [fh_def] at e2
            exact .inl ⟨rfl, by rw [E.inj m' j hm' hj (by simp at e2; omega)]⟩
          · rw [fh_giv h15'] at e1; exact absurd e1 h15'
        · rw [fh_k] at e1 hk
          obtain ⟨s', hs', e⟩ := ku hj hs
          exact .inr ⟨e1, s', hs', by rw [e]; exact hk⟩
      · exact absurd h h15
    · rw [fh_k] at h h' hk
      refine ⟨ha, hb, .inr (.inr (.inl ⟨h, h', ?_⟩))⟩
      rcases closed_cases hb with ⟨m', rfl, hm'⟩ | ⟨k', rfl, hk', h15'⟩
      · rw [fh_def] at hs
        obtain ⟨s', hs', e⟩ := ku hm' (by simpa using hs)
        exact ⟨s', by simpa using hs', by rw [e]; exact hk⟩
      · exact absurd h' h15'
    · rw [fh_k] at h
      rw [fh_k] at h'
      rw [fh_k, fh_k] at hk
      exact ⟨ha, hb, .inr (.inr (.inr ⟨h, h', hk⟩))⟩
  · rintro ⟨_, _, h | ⟨h, q, hq, hh⟩ | ⟨h, h', s, hs, hk⟩ | ⟨h, h', hk⟩⟩
    · exact ⟨h1, h2, .inl (by rw [h])⟩
    · refine ⟨h1, h2, .inr (.inl ⟨by rw [fh_k]; exact h, ?_⟩)⟩
      rcases closed_cases ha with ⟨m, rfl, hm⟩ | ⟨k, rfl, hk, h15⟩
      · have hq' : UpTo ts m q := by simpa using hq
        have hql := hq'.lt E.cl hm
        refine ⟨φ q, by rw [fh_def]; simpa using E.up hm hq', ?_⟩
        rcases hh with ⟨e1, e2⟩ | ⟨e1, s, hs, hk⟩
        · have e : b = ⟨15, (q : Int)⟩ := by cases b; simp_all
          rw [e, fh_def]; exact .inl ⟨rfl, rfl⟩
        · exact .inr ⟨by rw [fh_k]; exact e1, _, E.at_ q s hs, by rw [fh_k]; exact hk⟩
      · exact absurd h h15
    · refine ⟨h1, h2, .inr (.inr (.inl ⟨by rw [fh_k]; exact h, by rw [fh_k]; exact h', ?_⟩))⟩
      rcases closed_cases hb with ⟨m', rfl, hm'⟩ | ⟨k', rfl, hk', h15'⟩
      · rw [fh_def, fh_k]
        exact ⟨mapP (fh φ) s, by simpa using E.at_ m' s (by simpa using hs), hk⟩
      · exact absurd h' h15'
    · exact ⟨h1, h2, .inr (.inr (.inr ⟨by rw [fh_k]; exact h, by rw [fh_k]; exact h', by rw [fh_k, fh_k]; exact hk⟩))⟩
def CloV (n : Nat) (v : Vl) : Prop := WfV (fun h => GivenP h ∨ NumC n h) v
theorem vf_k (v : Vl) : (vf (fh φ) v).k = v.k := by unfold vf; split <;> rfl
theorem vf_nl (v : Vl) : (vf (fh φ) v).nl = v.nl := by unfold vf; split <;> rfl
theorem vf_hp {v : Vl} (h : v.k = 3) : (⟨(vf (fh φ) v).h, (vf (fh φ) v).n⟩ : Hp) = fh φ ⟨v.h, v.n⟩ := by unfold vf; rw [if_pos h]
theorem CloV.hp {n : Nat} {v : Vl} (h : CloV n v) (hk : v.k = 3) : ClosedP n ⟨v.h, v.n⟩ := by
  rcases h with ⟨h1, _⟩ | ⟨_, h1⟩
  · rcases h1 with h1 | h1 <;> omega
  · exact h1
theorem CloV.emb (E : Emb φ ts us) {v : Vl} (h : CloV ts.length v) : CloV us.length (vf (fh φ) v) := by
  refine WfV.map (fun y hy => ?_) h
  rcases E.closed (show ClosedP ts.length y from hy) with h1 | h1
  · exact .inl h1
  · exact .inr h1
theorem Emb.val (E : Emb φ ts us) {a b : Vl} (ha : CloV ts.length a) (hb : CloV ts.length b) : ValP us (vf (fh φ) a) (vf (fh φ) b) ↔ ValP ts a b := by
  have pa := WfV.proper ha; have pb := WfV.proper hb
  have pa' := WfV.proper (ha.emb E); have pb' := WfV.proper (hb.emb E)
  have hne : ∀ {n : Nat} {v : Vl}, CloV n v → ¬ NeverP v := fun {n v} hv hn => by
    have hk : v.k = 3 := by rw [hn]
    exact never_not hn (hv.hp hk)
  unfold ValP
  rw [vf_k, vf_k, vf_nl, vf_nl]
  constructor
  · rintro ⟨_, _, h | ⟨h, h' | h' | ⟨h', h2⟩⟩⟩
    · exact ⟨pa, pb, .inl h⟩
    · exact ⟨pa, pb, .inr ⟨h, .inl h'⟩⟩
    · exact absurd h' (hne (ha.emb E))
    · by_cases hk : a.k = 3
      · have hk' : b.k = 3 := by omega
        rw [vf_hp hk, vf_hp hk', E.heap (ha.hp hk) (hb.hp hk')] at h2
        exact ⟨pa, pb, .inr ⟨h, .inr (.inr ⟨h', h2⟩)⟩⟩
      · exact ⟨pa, pb, .inr ⟨h, .inl hk⟩⟩
  · rintro ⟨_, _, h | ⟨h, h' | h' | ⟨h', h2⟩⟩⟩
    · exact ⟨pa', pb', .inl h⟩
    · exact ⟨pa', pb', .inr ⟨h, .inl h'⟩⟩
    · exact absurd h' (hne ha)
    · by_cases hk : a.k = 3
      · have hk' : b.k = 3 := by omega
        refine ⟨pa', pb', .inr ⟨h, .inr (.inr ⟨h', ?_⟩)⟩⟩
        rw [vf_hp hk, vf_hp hk', E.heap (ha.hp hk) (hb.hp hk')]; exact h2
      · exact ⟨pa', pb', .inr ⟨h, .inl hk⟩⟩
theorem listP_map {α : Type} {R R' : α → α → Prop} {f : α → α} {l m : List α} (h : ∀ x ∈ l, ∀ y ∈ m, (R' (f x) (f y) ↔ R x y)) : ListP R' (l.map f) (m.map f) ↔ ListP R l m := by
  unfold ListP
  rw [List.length_map, List.length_map]
  refine and_congr_right fun _ => ⟨fun k i x y hx hy => ?_, fun k i x y hx hy => ?_⟩
  · exact (h x (List.mem_of_getElem? hx) y (List.mem_of_getElem? hy)).1 (k i _ _ (by rw [List.getElem?_map, hx]; rfl) (by rw [List.getElem?_map, hy]; rfl))
  · rw [List.getElem?_map] at hx hy
    obtain ⟨x', hx', rfl⟩ := Option.map_eq_some_iff.1 hx
    obtain ⟨y', hy', rfl⟩ := Option.map_eq_some_iff.1 hy
    exact (h x' (List.mem_of_getElem? hx') y' (List.mem_of_getElem? hy')).2 (k i _ _ hx' hy')
def CloF (n : Nat) (f : Fl) : Prop := WfF (fun h => GivenP h ∨ NumC n h) f
theorem CloF.val {n : Nat} {f : Fl} (h : CloF n f) : CloV n f.v := by
  rcases h with ⟨_, h⟩ | ⟨_, h⟩
  · exact h
  · exact .inl ⟨by rw [h]; exact .inl rfl, by rw [h]⟩
theorem Emb.field (E : Emb φ ts us) {a b : Fl} (ha : CloF ts.length a) (hb : CloF ts.length b) : FieldP us (ff (fh φ) a) (ff (fh φ) b) ↔ FieldP ts a b := by
  unfold FieldP StoreP ff
  dsimp only
  rw [E.val ha.val hb.val, E.val hb.val ha.val]
theorem Emb.fields (E : Emb φ ts us) {l m : List Fl} (hl : ∀ f ∈ l, CloF ts.length f) (hm : ∀ f ∈ m, CloF ts.length f) : FieldsP us (l.map (ff (fh φ))) (m.map (ff (fh φ))) ↔ FieldsP ts l m := by
  unfold FieldsP
  rw [List.length_map, List.length_map]
  refine and_congr_right fun _ => ⟨fun k i x y hx hy => ?_, fun k i x y hx hy => ?_⟩
  · exact (E.field (hl x (List.mem_of_getElem? hx)) (hm y (List.mem_of_getElem? hy))).1 (k i _ _ (by rw [List.getElem?_map, hx]; rfl) (by rw [List.getElem?_map, hy]; rfl))
  · rw [List.getElem?_map] at hx hy
    obtain ⟨x', hx', rfl⟩ := Option.map_eq_some_iff.1 hx
    obtain ⟨y', hy', rfl⟩ := Option.map_eq_some_iff.1 hy
    exact (E.field (hl x' (List.mem_of_getElem? hx')) (hm y' (List.mem_of_getElem? hy'))).2 (k i _ _ hx' hy')
theorem Emb.comp (E : Emb φ ts us) {a b : Sb} (ha : TypC ts.length a) (hb : TypC ts.length b) : CompP us (mapP (fh φ) a) (mapP (fh φ) b) ↔ CompP ts a b := by
  unfold CompP mapP
  dsimp only
  rw [listP_map (R := ValP ts) (f := vf (fh φ)) (fun x hx y hy => E.val (hb.ps x hx) (ha.ps y hy)), listP_map (R := ValP ts) (f := vf (fh φ)) (fun x hx y hy => E.val (ha.rs x hx) (hb.rs y hy)), E.fields ha.fs hb.fs, List.length_map, List.length_map]
end
section
open Go.RowKit
theorem addG_extD (gs : List (List Sb)) (ids : List Int) (g : List Sb) : ∃ tail, (addG gs ids g).2.2 = gs ++ tail := by
  unfold addG
  split
  · exact ⟨[], by simp⟩
  · split
    · exact ⟨[], by simp⟩
    · split
      · exact ⟨[], by simp⟩
      · split
        · exact ⟨[], by simp⟩
        · dsimp only
          unfold enterG
          cases findG gs (rollG ids g).1 with
          | some i => exact ⟨[], by simp⟩
          | none =>
            dsimp only
            split
            · exact ⟨[], by simp⟩
            · split
              · exact ⟨[], by simp⟩
              · exact ⟨_, rfl⟩
theorem tabL_extD (gs tail : List (List Sb)) : ∃ r, tabL (gs ++ tail) = tabL gs ++ r := by
  refine snocRec (P := fun tail => ∃ r, tabL (gs ++ tail) = tabL gs ++ r) ⟨[], by simp⟩ (fun tl g ih => ?_) tail
  obtain ⟨r, hr⟩ := ih
  rw [← List.append_assoc, tabL_snoc, hr]
  exact ⟨_, by rw [List.append_assoc]⟩
end
section
open Go.RowKit
structure GE (φ : Nat → Nat) (gs G : List (List Sb)) : Prop where
  c : TabC gs
  grp : ∀ (j : Nat) g, gs[j]? = some g → ∃ j' : Nat, G[j']? = some (g.map (mapP (fh φ))) ∧ ∀ k, k < g.length → φ (firstOf gs j + k) = firstOf G j' + k
  inj : ∀ i j, i < total gs → j < total gs → φ i = φ j → i = j
variable {φ ψ : Nat → Nat} {gs G : List (List Sb)}
def DN (n : Nat) (h : Hp) : Prop := GivenP h ∨ h.k = 14 ∨ (h.k = 15 ∧ 0 ≤ h.n ∧ h.n < n)
theorem numR_dn {first gl n : Nat} (h : first ≤ n) {y : Hp} (hy : NumR first gl y) : DN n y := by
  rcases hy with ⟨a, _⟩ | ⟨a, b, c⟩
  · exact .inr (.inl a)
  · exact .inr (.inr ⟨a, b, by omega⟩)
theorem TabC.dn (hc : TabC gs) {j : Nat} {g : List Sb} (hj : gs[j]? = some g) {x : Sb} (hx : x ∈ g) {n : Nat} (hn : firstOf gs j ≤ n) : DS (DN n) x :=
  (hc.ex j g hj x hx).ds (fun _ hy => numR_dn hn hy) (fun _ hy => hy.elim .inl (numR_dn hn))
theorem GE.emb (E : GE φ gs G) : Emb φ (tabL gs) (tabL G) := by
  refine ⟨fun i y hy => ?_, fun i j hi hj h => E.inj i j (by rw [tabL_len] at hi; exact hi) (by rw [tabL_len] at hj; exact hj) h, E.c.clo⟩
  obtain ⟨j, k, g, x, h1, _, _, h4, h5, rfl⟩ := tabL_loc hy
  obtain ⟨j', k1, k2⟩ := E.grp j g h1
  have hk := (List.getElem?_eq_some_iff.1 h5).1
  have h6 := tabL_at k1 (k := k) (x := mapP (fh φ) x) (by rw [List.getElem?_map, h5]; rfl)
  rw [h4, k2 k hk, h6, mapP_comp, mapP_comp]
  congr 1
  refine mapP_congr (D := fun h => GivenP h ∨ NumR (firstOf gs j) g.length h) (fun y hy => ?_) ((E.c.ex j g h1 x (List.mem_of_getElem? h5)).ds (fun _ q => .inr q) (fun _ q => q))
  rcases hy with ⟨a, b, c⟩ | ⟨a, b, c⟩ | ⟨a, b, c⟩
  · have e1 : y.k ≠ 15 := by omega
    have e2 : unroll (firstOf gs j) y = y := unroll_given ⟨a, b, c⟩
    rw [fh_giv e1, e2, fh_giv e1]
    exact unroll_given ⟨a, b, c⟩
  · obtain ⟨yk, yn⟩ := y
    dsimp only at a b c
    subst a
    obtain ⟨m, rfl⟩ : ∃ m : Nat, yn = m := ⟨yn.toNat, by omega⟩
    rw [fh_giv (by simp)]
    have e1 : unroll (firstOf gs j : Int) ⟨14, (m : Int)⟩ = ⟨15, ((firstOf gs j + m : Nat) : Int)⟩ := by simp [unroll]
    have e2 : unroll (firstOf G j' : Int) ⟨14, (m : Int)⟩ = ⟨15, ((firstOf G j' + m : Nat) : Int)⟩ := by simp [unroll]
    rw [e1, e2, fh_def, k2 m (by omega)]
  · obtain ⟨yk, yn⟩ := y
    dsimp only at a b c
    subst a
    have e1 : unroll (firstOf gs j : Int) ⟨15, yn⟩ = ⟨15, yn⟩ := by simp [unroll]
    rw [e1]
    have e2 : fh φ ⟨15, yn⟩ = ⟨15, (φ yn.toNat : Int)⟩ := by simp [fh]
    rw [e2]; simp [unroll]
theorem findG_at {G : List (List Sb)} {r : List Sb} {i : Nat} (h : findG G r = some i) : G[i]? = some r := by
  obtain ⟨hlt, hx, _⟩ := List.findIdx?_eq_some_iff_getElem.1 h
  rw [List.getElem?_eq_getElem hlt]; simpa using hx
theorem enterG_some {G : List (List Sb)} {r : List Sb} {i : Nat} (h : findG G r = some i) : enterG G r = ((firstOf G i : Int), 0, G) := by unfold enterG; rw [h]
theorem enterG_new {G : List (List Sb)} {r : List Sb} (h : findG G r = none) (hr : r ≠ []) (ht : total G + r.length ≤ 10000) : enterG G r = ((total G : Int), 0, G ++ [r]) := by
  unfold enterG; rw [h]; dsimp only; rw [if_neg (by omega), if_neg hr]
theorem enterG_place {G : List (List Sb)} {r : List Sb} (hr : r ≠ []) (ht : total G + r.length ≤ 10000) : ∃ (G' : List (List Sb)) (j b : Nat), enterG G r = ((b : Int), 0, G') ∧ G'[j]? = some r ∧ firstOf G' j = b ∧ ∀ (i : Nat) g, G[i]? = some g → G'[i]? = some g ∧ firstOf G' i = firstOf G i := by
  cases hf2 : findG G r with
  | some j2 => exact ⟨G, j2, _, enterG_some hf2, findG_at hf2, rfl, fun i g h => ⟨h, rfl⟩⟩
  | none =>
    refine ⟨_, G.length, _, enterG_new hf2 hr ht, by simp, by rw [firstOf_snoc (Nat.le_refl _), firstOf_len], fun i g h => ?_⟩
    have hi := (List.getElem?_eq_some_iff.1 h).1
    exact ⟨by rw [List.getElem?_append_left hi]; exact h, firstOf_snoc (by omega)⟩
end
section
open Go.RowKit
def superD (s : Sb) : Option Int := match s.sups with
  | [] => none
  | h :: _ => some (if h.k = 13 then h.n else -1)
def standsD (types : List Sb) (s : Sb) (n : Nat) : Int :=
  if 1 < s.sups.length then 110 else match superD s with
    | none => 0
    | some a => if a < 0 ∨ (n : Int) ≤ a then 121 else match types[a.toNat]? with
      | none => 0
      | some u => if u.fin = true then 122 else if u.k ≠ s.k then 123 else 0
noncomputable def matchesD (ts : List Sb) (ids depths : List Int) (s : Sb) (n : Nat) : Int × List Int := by
  classical exact match superD s with
    | none => (0, depths ++ [0])
    | some a => match ts[(ids.getD n 0).toNat]?, ts[(ids.getD a.toNat 0).toNat]? with
      | some lo, some up => if ¬ CompP ts lo up then (123, depths) else if 63 < depths.getD a.toNat 0 + 1 then (111, depths) else (0, depths ++ [depths.getD a.toNat 0 + 1])
      | _, _ => (120, depths)
def standAll (types : List Sb) : List Sb → Nat → Int × Nat
  | [], _ => (0, 0)
  | s :: l, n => if standsD types s n ≠ 0 then (standsD types s n, n) else standAll types l (n + 1)
noncomputable def matchAll (ts : List Sb) (ids : List Int) : List Sb → Nat → List Int → Int × Nat × List Int
  | [], _, ds => (0, 0, ds)
  | s :: l, n, ds => if (matchesD ts ids ds s n).1 ≠ 0 then ((matchesD ts ids ds s n).1, n, (matchesD ts ids ds s n).2) else matchAll ts ids l (n + 1) (matchesD ts ids ds s n).2
structure DcS where
  ids : List Int
  types : List Sb
  depths : List Int
  gs : List (List Sb)
noncomputable def addD (d : DcS) (g : List Sb) : Int × Nat × DcS :=
  let A := addG d.gs d.ids g
  if A.2.1 ≠ 0 then ((if A.2.1 = 5 then 5 else 120), d.ids.length, { d with gs := A.2.2 })
  else
    let d' : DcS := ⟨A.1, d.types ++ g, d.depths, A.2.2⟩
    if (standAll d'.types g d.ids.length).1 ≠ 0 then ((standAll d'.types g d.ids.length).1, (standAll d'.types g d.ids.length).2, d')
    else
      let M := matchAll (tabL A.2.2) A.1 g d.ids.length d.depths
      (M.1, (if M.1 ≠ 0 then M.2.1 else 0), { d' with depths := M.2.2 })
noncomputable def checkD : DcS → List (List Sb) → Int × Nat × DcS
  | d, [] => (0, 0, d)
  | d, g :: l => if (addD d g).1 ≠ 0 then addD d g else checkD (addD d g).2.2 l
theorem addD_ok {d : DcS} {g : List Sb} (h : (addD d g).1 = 0) : (addG d.gs d.ids g).2.1 = 0 ∧ (addD d g).2.2.ids = (addG d.gs d.ids g).1 ∧ (addD d g).2.2.types = d.types ++ g ∧ (addD d g).2.2.gs = (addG d.gs d.ids g).2.2 := by
  unfold addD at h ⊢
  dsimp only at h ⊢
  by_cases h1 : (addG d.gs d.ids g).2.1 ≠ 0
  · rw [if_pos h1] at h
    split at h <;> simp at h
  · rw [if_neg h1] at h ⊢
    refine ⟨by simpa using h1, ?_⟩
    split
    · rename_i h2; rw [if_pos h2] at h; exact absurd h h2
    · exact ⟨rfl, rfl, rfl⟩
theorem addG_pre {gs : List (List Sb)} {ids : List Int} {g : List Sb} (h : (addG gs ids g).2.1 = 0) : ∃ r, (addG gs ids g).1 = ids ++ r ∧ r.length = g.length := by
  unfold addG at h ⊢
  repeat' split at h
  all_goals simp at h
  all_goals simp_all
end
section
open Go.RowKit
variable {φ ψ : Nat → Nat} {gs G : List (List Sb)} {d e : DcS}
theorem standsD_sup {types : List Sb} {s : Sb} {n : Nat} (h : standsD types s n = 0) : ∀ a, superD s = some a → 0 ≤ a ∧ a < n := fun a ha => by
  unfold standsD at h
  split at h
  · cases h
  · rw [ha] at h
    dsimp only at h
    split at h
    · cases h
    · omega
theorem standAll_zero {types : List Sb} : ∀ (l : List Sb) (n : Nat), (standAll types l n).1 = 0 → ∀ (k : Nat) s, l[k]? = some s → standsD types s (n + k) = 0
  | [], _, _ => fun k s h => by simp at h
  | x :: l, n, h => fun k s hk => by
    rw [standAll] at h
    by_cases h1 : standsD types x n ≠ 0
    · rw [if_pos h1] at h; exact absurd h h1
    · rw [if_neg h1] at h
      cases k with
      | zero => obtain rfl : x = s := by simpa using hk
                simpa using h1
      | succ k =>
        have h2 := standAll_zero l (n + 1) h k s (by simpa using hk)
        rw [show n + 1 + k = n + (k + 1) by omega] at h2
        exact h2
theorem tab_at {ids : List Int} (hin : ∀ i ∈ ids, inTab gs i = true) {n : Nat} (hn : n < ids.length) : ∃ (m : Nat) (y : Sb), ids.getD n 0 = (m : Int) ∧ m < total gs ∧ (tabL gs)[m]? = some y := by
  have h1 := hin (ids[n]) (List.getElem_mem hn)
  simp [inTab] at h1
  refine ⟨(ids[n]).toNat, (tabL gs)[(ids[n]).toNat]'(by rw [tabL_len]; omega), ?_, by omega, by simp⟩
  rw [List.getD_eq_getElem?_getD, List.getElem?_eq_getElem hn]
  simp; omega
end
section
open Go.RowKit
theorem firstOf_app {gs tail : List (List Sb)} {j : Nat} (h : j ≤ gs.length) : firstOf (gs ++ tail) j = firstOf gs j := by
  unfold firstOf; rw [List.take_append_of_le_length h]
theorem fh_id {n : Nat} {y : Hp} (h : DN n y) : fh (fun i => i) y = y := by
  obtain ⟨yk, yn⟩ := y
  rcases h with ⟨a, b, c⟩ | a | ⟨a, b, c⟩
  · exact fh_giv (by omega)
  · exact fh_giv (by omega)
  · dsimp only at a b c
    subst a
    simp [fh]; omega
theorem ge_id {gs : List (List Sb)} (tail : List (List Sb)) (hc : TabC gs) : GE (fun i => i) gs (gs ++ tail) := by
  refine ⟨hc, fun j g hj => ⟨j, ?_, fun k _ => ?_⟩, fun i j _ _ h => h⟩
  · have hlt := (List.getElem?_eq_some_iff.1 hj).1
    rw [List.getElem?_append_left hlt, hj]
    congr 1
    refine (List.map_id g).symm.trans (List.map_congr_left fun x hx => ?_)
    exact (mapP_id (D := DN (firstOf gs j)) (fun y hy => fh_id hy) (hc.dn hj hx (Nat.le_refl _))).symm
  · rw [firstOf_app (by have := (List.getElem?_eq_some_iff.1 hj).1; omega)]
theorem addD_eq {d : DcS} {g : List Sb} {is : List Int} {gs' : List (List Sb)} {M : Int × Nat × List Int} (h : addG d.gs d.ids g = (is, 0, gs')) (hs : (standAll (d.types ++ g) g d.ids.length).1 = 0) (hm : matchAll (tabL gs') is g d.ids.length d.depths = M) :
    addD d g = (M.1, (if M.1 ≠ 0 then M.2.1 else 0), ⟨is, d.types ++ g, M.2.2, gs'⟩) := by
  unfold addD
  rw [h]
  dsimp only
  rw [if_neg (by simp), if_neg (fun q => q hs), hm]
end
section
open Go.RowKit
section
variable {ts : List Sb} {L : List (List Nat)}
theorem getD_some {α : Type} {l : List α} {i : Nat} {x d : α} (h : l[i]? = some x) : l.getD i d = x := by rw [List.getD_eq_getElem?_getD, h]; rfl
end
end
end Go.Proofs.YtpddbaijnjbfdaaGreatDoor
