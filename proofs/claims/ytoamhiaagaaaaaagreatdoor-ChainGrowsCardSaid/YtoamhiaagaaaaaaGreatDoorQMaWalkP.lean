/- geoderef09: Get. -/
import Derived.Test.YtoamhiaagaaaaaaGreatDoorQRfTabP
import Derived.Test.YtoamhiaagaaaaaaGreatDoorQRfRollP
import Derived.Test.YtoamhiaagaaaaaaGreatDoorQMaTabP
import Derived.Test.YtoamhiaagaaaaaaGreatDoorQRfAdd
import Derived.Test.YtoamhiaagaaaaaaGreatDoorQRoKnP
import Derived.Test.YtoamhiaagaaaaaaGreatDoorQKdRowsP
namespace Go.Proofs.YtoamhiaagaaaaaaGreatDoor
open Go.RowKit

/-- The row of heap types, unrolled up to k. -/
structure RolU (f : Hp → Hp) (L : List Hp) (wB : World) (v : Value) (n k : Nat) (W : World) : Prop where
  le : k ≤ n
  own : W.ownsRow wB.heap.size 26 2 v n (flatH (part f L k))
  be : Below wB.heap.size wB W
def emptyC : List Value := [.bool false, .slice none 0 0, .int .i64 0, .slice none 0 0, .slice none 0 0, .slice none 0 0]
/-- What the reference's Get tells. -/
def GetP (w : World) (rs : List (List Sb)) (id : Int) (e : Ending) (w' : World) : Prop :=
  (∃ (m : Nat) (y : Sb) (cs : List Value), id = (m : Int) ∧ (tabL rs)[m]? = some y ∧ e = .returned (.tuple #[.agg cs.toArray, .int .i64 0]) ∧ cs.length = 6 ∧ ∀ w'', Upd (fun b => b < w.heap.size) w' w'' → SubAt w'' cs y) ∨ (inTab rs id = false ∧ e = .returned (.tuple #[.agg emptyC.toArray, .int .i64 4]))
set_option maxRecDepth 100000 in
set_option maxHeartbeats 16000000 in
theorem rGet_any {R : Nat → Prop} {w : World} {t : Nat} {rs : List (List Sb)} (ht : RefAt R w t rs) (htot : total rs ≤ 10000) (hl : rs.length ≤ 1000000) (hd : ∀ g ∈ rs, ∀ x ∈ g, DS DRec x ∧ cnt x ≤ 1000000) (id : Int) :
    Calls Tryz.prog 53 #[.pointer (some ⟨t, 0, none⟩), .int .i64 id] w fun e w' => GetP w rs id e w' ∧ Below w.heap.size w w' := by
  obtain ⟨W0, hW⟩ : ∃ W0 : World, W0 = w.alloc (.cells #[.bool false, .slice none 0 0, .int .i64 0, .slice none 0 0, .slice none 0 0, .slice none 0 0] 48) := ⟨_, rfl⟩
  have hB : Below w.heap.size w W0 := by rw [hW]; exact (Below.refl _ _).alloc (Nat.le_refl _) _
  have z0 : W0.heap[w.heap.size]? = some (.cells #[.bool false, .slice none 0 0, .int .i64 0, .slice none 0 0, .slice none 0 0, .slice none 0 0] 48 (0, 0)) := by rw [hW]; exact heap_alloc_at _ _ rfl
  have HW := Lib.hid hW; have HB := Lib.hid hB; have Z0 := Lib.hid (fun (W : World) (h : Below W0.heap.size W0 W) => (h.block _ (heap_lt z0)).trans z0)
  replace ht := ht.below hB
  clear hW hB z0
  obtain ⟨a, c, ht1, ht2⟩ := ht.grps
  have hc : ∀ x : Ext W0, x.val.cell? ⟨t, 0, none⟩ = some (.slice a rs.length c) := Ext.cells (heap_cell ht1 0)
  have HC := Lib.hid hc
  have H2 := Lib.hid (ht2 W0 (Upd.refl _ _))
  have HF := Lib.hid (rFind_any ht htot hl id)
  have HL := Lib.hid hl; have HTOT := Lib.hid htot; have HD := Lib.hid hd
  clear ht ht1 ht2 htot hc hl hd
  go_enter Tryz.func53, Tryz.ntmps53
  go_wp2_with fail
  rw [← HW.out]
  refine HF.out.mono ?_
  rintro e w1 ⟨i, first, k, rfl, hp, hb1⟩
  have HB1 := Lib.hid hb1
  clear HF
  rcases hp with ⟨j, m, g, hg, hm, hid, rfl, rfl, rfl⟩ | ⟨hno, rfl, rfl, rfl⟩
  · obtain ⟨x, hx⟩ : ∃ x, g[m]? = some x := ⟨g[m], by simp [hm]⟩
    have hc1 : w1.cell? ⟨t, 0, none⟩ = some (.slice a rs.length c) := HC.out ⟨w1, hb1⟩
    obtain ⟨b, off, a1, c1, rfl, q0, hgr⟩ := GrpsAt.at (H2.out.below hb1 (Nat.le_refl _)) hg
    obtain ⟨b2, o2, rfl, hb2, d1, f1, d2, f2, d3, f3, d4, f4, sb, p0, p1, p2, p3, p4, p5⟩ := hgr.at hx
    have hjl : j < rs.length := (List.getElem?_eq_some_iff.1 hg).1
    have hfa := firstOf_add hg
    have hdx := HD.out g (List.mem_of_getElem? hg) x (List.mem_of_getElem? hx)
    have htl := tabL_at hg hx
    obtain ⟨F, hF⟩ : ∃ F, firstOf rs j = F := ⟨_, rfl⟩
    rw [hF] at htl hid hfa
    have hF6 : (F : Int) ≤ 10000 := by have := HTOT.out; omega
    obtain ⟨n0, hn0⟩ : ∃ n, rs.length = n := ⟨_, rfl⟩
    obtain ⟨n1, hn1⟩ : ∃ n, g.length = n := ⟨_, rfl⟩
    rw [hn0] at hc1 hjl
    rw [hn1] at q0 hm
    have hj' : (j : Int) < n0 := by omega
    have hm' : (m : Int) < n1 := by omega
    have hj6 : (j : Int) < 1000000 := by have := HL.out; omega
    have hm6 : (m : Int) < 1000000 := by have := HTOT.out; omega
    have HF6 := Lib.hid hF6
    clear hj6 hm6 hF6
    have HID := Lib.hid hid; have HTL := Lib.hid htl; have HDX := Lib.hid hdx; have SB := Lib.hid sb; have HHF := Lib.hid hF
    rw [hF]
    clear hid htl hdx sb hF hg hx hfa hn0 hn1 hm hjl hb1 hb2
    obtain ⟨W1, hW1⟩ : ∃ W1 : World, W1 = w1.alloc (.cells #[.bool x.fin, .slice d1 x.sups.length f1, .int .i64 x.k, .slice d2 x.ps.length f2, .slice d3 x.rs.length f3, .slice d4 x.fs.length f4] 48) := ⟨_, rfl⟩
    have hbW1 : Below w1.heap.size w1 W1 := by rw [hW1]; exact (Below.refl _ _).alloc (Nat.le_refl _) _
    have zs : W1.heap[w1.heap.size]? = some (.cells #[.bool x.fin, .slice d1 x.sups.length f1, .int .i64 x.k, .slice d2 x.ps.length f2, .slice d3 x.rs.length f3, .slice d4 x.fs.length f4] 48 (0, 0)) := by rw [hW1]; exact heap_alloc_at _ _ rfl
    have ZS := Lib.hid (fun z : Ext W1 => And.intro (Ext.cells (heap_cell zs 0) z) (And.intro (Ext.cells (heap_cell zs 1) z) (And.intro (Ext.cells (heap_cell zs 2) z) (And.intro (Ext.cells (heap_cell zs 3) z) (And.intro (Ext.cells (heap_cell zs 4) z) (Ext.cells (heap_cell zs 5) z))))))
    have SB1 := Lib.hid (SB.out.below hbW1 (Nat.le_refl _))
    have HB1' := Lib.hid (HB1.out.trans (hbW1.mono HB1.out.size)); have HW1 := Lib.hid hW1
    clear hbW1 zs hW1
    have C := rHeaps_any _ x W1 SB1.out HDX.out.2
    have HC2 := Lib.hid C
    clear C
    go_wp2_with fail
    rw [← HW1.out]
    refine HC2.out.mono ?_
    rintro e wC ⟨u9, rfl, ow, hbC⟩
    obtain ⟨L, hL⟩ : ∃ L, heapsR x = L := ⟨_, rfl⟩
    obtain ⟨n, hn⟩ : ∃ n, L.length = n := ⟨_, rfl⟩
    rw [hL, hn] at ow
    obtain ⟨a9, c9, e9⟩ := RowAt.form (RowAt.of_own ow)
    subst e9
    have hdh : ∀ h ∈ L, DRec h := by rw [← hL]; exact ds_heaps.1 HDX.out.1
    have hn6 : n ≤ 1000000 := by rw [← hn, ← hL]; exact Nat.le_trans (heapsR_len x) HDX.out.2
    have HHL := Lib.hid hL; have HN := Lib.hid hn; have HDH := Lib.hid hdh; have HN6 := Lib.hid hn6; have OW0 := Lib.hid ow; have HBC := Lib.hid hbC
    clear hL hn hdh hn6 ow hbC HC2 hc1 q0 p0 p1 p2 p3 p4 p5
    go_wp2
    go_loopw [11] (fun t10 wz => ∃ k : Nat, t10 = .int .i64 k ∧ RolU (unroll (F : Int)) L W1 (.slice a9 n c9) n k wz) (fun t10 _ => n - (intOf t10).toNat)
    case atStart => exact ⟨0, rfl, Nat.zero_le _, by rw [part_zero]; exact OW0.out, HBC.out⟩
    case round =>
      obtain ⟨k, rfl, hk, ow, hbz⟩ := hrel
      have HBZ := Lib.hid hbz
      clear hbz
      by_cases hlk : k < n
      · obtain ⟨y, hy⟩ : ∃ y, L[k]? = some y := ⟨L[k]'(by rw [HN.out]; exact hlk), by simp⟩
        obtain ⟨yk, yn⟩ := y
        obtain ⟨g9, e9, hg9⟩ := own_form ow hlk
        subst e9
        have hpa := part_at (f := unroll (F : Int)) hy
        have HP : HpsAt wr (.slice (some ⟨g9, 0, none⟩) (part (unroll (F : Int)) L k).length c9) (part (unroll (F : Int)) L k) := by unfold HpsAt; rw [part_len, HN.out]; exact RowAt.of_own ow
        obtain ⟨b, off, e, _, p0, p1⟩ := hps_at HP hpa
        simp at e
        obtain ⟨rfl, rfl⟩ := e
        rw [Nat.zero_add] at p0 p1
        dsimp only at p0 p1
        have hlk' : (k : Int) < n := by omega
        have hk6 : (k : Int) < 1000000 := by have := HN6.out; omega
        have HY := Lib.hid hy; have OW := Lib.hid ow; have HLK := Lib.hid hlk; have HG9 := Lib.hid hg9
        clear HP hpa ow hk hg9
        by_cases h14 : yk = 14
        · subst h14
          obtain ⟨hn0, hn1⟩ := HDH.out _ (List.mem_of_getElem? hy) rfl
          dsimp only at hn0 hn1
          clear hy hlk
          have hsh : unroll (F : Int) ⟨14, yn⟩ = ⟨15, (F : Int) + yn⟩ := by unfold unroll; rw [if_pos rfl]
          have HSH := Lib.hid hsh
          clear hsh
          have hF6 := HF6.out
          have f0 : wr.frozen? ⟨g9, k * 2, none⟩ = false := OW.out.frozenAt _
          have f1 : wr.frozen? ⟨g9, k * 2 + 1, none⟩ = false := OW.out.frozenAt _
          go_wp2
          go_roundw
          case rel =>
            obtain ⟨o9, gr9⟩ := own_set2 (i := k) (y0 := .int .i64 15) (y1 := .int .i64 ((F : Int) + yn)) OW.out
            exact ⟨k + 1, by go_num, HLK.out, by rw [part_succ HY.out, HSH.out, flatH_set]; exact o9, HBZ.out.grown gr9 HBZ.out.size (fun q hq => by cases hq; exact HG9.out)⟩
          case measure => have := HLK.out; simp [intOf]; omega
        · have h14' : (yk == 14) = false := by simpa using h14
          have hsh : unroll (F : Int) ⟨yk, yn⟩ = ⟨yk, yn⟩ := by unfold unroll; simp [h14]
          have HSH := Lib.hid hsh
          clear hsh hy hlk h14
          go_wp2
          go_roundw
          case rel => exact ⟨k + 1, by go_num, HLK.out, by rw [part_same HY.out HSH.out]; exact OW.out, HBZ.out⟩
          case measure => have := HLK.out; simp [intOf]; omega
      · obtain rfl : k = n := by omega
        have hlk' : ¬ (k : Int) < k := by omega
        have hfull : part (unroll (F : Int)) L k = L.map (unroll (F : Int)) := part_full (by rw [HN.out]; exact Nat.le_refl _)
        rw [hfull] at ow
        have C := rWith_any (unroll (F : Int)) _ x (.slice a9 k c9) wr (SB1.out.below HBZ.out (Nat.le_refl _)) (by rw [HHL.out]; unfold HpsAt; rw [List.length_map, HN.out]; exact RowAt.of_own ow) HDX.out.2
        have HC2 := Lib.hid C
        clear C ow hfull hlk hk
        obtain ⟨s0, s1, s2, s3, s4, s5⟩ := ZS.out ⟨wr, HBZ.out⟩
        dsimp only at s0 s1 s2 s3 s4 s5
        go_wp2_with fail
        refine HC2.out.mono ?_
        rintro e w2 ⟨ds, rfl, hd6, hsub, hb2⟩
        have hbb := HB1'.out.trans ((HBZ.out.trans (hb2.mono HBZ.out.size)).mono HB1'.out.size)
        have hz : w.heap.size < wr.heap.size := by have h1 := HB1'.out.size; have h2 := HBZ.out.size; have h3 := heap_lt (Z0.out W0 (Below.refl _ _)); omega
        obtain ⟨x2, hx2⟩ : ∃ x2, mapP (unroll (F : Int)) x = x2 := ⟨_, rfl⟩
        rw [hx2] at hsub
        rw [hx2] at HTL
        obtain ⟨vs, vp, vr, vf, rfl, k1, k2, k3, k4⟩ := (hsub w2 (Upd.refl _ _)).ex
        obtain ⟨a5, c5, rfl⟩ := RowAt.form k1
        obtain ⟨a6, c6, rfl⟩ := RowAt.form k2
        obtain ⟨a7, c7, rfl⟩ := RowAt.form k3
        obtain ⟨a8, c8, rfl⟩ := RowAt.form k4
        have y1 := Z0.out w2 hbb
        have f1 := fun i => heap_frozen y1 i
        have u0 := heap_cell y1 0; have u1 := heap_cell y1 1; have u2 := heap_cell y1 2; have u3 := heap_cell y1 3; have u4 := heap_cell y1 4; have u5 := heap_cell y1 5
        simp at u0 u1 u2 u3 u4 u5
        have HSUB := Lib.hid hsub; have HBB := Lib.hid (HB.out.trans (hbb.mono HB.out.size)); have HZ := Lib.hid hz
        clear hsub hbb hz hx2 k1 k2 k3 k4 y1 hb2 HC2 hd6
        go_wp2
        refine bodyPost_ret (v := .tuple #[.agg #[.bool x2.fin, .slice a5 x2.sups.length c5, .int .i64 x2.k, .slice a6 x2.ps.length c6, .slice a7 x2.rs.length c7, .slice a8 x2.fs.length c8], .int .i64 0]) (by simp [results, Tryz.results53, go_sem, u0, u1, u2, u3, u4, u5]) rfl ?_
        refine ⟨.inl ⟨F + m, _, _, HID.out, HTL.out, rfl, rfl, fun w'' hu => HSUB.out w'' ?_⟩, (((((HBB.out.setCell (by simp) _).setCell (by simp) _).setCell (by simp) _).setCell (by simp) _).setCell (by simp) _).setCell (by simp) _⟩
        have hz := HZ.out
        have u0 : Upd (fun b => b < wr.heap.size) w2 w2 := Upd.refl _ _
        exact ((((((u0.setCell (.inl hz) _).setCell (.inl hz) _).setCell (.inl hz) _).setCell (.inl hz) _).setCell (.inl hz) _).setCell (.inl hz) _).trans' (hu.mono fun b _ hb => by omega)
  · have HNO := Lib.hid hno
    clear hno
    have y1 := Z0.out w1 HB1.out
    have f1 := fun i => heap_frozen y1 i
    have c0 := heap_cell y1 0; have c1 := heap_cell y1 1; have c2 := heap_cell y1 2; have c3 := heap_cell y1 3; have c4 := heap_cell y1 4; have c5 := heap_cell y1 5
    simp at c0 c1 c2 c3 c4 c5
    clear y1 hb1
    go_wp2
    refine bodyPost_ret (v := .tuple #[.agg emptyC.toArray, .int .i64 4]) (by simp [results, Tryz.results53, go_sem, c0, c1, c2, c3, c4, c5]; rfl) rfl ?_
    exact ⟨.inr ⟨HNO.out, rfl⟩, ((((((HB.out.trans (HB1.out.mono HB.out.size)).setCell (by simp) _).setCell (by simp) _).setCell (by simp) _).setCell (by simp) _).setCell (by simp) _).setCell (by simp) _⟩
end Go.Proofs.YtoamhiaagaaaaaaGreatDoor

/- geoderef09: the reference's table beside package roll's: what its calls tell. -/
namespace Go.Proofs.YtoamhiaagaaaaaaGreatDoor
open Go.RowKit Go.Maps Go.WideMaps

/-- A table of the reference that stands as the groups gs; at most n groups were added. -/
structure RefK (R : Nat → Prop) (w : World) (t n : Nat) (gs : List (List Sb)) : Prop where
  ex : ∃ rs, RefAt R w t rs ∧ RefOk gs rs ∧ rs.length ≤ n
variable {R : Nat → Prop} {w w' : World} {t n : Nat} {gs : List (List Sb)}
theorem RefK.keep (h : RefK R w t n gs) (u : Upd (fun b => ¬ R b ∧ b ≠ t) w w') : RefK R w' t n gs := by
  obtain ⟨rs, h1, h2, h3⟩ := h.ex
  exact ⟨rs, h1.keep u, h2, h3⟩
theorem RefK.below (h : RefK R w t n gs) (u : Below w.heap.size w w') : RefK R w' t n gs := h.keep ((Upd.of_below u : Upd (fun _ => False) w w').mono fun _ _ q => q.elim)
theorem RefK.tlt (h : RefK R w t n gs) : t < w.heap.size := by obtain ⟨rs, h1, _⟩ := h.ex; exact h1.tlt
theorem RefK.rt (h : RefK R w t n gs) : ¬ R t := by obtain ⟨rs, h1, _⟩ := h.ex; exact h1.rt
theorem RefK.lt (h : RefK R w t n gs) : ∀ k, R k → k < w.heap.size := by obtain ⟨rs, h1, _⟩ := h.ex; exact h1.lt
theorem refK_new (h : w.heap[t]? = some (.cells #[.slice none 0 0] 35 (0, 0))) : RefK (fun _ => False) w t 0 [] :=
  ⟨[], ⟨⟨none, 0, [], h, rfl, fun w'' _ => RowAt.nil w'' 1, fun i v g hv => by simp at hv⟩, fun q => q, fun _ q => q.elim⟩, rfl, Nat.le_refl _⟩
theorem refOk_sm {rs : List (List Sb)} (h : RefOk gs rs) (ok : TabOk gs) : ∀ g ∈ rs, ∀ x ∈ g, cnt x ≤ 1000000 := fun g hg x hx => by
  rcases h.mem hg with rfl | hg
  · cases hx
  · exact ((ok.good g hg).sm x hx).cnt
theorem refOk_drec {rs : List (List Sb)} (h : RefOk gs rs) (ok : TabOk gs) (hc : TabC gs) : ∀ g ∈ rs, ∀ x ∈ g, DS DRec x ∧ cnt x ≤ 1000000 := fun g hg x hx => by
  refine ⟨?_, refOk_sm h ok g hg x hx⟩
  rcases h.mem hg with rfl | hg
  · cases hx
  · obtain ⟨j, hj⟩ := List.getElem?_of_mem hg
    exact hc.drec ok.total hj hx
theorem kLen_dr (h : RefK R w t n gs) (ok : TabOk gs) (hn : n ≤ 1000000) : Calls Tryz.prog 13 #[.pointer (some ⟨t, 0, none⟩)] w fun e w' => e = .returned (.int .i64 (total gs)) ∧ ∃ m, w' = w.drewN m := by
  obtain ⟨rs, h1, h2, h3⟩ := h.ex
  rw [← h2.total]
  exact rLen_dr h1 (by rw [h2.total]; exact ok.total) (Nat.le_trans h3 hn)
/-- What the reference's Get tells. -/
def KGet (w : World) (gs : List (List Sb)) (id : Int) (e : Ending) (w' : World) : Prop :=
  ((∃ (m : Nat) (y : Sb) (cs : List Value), id = (m : Int) ∧ (tabL gs)[m]? = some y ∧ e = .returned (.tuple #[.agg cs.toArray, .int .i64 0]) ∧ cs.length = 6 ∧ ∀ w'', Upd (fun b => b < w.heap.size) w' w'' → SubAt w'' cs y) ∨ (inTab gs id = false ∧ e = .returned (.tuple #[.agg emptyC.toArray, .int .i64 4]))) ∧ Below w.heap.size w w'
theorem kGet_any (h : RefK R w t n gs) (ok : TabOk gs) (hc : TabC gs) (hn : n ≤ 1000000) (id : Int) : Calls Tryz.prog 53 #[.pointer (some ⟨t, 0, none⟩), .int .i64 id] w (KGet w gs id) := by
  obtain ⟨rs, h1, h2, h3⟩ := h.ex
  have e1 : GetP w rs id = fun e w' => (∃ (m : Nat) (y : Sb) (cs : List Value), id = (m : Int) ∧ (tabL gs)[m]? = some y ∧ e = .returned (.tuple #[.agg cs.toArray, .int .i64 0]) ∧ cs.length = 6 ∧ ∀ w'', Upd (fun b => b < w.heap.size) w' w'' → SubAt w'' cs y) ∨ (inTab gs id = false ∧ e = .returned (.tuple #[.agg emptyC.toArray, .int .i64 4])) := by
    funext e w'; unfold GetP; rw [h2.tabL, h2.inTab]
  have C := rGet_any h1 (by rw [h2.total]; exact ok.total) (Nat.le_trans h3 hn) (refOk_drec h2 ok hc) id
  rw [e1] at C
  exact C
theorem addR_len (rs : List (List Sb)) (ids : List Int) (g : List Sb) : (addR rs ids g).2.2.length ≤ rs.length + 1 := by
  unfold addR
  split
  · exact Nat.le_succ _
  · split
    · exact Nat.le_succ _
    · split
      · exact Nat.le_succ _
      · split
        · exact Nat.le_succ _
        · simp
/-- What the reference's Add does beside roll's. -/
def KAdd (R : Nat → Prop) (w : World) (t n : Nat) (A : List Int × Int × List (List Sb)) (e : Ending) (w' : World) : Prop :=
  ∃ u R', e = .returned (.tuple #[u, .int .i64 A.2.1]) ∧ RefK R' w' t n A.2.2 ∧ (∀ w'', Upd (fun b => b < w.heap.size) w' w'' → IntsAt w'' u A.1) ∧ Upd (fun b => b = t) w w' ∧ Fresh R w R'
theorem kAdd_any {v1 v2 : Value} {ids : List Int} {g : List Sb} (h : RefK R w t n gs) (ok : TabOk gs) (hn : n ≤ 100000) (h1 : IntsAt w v1 ids) (hil : ids.length ≤ 100000) (h2 : GrpAt w v2 g) (hr : RawG g) :
    Calls Tryz.prog 10 #[.pointer (some ⟨t, 0, none⟩), v1, v2] w (KAdd R w t (n + 1) (addG gs ids g)) := by
  obtain ⟨rs, q1, q2, q3⟩ := h.ex
  refine (rAdd_any q1 (by rw [q2.total]; exact ok.total) (Nat.le_trans q3 hn) (refOk_sm q2 ok) h1 hil h2 hr.len (fun x hx => ⟨(hr.sm x hx).small, hr.cnt x hx⟩)).mono ?_
  rintro e w' ⟨u, R', he, k1, k2, k3, k4⟩
  obtain ⟨e1, e2, e3⟩ := addR_eq q2 ok ids g
  exact ⟨u, R', by rw [← e2]; exact he, ⟨_, k1, e3, Nat.le_trans (addR_len rs ids g) (Nat.succ_le_succ q3)⟩, by rw [← e1]; exact k2, k3, k4⟩
/-- A table of package roll and one of the reference, side by side: t is roll's, it writes S; r is the reference's; both were made since w0. -/
structure Both (w0 : World) (S R Q : Nat → Prop) (w : World) (t r n : Nat) (gs : List (List Sb)) : Prop where
  tab : TabN w0 S R w t gs
  ref : RefK Q w r n gs
  c : TabC gs
  rs : ∀ k, S k → ¬ Q k ∧ k ≠ r
  rr : ¬ R r
  r0 : w0.heap.size ≤ r
theorem Both.below {w0 : World} {S Q : Nat → Prop} {r : Nat} (h : Both w0 S R Q w t r n gs) (hb : Below w.heap.size w w') : Both w0 S R Q w' t r n gs :=
  ⟨h.tab.below hb, h.ref.below hb, h.c, h.rs, h.rr, h.r0⟩
theorem Both.keepR {w0 : World} {S Q : Nat → Prop} {r : Nat} (h : Both w0 S R Q w t r n gs) (u : Upd S w w') : RefK Q w' r n gs := h.ref.keep (u.mono fun b _ hb => h.rs b hb)
theorem TabN.keep {w0 : World} {S : Nat → Prop} (h : TabN w0 S R w t gs) (u : Upd (fun b => ¬ S b ∧ ¬ R b ∧ w0.heap.size ≤ b) w w') : TabN w0 S R w' t gs :=
  ⟨TabM.keep h.tab (u.mono fun _ _ q => ⟨q.1, q.2.1⟩), h.ok, h.base, h.be.trans (u.below (fun _ q => q.2.2) h.be.size)⟩
/-- A group is added to both. -/
theorem both_add {w0 w1 w2 : World} {S Q S1 R1 Q1 : Nat → Prop} {r : Nat} {ids : List Int} {g : List Sb} (h : Both w0 S R Q w t r n gs) (h1 : TabN w0 S1 R1 w1 t (addG gs ids g).2.2) (h2 : Upd S w w1) (h3 : Fresh S w S1) (h4 : Fresh R w R1) (k1 : RefK Q1 w2 r (n + 1) (addG gs ids g).2.2) (k2 : Upd (fun b => b = r) w1 w2) (k3 : Fresh Q w1 Q1) : Both w0 S1 R1 Q1 w2 t r (n + 1) (addG gs ids g).2.2 := by
  have hr := h.ref.tlt
  have hs := h2.size
  have n1 : ¬ S1 r := fun q => (h3 r q).elim (fun q => (h.rs r q).2 rfl) (fun q => by omega)
  have n2 : ¬ R1 r := fun q => (h4 r q).elim h.rr (fun q => by omega)
  refine ⟨h1.keep (k2.mono fun b _ e => by subst e; exact ⟨n1, n2, h.r0⟩), k1, tabC_add h.c, fun k hk => ⟨fun q => ?_, fun e => n1 (e ▸ hk)⟩, n2, h.r0⟩
  have hk1 := (h1.tab.lt k hk).1
  rcases k3 k q with q | q
  · rcases h3 k hk with hk | hk
    · exact (h.rs k hk).1 q
    · have := h.ref.lt k q; omega
  · omega
end Go.Proofs.YtoamhiaagaaaaaaGreatDoor

/- geodelaw09: a table that is not there, or that New did not make. -/
namespace Go.Proofs.YtoamhiaagaaaaaaGreatDoor
open Go.RowKit Go.Maps Go.WideMaps

inductive NoTab (w : World) : Value → Prop where
  | absent : NoTab w (.pointer none)
  | bare (q : Nat) (h : w.heap[q]? = some (.cells #[.slice none 0 0, .slice none 0 0, .map none, .pointer none] 91 (0, 0))) : NoTab w (.pointer (some ⟨q, 0, none⟩))
theorem NoTab.below {w w' : World} {p : Value} (h : NoTab w p) (hb : Below w.heap.size w w') : NoTab w' p := by
  cases h with
  | absent => exact .absent
  | bare q h => exact .bare q (by rw [hb.block q (heap_lt h)]; exact h)
set_option maxRecDepth 100000 in
theorem made_none (p : Value) (w : World) (h : NoTab w p) : Calls Tryz.prog 43 #[p] w fun e w' => e = .returned (.bool false) ∧ w' = w := by
  cases h with
  | absent =>
    go_enter Tryz.func43, Tryz.ntmps43
    go_wp2
    go_ret
    exact ⟨rfl, rfl⟩
  | bare q h =>
    have c3 := heap_cell h 3
    simp at c3
    have hq : ∀ w, (binOp .eql 30 (.pointer none) (.pointer (some ⟨q, 0, none⟩))).run Tryz.prog w = .ok (.bool false) w := fun _ => by rfl
    clear h
    go_enter Tryz.func43, Tryz.ntmps43
    go_wp2
    go_ret
    exact ⟨rfl, rfl⟩
variable {p : Value} {w : World}
set_option maxRecDepth 100000 in
theorem add_none (h : NoTab w p) (v1 v2 : Value) : Calls Tryz.prog 9 #[p, v1, v2] w fun e w' => e = .returned (.tuple #[.slice none 0 0, .int .i64 1]) ∧ w' = w := by
  have C := Lib.hid (made_none p w h)
  clear h
  go_enter Tryz.func9, Tryz.ntmps9
  go_wp2_with fail
  refine C.out.mono ?_
  rintro e w1 ⟨rfl, rfl⟩
  go_wp2
  go_ret2
  exact ⟨rfl, rfl⟩
set_option maxRecDepth 100000 in
theorem len_none (h : NoTab w p) : Calls Tryz.prog 12 #[p] w fun e w' => e = .returned (.int .i64 0) ∧ w' = w := by
  have C := Lib.hid (made_none p w h)
  clear h
  go_enter Tryz.func12, Tryz.ntmps12
  go_wp2_with fail
  refine C.out.mono ?_
  rintro e w1 ⟨rfl, rfl⟩
  go_wp2
  go_ret
  exact ⟨rfl, rfl⟩
set_option maxRecDepth 100000 in
theorem group_none (h : NoTab w p) (id : Int) : Calls Tryz.prog 54 #[p, .int .i64 id] w fun e w' => e = .returned (.tuple #[.int .i64 0, .int .i64 0, .int .i64 1]) ∧ w' = w := by
  have C := Lib.hid (made_none p w h)
  clear h
  go_enter Tryz.func54, Tryz.ntmps54
  go_wp2_with fail
  refine C.out.mono ?_
  rintro e w1 ⟨rfl, rfl⟩
  go_wp2
  refine bodyPost_ret (v := .tuple #[.int .i64 0, .int .i64 0, .int .i64 1]) (by simp [results, Tryz.results54, go_sem]) rfl ⟨rfl, rfl⟩
set_option maxRecDepth 100000 in
theorem copy_none (h : NoTab w p) : Calls Tryz.prog 14 #[p] w fun e w' => e = .returned (.pointer none) ∧ w' = w := by
  have C := Lib.hid (made_none p w h)
  clear h
  go_enter Tryz.func14, Tryz.ntmps14
  go_wp2_with fail
  refine C.out.mono ?_
  rintro e w1 ⟨rfl, rfl⟩
  go_wp2
  go_ret
  exact ⟨rfl, rfl⟩
def emptyS : Value := .agg #[.bool false, .slice none 0 0, .int .i64 0, .slice none 0 0, .slice none 0 0, .slice none 0 0]
set_option maxRecDepth 100000 in
theorem get_none (h : NoTab w p) (id : Int) : Calls Tryz.prog 38 #[p, .int .i64 id] w fun e w' => e = .returned (.tuple #[emptyS, .int .i64 1]) ∧ Below w.heap.size w w' := by
  have C := Lib.hid (made_none p (w.alloc (.cells #[.bool false, .slice none 0 0, .int .i64 0, .slice none 0 0, .slice none 0 0, .slice none 0 0] 48)) (h.below ((Below.refl _ _).alloc (Nat.le_refl _) _)))
  clear h
  go_enter Tryz.func38, Tryz.ntmps38
  go_wp2_with fail
  refine C.out.mono ?_
  rintro e w1 ⟨rfl, rfl⟩
  go_wp2
  refine bodyPost_ret (v := .tuple #[emptyS, .int .i64 1]) (by simp [results, Tryz.results38, go_sem, emptyS]) rfl ⟨rfl, ?_⟩
  exact (Below.refl _ _).alloc (Nat.le_refl _) _
def emptyV : Value := .agg #[.int .i64 0, .bool false, .int .i64 0, .int .i64 0]
set_option maxRecDepth 100000 in
theorem close_none (h : NoTab w p) (v1 : Value) (v : Vl) : Calls Tryz.prog 17 #[p, v1, .agg (cellsV v).toArray] w fun e w' => e = .returned (.tuple #[emptyV, .int .i64 1]) ∧ Below w.heap.size w w' := by
  obtain ⟨k, nl, hh, n⟩ := v
  rw [show cellsV ⟨k, nl, hh, n⟩ = [.int .i64 k, .bool nl, .int .i64 hh, .int .i64 n] from rfl]
  have C := Lib.hid (made_none p ((w.alloc (.cells #[.int .i64 k, .bool nl, .int .i64 hh, .int .i64 n] 28)).alloc (.cells #[.int .i64 0, .bool false, .int .i64 0, .int .i64 0] 28)) (h.below (((Below.refl _ _).alloc (Nat.le_refl _) _).alloc (by simp) _)))
  clear h
  go_enter Tryz.func17, Tryz.ntmps17
  go_wp2_with fail
  refine C.out.mono ?_
  rintro e w1 ⟨rfl, rfl⟩
  go_wp2
  refine bodyPost_ret (v := .tuple #[emptyV, .int .i64 1]) (by simp [results, Tryz.results17, go_sem, emptyV]) rfl ⟨rfl, ?_⟩
  exact ((Below.refl _ _).alloc (Nat.le_refl _) _).alloc (by simp) _
set_option maxRecDepth 100000 in
theorem refSameVals_nil (w : World) : Calls Tryz.prog 96 #[.slice none 0 0, .slice none 0 0] w fun e w' => e = .returned (.bool true) ∧ w' = w := by
  go_enter Tryz.func96, Tryz.ntmps96
  go_wp2
  go_loopw [5] (fun t5 wr => t5 = .int .i64 0 ∧ wr = w) (fun _ _ => 0)
  case atStart => exact ⟨rfl, rfl⟩
  case round =>
    obtain ⟨rfl, rfl⟩ := hrel
    go_wp2
    go_ret
    exact ⟨rfl, rfl⟩
set_option maxRecDepth 100000 in
set_option maxHeartbeats 4000000 in
theorem refSame_empty (w : World) : Calls Tryz.prog 56 #[emptyS, emptyS] w fun e w' => e = .returned (.bool true) ∧ Below w.heap.size w w' := by
  unfold emptyS
  go_enter Tryz.func56, Tryz.ntmps56
  go_wp2
  obtain ⟨W0, hW0⟩ : ∃ W0, W0 = ((w.alloc (.cells #[.bool false, .slice none 0 0, .int .i64 0, .slice none 0 0, .slice none 0 0, .slice none 0 0] 48)).alloc (.cells #[.bool false, .slice none 0 0, .int .i64 0, .slice none 0 0, .slice none 0 0, .slice none 0 0] 48)) := ⟨_, rfl⟩
  rw [← hW0]
  have hB : Below w.heap.size w W0 := by rw [hW0]; exact ((Below.refl _ _).alloc (Nat.le_refl _) _).alloc (by simp) _
  have z0 : W0.heap[w.heap.size]? = some (.cells #[.bool false, .slice none 0 0, .int .i64 0, .slice none 0 0, .slice none 0 0, .slice none 0 0] 48 (0, 0)) := by rw [hW0]; exact heap_alloc_keep (heap_alloc_at _ _ rfl) _
  have z1 : W0.heap[w.heap.size + 1]? = some (.cells #[.bool false, .slice none 0 0, .int .i64 0, .slice none 0 0, .slice none 0 0, .slice none 0 0] 48 (0, 0)) := by rw [hW0]; exact heap_alloc_at _ _ (by simp)
  have c1 := heap_cell z0 1; have c3 := heap_cell z0 3; have c4 := heap_cell z0 4; have c5 := heap_cell z0 5
  have d1 := heap_cell z1 1; have d3 := heap_cell z1 3; have d4 := heap_cell z1 4; have d5 := heap_cell z1 5
  simp at c1 c3 c4 c5 d1 d3 d4 d5
  have HB := Lib.hid hB
  clear hW0 hB z0 z1
  go_loopw [5] (fun t5 wr => t5 = .int .i64 0 ∧ wr = W0) (fun _ _ => 0)
  case atStart => exact ⟨rfl, rfl⟩
  case round =>
    obtain ⟨rfl, rfl⟩ := hrel
    go_wp2
    go_loopw [6] (fun t6 wq => t6 = .int .i64 0 ∧ wq = wr) (fun _ _ => 0)
    case atStart => exact ⟨rfl, rfl⟩
    case round =>
      obtain ⟨rfl, rfl⟩ := hrel
      go_wp2_with fail
      refine (refSameVals_nil _).mono ?_
      rintro e w1 ⟨rfl, rfl⟩
      go_wp2_with fail
      refine (refSameVals_nil _).mono ?_
      rintro e w1 ⟨rfl, rfl⟩
      go_wp2
      go_ret
      exact ⟨rfl, HB.out⟩
end Go.Proofs.YtoamhiaagaaaaaaGreatDoor

/- Package match: the calls, over any table (all but climbs). -/
namespace Go.Proofs.YtoamhiaagaaaaaaGreatDoor
open Go.RowKit

/-- A table: its memory, its groups, all closed. -/
structure TabK (S R : Nat → Prop) (w : World) (t : Nat) (gs : List (List Sb)) : Prop where
  tab : TabAt S R w t gs
  ok : TabOk gs
  c : TabC gs
section
variable {S R : Nat → Prop} {w : World} {t : Nat} {gs : List (List Sb)}
theorem TabK.below {w' : World} (h : TabK S R w t gs) (hb : Below w.heap.size w w') : TabK S R w' t gs := ⟨h.tab.below hb, h.ok, h.c⟩
theorem TabK.ext (h : TabK S R w t gs) (x : Ext w) : TabK S R x.val t gs := h.below x.2
set_option maxRecDepth 100000 in
theorem get_out (ht : TabAt S R w t gs) (hok : total gs ≤ 10000) (id : Int) (hid : ¬ (0 ≤ id ∧ id < total gs)) : Calls Tryz.prog 38 #[.pointer (some ⟨t, 0, none⟩), .int .i64 id] w fun e w' => e = .returned (.tuple #[.agg #[.bool false, .slice none 0 0, .int .i64 0, .slice none 0 0, .slice none 0 0, .slice none 0 0], .int .i64 4]) ∧ Below w.heap.size w w' := by
  have hb : Below w.heap.size w (w.alloc (.cells #[.bool false, .slice none 0 0, .int .i64 0, .slice none 0 0, .slice none 0 0, .slice none 0 0] 48)) := (Below.refl _ _).alloc (Nat.le_refl _) _
  have C := Lib.hid (made_any (ht.below hb))
  have C2 := has_any (ht.below hb) id hok
  rw [show (decide (0 ≤ id) && decide (id < total gs)) = false by rw [Bool.eq_false_iff]; simpa using hid] at C2
  have HC2 := Lib.hid C2
  clear ht hok hid C2
  go_enter Tryz.func38, Tryz.ntmps38
  go_wp2_with fail
  refine C.out.mono ?_
  rintro e w1 ⟨rfl, rfl⟩
  go_wp2_with fail
  refine HC2.out.mono ?_
  rintro e w1 ⟨rfl, rfl⟩
  go_wp2
  refine bodyPost_ret (v := .tuple #[.agg #[.bool false, .slice none 0 0, .int .i64 0, .slice none 0 0, .slice none 0 0, .slice none 0 0], .int .i64 4]) (by simp [results, Tryz.results38, go_sem]) rfl ⟨rfl, ?_⟩
  exact (Below.refl _ _).alloc (Nat.le_refl _) _
/-- Get, of a number that the table has. -/
theorem get_k (h : TabK S R w t gs) {id : Nat} {y : Sb} (hy : (tabL gs)[id]? = some y) : Calls Tryz.prog 38 #[.pointer (some ⟨t, 0, none⟩), .int .i64 id] w fun e w' => ∃ ds : List Value, e = .returned (.tuple #[.agg ds.toArray, .int .i64 0]) ∧ (∀ w'', Upd (fun b => b < w.heap.size) w' w'' → SubAt w'' ds y) ∧ Below w.heap.size w w' := by
  obtain ⟨j, k, g, x, h1, h2, h3, h4, h5, rfl⟩ := tabL_loc hy
  have := get_own h.tab h.ok h1 h2 h3 h4 h5 (h.c.drec h.ok.total h1 (List.mem_of_getElem? h5))
  rw [getG_mapP] at this
  exact this
end
def neverB (v : Vl) : Bool := decide (v = ⟨3, false, 0, 0⟩)
theorem never_any (v : Vl) (w : World) : Calls Tryz.prog 72 #[.agg (cellsV v).toArray] w fun e w' => e = .returned (.bool (neverB v)) ∧ Below w.heap.size w w' := by
  obtain ⟨k, nl, h, n⟩ := v
  simp only [cellsV, neverB]
  go_enter Tryz.func72, Tryz.ntmps72
  go_wp2
  all_goals
    go_ret
    exact ⟨retb (by simp_all), (Below.refl _ _).alloc (Nat.le_refl _) _⟩
theorem mgiven_any (h n : Int) (w : World) : Calls Tryz.prog 102 #[.agg #[.int .i64 h, .int .i64 n]] w fun e w' => e = .returned (.bool (givenB ⟨h, n⟩)) ∧ Below w.heap.size w w' := by
  unfold givenB
  go_enter Tryz.func102, Tryz.ntmps102
  go_wp2
  all_goals
    go_ret
    exact ⟨retb (by first | (simp_all; done) | (simp_all; omega) | (rw [Bool.eq_iff_iff]; simp_all; done) | (rw [Bool.eq_iff_iff]; simp_all; omega)), (Below.refl _ _).alloc (Nat.le_refl _) _⟩
theorem absent_tab {S R : Nat → Prop} {t : Nat} {gs : List (List Sb)} (w : World) (h : TabK S R w t gs) : Calls Tryz.prog 68 #[.pointer (some ⟨t, 0, none⟩)] w fun e w' => e = .returned (.bool false) ∧ Below w.heap.size w w' := by
  have C := Lib.hid (get_out h.tab h.ok.total (-1) (by omega))
  clear h
  go_enter Tryz.func68, Tryz.ntmps68
  go_wp2_with fail
  refine C.out.mono ?_
  rintro e w1 ⟨rfl, hb⟩
  go_wp2
  go_ret
  exact ⟨rfl, hb.alloc hb.size _⟩
/-- The closed heap types of a table of n types. -/
def closedB (n : Nat) (h : Hp) : Bool := givenB h || (decide (h.k = 15) && decide (0 ≤ h.n) && decide (h.n < n))
theorem closed_iff {n : Nat} {h : Hp} : closedB n h = true ↔ ClosedP n h := by
  simp [closedB, ClosedP, given_iff, NumC, and_assoc]
theorem closed_f {n : Nat} {h : Hp} (hg : givenB h = false) (hn : h.k ≠ 15 ∨ h.n < 0 ∨ (n : Int) ≤ h.n) : false = closedB n h := by
  unfold closedB
  rw [hg]
  symm
  rcases hn with hn | hn | hn
  · simp [hn]
  · have : ¬ 0 ≤ h.n := by omega
    simp [this]
  · have : ¬ h.n < n := by omega
    simp [this]
theorem closed_t {n : Nat} {h : Hp} (hg : givenB h = true) : true = closedB n h := by unfold closedB; rw [hg]; rfl
theorem closed_t2 {n : Nat} {h : Hp} (hg : givenB h = false) (h1 : h.k = 15) (h2 : 0 ≤ h.n) (h3 : h.n < n) : true = closedB n h := by
  unfold closedB; rw [hg]; simp [h1, h2, h3]
theorem lenK {S R : Nat → Prop} {t : Nat} {gs : List (List Sb)} {w : World} (h : TabK S R w t gs) : Calls Tryz.prog 12 #[.pointer (some ⟨t, 0, none⟩)] w fun e w' => e = .returned (.int .i64 (total gs)) ∧ Below w.heap.size w w' :=
  (len_any h.tab).mono fun _ _ ⟨h1, h2⟩ => ⟨h1, by subst h2; exact Below.refl _ _⟩
set_option maxHeartbeats 1000000 in
theorem closed_tab {S R : Nat → Prop} {t : Nat} {gs : List (List Sb)} (h n : Int) (w : World) (ht : TabK S R w t gs) : Calls Tryz.prog 73 #[.pointer (some ⟨t, 0, none⟩), .agg #[.int .i64 h, .int .i64 n]] w fun e w' => e = .returned (.bool (closedB (total gs) ⟨h, n⟩)) ∧ Below w.heap.size w w' := by
  have H := Lib.hid (ht.below ((Below.refl _ _).alloc (Nat.le_refl _) (.cells #[.int .i64 h, .int .i64 n] 26)))
  have htl := ht.ok.total
  clear ht
  obtain ⟨b, hbb⟩ : ∃ b, givenB ⟨h, n⟩ = b := ⟨_, rfl⟩
  have HB := Lib.hid hbb
  clear hbb
  have c0 : ∀ x : Ext (w.alloc (.cells #[.int .i64 h, .int .i64 n] 26)), x.val.cell? ⟨w.heap.size, 0, none⟩ = some (.int .i64 h) := fun x => x.cell (heap_cell (World.alloc_heap_new _ _) 0)
  have c1 : ∀ x : Ext (w.alloc (.cells #[.int .i64 h, .int .i64 n] 26)), x.val.cell? ⟨w.heap.size, 1, none⟩ = some (.int .i64 n) := fun x => x.cell (heap_cell (World.alloc_heap_new _ _) 1)
  have fin : ∀ (r : Bool) (x : Ext (w.alloc (.cells #[.int .i64 h, .int .i64 n] 26))), r = closedB (total gs) ⟨h, n⟩ → (Ending.returned (.bool r) = .returned (.bool (closedB (total gs) ⟨h, n⟩)) ∧ Below w.heap.size w x.val) := fun r x e => ⟨retb e, ((Below.refl _ _).alloc (Nat.le_refl _) _).trans (x.2.mono (by simp))⟩
  have FIN := Lib.hid fin
  clear fin
  cases b
  · rcases hk : (h == 15) with _ | _
    · have hk' : h ≠ 15 := by simpa using hk
      have HK := Lib.hid hk'
      clear hk'
      go_enter Tryz.func73, Tryz.ntmps73
      go_wp2
      refine wp_region_calm (by kernel_rfl) (by kernel_rfl) ?_
      repeat (go_big_quiet_step (first | (go_at_call 102; exact Ext.call _ ((mgiven_any h n _).mono (by rintro e w' ⟨rfl, hb⟩; exact ⟨by rw [HB.out], hb⟩)))))
      refine wpQuiet_nil ?_
      rintro _ ⟨x, rfl⟩
      go_wp2
      go_ret
      exact FIN.out _ x (closed_f HB.out (.inl HK.out))
    · have hk' : h = 15 := by simpa using hk
      have HK := Lib.hid hk'
      clear hk'
      rcases hn : decide (0 ≤ n) with _ | _
      · have hn' : ¬ 0 ≤ n := by simpa using hn
        have HN := Lib.hid hn'
        clear hn'
        go_enter Tryz.func73, Tryz.ntmps73
        go_wp2
        refine wp_region_calm (by kernel_rfl) (by kernel_rfl) ?_
        repeat (go_big_quiet_step (first | (go_at_call 102; exact Ext.call _ ((mgiven_any h n _).mono (by rintro e w' ⟨rfl, hb⟩; exact ⟨by rw [HB.out], hb⟩)))))
        refine wpQuiet_nil ?_
        rintro _ ⟨x, rfl⟩
        go_wp2
        go_ret
        exact FIN.out _ x (closed_f HB.out (.inr (.inl (by have := HN.out; dsimp only; omega))))
      · have hn' : 0 ≤ n := by simpa using hn
        have HN := Lib.hid hn'
        clear hn'
        have hn2 : decide (n < 0) = false := by simpa using hn
        rcases hl : decide (n < (total gs : Nat)) with _ | _
        · have hl' : ¬ n < (total gs : Nat) := by simpa using hl
          have HL := Lib.hid hl'
          clear hl'
          go_enter Tryz.func73, Tryz.ntmps73
          go_wp2
          refine wp_region_calm (by kernel_rfl) (by kernel_rfl) ?_
          repeat (go_big_quiet_step (first | (go_at_call 102; exact Ext.call _ ((mgiven_any h n _).mono (by rintro e w' ⟨rfl, hb⟩; exact ⟨by rw [HB.out], hb⟩))) | (go_at_call 12; exact Ext.call _ (lenK (H.out.ext _)))))
          refine wpQuiet_nil ?_
          rintro _ ⟨x, rfl⟩
          go_wp2
          go_ret
          exact FIN.out _ x (closed_f HB.out (.inr (.inr (by have := HL.out; dsimp only; omega))))
        · have hl' : n < (total gs : Nat) := by simpa using hl
          have HL := Lib.hid hl'
          clear hl'
          go_enter Tryz.func73, Tryz.ntmps73
          go_wp2
          refine wp_region_calm (by kernel_rfl) (by kernel_rfl) ?_
          repeat (go_big_quiet_step (first | (go_at_call 102; exact Ext.call _ ((mgiven_any h n _).mono (by rintro e w' ⟨rfl, hb⟩; exact ⟨by rw [HB.out], hb⟩))) | (go_at_call 12; exact Ext.call _ (lenK (H.out.ext _)))))
          refine wpQuiet_nil ?_
          rintro _ ⟨x, rfl⟩
          go_wp2
          go_ret
          exact FIN.out _ x (closed_t2 HB.out HK.out HN.out HL.out)
  · go_enter Tryz.func73, Tryz.ntmps73
    go_wp2
    refine wp_region_calm (by kernel_rfl) (by kernel_rfl) ?_
    repeat (go_big_quiet_step (first | (go_at_call 102; exact Ext.call _ ((mgiven_any h n _).mono (by rintro e w' ⟨rfl, hb⟩; exact ⟨by rw [HB.out], hb⟩)))))
    refine wpQuiet_nil ?_
    rintro _ ⟨x, rfl⟩
    go_wp2
    go_ret
    exact FIN.out _ x (closed_t HB.out)
theorem ret2 {k q : IntKind} {a b c d : Int} (h : a = b) (h' : c = d) : Ending.returned (.tuple #[.int k a, .int q c]) = .returned (.tuple #[.int k b, .int q d]) := by rw [h, h']
set_option maxHeartbeats 1000000 in
theorem family_any (k : Int) (w : World) : Calls Tryz.prog 75 #[.int .i64 k] w fun e w' => e = .returned (.tuple #[.int .i64 (fam k).1, .int .i64 (fam k).2]) ∧ w = w' := by
  go_enter Tryz.func75, Tryz.ntmps75
  go_wp2
  all_goals
    go_ret2
    refine ⟨ret2 ?_ ?_, rfl⟩ <;> (unfold fam; simp_all)
set_option maxHeartbeats 1000000 in
theorem below_any (a b : Int) (w : World) : Calls Tryz.prog 77 #[.int .i64 a, .int .i64 b] w fun e w' => e = .returned (.bool (belowB a b)) ∧ w = w' := by
  unfold belowB
  obtain ⟨t1, h1⟩ : ∃ t, (fam a).1 = t := ⟨_, rfl⟩
  obtain ⟨b1, h2⟩ : ∃ t, (fam a).2 = t := ⟨_, rfl⟩
  obtain ⟨t2, h3⟩ : ∃ t, (fam b).1 = t := ⟨_, rfl⟩
  obtain ⟨b2, h4⟩ : ∃ t, (fam b).2 = t := ⟨_, rfl⟩
  rw [h1, h2, h3]
  have H1 := Lib.hid h1; have H2 := Lib.hid h2; have H3 := Lib.hid h3; have H4 := Lib.hid h4
  clear h1 h2 h3 h4
  go_enter Tryz.func77, Tryz.ntmps77
  go_wp2_with fail
  refine (family_any a _).mono ?_
  rintro e w' ⟨rfl, rfl⟩
  rw [H1.out, H2.out]
  go_wp2_with fail
  refine (family_any b _).mono ?_
  rintro e w' ⟨rfl, rfl⟩
  rw [H3.out, H4.out]
  clear H1 H2 H3 H4
  go_wp2
  all_goals
    go_ret
    refine ⟨retb ?_, rfl⟩
    unfold belowG
    first | (simp_all; done) | (rw [Bool.eq_iff_iff]; simp_all; done)

theorem reti {a b : Int} (h : a = b) : Ending.returned (.int .i64 a) = .returned (.int .i64 b) := by rw [h]
set_option maxRecDepth 100000 in
theorem kindOf_any (f : Bool) (v1 v2 v3 v4 : Value) (k : Int) (w : World) : Calls Tryz.prog 76 #[.agg #[.bool f, v1, .int .i64 k, v2, v3, v4]] w fun e w' => e = .returned (.int .i64 (kindK k)) ∧ Below w.heap.size w w' := by
  go_enter Tryz.func76, Tryz.ntmps76
  go_wp2
  all_goals
    go_ret
    refine ⟨reti ?_, (Below.refl _ _).alloc (Nat.le_refl _) _⟩
    unfold kindK; simp_all
end Go.Proofs.YtoamhiaagaaaaaaGreatDoor
