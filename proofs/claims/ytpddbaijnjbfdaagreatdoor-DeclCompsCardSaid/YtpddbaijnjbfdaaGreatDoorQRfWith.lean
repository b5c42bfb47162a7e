import Derived.Test.YtpddbaijnjbfdaaGreatDoorQMidBd
namespace Go.Proofs.YtpddbaijnjbfdaaGreatDoor
open Lib (hid)
open Go.RowKit
theorem heaps_sup {x : Sb} {i : Nat} {y : Hp} (h : x.sups[i]? = some y) : (heapsR x)[i]? = some y := by
  unfold heapsR
  rw [List.getElem?_append_left (List.getElem?_eq_some_iff.1 h).1]; exact h
theorem heaps_ref {x : Sb} {m : Nat} {v : Vl} (h : (valsR x)[m]? = some v) (hk : v.k = 3) : (heapsR x)[x.sups.length + (refsV ((valsR x).take m)).length]? = some ⟨v.h, v.n⟩ := by
  unfold heapsR
  rw [List.getElem?_append_right (by omega), Nat.add_sub_cancel_left]
  exact refsV_at h hk
theorem sizeSub : (Tryz.prog.info? 46).map (·.size) = some 6 := by kernel_rfl
theorem get_map {α β : Type} {l : List α} {i : Nat} {x : α} (f : α → β) (h : l[i]? = some x) : (l.map f)[i]? = some (f x) := by rw [List.getElem?_map, h]; rfl
set_option maxRecDepth 100000 in
set_option maxHeartbeats 16000000 in
theorem rWith_any (f : Hp → Hp) (cs : List Value) (s : Sb) (v : Value) (w : World) (hs : SubAt w cs s) (hv : HpsAt w v ((heapsR s).map f)) (hc : cnt s ≤ 1000000) : Calls Tryz.prog 62 #[.agg cs.toArray, v] w fun e w' => ∃ cs' : List Value, e = .returned (.agg cs'.toArray) ∧ cs'.length = 6 ∧ (∀ w'', Upd (fun b => b < w.heap.size) w' w'' → SubAt w'' cs' (mapP f s)) ∧ Below w.heap.size w w' := by
  obtain ⟨vs, vp, vr, vf, rfl, h1, h2, h3, h4⟩ := hs.ex
  obtain ⟨so, sc, rfl⟩ := RowAt.form h1
  obtain ⟨ps, pc, rfl⟩ := RowAt.form h2
  obtain ⟨rs, rc, rfl⟩ := RowAt.form h3
  obtain ⟨fs, fc, rfl⟩ := RowAt.form h4
  obtain ⟨lo, lc, rfl⟩ := RowAt.form hv
  obtain ⟨fin, sups, k, lp, lr, lf⟩ := s
  dsimp only at h1 h2 h3 h4 ⊢
  obtain ⟨i0, hi, hz0, hz1, hz2⟩ := info_parts Tryz.infoHeap
  obtain ⟨i1, hi', hz0', hz1', hz2'⟩ := info_parts Tryz.infoVal
  obtain ⟨i2, hi2, hz02, hz12, hz22⟩ := info_parts Tryz.infoField
  have Hi := hid hi; have Hz0 := hid hz0; have Hz1 := hid hz1; have Hz2 := hid hz2
  have Hi' := hid hi'; have Hz0' := hid hz0'; have Hz1' := hid hz1'; have Hz2' := hid hz2'
  have Hi2 := hid hi2; have Hz02 := hid hz02; have Hz12 := hid hz12; have Hz22 := hid hz22
  obtain ⟨ns, hns⟩ : ∃ n, sups.length = n := ⟨_, rfl⟩
  obtain ⟨np, hnp⟩ : ∃ n, lp.length = n := ⟨_, rfl⟩
  obtain ⟨nr, hnr⟩ : ∃ n, lr.length = n := ⟨_, rfl⟩
  obtain ⟨nf, hnf⟩ : ∃ n, lf.length = n := ⟨_, rfl⟩
  have HNS := hid hns; have HNF := hid hnf; have HNP := hid hnp; have HNR := hid hnr
  have hcc : ns + (np + (nr + nf)) ≤ 1000000 := by simp only [cnt] at hc; omega
  obtain ⟨H, hH⟩ : ∃ H, (heapsR ⟨fin, sups, k, lp, lr, lf⟩).map f = H := ⟨_, rfl⟩
  rw [hH] at hv
  obtain ⟨nh, hnh⟩ : ∃ n, (heapsR ⟨fin, sups, k, lp, lr, lf⟩).length = n := ⟨_, rfl⟩
  have hnh' : H.length = nh := by rw [← hH, List.length_map, hnh]
  have hf0 : ∀ (i : Nat) y, sups[i]? = some y → H[i]? = some (f y) := fun i y h => by rw [← hH]; exact get_map f (heaps_sup (x := ⟨fin, sups, k, lp, lr, lf⟩) h)
  have HF0 := hid hf0
  clear hf0
  rw [List.length_map, hnh] at *
  have HH := hid hH; have HNH := hid hnh'
  obtain ⟨W0, hW⟩ : ∃ W0 : World, W0 = (w.alloc (.cells #[.bool fin, .slice so ns sc, .int .i64 k, .slice ps np pc, .slice rs nr rc, .slice fs nf fc] 46)).alloc (.cells #[.bool false, .slice none 0 0, .int .i64 0, .slice none 0 0, .slice none 0 0, .slice none 0 0] 46) := ⟨_, rfl⟩
  have hB : Below w.heap.size w W0 := by rw [hW]; exact ((Below.refl _ _).alloc (by simp) _).alloc (by simp) _
  have hws : W0.heap.size = w.heap.size + 2 := by rw [hW]; simp
  have b0_0 : ∀ x : Ext W0, x.val.cell? ⟨w.heap.size, 0, none⟩ = some (.bool fin) := Ext.cells (by rw [hW]; exact heap_cell (heap_alloc_keep (heap_alloc_at _ _ (by simp)) _) 0)
  have b0_1 : ∀ x : Ext W0, x.val.cell? ⟨w.heap.size, 1, none⟩ = some (.slice so ns sc) := Ext.cells (by rw [hW]; exact heap_cell (heap_alloc_keep (heap_alloc_at _ _ (by simp)) _) 1)
  have b0_2 : ∀ x : Ext W0, x.val.cell? ⟨w.heap.size, 2, none⟩ = some (.int .i64 k) := Ext.cells (by rw [hW]; exact heap_cell (heap_alloc_keep (heap_alloc_at _ _ (by simp)) _) 2)
  have b0_3 : ∀ x : Ext W0, x.val.cell? ⟨w.heap.size, 3, none⟩ = some (.slice ps np pc) := Ext.cells (by rw [hW]; exact heap_cell (heap_alloc_keep (heap_alloc_at _ _ (by simp)) _) 3)
  have b0_4 : ∀ x : Ext W0, x.val.cell? ⟨w.heap.size, 4, none⟩ = some (.slice rs nr rc) := Ext.cells (by rw [hW]; exact heap_cell (heap_alloc_keep (heap_alloc_at _ _ (by simp)) _) 4)
  have b0_5 : ∀ x : Ext W0, x.val.cell? ⟨w.heap.size, 5, none⟩ = some (.slice fs nf fc) := Ext.cells (by rw [hW]; exact heap_cell (heap_alloc_keep (heap_alloc_at _ _ (by simp)) _) 5)
  have r1 : ∀ x : Ext W0, HpsAt x.val (.slice so sups.length sc) sups := fun x => RowAt.ext (RowAt.below h1 hB (Nat.le_refl _)) x
  have r2 : ∀ x : Ext W0, ValsAt x.val (.slice ps lp.length pc) lp := fun x => RowAt.ext (RowAt.below h2 hB (Nat.le_refl _)) x
  have r3 : ∀ x : Ext W0, ValsAt x.val (.slice rs lr.length rc) lr := fun x => RowAt.ext (RowAt.below h3 hB (Nat.le_refl _)) x
  have r4 : ∀ x : Ext W0, FlsAt x.val (.slice fs lf.length fc) lf := fun x => RowAt.ext (RowAt.below h4 hB (Nat.le_refl _)) x
  have r5 : ∀ x : Ext W0, HpsAt x.val (.slice lo H.length lc) H := fun x => RowAt.ext (RowAt.below hv hB (Nat.le_refl _)) x
  have R1 := hid r1; have R2 := hid r2; have R3 := hid r3; have R4 := hid r4; have R5 := hid r5
  have hz : W0.heap[w.heap.size + 1]? = some (.cells #[.bool false, .slice none 0 0, .int .i64 0, .slice none 0 0, .slice none 0 0, .slice none 0 0] 46 (0, 0)) := by rw [hW]; exact heap_alloc_at _ _ (by simp)
  have HZ := hid hz
  clear hz
  have HW := hid hW; have HB := hid hB; have HWS := hid hws; have HCC := hid hcc
  simp only [hns, hnp, hnr, hnf]
  clear h1 h2 h3 h4 hv r1 r2 r3 r4 r5 hW hB hws hcc hs hc hns hnp hnr hnf hi hz0 hz1 hz2 hi' hz0' hz1' hz2' hi2 hz02 hz12 hz22 hH hnh hnh'
  go_enter Tryz.func62, Tryz.ntmps62
  go_wp2
  rw [← HW.out]
  obtain ⟨W1, hW1⟩ : ∃ W1 : World, W1 = W0.alloc (.cells #[.bool fin, .slice none 0 0, .int .i64 k, .slice none 0 0, .slice none 0 0, .slice none 0 0] 46) := ⟨_, rfl⟩
  rw [← hW1]
  obtain ⟨ob, hob⟩ : ∃ ob, w.heap.size + 1 + 1 = ob := ⟨_, rfl⟩
  rw [hob]
  have HOB := hid hob
  clear hob
  have st : OutS W0.heap.size (ob) ⟨fin, (sups.map f).take 0, k, [], [], []⟩ W1 (.slice none 0 0) (.slice none 0 0) (.slice none 0 0) (.slice none 0 0) :=
    ⟨by rw [hW1]; exact heap_alloc_at _ _ (by have := HWS.out; have := HOB.out; omega), owns_zero _ _ _ _, owns_zero _ _ _ _, owns_zero _ _ _ _, owns_zero _ _ _ _, .inl rfl⟩
  have hbw : Below W0.heap.size W0 W1 := by rw [hW1]; exact (Below.refl _ _).alloc (Nat.le_refl _) _
  have ST := hid st; have HBW := hid hbw
  clear st hbw hW1
  go_loopw [5, 7] (fun t5 t7 wr => ∃ (i : Nat) (vs : Value), t5 = .int .i64 i ∧ t7 = .int .i64 i ∧ i ≤ ns ∧ OutS W0.heap.size (ob) ⟨fin, (sups.map f).take i, k, [], [], []⟩ wr vs (.slice none 0 0) (.slice none 0 0) (.slice none 0 0) ∧ Below W0.heap.size W0 wr) (fun _ t7 _ => ns - (intOf t7).toNat)
  case atStart => exact ⟨0, _, rfl, rfl, Nat.zero_le _, ST.out, HBW.out⟩
  case round =>
    obtain ⟨i, vs, rfl, rfl, hi, hO, hbe⟩ := hrel
    have ow := hO.os
    have htl : ((sups.map f).take i).length = i := by rw [List.length_take, List.length_map, HNS.out]; omega
    have HTL := hid htl
    obtain ⟨aos, cos, rfl, -⟩ := ownsRow_form ow
    dsimp only at ow hO
    have c1 := b0_1 ⟨wr, hbe⟩
    have c2 := b0_2 ⟨wr, hbe⟩; have c3 := b0_3 ⟨wr, hbe⟩; have c4 := b0_4 ⟨wr, hbe⟩; have c5 := b0_5 ⟨wr, hbe⟩
    dsimp only at c1 c2 c3 c4 c5
    have hrow := R5.out ⟨wr, hbe⟩
    dsimp only at hrow
    rw [htl] at ow hO
    have HO := hid hO; have HBE := hid hbe; have OW := hid ow
    clear hO hbe ow htl
    by_cases hlt : i < ns
    · obtain ⟨y, hy⟩ : ∃ y, sups[i]? = some y := ⟨sups[i]'(by rw [HNS.out]; exact hlt), by simp⟩
      obtain ⟨⟨fk, fn⟩, hfy⟩ : ∃ y', f y = y' := ⟨_, rfl⟩
      have hHi := HF0.out i y hy
      rw [hfy] at hHi
      obtain ⟨lb, loff, rfl, hlb, p0, p1⟩ := hps_at hrow hHi
      have LBW := hid (show lb < W0.heap.size by obtain ⟨_, _, e, h, _⟩ := hps_at (R5.out ⟨W0, Below.refl _ _⟩) hHi; simp only [Option.some.injEq, Addr.mk.injEq] at e; rw [e.1]; exact h)
      dsimp only at p0 p1
      have hlt' : (i : Int) < ns := by omega
      have hin : (i : Int) < nh := by have := (List.getElem?_eq_some_iff.1 hHi).1; rw [HNH.out] at this; omega
      have hi6 : (i : Int) < 1000000 := by have := HCC.out; omega
      have HY := hid hy; have HI := hid hlt; have HFY := hid hfy
      have hnl : ¬ (Value.slice aos i cos).ownBlock = some lb := fun e => by have := (OW.out.lt _ e).1; have := LBW.out; omega
      have hno : ¬ (Value.slice aos i cos).ownBlock = some ob := row_ne HO.out.os HO.out.hp (by decide)
      have d1 := ExtU.cells (R := fun q => (Value.slice aos i cos).ownBlock = some q) (heap_cell HO.out.hp 1) hno
      have d2 := ExtU.cells (R := fun q => (Value.slice aos i cos).ownBlock = some q) p0 hnl
      have d3 := ExtU.cells (R := fun q => (Value.slice aos i cos).ownBlock = some q) p1 hnl
      simp only at d1
      have HRW := hid (row_cells (cs := [.int .i64 fk, .int .i64 fn]) (heap_alloc_at wr.drew (.cells #[.int .i64 fk, .int .i64 fn] 75) rfl))
      have OWA := hid (show (wr.drew.alloc (.cells #[.int .i64 fk, .int .i64 fn] 75)).ownsRow W0.heap.size 75 2 (.slice aos i cos) i (flatH ((sups.map f).take i)) from World.ownsRow.alloc (show wr.drew.ownsRow W0.heap.size 75 2 (.slice aos i cos) i (flatH ((sups.map f).take i)) from OW.out) _)
      have HSZ := hid (show W0.heap.size ≤ (wr.drew.alloc (.cells #[.int .i64 fk, .int .i64 fn] 75)).heap.size from ((HBE.out.drew).alloc HBE.out.size _).size)
      clear hlb hrow hHi hy hlt hi hfy p0 p1 hnl hno
      go_wp2
      refine wp_region_midX (fun x : ExtU (fun q => (Value.slice aos i cos).ownBlock = some q) wr => x.val) 8 [0, 1, 2, 3, 4, 5] [6, 7] (by kernel_rfl) (by kernel_rfl) (by kernel_rfl) (by kernel_rfl) (by rintro c a (_ | d) v w h <;> exact h) ⟨⟨_, (Upd.refl _ _).drew⟩, rfl⟩ ?_
      simp only [pickO, List.getD_cons_succ, List.getD_cons_zero, List.drop_succ_cons, List.drop_zero]
      repeat (go_big_quiet_step (fail))
      refine wpQuiet_nil ?_
      unfold wpMids
      go_wp2
      refine ⟨⟨⟨_, (Upd.refl _ _).drew.alloc _⟩, rfl⟩, ?_⟩
      unfold wpMids
      go_wp2_with (at_builtin; refine wpList_append_own_at _ rfl _ _ 44 rfl W0.heap.size 75 i0 _ 2 16 Tryz.underlying44 Hi.out Hz0.out Hz1.out Hz2.out rfl (by decide) _ _ _ rfl OWA.out ⟨wr.heap.size, 0, none⟩ 1 1 [.int .i64 fk, .int .i64 fn] rfl rfl HRW.out (by intro u hu; simp at hu; rcases hu with rfl | rfl <;> rfl) (by have := HCC.out; have := HI.out; unfold maxLen; omega) (by have := HCC.out; have := HI.out; omega) HSZ.out ?_)
      intro v9 w9 o9 gr9 mv0 mv9
      obtain ⟨a9, c9, rfl, -⟩ := ownsRow_form o9
      have f9 := outh_sups HO.out gr9
      have f9c := heap_cell f9 1
      have f9f := heap_frozen f9 1
      simp only [List.getElem?_toArray, List.getElem?_cons_succ, List.getElem?_cons_zero] at f9c
      have hu9 : Upd (fun q => (Value.slice aos i cos).ownBlock = some q) wr w9 := ((Upd.refl _ wr).drew.alloc _).grown gr9 (fun q hq => .inl hq)
      have HU9 := hid hu9
      have hb9 : Below W0.heap.size W0 w9 := ((HBE.out.drew).alloc HBE.out.size _).grown gr9 HSZ.out (fun k hk => (OW.out.lt k hk).1)
      have q := out_sups (y := ⟨fk, fn⟩) HO.out gr9 (by rw [show (⟨fin, (sups.map f).take i, k, [], [], []⟩ : Sb).sups.length = i from HTL.out]; exact o9) (by simpa using mv9)
      have HB9 := hid hb9; have HQ := hid q
      clear o9 gr9 mv0 mv9 f9 hu9 hb9 q
      go_wp2
      refine ⟨⟨⟨_, HU9.out⟩, rfl⟩, ?_⟩
      unfold wpMids
      go_wp2
      go_roundw
      case rel =>
        refine ⟨i + 1, .slice a9 (i + 1) c9, by go_num, by go_num, HI.out, ?_, HB9.out.setCell (by have := HOB.out; have := HWS.out; dsimp only; omega) _⟩
        rw [List.take_add_one, get_map f HY.out, HFY.out]
        exact HQ.out
      case measure => have := HI.out; simp [intOf]; omega
    · obtain rfl : i = ns := by omega
      have hlt' : ¬ (i : Int) < i := by omega
      clear hlt hi hrow
      go_wp2
      obtain ⟨lb, hlb⟩ : ∃ q, wr.heap.size = q := ⟨_, rfl⟩
      have hl2 : (wr.alloc (.cells #[.slice ps np pc, .slice rs nr rc] 197)).heap[lb]? = some (.cells #[.slice ps np pc, .slice rs nr rc] 197 (0, 0)) := heap_alloc_at _ _ hlb.symm
      have hb2 : Below W0.heap.size W0 (wr.alloc (.cells #[.slice ps np pc, .slice rs nr rc] 197)) := HBE.out.alloc HBE.out.size _
      have ho2 : OutS W0.heap.size ob ⟨fin, sups.map f, k, [], [], []⟩ (wr.alloc (.cells #[.slice ps np pc, .slice rs nr rc] 197)) (.slice aos i cos) (.slice none 0 0) (.slice none 0 0) (.slice none 0 0) := by
        have h := HO.out
        rw [List.take_of_length_le (by rw [List.length_map, HNS.out]; exact Nat.le_refl _)] at h
        exact h.same ((Upd.refl _ _).alloc _)
      rw [hlb]
      obtain ⟨W2, hW2⟩ : ∃ W2 : World, W2 = wr.alloc (.cells #[.slice ps np pc, .slice rs nr rc] 197) := ⟨_, rfl⟩
      rw [← hW2] at hl2 hb2 ho2 ⊢
      have HL2 := hid hl2; have HB2 := hid hb2; have HO2 := hid ho2
      have vP : ∀ (j : Nat) v, lp[j]? = some v → (valsR ⟨fin, sups, k, lp, lr, lf⟩)[j]? = some v := fun j v h => by
        unfold valsR; rw [List.append_assoc, List.getElem?_append_left (List.getElem?_eq_some_iff.1 h).1]; exact h
      have vR : ∀ (j : Nat) v, lr[j]? = some v → (valsR ⟨fin, sups, k, lp, lr, lf⟩)[np + j]? = some v := fun j v h => by
        unfold valsR; rw [List.append_assoc, List.getElem?_append_right (by rw [HNP.out]; omega), HNP.out, Nat.add_sub_cancel_left, List.getElem?_append_left (List.getElem?_eq_some_iff.1 h).1]; exact h
      have vF : ∀ (j : Nat) (x : Fl), lf[j]? = some x → (valsR ⟨fin, sups, k, lp, lr, lf⟩)[np + nr + j]? = some x.v := fun j x h => by
        unfold valsR; rw [List.getElem?_append_right (by simp only [List.length_append, HNP.out, HNR.out]; omega), List.length_append, HNP.out, HNR.out, Nat.add_sub_cancel_left]; exact get_map Fl.v h
      have hRF : ∀ (m : Nat) (v : Vl), (valsR ⟨fin, sups, k, lp, lr, lf⟩)[m]? = some v → v.k = 3 → H[i + (refsV ((valsR ⟨fin, sups, k, lp, lr, lf⟩).take m)).length]? = some (f ⟨v.h, v.n⟩) := fun m v h hk => by
        have q := heaps_ref (x := ⟨fin, sups, k, lp, lr, lf⟩) h hk
        rw [← HH.out, ← HNS.out]; exact get_map f q
      have VP := hid vP; have VR := hid vR; have VF := hid vF; have HRF := hid hRF
      clear hl2 hb2 ho2 hW2 hlb c1 c2 c3 c4 c5 hlt' vP vR vF hRF
      go_loopw [5, 9] (fun t5 t9 wz => ∃ (kk A : Nat) (vp vr : Value), t9 = .int .i64 kk ∧ kk ≤ 2 ∧ t5 = .int .i64 (A : Nat) ∧ A = i + (refsV ((valsR ⟨fin, sups, k, lp, lr, lf⟩).take (if kk = 0 then 0 else if kk = 1 then np else np + nr))).length ∧ OutS W0.heap.size ob ⟨fin, sups.map f, k, if kk = 0 then [] else lp.map (vf f), if kk = 2 then lr.map (vf f) else [], []⟩ wz (.slice aos i cos) vp vr (.slice none 0 0) ∧ wz.heap[lb]? = some (.cells #[.slice ps np pc, .slice rs nr rc] 197 (0, 0)) ∧ Below W0.heap.size W0 wz) (fun _ t9 _ => 2 - (intOf t9).toNat)
      case atStart => exact ⟨0, i, _, _, rfl, by omega, rfl, by simp [refsV], HO2.out, HL2.out, HB2.out⟩
      case round =>
        obtain ⟨kk, A, vp, vr, rfl, hkk, rfl, hA, hO, hL, hbe⟩ := hrel
        have HO := hid hO; have HL := hid hL; have HBE := hid hbe; have HA := hid hA
        clear hO hL hbe hA
        rcases (show kk = 0 ∨ kk = 1 ∨ kk = 2 by omega) with rfl | rfl | rfl
        · skip
          have ho0 : OutS W0.heap.size ob ⟨fin, sups.map f, k, (lp.map (vf f)).take 0, [], []⟩ wr (.slice aos i cos) vp vr (.slice none 0 0) := by simpa using HO.out
          have ha0 : A = i + (refsV ((valsR ⟨fin, sups, k, lp, lr, lf⟩).take (0))).length := by simpa using HA.out
          have HO0 := hid ho0; have HA0 := hid ha0
          clear ho0 ha0
          have e0 := heap_cell HL.out 0
          simp only [List.getElem?_toArray, List.getElem?_cons_zero] at e0
          go_wp2
          go_loopw [5, 10] (fun t5 t10 wz => ∃ (j A : Nat) (v9 : Value), t10 = .int .i64 j ∧ j ≤ np ∧ t5 = .int .i64 (A : Nat) ∧ A = i + (refsV ((valsR ⟨fin, sups, k, lp, lr, lf⟩).take (j))).length ∧ OutS W0.heap.size ob ⟨fin, sups.map f, k, (lp.map (vf f)).take j, [], []⟩ wz (.slice aos i cos) v9 vr (.slice none 0 0) ∧ wz.heap[lb]? = some (.cells #[.slice ps np pc, .slice rs nr rc] 197 (0, 0)) ∧ Below W0.heap.size W0 wz) (fun _ t10 _ => np - (intOf t10).toNat)
          case atStart => exact ⟨0, A, _, rfl, Nat.zero_le _, rfl, HA0.out, HO0.out, HL.out, HBE.out⟩
          case round =>
            clear HO HA HL HBE HO0 HA0
            obtain ⟨j, A, v9, rfl, hj, rfl, hA, hO, hL, hbe⟩ := hrel
            have ow := hO.op
            have htl : ((lp.map (vf f)).take j).length = j := by rw [List.length_take, List.length_map, HNP.out]; omega
            have HTL := hid htl
            obtain ⟨aov, cov, rfl, -⟩ := ownsRow_form ow
            dsimp only at ow hO
            rw [htl] at ow hO
            have hrow := R2.out ⟨wr, hbe⟩
            have hrowh := R5.out ⟨wr, hbe⟩
            dsimp only at hrow hrowh
            have e0 := heap_cell hL 0
            simp only [List.getElem?_toArray, List.getElem?_cons_zero] at e0
            have HO := hid hO; have HBE := hid hbe; have OW := hid ow; have HL := hid hL; have HA := hid hA
            clear hO hbe ow htl hL hA
            by_cases hlt : j < np
            · obtain ⟨⟨yk, yl, yh, yn⟩, hy⟩ : ∃ y, lp[j]? = some y := ⟨lp[j]'(by rw [HNP.out]; exact hlt), by simp⟩
              obtain ⟨vb, voff, hvb, _, p0, p1, p2, p3⟩ := vals_at hrow hy
              dsimp only at p0 p1 p2 p3
              subst hvb
              have hlt' : (j : Int) < np := by omega
              have hj6 : (j : Int) < 1000000 := by have := HCC.out; omega
              have HY := hid hy; have HJ := hid hlt
              have hV := VP.out j _ hy
              have HV := hid hV
              clear hrow hy hlt hj
              by_cases hk : yk = 3
              · subst hk
                have hHi := HRF.out _ _ hV rfl
                rw [← HA.out] at hHi
                obtain ⟨⟨fk, fn⟩, hfy⟩ : ∃ y', f ⟨yh, yn⟩ = y' := ⟨_, rfl⟩
                dsimp only at hHi
                rw [hfy] at hHi
                obtain ⟨hb, hoff, hbo, _, q0, q1⟩ := hps_at hrowh hHi
                dsimp only at q0 q1
                subst hbo
                have hin : (A : Int) < nh := by have := (List.getElem?_eq_some_iff.1 hHi).1; rw [HNH.out] at this; omega
                have hA6 : (A : Int) < 3000000 := by have h1 := HA.out; have h2 := refsV_len ((valsR ⟨fin, sups, k, lp, lr, lf⟩).take (j)); have h3 := HCC.out; have h4 := HJ.out; rw [List.length_take] at h2; omega
                have HFY := hid hfy
                have bx := heap_alloc_at wr (.cells #[.int .i64 3, .bool yl, .int .i64 yh, .int .i64 yn] 77) (b := wr.heap.size) rfl
                have hbw : Below W0.heap.size W0 (wr.alloc (.cells #[.int .i64 3, .bool yl, .int .i64 yh, .int .i64 yn] 77)) := HBE.out.alloc HBE.out.size _
                have q0' : (wr.alloc (.cells #[.int .i64 3, .bool yl, .int .i64 yh, .int .i64 yn] 77)).cell? ⟨hb, hoff + A * 2, none⟩ = some (.int .i64 fk) := cell_alloc q0 _
                have q1' : (wr.alloc (.cells #[.int .i64 3, .bool yl, .int .i64 yh, .int .i64 yn] 77)).cell? ⟨hb, hoff + A * 2 + 1, none⟩ = some (.int .i64 fn) := cell_alloc q1 _
                have BX := hid bx; have Q0' := hid q0'; have Q1' := hid q1'
                clear hHi hfy hV hrowh bx q0 q1 q0' q1' hbw
                go_upto_region 17 with fail
                obtain ⟨wb, hwb⟩ : ∃ wb : World, wb = wr.alloc (.cells #[.int .i64 3, .bool yl, .int .i64 yh, .int .i64 yn] 77) := ⟨_, rfl⟩
                rw [← hwb]
                have bx := BX.out; have q0' := Q0'.out; have q1' := Q1'.out
                rw [← hwb] at bx q0' q1'
                have bxf := fun i => heap_frozen bx i
                have bx0 := heap_cell bx 0; have bx1 := heap_cell bx 1; have bx2 := heap_cell bx 2; have bx3 := heap_cell bx 3
                simp only [List.getElem?_toArray, List.getElem?_cons_succ, List.getElem?_cons_zero] at bx0 bx1 bx2 bx3
                have HWB := hid hwb
                have BXW := hid bx
                clear hwb bx BX
                go_upto_region 20 with fail
                obtain ⟨wc, hwc⟩ : ∃ wc : World, wc = (wb.setCell ⟨wr.heap.size, 2, none⟩ (.int .i64 fk)).setCell ⟨wr.heap.size, 3, none⟩ (.int .i64 fn) := ⟨_, rfl⟩
                rw [← hwc]
                have uc : Upd (fun _ => False) wr wc := by rw [hwc, HWB.out]; exact (((Upd.refl _ wr).alloc _).setCell (.inr (Nat.le_refl _)) _).setCell (.inr (Nat.le_refl _)) _
                have bxc : wc.heap[wr.heap.size]? = some (.cells #[.int .i64 3, .bool yl, .int .i64 fk, .int .i64 fn] 77 (0, 0)) := by rw [hwc]; exact (by have q := heap_set_at (heap_set_at BXW.out 2 (.int .i64 fk)) 3 (.int .i64 fn); simpa using q)
                have hbc : Below W0.heap.size W0 wc := ⟨uc.os.trans HBE.out.os, uc.tape.trans HBE.out.tape, uc.output.trans HBE.out.output, Nat.le_trans HBE.out.size uc.size, fun q hq => (uc.block q (Nat.lt_of_lt_of_le hq HBE.out.size) (fun h => h)).trans (HBE.out.block q hq)⟩
                have hoc := HO.out.same uc
                have hlc := uc.heap_some HL.out (fun h => h)
                have g0 := heap_cell bxc 0; have g1 := heap_cell bxc 1; have g2 := heap_cell bxc 2; have g3 := heap_cell bxc 3
                have d1 := heap_cell hoc.hp 3
                simp only [List.getElem?_toArray, List.getElem?_cons_succ, List.getElem?_cons_zero] at g0 g1 g2 g3 d1
                have HRW := hid (row_cells (cs := [.int .i64 3, .bool yl, .int .i64 fk, .int .i64 fn]) (heap_alloc_at wc (.cells #[.int .i64 3, .bool yl, .int .i64 fk, .int .i64 fn] 77) rfl))
                have owc := hoc.op
                rw [show (⟨fin, sups.map f, k, (lp.map (vf f)).take j, [], []⟩ : Sb).ps.length = j from HTL.out] at owc
                have OWA := hid (owc.alloc (.cells #[.int .i64 3, .bool yl, .int .i64 fk, .int .i64 fn] 77))
                have HSZ := hid (hbc.alloc hbc.size (.cells #[.int .i64 3, .bool yl, .int .i64 fk, .int .i64 fn] 77)).size
                have HOC := hid hoc; have HLC := hid hlc; have HBC := hid hbc
                clear hwc uc bxc hoc hlc hbc owc
                go_wp2_with (at_builtin; refine wpList_append_own_at _ rfl _ _ 36 rfl W0.heap.size 77 i1 _ 4 32 Tryz.underlying36 Hi'.out Hz0'.out Hz1'.out Hz2'.out rfl (by decide) _ _ _ rfl OWA.out ⟨wc.heap.size, 0, none⟩ 1 1 [.int .i64 3, .bool yl, .int .i64 fk, .int .i64 fn] rfl rfl HRW.out (by intro u hu; simp at hu; rcases hu with rfl | rfl | rfl | rfl <;> rfl) (by have := HCC.out; have := HJ.out; unfold maxLen; omega) (by have := HCC.out; have := HJ.out; omega) HSZ.out ?_)
                intro v9 w9 o9 gr9 mv0 mv9
                obtain ⟨a9, c9, rfl, -⟩ := ownsRow_form o9
                have gr9' : (wc.drew.alloc (.cells #[.int .i64 3, .bool yl, .int .i64 fk, .int .i64 fn] 77)).grownBy w9 (Value.slice aov j cov).ownBlock := ⟨gr9.os, gr9.tape, gr9.output, gr9.size, gr9.block⟩
                have f9 := outh_ps HOC.out gr9'
                have f9c := heap_cell f9 3
                have f9f := heap_frozen f9 3
                simp only [List.getElem?_toArray, List.getElem?_cons_succ, List.getElem?_cons_zero] at f9c
                have hb9 : Below W0.heap.size W0 w9 := (HBC.out.alloc HBC.out.size _).grown gr9 HSZ.out (fun k hk => (OWA.out.lt k hk).1)
                have l9 := ((Upd.refl (fun q => (Value.slice aov j cov).ownBlock = some q) wc).alloc (.cells #[.int .i64 3, .bool yl, .int .i64 fk, .int .i64 fn] 77)).grown gr9 (fun q hq => .inl hq) |>.heap_some HLC.out (row_ne HOC.out.op HLC.out (by decide))
                have l10 := heap_set_off l9 (a := ⟨ob, 3, none⟩) (fun e => by subst e; rw [f9] at l9; simp at l9) (.slice a9 (j + 1) c9)
                have q := out_ps (y := ⟨3, yl, fk, fn⟩) HOC.out gr9' (by rw [show (⟨fin, sups.map f, k, (lp.map (vf f)).take j, [], []⟩ : Sb).ps.length = j from HTL.out]; exact o9) (by simpa using mv9)
                have HB9 := hid hb9; have HQ := hid q; have L10 := hid l10
                clear o9 gr9 mv0 mv9 f9 hb9 q gr9' l9 l10
                go_wp2
                go_roundw
                case rel =>
                  refine ⟨j + 1, A + 1, .slice a9 (j + 1) c9, by go_num, HJ.out, by go_num, ?_, ?_, L10.out, HB9.out.setCell (by have := HOB.out; have := HWS.out; dsimp only; omega) _⟩
                  · rw [show (j + 1) = j + 1 by omega, refsV_take HV.out]
                    rw [if_pos rfl, List.length_append, HA.out]; simp; omega
                  · rw [List.take_add_one, get_map (vf f) HY.out]
                    rw [show vf f ⟨3, yl, yh, yn⟩ = ⟨3, yl, fk, fn⟩ by simp [vf, HFY.out]]
                    exact HQ.out
                case measure => have := HJ.out; simp [intOf]; omega
              · have hkb : (yk == 3) = false := by simpa using hk
                have HK := hid hk
                clear hk hrowh hV
                go_upto_region 20 with fail
                obtain ⟨wc, hwc⟩ : ∃ wc : World, wc = wr.alloc (.cells #[.int .i64 yk, .bool yl, .int .i64 yh, .int .i64 yn] 77) := ⟨_, rfl⟩
                rw [← hwc]
                have uc : Upd (fun _ => False) wr wc := by rw [hwc]; exact (Upd.refl _ wr).alloc _
                have bxc : wc.heap[wr.heap.size]? = some (.cells #[.int .i64 yk, .bool yl, .int .i64 yh, .int .i64 yn] 77 (0, 0)) := by rw [hwc]; exact heap_alloc_at _ _ rfl
                have hbc : Below W0.heap.size W0 wc := ⟨uc.os.trans HBE.out.os, uc.tape.trans HBE.out.tape, uc.output.trans HBE.out.output, Nat.le_trans HBE.out.size uc.size, fun q hq => (uc.block q (Nat.lt_of_lt_of_le hq HBE.out.size) (fun h => h)).trans (HBE.out.block q hq)⟩
                have hoc := HO.out.same uc
                have hlc := uc.heap_some HL.out (fun h => h)
                have g0 := heap_cell bxc 0; have g1 := heap_cell bxc 1; have g2 := heap_cell bxc 2; have g3 := heap_cell bxc 3
                have d1 := heap_cell hoc.hp 3
                simp only [List.getElem?_toArray, List.getElem?_cons_succ, List.getElem?_cons_zero] at g0 g1 g2 g3 d1
                have HRW := hid (row_cells (cs := [.int .i64 yk, .bool yl, .int .i64 yh, .int .i64 yn]) (heap_alloc_at wc (.cells #[.int .i64 yk, .bool yl, .int .i64 yh, .int .i64 yn] 77) rfl))
                have owc := hoc.op
                rw [show (⟨fin, sups.map f, k, (lp.map (vf f)).take j, [], []⟩ : Sb).ps.length = j from HTL.out] at owc
                have OWA := hid (owc.alloc (.cells #[.int .i64 yk, .bool yl, .int .i64 yh, .int .i64 yn] 77))
                have HSZ := hid (hbc.alloc hbc.size (.cells #[.int .i64 yk, .bool yl, .int .i64 yh, .int .i64 yn] 77)).size
                have HOC := hid hoc; have HLC := hid hlc; have HBC := hid hbc
                clear hwc uc bxc hoc hlc hbc owc
                go_wp2_with (at_builtin; refine wpList_append_own_at _ rfl _ _ 36 rfl W0.heap.size 77 i1 _ 4 32 Tryz.underlying36 Hi'.out Hz0'.out Hz1'.out Hz2'.out rfl (by decide) _ _ _ rfl OWA.out ⟨wc.heap.size, 0, none⟩ 1 1 [.int .i64 yk, .bool yl, .int .i64 yh, .int .i64 yn] rfl rfl HRW.out (by intro u hu; simp at hu; rcases hu with rfl | rfl | rfl | rfl <;> rfl) (by have := HCC.out; have := HJ.out; unfold maxLen; omega) (by have := HCC.out; have := HJ.out; omega) HSZ.out ?_)
                intro v9 w9 o9 gr9 mv0 mv9
                obtain ⟨a9, c9, rfl, -⟩ := ownsRow_form o9
                have gr9' : (wc.drew.alloc (.cells #[.int .i64 yk, .bool yl, .int .i64 yh, .int .i64 yn] 77)).grownBy w9 (Value.slice aov j cov).ownBlock := ⟨gr9.os, gr9.tape, gr9.output, gr9.size, gr9.block⟩
                have f9 := outh_ps HOC.out gr9'
                have f9c := heap_cell f9 3
                have f9f := heap_frozen f9 3
                simp only [List.getElem?_toArray, List.getElem?_cons_succ, List.getElem?_cons_zero] at f9c
                have hb9 : Below W0.heap.size W0 w9 := (HBC.out.alloc HBC.out.size _).grown gr9 HSZ.out (fun k hk => (OWA.out.lt k hk).1)
                have l9 := ((Upd.refl (fun q => (Value.slice aov j cov).ownBlock = some q) wc).alloc (.cells #[.int .i64 yk, .bool yl, .int .i64 yh, .int .i64 yn] 77)).grown gr9 (fun q hq => .inl hq) |>.heap_some HLC.out (row_ne HOC.out.op HLC.out (by decide))
                have l10 := heap_set_off l9 (a := ⟨ob, 3, none⟩) (fun e => by subst e; rw [f9] at l9; simp at l9) (.slice a9 (j + 1) c9)
                have q := out_ps (y := ⟨yk, yl, yh, yn⟩) HOC.out gr9' (by rw [show (⟨fin, sups.map f, k, (lp.map (vf f)).take j, [], []⟩ : Sb).ps.length = j from HTL.out]; exact o9) (by simpa using mv9)
                have HB9 := hid hb9; have HQ := hid q; have L10 := hid l10
                clear o9 gr9 mv0 mv9 f9 hb9 q gr9' l9 l10
                go_wp2
                go_roundw
                case rel =>
                  refine ⟨j + 1, A, .slice a9 (j + 1) c9, by go_num, HJ.out, by go_num, ?_, ?_, L10.out, HB9.out.setCell (by have := HOB.out; have := HWS.out; dsimp only; omega) _⟩
                  · rw [show (j + 1) = j + 1 by omega, refsV_take HV.out]
                    rw [if_neg HK.out]; exact HA.out
                  · rw [List.take_add_one, get_map (vf f) HY.out]
                    rw [show vf f ⟨yk, yl, yh, yn⟩ = ⟨yk, yl, yh, yn⟩ by simp [vf, HK.out]]
                    exact HQ.out
                case measure => have := HJ.out; simp [intOf]; omega
            · obtain rfl : j = np := by omega
              have hlt' : ¬ (j : Int) < j := by omega
              have hfull : (lp.map (vf f)).take j = lp.map (vf f) := List.take_of_length_le (by rw [List.length_map, HNP.out]; exact Nat.le_refl _)
              have ho3 := HO.out
              rw [hfull] at ho3
              have HO3 := hid ho3
              clear ho3 hfull hlt hj hrow hrowh
              go_wp2
              go_roundw
              case rel => exact ⟨1, A, Value.slice aov j cov, vr, by go_num, by omega, rfl, by simpa using HA.out, by simpa using HO3.out, HL.out, HBE.out⟩
              case measure => simp [intOf]
        · skip
          have ho0 : OutS W0.heap.size ob ⟨fin, sups.map f, k, lp.map (vf f), (lr.map (vf f)).take 0, []⟩ wr (.slice aos i cos) vp vr (.slice none 0 0) := by simpa using HO.out
          have ha0 : A = i + (refsV ((valsR ⟨fin, sups, k, lp, lr, lf⟩).take (np + 0))).length := by simpa using HA.out
          have HO0 := hid ho0; have HA0 := hid ha0
          clear ho0 ha0
          have e0 := heap_cell HL.out 1
          simp only [List.getElem?_toArray, List.getElem?_cons_succ, List.getElem?_cons_zero] at e0
          go_wp2
          go_loopw [5, 10] (fun t5 t10 wz => ∃ (j A : Nat) (v9 : Value), t10 = .int .i64 j ∧ j ≤ nr ∧ t5 = .int .i64 (A : Nat) ∧ A = i + (refsV ((valsR ⟨fin, sups, k, lp, lr, lf⟩).take (np + j))).length ∧ OutS W0.heap.size ob ⟨fin, sups.map f, k, lp.map (vf f), (lr.map (vf f)).take j, []⟩ wz (.slice aos i cos) vp v9 (.slice none 0 0) ∧ wz.heap[lb]? = some (.cells #[.slice ps np pc, .slice rs nr rc] 197 (0, 0)) ∧ Below W0.heap.size W0 wz) (fun _ t10 _ => nr - (intOf t10).toNat)
          case atStart => exact ⟨0, A, _, rfl, Nat.zero_le _, rfl, HA0.out, HO0.out, HL.out, HBE.out⟩
          case round =>
            clear HO HA HL HBE HO0 HA0
            obtain ⟨j, A, v9, rfl, hj, rfl, hA, hO, hL, hbe⟩ := hrel
            have ow := hO.or
            have htl : ((lr.map (vf f)).take j).length = j := by rw [List.length_take, List.length_map, HNR.out]; omega
            have HTL := hid htl
            obtain ⟨aov, cov, rfl, -⟩ := ownsRow_form ow
            dsimp only at ow hO
            rw [htl] at ow hO
            have hrow := R3.out ⟨wr, hbe⟩
            have hrowh := R5.out ⟨wr, hbe⟩
            dsimp only at hrow hrowh
            have e0 := heap_cell hL 1
            simp only [List.getElem?_toArray, List.getElem?_cons_succ, List.getElem?_cons_zero] at e0
            have HO := hid hO; have HBE := hid hbe; have OW := hid ow; have HL := hid hL; have HA := hid hA
            clear hO hbe ow htl hL hA
            by_cases hlt : j < nr
            · obtain ⟨⟨yk, yl, yh, yn⟩, hy⟩ : ∃ y, lr[j]? = some y := ⟨lr[j]'(by rw [HNR.out]; exact hlt), by simp⟩
              obtain ⟨vb, voff, hvb, _, p0, p1, p2, p3⟩ := vals_at hrow hy
              dsimp only at p0 p1 p2 p3
              subst hvb
              have hlt' : (j : Int) < nr := by omega
              have hj6 : (j : Int) < 1000000 := by have := HCC.out; omega
              have HY := hid hy; have HJ := hid hlt
              have hV := VR.out j _ hy
              have HV := hid hV
              clear hrow hy hlt hj
              by_cases hk : yk = 3
              · subst hk
                have hHi := HRF.out _ _ hV rfl
                rw [← HA.out] at hHi
                obtain ⟨⟨fk, fn⟩, hfy⟩ : ∃ y', f ⟨yh, yn⟩ = y' := ⟨_, rfl⟩
                dsimp only at hHi
                rw [hfy] at hHi
                obtain ⟨hb, hoff, hbo, _, q0, q1⟩ := hps_at hrowh hHi
                dsimp only at q0 q1
                subst hbo
                have hin : (A : Int) < nh := by have := (List.getElem?_eq_some_iff.1 hHi).1; rw [HNH.out] at this; omega
                have hA6 : (A : Int) < 3000000 := by have h1 := HA.out; have h2 := refsV_len ((valsR ⟨fin, sups, k, lp, lr, lf⟩).take (np + j)); have h3 := HCC.out; have h4 := HJ.out; rw [List.length_take] at h2; omega
                have HFY := hid hfy
                have bx := heap_alloc_at wr (.cells #[.int .i64 3, .bool yl, .int .i64 yh, .int .i64 yn] 77) (b := wr.heap.size) rfl
                have hbw : Below W0.heap.size W0 (wr.alloc (.cells #[.int .i64 3, .bool yl, .int .i64 yh, .int .i64 yn] 77)) := HBE.out.alloc HBE.out.size _
                have q0' : (wr.alloc (.cells #[.int .i64 3, .bool yl, .int .i64 yh, .int .i64 yn] 77)).cell? ⟨hb, hoff + A * 2, none⟩ = some (.int .i64 fk) := cell_alloc q0 _
                have q1' : (wr.alloc (.cells #[.int .i64 3, .bool yl, .int .i64 yh, .int .i64 yn] 77)).cell? ⟨hb, hoff + A * 2 + 1, none⟩ = some (.int .i64 fn) := cell_alloc q1 _
                have BX := hid bx; have Q0' := hid q0'; have Q1' := hid q1'
                clear hHi hfy hV hrowh bx q0 q1 q0' q1' hbw
                go_upto_region 17 with fail
                obtain ⟨wb, hwb⟩ : ∃ wb : World, wb = wr.alloc (.cells #[.int .i64 3, .bool yl, .int .i64 yh, .int .i64 yn] 77) := ⟨_, rfl⟩
                rw [← hwb]
                have bx := BX.out; have q0' := Q0'.out; have q1' := Q1'.out
                rw [← hwb] at bx q0' q1'
                have bxf := fun i => heap_frozen bx i
                have bx0 := heap_cell bx 0; have bx1 := heap_cell bx 1; have bx2 := heap_cell bx 2; have bx3 := heap_cell bx 3
                simp only [List.getElem?_toArray, List.getElem?_cons_succ, List.getElem?_cons_zero] at bx0 bx1 bx2 bx3
                have HWB := hid hwb
                have BXW := hid bx
                clear hwb bx BX
                go_upto_region 21 with fail
                obtain ⟨wc, hwc⟩ : ∃ wc : World, wc = (wb.setCell ⟨wr.heap.size, 2, none⟩ (.int .i64 fk)).setCell ⟨wr.heap.size, 3, none⟩ (.int .i64 fn) := ⟨_, rfl⟩
                rw [← hwc]
                have uc : Upd (fun _ => False) wr wc := by rw [hwc, HWB.out]; exact (((Upd.refl _ wr).alloc _).setCell (.inr (Nat.le_refl _)) _).setCell (.inr (Nat.le_refl _)) _
                have bxc : wc.heap[wr.heap.size]? = some (.cells #[.int .i64 3, .bool yl, .int .i64 fk, .int .i64 fn] 77 (0, 0)) := by rw [hwc]; exact (by have q := heap_set_at (heap_set_at BXW.out 2 (.int .i64 fk)) 3 (.int .i64 fn); simpa using q)
                have hbc : Below W0.heap.size W0 wc := ⟨uc.os.trans HBE.out.os, uc.tape.trans HBE.out.tape, uc.output.trans HBE.out.output, Nat.le_trans HBE.out.size uc.size, fun q hq => (uc.block q (Nat.lt_of_lt_of_le hq HBE.out.size) (fun h => h)).trans (HBE.out.block q hq)⟩
                have hoc := HO.out.same uc
                have hlc := uc.heap_some HL.out (fun h => h)
                have g0 := heap_cell bxc 0; have g1 := heap_cell bxc 1; have g2 := heap_cell bxc 2; have g3 := heap_cell bxc 3
                have d1 := heap_cell hoc.hp 4
                simp only [List.getElem?_toArray, List.getElem?_cons_succ, List.getElem?_cons_zero] at g0 g1 g2 g3 d1
                have HRW := hid (row_cells (cs := [.int .i64 3, .bool yl, .int .i64 fk, .int .i64 fn]) (heap_alloc_at wc (.cells #[.int .i64 3, .bool yl, .int .i64 fk, .int .i64 fn] 77) rfl))
                have owc := hoc.or
                rw [show (⟨fin, sups.map f, k, lp.map (vf f), (lr.map (vf f)).take j, []⟩ : Sb).rs.length = j from HTL.out] at owc
                have OWA := hid (owc.alloc (.cells #[.int .i64 3, .bool yl, .int .i64 fk, .int .i64 fn] 77))
                have HSZ := hid (hbc.alloc hbc.size (.cells #[.int .i64 3, .bool yl, .int .i64 fk, .int .i64 fn] 77)).size
                have HOC := hid hoc; have HLC := hid hlc; have HBC := hid hbc
                clear hwc uc bxc hoc hlc hbc owc
                go_wp2_with (at_builtin; refine wpList_append_own_at _ rfl _ _ 36 rfl W0.heap.size 77 i1 _ 4 32 Tryz.underlying36 Hi'.out Hz0'.out Hz1'.out Hz2'.out rfl (by decide) _ _ _ rfl OWA.out ⟨wc.heap.size, 0, none⟩ 1 1 [.int .i64 3, .bool yl, .int .i64 fk, .int .i64 fn] rfl rfl HRW.out (by intro u hu; simp at hu; rcases hu with rfl | rfl | rfl | rfl <;> rfl) (by have := HCC.out; have := HJ.out; unfold maxLen; omega) (by have := HCC.out; have := HJ.out; omega) HSZ.out ?_)
                intro v9 w9 o9 gr9 mv0 mv9
                obtain ⟨a9, c9, rfl, -⟩ := ownsRow_form o9
                have gr9' : (wc.drew.alloc (.cells #[.int .i64 3, .bool yl, .int .i64 fk, .int .i64 fn] 77)).grownBy w9 (Value.slice aov j cov).ownBlock := ⟨gr9.os, gr9.tape, gr9.output, gr9.size, gr9.block⟩
                have f9 := outh_rs HOC.out gr9'
                have f9c := heap_cell f9 4
                have f9f := heap_frozen f9 4
                simp only [List.getElem?_toArray, List.getElem?_cons_succ, List.getElem?_cons_zero] at f9c
                have hb9 : Below W0.heap.size W0 w9 := (HBC.out.alloc HBC.out.size _).grown gr9 HSZ.out (fun k hk => (OWA.out.lt k hk).1)
                have l9 := ((Upd.refl (fun q => (Value.slice aov j cov).ownBlock = some q) wc).alloc (.cells #[.int .i64 3, .bool yl, .int .i64 fk, .int .i64 fn] 77)).grown gr9 (fun q hq => .inl hq) |>.heap_some HLC.out (row_ne HOC.out.or HLC.out (by decide))
                have l10 := heap_set_off l9 (a := ⟨ob, 4, none⟩) (fun e => by subst e; rw [f9] at l9; simp at l9) (.slice a9 (j + 1) c9)
                have q := out_rs (y := ⟨3, yl, fk, fn⟩) HOC.out gr9' (by rw [show (⟨fin, sups.map f, k, lp.map (vf f), (lr.map (vf f)).take j, []⟩ : Sb).rs.length = j from HTL.out]; exact o9) (by simpa using mv9)
                have HB9 := hid hb9; have HQ := hid q; have L10 := hid l10
                clear o9 gr9 mv0 mv9 f9 hb9 q gr9' l9 l10
                go_wp2
                go_roundw
                case rel =>
                  refine ⟨j + 1, A + 1, .slice a9 (j + 1) c9, by go_num, HJ.out, by go_num, ?_, ?_, L10.out, HB9.out.setCell (by have := HOB.out; have := HWS.out; dsimp only; omega) _⟩
                  · rw [show np + (j + 1) = np + j + 1 by omega, refsV_take HV.out]
                    rw [if_pos rfl, List.length_append, HA.out]; simp; omega
                  · rw [List.take_add_one, get_map (vf f) HY.out]
                    rw [show vf f ⟨3, yl, yh, yn⟩ = ⟨3, yl, fk, fn⟩ by simp [vf, HFY.out]]
                    exact HQ.out
                case measure => have := HJ.out; simp [intOf]; omega
              · have hkb : (yk == 3) = false := by simpa using hk
                have HK := hid hk
                clear hk hrowh hV
                go_upto_region 21 with fail
                obtain ⟨wc, hwc⟩ : ∃ wc : World, wc = wr.alloc (.cells #[.int .i64 yk, .bool yl, .int .i64 yh, .int .i64 yn] 77) := ⟨_, rfl⟩
                rw [← hwc]
                have uc : Upd (fun _ => False) wr wc := by rw [hwc]; exact (Upd.refl _ wr).alloc _
                have bxc : wc.heap[wr.heap.size]? = some (.cells #[.int .i64 yk, .bool yl, .int .i64 yh, .int .i64 yn] 77 (0, 0)) := by rw [hwc]; exact heap_alloc_at _ _ rfl
                have hbc : Below W0.heap.size W0 wc := ⟨uc.os.trans HBE.out.os, uc.tape.trans HBE.out.tape, uc.output.trans HBE.out.output, Nat.le_trans HBE.out.size uc.size, fun q hq => (uc.block q (Nat.lt_of_lt_of_le hq HBE.out.size) (fun h => h)).trans (HBE.out.block q hq)⟩
                have hoc := HO.out.same uc
                have hlc := uc.heap_some HL.out (fun h => h)
                have g0 := heap_cell bxc 0; have g1 := heap_cell bxc 1; have g2 := heap_cell bxc 2; have g3 := heap_cell bxc 3
                have d1 := heap_cell hoc.hp 4
                simp only [List.getElem?_toArray, List.getElem?_cons_succ, List.getElem?_cons_zero] at g0 g1 g2 g3 d1
                have HRW := hid (row_cells (cs := [.int .i64 yk, .bool yl, .int .i64 yh, .int .i64 yn]) (heap_alloc_at wc (.cells #[.int .i64 yk, .bool yl, .int .i64 yh, .int .i64 yn] 77) rfl))
                have owc := hoc.or
                rw [show (⟨fin, sups.map f, k, lp.map (vf f), (lr.map (vf f)).take j, []⟩ : Sb).rs.length = j from HTL.out] at owc
                have OWA := hid (owc.alloc (.cells #[.int .i64 yk, .bool yl, .int .i64 yh, .int .i64 yn] 77))
                have HSZ := hid (hbc.alloc hbc.size (.cells #[.int .i64 yk, .bool yl, .int .i64 yh, .int .i64 yn] 77)).size
                have HOC := hid hoc; have HLC := hid hlc; have HBC := hid hbc
                clear hwc uc bxc hoc hlc hbc owc
                go_wp2_with (at_builtin; refine wpList_append_own_at _ rfl _ _ 36 rfl W0.heap.size 77 i1 _ 4 32 Tryz.underlying36 Hi'.out Hz0'.out Hz1'.out Hz2'.out rfl (by decide) _ _ _ rfl OWA.out ⟨wc.heap.size, 0, none⟩ 1 1 [.int .i64 yk, .bool yl, .int .i64 yh, .int .i64 yn] rfl rfl HRW.out (by intro u hu; simp at hu; rcases hu with rfl | rfl | rfl | rfl <;> rfl) (by have := HCC.out; have := HJ.out; unfold maxLen; omega) (by have := HCC.out; have := HJ.out; omega) HSZ.out ?_)
                intro v9 w9 o9 gr9 mv0 mv9
                obtain ⟨a9, c9, rfl, -⟩ := ownsRow_form o9
                have gr9' : (wc.drew.alloc (.cells #[.int .i64 yk, .bool yl, .int .i64 yh, .int .i64 yn] 77)).grownBy w9 (Value.slice aov j cov).ownBlock := ⟨gr9.os, gr9.tape, gr9.output, gr9.size, gr9.block⟩
                have f9 := outh_rs HOC.out gr9'
                have f9c := heap_cell f9 4
                have f9f := heap_frozen f9 4
                simp only [List.getElem?_toArray, List.getElem?_cons_succ, List.getElem?_cons_zero] at f9c
                have hb9 : Below W0.heap.size W0 w9 := (HBC.out.alloc HBC.out.size _).grown gr9 HSZ.out (fun k hk => (OWA.out.lt k hk).1)
                have l9 := ((Upd.refl (fun q => (Value.slice aov j cov).ownBlock = some q) wc).alloc (.cells #[.int .i64 yk, .bool yl, .int .i64 yh, .int .i64 yn] 77)).grown gr9 (fun q hq => .inl hq) |>.heap_some HLC.out (row_ne HOC.out.or HLC.out (by decide))
                have l10 := heap_set_off l9 (a := ⟨ob, 4, none⟩) (fun e => by subst e; rw [f9] at l9; simp at l9) (.slice a9 (j + 1) c9)
                have q := out_rs (y := ⟨yk, yl, yh, yn⟩) HOC.out gr9' (by rw [show (⟨fin, sups.map f, k, lp.map (vf f), (lr.map (vf f)).take j, []⟩ : Sb).rs.length = j from HTL.out]; exact o9) (by simpa using mv9)
                have HB9 := hid hb9; have HQ := hid q; have L10 := hid l10
                clear o9 gr9 mv0 mv9 f9 hb9 q gr9' l9 l10
                go_wp2
                go_roundw
                case rel =>
                  refine ⟨j + 1, A, .slice a9 (j + 1) c9, by go_num, HJ.out, by go_num, ?_, ?_, L10.out, HB9.out.setCell (by have := HOB.out; have := HWS.out; dsimp only; omega) _⟩
                  · rw [show np + (j + 1) = np + j + 1 by omega, refsV_take HV.out]
                    rw [if_neg HK.out]; exact HA.out
                  · rw [List.take_add_one, get_map (vf f) HY.out]
                    rw [show vf f ⟨yk, yl, yh, yn⟩ = ⟨yk, yl, yh, yn⟩ by simp [vf, HK.out]]
                    exact HQ.out
                case measure => have := HJ.out; simp [intOf]; omega
            · obtain rfl : j = nr := by omega
              have hlt' : ¬ (j : Int) < j := by omega
              have hfull : (lr.map (vf f)).take j = lr.map (vf f) := List.take_of_length_le (by rw [List.length_map, HNR.out]; exact Nat.le_refl _)
              have ho3 := HO.out
              rw [hfull] at ho3
              have HO3 := hid ho3
              clear ho3 hfull hlt hj hrow hrowh
              go_wp2
              go_roundw
              case rel => exact ⟨2, A, vp, Value.slice aov j cov, by go_num, by omega, rfl, by simpa using HA.out, by simpa using HO3.out, HL.out, HBE.out⟩
              case measure => simp [intOf]
        · skip
          have ho0 : OutS W0.heap.size ob ⟨fin, sups.map f, k, lp.map (vf f), lr.map (vf f), (lf.map (ff f)).take 0⟩ wr (.slice aos i cos) vp vr (.slice none 0 0) := by simpa using HO.out
          have ha0 : A = i + (refsV ((valsR ⟨fin, sups, k, lp, lr, lf⟩).take (np + nr + 0))).length := by simpa using HA.out
          have HO0 := hid ho0; have HA0 := hid ha0
          clear ho0 ha0
          go_wp2
          go_loopw [5, 12] (fun t5 t12 wz => ∃ (j A : Nat) (v9 : Value), t12 = .int .i64 j ∧ j ≤ nf ∧ t5 = .int .i64 (A : Nat) ∧ A = i + (refsV ((valsR ⟨fin, sups, k, lp, lr, lf⟩).take (np + nr + j))).length ∧ OutS W0.heap.size ob ⟨fin, sups.map f, k, lp.map (vf f), lr.map (vf f), (lf.map (ff f)).take j⟩ wz (.slice aos i cos) vp vr v9 ∧ Below W0.heap.size W0 wz) (fun _ t12 _ => nf - (intOf t12).toNat)
          case atStart => exact ⟨0, A, _, rfl, Nat.zero_le _, rfl, HA0.out, HO0.out, HBE.out⟩
          case round =>
            clear HO HA HL HBE HO0 HA0
            obtain ⟨j, A, v9, rfl, hj, rfl, hA, hO, hbe⟩ := hrel
            have ow := hO.of
            have htl : ((lf.map (ff f)).take j).length = j := by rw [List.length_take, List.length_map, HNF.out]; omega
            have HTL := hid htl
            obtain ⟨aov, cov, rfl, -⟩ := ownsRow_form ow
            dsimp only at ow hO
            rw [htl] at ow hO
            have hrow := R4.out ⟨wr, hbe⟩
            have hrowh := R5.out ⟨wr, hbe⟩
            have c5 := b0_5 ⟨wr, hbe⟩
            dsimp only at hrow hrowh c5
            have HO := hid hO; have HBE := hid hbe; have OW := hid ow; have HA := hid hA
            clear hO hbe ow htl hA
            by_cases hlt : j < nf
            · obtain ⟨⟨yp, ⟨yk, yl, yh, yn⟩, ym⟩, hy⟩ : ∃ y, lf[j]? = some y := ⟨lf[j]'(by rw [HNF.out]; exact hlt), by simp⟩
              obtain ⟨vb, voff, hvb, _, p0, p1, p2, p3, p4, p5⟩ := fls_at hrow hy
              dsimp only at p0 p1 p2 p3 p4 p5
              subst hvb
              have hlt' : (j : Int) < nf := by omega
              have hj6 : (j : Int) < 1000000 := by have := HCC.out; omega
              have HY := hid hy; have HJ := hid hlt
              have hV := VF.out j _ hy
              dsimp only at hV
              have HV := hid hV
              clear hrow hy hlt hj
              by_cases hk : yk = 3
              · subst hk
                have hHi := HRF.out _ _ hV rfl
                rw [← HA.out] at hHi
                obtain ⟨⟨fk, fn⟩, hfy⟩ : ∃ y', f ⟨yh, yn⟩ = y' := ⟨_, rfl⟩
                dsimp only at hHi
                rw [hfy] at hHi
                obtain ⟨hb, hoff, hbo, _, q0, q1⟩ := hps_at hrowh hHi
                dsimp only at q0 q1
                subst hbo
                have hin : (A : Int) < nh := by have := (List.getElem?_eq_some_iff.1 hHi).1; rw [HNH.out] at this; omega
                have hA6 : (A : Int) < 3000000 := by have h1 := HA.out; have h2 := refsV_len ((valsR ⟨fin, sups, k, lp, lr, lf⟩).take (np + nr + j)); have h3 := HCC.out; have h4 := HJ.out; rw [List.length_take] at h2; omega
                have HFY := hid hfy
                have bx : (wr.alloc (.cells #[.int .i64 yp, .int .i64 3, .bool yl, .int .i64 yh, .int .i64 yn, .bool ym] 115)).heap[wr.heap.size]? = _ := heap_alloc_at _ _ rfl
                have q0' : (wr.alloc (.cells #[.int .i64 yp, .int .i64 3, .bool yl, .int .i64 yh, .int .i64 yn, .bool ym] 115)).cell? ⟨hb, hoff + A * 2, none⟩ = some (.int .i64 fk) := cell_alloc q0 _
                have q1' : (wr.alloc (.cells #[.int .i64 yp, .int .i64 3, .bool yl, .int .i64 yh, .int .i64 yn, .bool ym] 115)).cell? ⟨hb, hoff + A * 2 + 1, none⟩ = some (.int .i64 fn) := cell_alloc q1 _
                have BX := hid bx; have Q0' := hid q0'; have Q1' := hid q1'
                clear hHi hfy hV hrowh bx q0 q1 q0' q1'
                go_upto_region 27 with fail
                obtain ⟨wb, hwb⟩ : ∃ wb : World, wb = (wr.alloc (.cells #[.int .i64 yp, .int .i64 3, .bool yl, .int .i64 yh, .int .i64 yn, .bool ym] 115)) := ⟨_, rfl⟩
                rw [← hwb]
                have bx := BX.out; have q0' := Q0'.out; have q1' := Q1'.out
                rw [← hwb] at bx q0' q1'
                have bxf := fun i => heap_frozen bx i
                have bx0 := heap_cell bx 0; have bx1 := heap_cell bx 1; have bx2 := heap_cell bx 2; have bx3 := heap_cell bx 3; have bx4 := heap_cell bx 4; have bx5 := heap_cell bx 5
                simp only [List.getElem?_toArray, List.getElem?_cons_succ, List.getElem?_cons_zero] at bx0 bx1 bx2 bx3 bx4 bx5
                have HWB := hid hwb
                have BXW := hid bx
                clear hwb bx BX
                go_upto_region 29 with fail
                obtain ⟨wc, hwc⟩ : ∃ wc : World, wc = (wb.setCell ⟨wr.heap.size, 3, none⟩ (.int .i64 fk)).setCell ⟨wr.heap.size, 4, none⟩ (.int .i64 fn) := ⟨_, rfl⟩
                rw [← hwc]
                have uc : Upd (fun _ => False) wr wc := by rw [hwc, HWB.out]; exact (((Upd.refl _ wr).alloc _).setCell (.inr (Nat.le_refl _)) _).setCell (.inr (Nat.le_refl _)) _
                have bxc : wc.heap[wr.heap.size]? = some (.cells #[.int .i64 yp, .int .i64 3, .bool yl, .int .i64 fk, .int .i64 fn, .bool ym] 115 (0, 0)) := by rw [hwc]; exact (by have q := heap_set_at (heap_set_at BXW.out 3 (.int .i64 fk)) 4 (.int .i64 fn); simpa using q)
                have hbc : Below W0.heap.size W0 wc := ⟨uc.os.trans HBE.out.os, uc.tape.trans HBE.out.tape, uc.output.trans HBE.out.output, Nat.le_trans HBE.out.size uc.size, fun q hq => (uc.block q (Nat.lt_of_lt_of_le hq HBE.out.size) (fun h => h)).trans (HBE.out.block q hq)⟩
                have hoc := HO.out.same uc
                have g0 := heap_cell bxc 0; have g1 := heap_cell bxc 1; have g2 := heap_cell bxc 2; have g3 := heap_cell bxc 3; have g4 := heap_cell bxc 4; have g5 := heap_cell bxc 5
                have d1 := heap_cell hoc.hp 5
                simp only [List.getElem?_toArray, List.getElem?_cons_succ, List.getElem?_cons_zero] at g0 g1 g2 g3 g4 g5 d1
                have HRW := hid (row_cells (cs := [.int .i64 yp, .int .i64 3, .bool yl, .int .i64 fk, .int .i64 fn, .bool ym]) (heap_alloc_at wc (.cells #[.int .i64 yp, .int .i64 3, .bool yl, .int .i64 fk, .int .i64 fn, .bool ym] 115) rfl))
                have owc := hoc.of
                rw [show (⟨fin, sups.map f, k, lp.map (vf f), lr.map (vf f), (lf.map (ff f)).take j⟩ : Sb).fs.length = j from HTL.out] at owc
                have OWA := hid (owc.alloc (.cells #[.int .i64 yp, .int .i64 3, .bool yl, .int .i64 fk, .int .i64 fn, .bool ym] 115))
                have HSZ := hid (hbc.alloc hbc.size (.cells #[.int .i64 yp, .int .i64 3, .bool yl, .int .i64 fk, .int .i64 fn, .bool ym] 115)).size
                have HOC := hid hoc; have HBC := hid hbc
                clear hwc uc bxc hoc hbc owc
                go_wp2_with (at_builtin; refine wpList_append_own_at _ rfl _ _ 37 rfl W0.heap.size 115 i2 _ 6 48 Tryz.underlying37 Hi2.out Hz02.out Hz12.out Hz22.out rfl (by decide) _ _ _ rfl OWA.out ⟨wc.heap.size, 0, none⟩ 1 1 [.int .i64 yp, .int .i64 3, .bool yl, .int .i64 fk, .int .i64 fn, .bool ym] rfl rfl HRW.out (by intro u hu; simp at hu; rcases hu with rfl | rfl | rfl | rfl | rfl | rfl <;> rfl) (by have := HCC.out; have := HJ.out; unfold maxLen; omega) (by have := HCC.out; have := HJ.out; omega) HSZ.out ?_)
                intro v9 w9 o9 gr9 mv0 mv9
                obtain ⟨a9, c9, rfl, -⟩ := ownsRow_form o9
                have gr9' : (wc.drew.alloc (.cells #[.int .i64 yp, .int .i64 3, .bool yl, .int .i64 fk, .int .i64 fn, .bool ym] 115)).grownBy w9 (Value.slice aov j cov).ownBlock := ⟨gr9.os, gr9.tape, gr9.output, gr9.size, gr9.block⟩
                have f9 := outh_fs HOC.out gr9'
                have f9c := heap_cell f9 5
                have f9f := heap_frozen f9 5
                simp only [List.getElem?_toArray, List.getElem?_cons_succ, List.getElem?_cons_zero] at f9c
                have hb9 : Below W0.heap.size W0 w9 := (HBC.out.alloc HBC.out.size _).grown gr9 HSZ.out (fun k hk => (OWA.out.lt k hk).1)
                have q := out_fs (y := ⟨yp, ⟨3, yl, fk, fn⟩, ym⟩) HOC.out gr9' (by rw [show (⟨fin, sups.map f, k, lp.map (vf f), lr.map (vf f), (lf.map (ff f)).take j⟩ : Sb).fs.length = j from HTL.out]; exact o9) (by simpa using mv9)
                have HB9 := hid hb9; have HQ := hid q
                clear o9 gr9 mv0 mv9 f9 hb9 q gr9'
                go_wp2
                go_roundw
                case rel =>
                  refine ⟨j + 1, A + 1, .slice a9 (j + 1) c9, by go_num, HJ.out, by go_num, ?_, ?_, HB9.out.setCell (by have := HOB.out; have := HWS.out; dsimp only; omega) _⟩
                  · rw [show np + nr + (j + 1) = np + nr + j + 1 by omega, refsV_take HV.out]
                    rw [if_pos rfl, List.length_append, HA.out]; simp; omega
                  · rw [List.take_add_one, get_map (ff f) HY.out]
                    rw [show ff f ⟨yp, ⟨3, yl, yh, yn⟩, ym⟩ = ⟨yp, ⟨3, yl, fk, fn⟩, ym⟩ by simp [ff, vf, HFY.out]]
                    exact HQ.out
                case measure => have := HJ.out; simp [intOf]; omega
              · have hkb : (yk == 3) = false := by simpa using hk
                have HK := hid hk
                clear hk hrowh hV
                go_upto_region 29 with fail
                obtain ⟨wc, hwc⟩ : ∃ wc : World, wc = wr.alloc (.cells #[.int .i64 yp, .int .i64 yk, .bool yl, .int .i64 yh, .int .i64 yn, .bool ym] 115) := ⟨_, rfl⟩
                rw [← hwc]
                have uc : Upd (fun _ => False) wr wc := by rw [hwc]; exact (Upd.refl _ wr).alloc _
                have bxc : wc.heap[wr.heap.size]? = some (.cells #[.int .i64 yp, .int .i64 yk, .bool yl, .int .i64 yh, .int .i64 yn, .bool ym] 115 (0, 0)) := by rw [hwc]; exact heap_alloc_at _ _ rfl
                have hbc : Below W0.heap.size W0 wc := ⟨uc.os.trans HBE.out.os, uc.tape.trans HBE.out.tape, uc.output.trans HBE.out.output, Nat.le_trans HBE.out.size uc.size, fun q hq => (uc.block q (Nat.lt_of_lt_of_le hq HBE.out.size) (fun h => h)).trans (HBE.out.block q hq)⟩
                have hoc := HO.out.same uc
                have g0 := heap_cell bxc 0; have g1 := heap_cell bxc 1; have g2 := heap_cell bxc 2; have g3 := heap_cell bxc 3; have g4 := heap_cell bxc 4; have g5 := heap_cell bxc 5
                have d1 := heap_cell hoc.hp 5
                simp only [List.getElem?_toArray, List.getElem?_cons_succ, List.getElem?_cons_zero] at g0 g1 g2 g3 g4 g5 d1
                have HRW := hid (row_cells (cs := [.int .i64 yp, .int .i64 yk, .bool yl, .int .i64 yh, .int .i64 yn, .bool ym]) (heap_alloc_at wc (.cells #[.int .i64 yp, .int .i64 yk, .bool yl, .int .i64 yh, .int .i64 yn, .bool ym] 115) rfl))
                have owc := hoc.of
                rw [show (⟨fin, sups.map f, k, lp.map (vf f), lr.map (vf f), (lf.map (ff f)).take j⟩ : Sb).fs.length = j from HTL.out] at owc
                have OWA := hid (owc.alloc (.cells #[.int .i64 yp, .int .i64 yk, .bool yl, .int .i64 yh, .int .i64 yn, .bool ym] 115))
                have HSZ := hid (hbc.alloc hbc.size (.cells #[.int .i64 yp, .int .i64 yk, .bool yl, .int .i64 yh, .int .i64 yn, .bool ym] 115)).size
                have HOC := hid hoc; have HBC := hid hbc
                clear hwc uc bxc hoc hbc owc
                go_wp2_with (at_builtin; refine wpList_append_own_at _ rfl _ _ 37 rfl W0.heap.size 115 i2 _ 6 48 Tryz.underlying37 Hi2.out Hz02.out Hz12.out Hz22.out rfl (by decide) _ _ _ rfl OWA.out ⟨wc.heap.size, 0, none⟩ 1 1 [.int .i64 yp, .int .i64 yk, .bool yl, .int .i64 yh, .int .i64 yn, .bool ym] rfl rfl HRW.out (by intro u hu; simp at hu; rcases hu with rfl | rfl | rfl | rfl | rfl | rfl <;> rfl) (by have := HCC.out; have := HJ.out; unfold maxLen; omega) (by have := HCC.out; have := HJ.out; omega) HSZ.out ?_)
                intro v9 w9 o9 gr9 mv0 mv9
                obtain ⟨a9, c9, rfl, -⟩ := ownsRow_form o9
                have gr9' : (wc.drew.alloc (.cells #[.int .i64 yp, .int .i64 yk, .bool yl, .int .i64 yh, .int .i64 yn, .bool ym] 115)).grownBy w9 (Value.slice aov j cov).ownBlock := ⟨gr9.os, gr9.tape, gr9.output, gr9.size, gr9.block⟩
                have f9 := outh_fs HOC.out gr9'
                have f9c := heap_cell f9 5
                have f9f := heap_frozen f9 5
                simp only [List.getElem?_toArray, List.getElem?_cons_succ, List.getElem?_cons_zero] at f9c
                have hb9 : Below W0.heap.size W0 w9 := (HBC.out.alloc HBC.out.size _).grown gr9 HSZ.out (fun k hk => (OWA.out.lt k hk).1)
                have q := out_fs (y := ⟨yp, ⟨yk, yl, yh, yn⟩, ym⟩) HOC.out gr9' (by rw [show (⟨fin, sups.map f, k, lp.map (vf f), lr.map (vf f), (lf.map (ff f)).take j⟩ : Sb).fs.length = j from HTL.out]; exact o9) (by simpa using mv9)
                have HB9 := hid hb9; have HQ := hid q
                clear o9 gr9 mv0 mv9 f9 hb9 q gr9'
                go_wp2
                go_roundw
                case rel =>
                  refine ⟨j + 1, A, .slice a9 (j + 1) c9, by go_num, HJ.out, by go_num, ?_, ?_, HB9.out.setCell (by have := HOB.out; have := HWS.out; dsimp only; omega) _⟩
                  · rw [show np + nr + (j + 1) = np + nr + j + 1 by omega, refsV_take HV.out]
                    rw [if_neg HK.out]; exact HA.out
                  · rw [List.take_add_one, get_map (ff f) HY.out]
                    rw [show ff f ⟨yp, ⟨yk, yl, yh, yn⟩, ym⟩ = ⟨yp, ⟨yk, yl, yh, yn⟩, ym⟩ by simp [ff, vf, HK.out]]
                    exact HQ.out
                case measure => have := HJ.out; simp [intOf]; omega
            · obtain rfl : j = nf := by omega
              have hlt' : ¬ (j : Int) < j := by omega
              have hfull : (lf.map (ff f)).take j = lf.map (ff f) := List.take_of_length_le (by rw [List.length_map, HNF.out]; exact Nat.le_refl _)
              have ho3 := HO.out
              rw [hfull] at ho3
              have HO3 := hid ho3
              have g0 := heap_cell ho3.hp 0; have g1 := heap_cell ho3.hp 1; have g2 := heap_cell ho3.hp 2; have g3 := heap_cell ho3.hp 3; have g4 := heap_cell ho3.hp 4; have g5 := heap_cell ho3.hp 5
              simp only [List.getElem?_toArray, List.getElem?_cons_succ, List.getElem?_cons_zero] at g0 g1 g2 g3 g4 g5
              have hz := (HBE.out.block _ (heap_lt HZ.out)).trans HZ.out
              obtain ⟨vpo, vpc, hvp, -⟩ := ownsRow_form ho3.op
              obtain ⟨vro, vrc, hvr, -⟩ := ownsRow_form ho3.or
              have h1 : (#[.bool fin, .slice aos i cos, .int .i64 k, vp, vr, .slice aov j cov] : Array Value).all (·.oneCell') = true := by rw [hvp, hvr]; simp [Value.oneCell']
              have H1 := hid h1; have HZW := hid hz
              clear ho3 hfull hlt hj hrow hrowh hz hvp hvr h1
              go_wp2_with (first | (refine wpList_store_row rfl 46 _ _ rfl (w.heap.size + 1) #[.bool fin, .slice aos i cos, .int .i64 k, vp, vr, .slice aov j cov] rfl rfl 46 #[.bool false, .slice none 0 0, .int .i64 0, .slice none 0 0, .slice none 0 0, .slice none 0 0] HZW.out sizeSub rfl H1.out ?_) | fail)
              (try simp only [Exit.inBlock, Exit.then])
              have hr : (loadVar 46 ⟨w.heap.size + 1, 0, none⟩).run Tryz.prog (wr.setRow (w.heap.size + 1) #[.bool fin, .slice aos i cos, .int .i64 k, vp, vr, .slice aov j cov]) = .ok (.agg #[.bool fin, .slice aos i cos, .int .i64 k, vp, vr, .slice aov j cov]) (wr.setRow (w.heap.size + 1) #[.bool fin, .slice aos i cos, .int .i64 k, vp, vr, .slice aov j cov]) :=
                run_loadVar_row _ _ 46 46 _ (0, 0) _ (setRow_heap _ _ _ _ _ _ HZW.out) Tryz.underlying46 rfl sizeSub
              refine bodyPost_ret (v := .agg #[.bool fin, .slice aos i cos, .int .i64 k, vp, vr, .slice aov j cov]) (by simp [results, Tryz.results62, asAddr, hr]) rfl ?_
              have hu : Upd (fun q => q = w.heap.size + 1) wr (wr.setRow (w.heap.size + 1) #[.bool fin, .slice aos i cos, .int .i64 k, vp, vr, .slice aov j cov]) := ⟨rfl, rfl, rfl, by rw [size_setRow]; exact Nat.le_refl _, fun q _ hq => setRow_other _ _ _ _ (fun e => hq e)⟩
              have hlow : ∀ {e : TypeId} {sz : Nat} {v : Value} {nn : Nat} {xs : List Value}, wr.ownsRow W0.heap.size e sz v nn xs → ∀ b, v.ownBlock = some b → ¬ b = w.heap.size + 1 := fun h b hb e => by have := (h.lt b hb).1; have := HWS.out; omega
              have h3 := HO3.out
              have hlo2 : ∀ {e : TypeId} {sz : Nat} {v : Value} {nn : Nat} {xs : List Value}, wr.ownsRow W0.heap.size e sz v nn xs → ∀ b, v.ownBlock = some b → ¬ b < w.heap.size := fun h b hb e => by have := (h.lt b hb).1; have := HWS.out; omega
              refine ⟨_, rfl, rfl, fun w'' hq => ?_, ?_⟩
              · have hq : Upd (fun q => q < w.heap.size ∨ q = w.heap.size + 1) wr w'' := (hu.mono (fun q _ h => .inr h)).trans' ⟨hq.os, hq.tape, hq.output, hq.size, fun q h1 h2 => hq.block q h1 (fun h3 => h2 (.inl h3))⟩
                exact ⟨_, _, _, _, rfl, RowAt.of_own (ownsRow_upd h3.os hq (fun b hb h => h.elim (hlo2 h3.os b hb) (hlow h3.os b hb))), RowAt.of_own (ownsRow_upd h3.op hq (fun b hb h => h.elim (hlo2 h3.op b hb) (hlow h3.op b hb))), RowAt.of_own (ownsRow_upd h3.or hq (fun b hb h => h.elim (hlo2 h3.or b hb) (hlow h3.or b hb))), RowAt.of_own (ownsRow_upd h3.of hq (fun b hb h => h.elim (hlo2 h3.of b hb) (hlow h3.of b hb)))⟩
              have hbb := HB.out.trans (HBE.out.mono HB.out.size)
              exact ⟨hbb.os, hbb.tape, hbb.output, by rw [size_setRow]; exact hbb.size, fun q hq => (setRow_other _ _ _ _ (by omega)).trans (hbb.block q hq)⟩
end Go.Proofs.YtpddbaijnjbfdaaGreatDoor
