import Derived.Test.YtpddbaijnjbfdaaGreatDoorQDrDeepBd
namespace Go.Proofs.YtpddbaijnjbfdaaGreatDoor
open Lib (hid)
section
open Go.RowKit
def fB (b : Int) : Fl := ⟨0, ⟨if b = 64 then 2 else 1, false, 0, 0⟩, false⟩
theorem sizeSubC : (Tryz.prog.info? 46).map (·.size) = some 6 := by kernel_rfl
set_option maxRecDepth 100000 in
set_option maxHeartbeats 16000000 in
theorem st_any (fin : Bool) (v vb : Value) (sups bits : List Int) (w : World) (hv : IntsAt w v sups) (hvb : IntsAt w vb bits) (hn : bits.length ≤ 100000) (hl : sups.length ≤ 100000) : Calls Tryz.prog 24 #[.bool fin, v, vb] w fun e w' => ∃ cs' : List Value, e = .returned (.agg cs'.toArray) ∧ cs'.length = 6 ∧ (∀ w'', Upd (fun q => q < w.heap.size) w' w'' → SubAt w'' cs' (stS fin sups bits)) ∧ Below w.heap.size w w' := by
  obtain ⟨so, sc, rfl⟩ := RowAt.form hv
  obtain ⟨sbo, sbc, rfl⟩ := RowAt.form hvb
  obtain ⟨n, hnn⟩ : ∃ n, bits.length = n := ⟨_, rfl⟩
  have HNN := hid hnn
  rw [hnn] at hn
  obtain ⟨i0, hi, hz0, hz1, hz2⟩ := info_parts Tryz.infoHeap
  obtain ⟨i2, hi2, hz02, hz12, hz22⟩ := info_parts Tryz.infoField
  have Hi := hid hi; have Hz0 := hid hz0; have Hz1 := hid hz1; have Hz2 := hid hz2
  have Hi2 := hid hi2; have Hz02 := hid hz02; have Hz12 := hid hz12; have Hz22 := hid hz22
  obtain ⟨ns, hns⟩ : ∃ n, sups.length = n := ⟨_, rfl⟩
  have HNS := hid hns
  rw [hns] at hl
  have hsl : (ns : Int) ≤ 100000 := by omega
  obtain ⟨W0, hW⟩ : ∃ W0 : World, W0 = w.alloc (.cells #[.bool false, .slice none 0 0, .int .i64 0, .slice none 0 0, .slice none 0 0, .slice none 0 0] 46) := ⟨_, rfl⟩
  have hB : Below w.heap.size w W0 := by rw [hW]; exact (Below.refl _ _).alloc (by simp) _
  have hws : W0.heap.size = w.heap.size + 1 := by rw [hW]; simp
  have hz : W0.heap[w.heap.size]? = some (.cells #[.bool false, .slice none 0 0, .int .i64 0, .slice none 0 0, .slice none 0 0, .slice none 0 0] 46 (0, 0)) := by rw [hW]; exact heap_alloc_at _ _ (by simp)
  have r5 : ∀ x : Ext W0, IntsAt x.val (.slice so sups.length sc) sups := fun x => RowAt.ext (RowAt.below hv hB (Nat.le_refl _)) x
  have r6 : ∀ x : Ext W0, IntsAt x.val (.slice sbo bits.length sbc) bits := fun x => RowAt.ext (RowAt.below hvb hB (Nat.le_refl _)) x
  have R6 := hid r6; have R5 := hid r5; have HW := hid hW; have HB := hid hB; have HWS := hid hws; have HZ := hid hz; have HN := hid hn
  rw [hns, hnn]
  have hn10 : (n : Int) ≤ 100000 := by omega
  clear r6 hvb hnn hv hi hz0 hz1 hz2 hi2 hz02 hz12 hz22 hW hB hws hz r5 hns hl hn
  go_enter Tryz.func24, Tryz.ntmps24
  go_wp2
  rw [← HW.out]
  obtain ⟨W1, hW1⟩ : ∃ W1 : World, W1 = W0.alloc (.cells #[.bool fin, .slice none 0 0, .int .i64 2, .slice none 0 0, .slice none 0 0, .slice none 0 0] 46) := ⟨_, rfl⟩
  rw [← hW1]
  obtain ⟨ob, hob⟩ : ∃ ob, w.heap.size + 1 = ob := ⟨_, rfl⟩
  rw [hob]
  have HOB := hid hob
  clear hob
  have st : OutS W0.heap.size ob ⟨fin, (sups.map fun k => (⟨13, k⟩ : Hp)).take 0, 2, [], [], []⟩ W1 (.slice none 0 0) (.slice none 0 0) (.slice none 0 0) (.slice none 0 0) :=
    ⟨by rw [hW1]; exact heap_alloc_at _ _ (by have := HWS.out; have := HOB.out; omega), owns_zero _ _ _ _, owns_zero _ _ _ _, owns_zero _ _ _ _, owns_zero _ _ _ _, .inl rfl⟩
  have hbw : Below W0.heap.size W0 W1 := by rw [hW1]; exact (Below.refl _ _).alloc (Nat.le_refl _) _
  have ST := hid st; have HBW := hid hbw
  clear st hbw hW1
  go_loopw [8] (fun t8 wz => ∃ (i : Nat) (vs : Value), t8 = .int .i64 i ∧ i ≤ ns ∧ OutS W0.heap.size ob ⟨fin, (sups.map fun k => (⟨13, k⟩ : Hp)).take i, 2, [], [], []⟩ wz vs (.slice none 0 0) (.slice none 0 0) (.slice none 0 0) ∧ Below W0.heap.size W0 wz) (fun t8 _ => ns - (intOf t8).toNat)
  case atStart => exact ⟨0, _, rfl, Nat.zero_le _, ST.out, HBW.out⟩
  case round =>
    obtain ⟨i, vs, rfl, hi, hO, hbe⟩ := hrel
    have ow := hO.os
    have htl : ((sups.map fun k => (⟨13, k⟩ : Hp)).take i).length = i := by rw [List.length_take, List.length_map, HNS.out]; omega
    have HTL := hid htl
    obtain ⟨aos, cos, rfl, -⟩ := ownsRow_form ow
    dsimp only at ow hO
    have hrow := R5.out ⟨wr, hbe⟩
    dsimp only at hrow
    rw [htl] at ow hO
    have HO := hid hO; have HBE := hid hbe; have OW := hid ow
    clear hO hbe ow htl
    by_cases hlt : i < ns
    · obtain ⟨y, hy⟩ : ∃ y, sups[i]? = some y := ⟨sups[i]'(by rw [HNS.out]; exact hlt), by simp⟩
      obtain ⟨lb, loff, hlo, hlb, p0⟩ := IntsAt.at hrow hy
      have LBW := hid (show lb < W0.heap.size by obtain ⟨_, _, e, h, _⟩ := IntsAt.at (R5.out ⟨W0, Below.refl _ _⟩) hy; rw [hlo] at e; simp only [Option.some.injEq, Addr.mk.injEq] at e; rw [e.1]; exact h)
      subst hlo
      have hlt' : (i : Int) < ns := by omega
      have hi6 : (i : Int) < 1000000 := by omega
      have HY := hid hy; have HI := hid hlt
      have hnl : ¬ (Value.slice aos i cos).ownBlock = some lb := fun e => by have := (OW.out.lt _ e).1; have := LBW.out; omega
      have hno : ¬ (Value.slice aos i cos).ownBlock = some ob := row_ne HO.out.os HO.out.hp (by decide)
      have d1 := ExtU.cells (R := fun q => (Value.slice aos i cos).ownBlock = some q) (heap_cell HO.out.hp 1) hno
      have d2 := ExtU.cells (R := fun q => (Value.slice aos i cos).ownBlock = some q) p0 hnl
      simp only at d1
      have HRW := hid (row_cells (cs := [.int .i64 13, .int .i64 y]) (heap_alloc_at wr.drew (.cells #[.int .i64 13, .int .i64 y] 75) rfl))
      have OWA := hid (show (wr.drew.alloc (.cells #[.int .i64 13, .int .i64 y] 75)).ownsRow W0.heap.size 75 2 (.slice aos i cos) i (flatH ((sups.map fun k => (⟨13, k⟩ : Hp)).take i)) from World.ownsRow.alloc (show wr.drew.ownsRow W0.heap.size 75 2 (.slice aos i cos) i (flatH ((sups.map fun k => (⟨13, k⟩ : Hp)).take i)) from OW.out) _)
      have HSZ := hid (show W0.heap.size ≤ (wr.drew.alloc (.cells #[.int .i64 13, .int .i64 y] 75)).heap.size from ((HBE.out.drew).alloc HBE.out.size _).size)
      clear hlb hrow hy hlt hi p0 hnl hno
      go_wp2
      refine wp_region_midX (fun x : ExtU (fun q => (Value.slice aos i cos).ownBlock = some q) wr => x.val) 9 [0, 1, 2, 3, 4, 5, 6] [7, 8] (by kernel_rfl) (by kernel_rfl) (by kernel_rfl) (by kernel_rfl) (by rintro c a (_ | d) v w h <;> exact h) ⟨⟨_, (Upd.refl _ _).drew⟩, rfl⟩ ?_
      simp only [pickO, List.getD_cons_succ, List.getD_cons_zero, List.drop_succ_cons, List.drop_zero]
      repeat (go_big_quiet_step (fail))
      refine wpQuiet_nil ?_
      unfold wpMids
      go_wp2
      refine ⟨⟨⟨_, (Upd.refl _ _).drew.alloc _⟩, rfl⟩, ?_⟩
      unfold wpMids
      go_wp2_with (at_builtin; refine wpList_append_own_at _ rfl _ _ 44 rfl W0.heap.size 75 i0 _ 2 16 Tryz.underlying44 Hi.out Hz0.out Hz1.out Hz2.out rfl (by decide) _ _ _ rfl OWA.out ⟨wr.heap.size, 0, none⟩ 1 1 [.int .i64 13, .int .i64 y] rfl rfl HRW.out (by intro u hu; simp at hu; rcases hu with rfl | rfl <;> rfl) (by unfold maxLen; omega) (by omega) HSZ.out ?_)
      intro v9 w9 o9 gr9 mv0 mv9
      obtain ⟨a9, c9, rfl, -⟩ := ownsRow_form o9
      have f9 := outh_sups HO.out gr9
      have f9c := heap_cell f9 1
      have f9f := heap_frozen f9 1
      simp only [List.getElem?_toArray, List.getElem?_cons_succ, List.getElem?_cons_zero] at f9c
      have hu9 : Upd (fun q => (Value.slice aos i cos).ownBlock = some q) wr w9 := ((Upd.refl _ wr).drew.alloc _).grown gr9 (fun q hq => .inl hq)
      have HU9 := hid hu9
      have hb9 : Below W0.heap.size W0 w9 := ((HBE.out.drew).alloc HBE.out.size _).grown gr9 HSZ.out (fun k hk => (OW.out.lt k hk).1)
      have q := out_sups (y := ⟨13, y⟩) HO.out gr9 (by rw [show (⟨fin, (sups.map fun k => (⟨13, k⟩ : Hp)).take i, 2, [], [], []⟩ : Sb).sups.length = i from HTL.out]; exact o9) (by simpa using mv9)
      have HB9 := hid hb9; have HQ := hid q
      clear o9 gr9 mv0 mv9 f9 hu9 hb9 q
      go_wp2
      refine ⟨⟨⟨_, HU9.out⟩, rfl⟩, ?_⟩
      unfold wpMids
      go_wp2
      go_roundw
      case rel =>
        refine ⟨i + 1, .slice a9 (i + 1) c9, by go_num, HI.out, ?_, HB9.out.setCell (by have := HOB.out; have := HWS.out; dsimp only; omega) _⟩
        rw [List.take_add_one, List.getElem?_map, HY.out]
        exact HQ.out
      case measure => have := HI.out; simp [intOf]; omega
    · obtain rfl : i = ns := by omega
      have hlt' : ¬ (i : Int) < i := by omega
      have ho2 : OutS W0.heap.size ob ⟨fin, sups.map fun k => (⟨13, k⟩ : Hp), 2, [], [], (bits.map fB).take 0⟩ wr (.slice aos i cos) (.slice none 0 0) (.slice none 0 0) (.slice none 0 0) := by
        have h := HO.out
        rw [List.take_of_length_le (by rw [List.length_map, HNS.out]; exact Nat.le_refl _)] at h
        exact h
      have HO2 := hid ho2
      have HBE2 := hid HBE.out
      clear hlt hi hrow ho2 HO OW HBE
      go_wp2
      go_loopw [9] (fun t9 wz => ∃ (j : Nat) (v9 : Value), t9 = .int .i64 j ∧ j ≤ n ∧ OutS W0.heap.size ob ⟨fin, sups.map fun k => (⟨13, k⟩ : Hp), 2, [], [], (bits.map fB).take j⟩ wz (.slice aos i cos) (.slice none 0 0) (.slice none 0 0) v9 ∧ Below W0.heap.size W0 wz) (fun t9 _ => n - (intOf t9).toNat)
      case atStart => exact ⟨0, _, rfl, Nat.zero_le _, HO2.out, HBE2.out⟩
      case round =>
        clear HO2 HBE2
        obtain ⟨j, v9, rfl, hj, hO, hbe⟩ := hrel
        have ow := hO.of
        have htl : ((bits.map fB).take j).length = j := by rw [List.length_take, List.length_map, HNN.out]; omega
        have HTL := hid htl
        obtain ⟨aov, cov, rfl, -⟩ := ownsRow_form ow
        dsimp only at ow hO
        rw [htl] at ow hO
        have HO := hid hO; have HBE := hid hbe; have OW := hid ow
        clear hO hbe ow htl
        by_cases hlt : j < n
        · obtain ⟨bb, hbbx⟩ : ∃ x, bits[j]? = some x := ⟨bits[j]'(by rw [HNN.out]; exact hlt), by simp⟩
          have hr6 : IntsAt wr (.slice sbo bits.length sbc) bits := R6.out ⟨wr, HBE.out⟩
          obtain ⟨lb, loff, hlo, hlb, p0⟩ := IntsAt.at hr6 hbbx
          have hlt' : (j : Int) < n := by omega
          have hj6 : (j : Int) < 1000000 := by omega
          have HJ := hid hlt; have HBB := hid hbbx
          subst hlo
          have d1 := heap_cell HO.out.hp 5
          simp only [List.getElem?_toArray, List.getElem?_cons_succ, List.getElem?_cons_zero] at d1
          have hobl := heap_lt HO.out.hp
          clear hlt hj hbbx hr6
          by_cases hbb : bb = 64
          · have hb1 : (bb == 64) = true := by simpa using hbb
            rw [hbb] at p0
            have huv : Upd (fun _ => False) wr (wr.alloc (.cells #[.int .i64 2, .bool false, .int .i64 0, .int .i64 0] 77)) := ((Upd.refl (fun _ => False) wr).alloc _)
            have hfy : fB bb = ⟨0, ⟨2, false, 0, 0⟩, false⟩ := by simp [fB, hbb]
            have HRW := hid (row_cells (b := wr.heap.size + 1) (cs := [.int .i64 0, .int .i64 2, .bool false, .int .i64 0, .int .i64 0, .bool false]) (heap_alloc_at (wr.alloc (.cells #[.int .i64 2, .bool false, .int .i64 0, .int .i64 0] 77)) (.cells #[.int .i64 0, .int .i64 2, .bool false, .int .i64 0, .int .i64 0, .bool false] 115) (by simp)))
            have OWA := hid ((ownsRow_upd OW.out huv (fun _ _ q => q)).alloc (.cells #[.int .i64 0, .int .i64 2, .bool false, .int .i64 0, .int .i64 0, .bool false] 115))
            have hbv : Below W0.heap.size W0 (wr.alloc (.cells #[.int .i64 2, .bool false, .int .i64 0, .int .i64 0] 77)) := HBE.out.trans ((huv.toBelow (fun _ q => q)).mono HBE.out.size)
            have HSZ := hid (hbv.alloc hbv.size (.cells #[.int .i64 0, .int .i64 2, .bool false, .int .i64 0, .int .i64 0, .bool false] 115)).size
            have HO9 := hid (HO.out.same huv)
            have HBV := hid hbv; have HFY := hid hfy
            clear huv hfy hbv
            go_wp2_with (at_builtin; refine wpList_append_own_at _ rfl _ _ 37 rfl W0.heap.size 115 i2 _ 6 48 Tryz.underlying37 Hi2.out Hz02.out Hz12.out Hz22.out rfl (by decide) _ _ _ rfl OWA.out ⟨wr.heap.size + 1, 0, none⟩ 1 1 [.int .i64 0, .int .i64 2, .bool false, .int .i64 0, .int .i64 0, .bool false] rfl rfl HRW.out (by intro u hu; simp at hu; rcases hu with rfl | rfl | rfl | rfl | rfl | rfl <;> rfl) (by have := HJ.out; have := HN.out; unfold maxLen; omega) (by have := HJ.out; have := HN.out; omega) HSZ.out ?_)
            intro v9 w9 o9 gr9 mv0 mv9
            obtain ⟨a9, c9, rfl, -⟩ := ownsRow_form o9
            have gr9' : ((wr.alloc (.cells #[.int .i64 2, .bool false, .int .i64 0, .int .i64 0] 77)).drew.alloc (.cells #[.int .i64 0, .int .i64 2, .bool false, .int .i64 0, .int .i64 0, .bool false] 115)).grownBy w9 (Value.slice aov j cov).ownBlock := ⟨gr9.os, gr9.tape, gr9.output, gr9.size, gr9.block⟩
            have f9 := outh_fs HO9.out gr9'
            have f9c := heap_cell f9 5
            have f9f := heap_frozen f9 5
            simp only [List.getElem?_toArray, List.getElem?_cons_succ, List.getElem?_cons_zero] at f9c
            have hb9 : Below W0.heap.size W0 w9 := (HBV.out.alloc HBV.out.size _).grown gr9 HSZ.out (fun k hk => (OWA.out.lt k hk).1)
            have q := out_fs (y := fB bb) HO9.out gr9' (by rw [show (⟨fin, sups.map fun k => (⟨13, k⟩ : Hp), 2, [], [], (bits.map fB).take j⟩ : Sb).fs.length = j from HTL.out, HFY.out]; exact o9) (by simpa using mv9)
            have HB9 := hid hb9; have HQ := hid q
            clear o9 gr9 mv0 mv9 f9 hb9 q gr9'
            go_wp2
            go_roundw
            case rel =>
              refine ⟨j + 1, .slice a9 (j + 1) c9, by go_num, HJ.out, ?_, HB9.out.setCell (by have := HOB.out; have := HWS.out; dsimp only; omega) _⟩
              rw [List.take_add_one, List.getElem?_map, HBB.out]
              exact HQ.out
            case measure => have := HJ.out; simp [intOf]; omega
          · have hb1 : (bb == 64) = false := by simpa using hbb
            have hb2 : ¬ bb = 64 := hbb
            have huv : Upd (fun _ => False) wr (wr.alloc (.cells #[.int .i64 1, .bool false, .int .i64 0, .int .i64 0] 77)) := ((Upd.refl (fun _ => False) wr).alloc _)
            have hfy : fB bb = ⟨0, ⟨1, false, 0, 0⟩, false⟩ := by simp [fB, hbb]
            have HRW := hid (row_cells (b := wr.heap.size + 1) (cs := [.int .i64 0, .int .i64 1, .bool false, .int .i64 0, .int .i64 0, .bool false]) (heap_alloc_at (wr.alloc (.cells #[.int .i64 1, .bool false, .int .i64 0, .int .i64 0] 77)) (.cells #[.int .i64 0, .int .i64 1, .bool false, .int .i64 0, .int .i64 0, .bool false] 115) (by simp)))
            have OWA := hid ((ownsRow_upd OW.out huv (fun _ _ q => q)).alloc (.cells #[.int .i64 0, .int .i64 1, .bool false, .int .i64 0, .int .i64 0, .bool false] 115))
            have hbv : Below W0.heap.size W0 (wr.alloc (.cells #[.int .i64 1, .bool false, .int .i64 0, .int .i64 0] 77)) := HBE.out.trans ((huv.toBelow (fun _ q => q)).mono HBE.out.size)
            have HSZ := hid (hbv.alloc hbv.size (.cells #[.int .i64 0, .int .i64 1, .bool false, .int .i64 0, .int .i64 0, .bool false] 115)).size
            have HO9 := hid (HO.out.same huv)
            have HBV := hid hbv; have HFY := hid hfy
            clear huv hfy hbv
            go_wp2_with (at_builtin; refine wpList_append_own_at _ rfl _ _ 37 rfl W0.heap.size 115 i2 _ 6 48 Tryz.underlying37 Hi2.out Hz02.out Hz12.out Hz22.out rfl (by decide) _ _ _ rfl OWA.out ⟨wr.heap.size + 1, 0, none⟩ 1 1 [.int .i64 0, .int .i64 1, .bool false, .int .i64 0, .int .i64 0, .bool false] rfl rfl HRW.out (by intro u hu; simp at hu; rcases hu with rfl | rfl | rfl | rfl | rfl | rfl <;> rfl) (by have := HJ.out; have := HN.out; unfold maxLen; omega) (by have := HJ.out; have := HN.out; omega) HSZ.out ?_)
            intro v9 w9 o9 gr9 mv0 mv9
            obtain ⟨a9, c9, rfl, -⟩ := ownsRow_form o9
            have gr9' : ((wr.alloc (.cells #[.int .i64 1, .bool false, .int .i64 0, .int .i64 0] 77)).drew.alloc (.cells #[.int .i64 0, .int .i64 1, .bool false, .int .i64 0, .int .i64 0, .bool false] 115)).grownBy w9 (Value.slice aov j cov).ownBlock := ⟨gr9.os, gr9.tape, gr9.output, gr9.size, gr9.block⟩
            have f9 := outh_fs HO9.out gr9'
            have f9c := heap_cell f9 5
            have f9f := heap_frozen f9 5
            simp only [List.getElem?_toArray, List.getElem?_cons_succ, List.getElem?_cons_zero] at f9c
            have hb9 : Below W0.heap.size W0 w9 := (HBV.out.alloc HBV.out.size _).grown gr9 HSZ.out (fun k hk => (OWA.out.lt k hk).1)
            have q := out_fs (y := fB bb) HO9.out gr9' (by rw [show (⟨fin, sups.map fun k => (⟨13, k⟩ : Hp), 2, [], [], (bits.map fB).take j⟩ : Sb).fs.length = j from HTL.out, HFY.out]; exact o9) (by simpa using mv9)
            have HB9 := hid hb9; have HQ := hid q
            clear o9 gr9 mv0 mv9 f9 hb9 q gr9'
            go_wp2
            go_roundw
            case rel =>
              refine ⟨j + 1, .slice a9 (j + 1) c9, by go_num, HJ.out, ?_, HB9.out.setCell (by have := HOB.out; have := HWS.out; dsimp only; omega) _⟩
              rw [List.take_add_one, List.getElem?_map, HBB.out]
              exact HQ.out
            case measure => have := HJ.out; simp [intOf]; omega
        · obtain rfl : j = n := by omega
          have hlt' : ¬ (j : Int) < j := by omega
          have ho3 : OutS W0.heap.size ob ⟨fin, sups.map fun k => (⟨13, k⟩ : Hp), 2, [], [], bits.map fB⟩ wr (.slice aos i cos) (.slice none 0 0) (.slice none 0 0) (.slice aov j cov) := by
            have h := HO.out
            rw [List.take_of_length_le (by rw [List.length_map, HNN.out]; exact Nat.le_refl _)] at h
            exact h
          have HO3 := hid ho3
          have g0 := heap_cell ho3.hp 0; have g1 := heap_cell ho3.hp 1; have g2 := heap_cell ho3.hp 2; have g3 := heap_cell ho3.hp 3; have g4 := heap_cell ho3.hp 4; have g5 := heap_cell ho3.hp 5
          simp only [List.getElem?_toArray, List.getElem?_cons_succ, List.getElem?_cons_zero] at g0 g1 g2 g3 g4 g5
          have hz := (HBE.out.block _ (heap_lt HZ.out)).trans HZ.out
          have h1 : (#[.bool fin, .slice aos i cos, .int .i64 2, .slice none 0 0, .slice none 0 0, .slice aov j cov] : Array Value).all (·.oneCell') = true := by simp [Value.oneCell']
          have H1 := hid h1; have HZW := hid hz
          clear ho3 hlt hj hz h1
          go_wp2_with (first | (refine wpList_store_row rfl 46 _ _ rfl w.heap.size #[.bool fin, .slice aos i cos, .int .i64 2, .slice none 0 0, .slice none 0 0, .slice aov j cov] rfl rfl 46 #[.bool false, .slice none 0 0, .int .i64 0, .slice none 0 0, .slice none 0 0, .slice none 0 0] HZW.out sizeSubC rfl H1.out ?_) | fail)
          (try simp only [Exit.inBlock, Exit.then])
          have hr : (loadVar 46 ⟨w.heap.size, 0, none⟩).run Tryz.prog (wr.setRow w.heap.size #[.bool fin, .slice aos i cos, .int .i64 2, .slice none 0 0, .slice none 0 0, .slice aov j cov]) = .ok (.agg #[.bool fin, .slice aos i cos, .int .i64 2, .slice none 0 0, .slice none 0 0, .slice aov j cov]) (wr.setRow w.heap.size #[.bool fin, .slice aos i cos, .int .i64 2, .slice none 0 0, .slice none 0 0, .slice aov j cov]) :=
            run_loadVar_row _ _ 46 46 _ (0, 0) _ (setRow_heap _ _ _ _ _ _ HZW.out) Tryz.underlying46 rfl sizeSubC
          refine bodyPost_ret (v := .agg #[.bool fin, .slice aos i cos, .int .i64 2, .slice none 0 0, .slice none 0 0, .slice aov j cov]) (by simp [results, Tryz.results24, asAddr, hr]) rfl ?_
          have hu : Upd (fun q => q = w.heap.size) wr (wr.setRow w.heap.size #[.bool fin, .slice aos i cos, .int .i64 2, .slice none 0 0, .slice none 0 0, .slice aov j cov]) := ⟨rfl, rfl, rfl, by rw [size_setRow]; exact Nat.le_refl _, fun q _ hq => setRow_other _ _ _ _ (fun e => hq e)⟩
          have hlow : ∀ {e : TypeId} {sz : Nat} {v : Value} {nn : Nat} {xs : List Value}, wr.ownsRow W0.heap.size e sz v nn xs → ∀ b, v.ownBlock = some b → ¬ (b = w.heap.size ∨ b < w.heap.size) := fun h b hb e => by have := (h.lt b hb).1; have := HWS.out; omega
          have h3 := HO3.out
          refine ⟨_, rfl, rfl, fun w'' hu2 => have hu3 := (hu.mono fun _ _ q => Or.inl q : Upd (fun q => q = w.heap.size ∨ q < w.heap.size) _ _).trans' (hu2.mono fun _ _ q => .inr q); ⟨_, _, _, _, rfl, RowAt.of_own (ownsRow_upd h3.os hu3 (hlow h3.os)), RowAt.of_own (ownsRow_upd h3.op hu3 (hlow h3.op)), RowAt.of_own (ownsRow_upd h3.or hu3 (hlow h3.or)), RowAt.of_own (ownsRow_upd h3.of hu3 (hlow h3.of))⟩, ?_⟩
          have hbb := HB.out.trans (HBE.out.mono HB.out.size)
          exact ⟨hbb.os, hbb.tape, hbb.output, by rw [size_setRow]; exact hbb.size, fun q hq => (setRow_other _ _ _ _ (by omega)).trans (hbb.block q hq)⟩
end
section
open Go.RowKit Go.Maps Go.WideMaps
theorem stS_raw {f : Bool} {sups bits : List Int} (hs : sups.length ≤ 100) (hb : ∀ k ∈ sups, B64 k) (hl : bits.length ≤ 100) : RawG [stS f sups bits] := by
  refine ⟨by simp, fun x hx => ?_, fun x hx => ?_⟩
  · simp at hx; subst hx
    refine ⟨fun h hh => ?_, by simp [stS], by simp [stS], fun f hf => ?_, ⟨by simp [stS]; omega, by simp [stS], by simp [stS], by simp [stS]; omega⟩⟩
    · simp [stS] at hh
      obtain ⟨k, hk, rfl⟩ := hh
      exact hb k hk
    · simp [stS] at hf
      obtain ⟨b, _, rfl⟩ := hf
      simp [B64]
  · simp at hx; subst hx
    simp [cnt, stS]; omega
theorem row_litD {w : World} {q c n : Nat} {T : TypeId} {xs : List Value} (h : w.heap[q]? = some (.cells xs.toArray T (0, 0))) (hl : xs.length = n * c) : RowAt w c (.slice (some ⟨q, 0, none⟩) n n) n xs := by
  refine ⟨hl, .inr ⟨_, n, rfl, Nat.le_refl _, fun j u hj => ?_⟩⟩
  rw [Addr.add_lit, Nat.zero_add, heap_cell h]
  simpa using hj
theorem st_form {w : World} {cs : List Value} {f : Bool} {sups bits : List Int} (h : SubAt w cs (stS f sups bits)) : ∃ vs vp vr vf, cs = [.bool f, vs, .int .i64 2, vp, vr, vf] := by
  obtain ⟨vs, vp, vr, vf, rfl, -⟩ := h.ex
  exact ⟨vs, vp, vr, vf, rfl⟩
theorem grpK_one {S : Nat → Prop} {W : World} {q : Nat} {cs : List Value} {x : Sb} (h : W.heap[q]? = some (.cells cs.toArray 46 (0, 0))) (hq : ¬ S q) (h6 : cs.length = 6) (hs : ∀ w'', Upd S W w'' → SubAt w'' cs x) : GrpK S W (.slice (some ⟨q, 0, none⟩) 1 1) [x] := by
  refine ⟨[cs], rfl, by simpa using h6, fun w'' hu => ⟨row_litD (by simpa using hu.heap_some h hq) (by simpa using h6), fun i c y hc hx => ?_⟩⟩
  have h0 : i = 0 := by have := (List.getElem?_eq_some_iff.1 hc).1; simp at this; omega
  subst h0; simp at hc hx; subst hc hx; exact hs w'' hu
theorem grpsK_1 {S : Nat → Prop} {W : World} {q : Nat} {v : Value} {g : List Sb} (h : W.heap[q]? = some (.cells #[v] 97 (0, 0))) (hq : ¬ S q) (k : GrpK S W v g) : GrpsK S W (.slice (some ⟨q, 0, none⟩) 1 1) [g] := by
  refine ⟨[v], rfl, fun w'' hu => row_litD (hu.heap_some h hq) rfl, fun i x y hx hy => ?_⟩
  have h0 : i = 0 := by have := (List.getElem?_eq_some_iff.1 hx).1; simp at this; omega
  subst h0; simp at hx hy; subst hx hy; exact k
theorem grpsK_2 {S : Nat → Prop} {W : World} {q : Nat} {v u : Value} {g h : List Sb} (hh : W.heap[q]? = some (.cells #[v, u] 97 (0, 0))) (hq : ¬ S q) (k : GrpK S W v g) (k2 : GrpK S W u h) : GrpsK S W (.slice (some ⟨q, 0, none⟩) 2 2) [g, h] := by
  refine ⟨[v, u], rfl, fun w'' hu => row_litD (hu.heap_some hh hq) rfl, fun i x y hx hy => ?_⟩
  have h0 : i = 0 ∨ i = 1 := by have := (List.getElem?_eq_some_iff.1 hx).1; simp at this; omega
  rcases h0 with rfl | rfl
  · simp at hx hy; subst hx hy; exact k
  · simp at hx hy; subst hx hy; exact k2
theorem tabN_new {w w' : World} {t : Nat} {S : Nat → Prop} (ht : TabAt S (fun _ => False) w' t []) (hb : ∀ k, S k → w.heap.size ≤ k) (hbe : Below w.heap.size w w') : TabN w S (fun _ => False) w' t [] := ⟨ht, ⟨by simp, by simp, by simp, by simp [total]⟩, hb, hbe⟩
set_option maxRecDepth 100000 in
set_option maxHeartbeats 32000000 in
theorem known12_any (w : World) (htab : Tab w) : Calls Tryz.prog 7 #[] w fun e w' => e = .returned (.bool true) ∧ Below w.heap.size w w' := by
  have HTAB := hid htab
  clear htab
  have hbU : Below w.heap.size w (w.alloc (.cells #[.int .i64 0] 3)) := (Below.refl _ _).alloc (Nat.le_refl _) _
  have HUP := hid (show ∀ w'', Below (w.heap.size + 1) (w.alloc (.cells #[.int .i64 0] 3)) w'' → IntsAt w'' (.slice (some ⟨w.heap.size, 0, none⟩) 1 1) [0] from fun w'' hb => row_litD (xs := [.int .i64 0]) ((hb.block _ (by omega)).trans (heap_alloc_at w (.cells #[.int .i64 0] 3) rfl)) rfl)
  go_enter Tryz.func7, Tryz.ntmps7
  go_wp2_with fail
  obtain ⟨wu, hwu⟩ : ∃ wu : World, wu = (w.alloc (.cells #[.int .i64 0] 3)) := ⟨_, rfl⟩
  rw [← hwu]
  have HWU := hid (show wu.heap.size = w.heap.size + 1 by rw [hwu]; simp)
  have HBU := hid (show Below w.heap.size w wu by rw [hwu]; exact hbU)
  have HB0 := hid (show Below (w.heap.size + 1) wu wu from Below.refl _ _)
  rw [← hwu] at HUP
  clear hwu hbU
  -- ck1
  refine (new_any _).mono ?_
  rintro e p0n ⟨p0t, p0S, rfl, hta, hba, hbe⟩
  have hT := tabN_new hta hba hbe
  have HBp0n := hid (HB0.out.trans (hbe.mono (by have := HWU.out; have := HB0.out.size; omega)))
  have HTp0 := hid hT
  clear hta hba hbe hT
  go_wp2_with fail
  obtain ⟨p0s0L, hL⟩ : ∃ x : World, x = (p0n.alloc (.cells #[.int .i64 32] 3)) := ⟨_, rfl⟩
  have hbL : Below p0n.heap.size p0n p0s0L := by rw [hL]; exact ((Below.refl _ _).alloc (Nat.le_refl _) _)
  have hbits : IntsAt p0s0L (.slice (some ⟨p0n.heap.size, 0, none⟩) 1 1) [32] := by rw [hL]; exact row_litD (xs := [.int .i64 32]) (heap_alloc_at _ _ (by simp)) rfl
  have hsups : IntsAt p0s0L (.slice none 0 0) [] := RowAt.nil _ 1
  rw [← hL]
  clear hL
  refine (st_any false _ _ _ _ p0s0L hsups hbits (by simp) (by simp)).mono ?_
  rintro e p0s0 ⟨cs, rfl, h6, hs, hb⟩
  obtain ⟨p0a0, p0a1, p0a2, p0a3, rfl⟩ := st_form (hs _ (Upd.refl _ _))
  have HSp00 := hid hs
  have HLp00 := hid hbL.size
  have HBp0s0 := hid (HBp0n.out.trans ((hbL.trans (hb.mono hbL.size)).mono (by have := HWU.out; have := HBp0n.out.size; omega)))
  have HQp00 := hid (hbL.trans (hb.mono hbL.size))
  clear hs hb hbL hbits hsups h6
  go_wp2_with fail
  obtain ⟨p0s1L, hL⟩ : ∃ x : World, x = ((p0s0.alloc (.cells #[.bool false, p0a0, .int .i64 2, p0a1, p0a2, p0a3] 46)).alloc (.cells #[.int .i64 32, .int .i64 64] 3)) := ⟨_, rfl⟩
  have hbL : Below p0s0.heap.size p0s0 p0s1L := by rw [hL]; exact (((Below.refl _ _).alloc (Nat.le_refl _) _).alloc (by simp) _)
  have hg0 : p0s1L.heap[p0s0.heap.size]? = some (.cells #[.bool false, p0a0, .int .i64 2, p0a1, p0a2, p0a3] 46 (0, 0)) := by rw [hL]; exact heap_alloc_keep (heap_alloc_at _ _ rfl) _
  have hbits : IntsAt p0s1L (.slice (some ⟨p0s0.heap.size + 1, 0, none⟩) 2 2) [32, 64] := by rw [hL]; exact row_litD (xs := [.int .i64 32, .int .i64 64]) (heap_alloc_at _ _ (by simp)) rfl
  have hsups : IntsAt p0s1L (.slice (some ⟨w.heap.size, 0, none⟩) 1 1) [0] := HUP.out _ (HBp0s0.out.trans (hbL.mono (by have := HWU.out; have := HBp0s0.out.size; omega)))
  rw [← hL]
  clear hL
  refine (st_any false _ _ _ _ p0s1L hsups hbits (by simp) (by simp)).mono ?_
  rintro e p0s1 ⟨cs, rfl, h6, hs, hb⟩
  obtain ⟨p0b0, p0b1, p0b2, p0b3, rfl⟩ := st_form (hs _ (Upd.refl _ _))
  have HSp01 := hid hs
  have HLp01 := hid hbL.size
  have HBp0s1 := hid (HBp0s0.out.trans ((hbL.trans (hb.mono hbL.size)).mono (by have := HWU.out; have := HBp0s0.out.size; omega)))
  have HQp01 := hid (hbL.trans (hb.mono hbL.size))
  have HGp00 := hid ((hb.block _ (heap_lt hg0)).trans hg0)
  clear hg0
  clear hs hb hbL hbits hsups h6
  go_wp2_with fail
  obtain ⟨p0W, hW⟩ : ∃ x : World, x = ((p0s1.alloc (.cells #[.bool false, p0b0, .int .i64 2, p0b1, p0b2, p0b3] 46)).alloc (.cells #[.slice (some ⟨p0s0.heap.size, 0, none⟩) 1 1, .slice (some ⟨p0s1.heap.size, 0, none⟩) 1 1] 97)) := ⟨_, rfl⟩
  have hbW : Below p0s1.heap.size p0s1 p0W := by rw [hW]; exact ((Below.refl _ _).alloc (Nat.le_refl _) _).alloc (by simp) _
  have hgl : p0W.heap[p0s1.heap.size]? = some (.cells #[.bool false, p0b0, .int .i64 2, p0b1, p0b2, p0b3] 46 (0, 0)) := by rw [hW]; exact heap_alloc_keep (heap_alloc_at _ _ rfl) _
  have hgs : p0W.heap[p0s1.heap.size + 1]? = some (.cells #[.slice (some ⟨p0s0.heap.size, 0, none⟩) 1 1, .slice (some ⟨p0s1.heap.size, 0, none⟩) 1 1] 97 (0, 0)) := by rw [hW]; exact heap_alloc_at _ _ (by simp)
  have hlt : ∀ b, p0S b → b < p0n.heap.size := fun b hb => (HTp0.out.tab.lt b hb).1
  have hq0 := HQp00.out; have hq1 := HQp01.out; have hl0 := HLp00.out; have hl1 := HLp01.out; have z0 := hq0.size; have z1 := hq1.size
  have k0 : GrpK p0S p0W (.slice (some ⟨p0s0.heap.size, 0, none⟩) 1 1) [stS false [] [32]] := grpK_one (cs := [.bool false, p0a0, .int .i64 2, p0a1, p0a2, p0a3]) ((hbW.block _ (heap_lt HGp00.out)).trans HGp00.out) (fun q => by have := hlt _ q; omega) rfl (fun w'' hu => HSp00.out w'' ((Upd.of_below (hq1.trans (hbW.mono z1)) : Upd (fun q => q < p0s0L.heap.size) p0s0 p0W).trans' (hu.mono fun b _ q => by have := hlt b q; omega)))
  have k1 : GrpK p0S p0W (.slice (some ⟨p0s1.heap.size, 0, none⟩) 1 1) [stS false [0] [32, 64]] := grpK_one (cs := [.bool false, p0b0, .int .i64 2, p0b1, p0b2, p0b3]) hgl (fun q => by have := hlt _ q; omega) rfl (fun w'' hu => HSp01.out w'' ((Upd.of_below hbW : Upd (fun q => q < p0s1L.heap.size) p0s1 p0W).trans' (hu.mono fun b _ q => by have := hlt b q; omega)))
  have kk := grpsK_2 hgs (fun q => by have := hlt _ q; omega) k0 k1
  have hbT := (hq0.trans (hq1.mono z0)).trans (hbW.mono (Nat.le_trans z0 z1))
  have hTW := HTp0.out.below hbT
  have C := check_any _ [[stS false [] [32]], [stS false [0] [32, 64]]] hTW tabC_nil kk (fun g hg => by
    simp at hg
    rcases hg with rfl | rfl
    all_goals exact stS_raw (by simp) (by simp [B64]) (by simp)) (by simp) (by simp) (HTAB.out.on (HBU.out.trans (HB0.out.mono (by have := HWU.out; omega))))
  have hbWu := HBp0s1.out.trans (hbW.mono (by have := HWU.out; have := HBp0s1.out.size; omega))
  have HBW := hid hbWu
  have HT2 := hid hTW
  have C := hid C
  rw [← hW]
  clear hW hbW hgl hgs hlt k0 k1 hq1 hl1 z1 kk hq0 hl0 z0 hbT hTW hbWu
  refine C.out.mono ?_
  rintro e p0c ⟨p0u, S', R', rfl, hta, _, hids, hup, _, _⟩
  have HBp0c := hid (HBW.out.trans (hup.below (B := w.heap.size + 1) (fun b hb => by have h1 := HT2.out.base b hb; have := HB0.out.size; have := HWU.out; omega) (by have := HBW.out.size; have := HWU.out; omega)))
  have e0 : checkD ⟨[], [], [], []⟩ [[stS false [] [32]], [stS false [0] [32, 64]]] = _ := ck1
  rw [e0] at hids ⊢
  obtain ⟨ua, uc, hua⟩ := RowAt.form (hids p0c (Upd.refl _ _))
  simp only [if_true, List.length_cons, List.length_nil] at hua
  subst hua
  clear e0 hids
  clear C hta hup
  dsimp only
  go_wp2_with fail
  -- ck2
  refine (new_any _).mono ?_
  rintro e p1n ⟨p1t, p1S, rfl, hta, hba, hbe⟩
  have hT := tabN_new hta hba hbe
  have HBp1n := hid (HBp0c.out.trans (hbe.mono (by have := HWU.out; have := HBp0c.out.size; omega)))
  have HTp1 := hid hT
  clear hta hba hbe hT
  go_wp2_with fail
  obtain ⟨p1s0L, hL⟩ : ∃ x : World, x = p1n := ⟨_, rfl⟩
  have hbL : Below p1n.heap.size p1n p1s0L := by rw [hL]; exact (Below.refl _ _)
  have hbits : IntsAt p1s0L (.slice none 0 0) [] := RowAt.nil _ 1
  have hsups : IntsAt p1s0L (.slice (some ⟨w.heap.size, 0, none⟩) 1 1) [0] := HUP.out _ (HBp1n.out.trans (hbL.mono (by have := HWU.out; have := HBp1n.out.size; omega)))
  rw [← hL]
  clear hL
  refine (st_any false _ _ _ _ p1s0L hsups hbits (by simp) (by simp)).mono ?_
  rintro e p1s0 ⟨cs, rfl, h6, hs, hb⟩
  obtain ⟨p1a0, p1a1, p1a2, p1a3, rfl⟩ := st_form (hs _ (Upd.refl _ _))
  have HSp10 := hid hs
  have HLp10 := hid hbL.size
  have HBp1s0 := hid (HBp1n.out.trans ((hbL.trans (hb.mono hbL.size)).mono (by have := HWU.out; have := HBp1n.out.size; omega)))
  have HQp10 := hid (hbL.trans (hb.mono hbL.size))
  clear hs hb hbL hbits hsups h6
  go_wp2_with fail
  obtain ⟨p1W, hW⟩ : ∃ x : World, x = ((p1s0.alloc (.cells #[.bool false, p1a0, .int .i64 2, p1a1, p1a2, p1a3] 46)).alloc (.cells #[.slice (some ⟨p1s0.heap.size, 0, none⟩) 1 1] 97)) := ⟨_, rfl⟩
  have hbW : Below p1s0.heap.size p1s0 p1W := by rw [hW]; exact ((Below.refl _ _).alloc (Nat.le_refl _) _).alloc (by simp) _
  have hgl : p1W.heap[p1s0.heap.size]? = some (.cells #[.bool false, p1a0, .int .i64 2, p1a1, p1a2, p1a3] 46 (0, 0)) := by rw [hW]; exact heap_alloc_keep (heap_alloc_at _ _ rfl) _
  have hgs : p1W.heap[p1s0.heap.size + 1]? = some (.cells #[.slice (some ⟨p1s0.heap.size, 0, none⟩) 1 1] 97 (0, 0)) := by rw [hW]; exact heap_alloc_at _ _ (by simp)
  have hlt : ∀ b, p1S b → b < p1n.heap.size := fun b hb => (HTp1.out.tab.lt b hb).1
  have hq0 := HQp10.out; have hl0 := HLp10.out; have z0 := hq0.size
  have k0 : GrpK p1S p1W (.slice (some ⟨p1s0.heap.size, 0, none⟩) 1 1) [stS false [0] []] := grpK_one (cs := [.bool false, p1a0, .int .i64 2, p1a1, p1a2, p1a3]) hgl (fun q => by have := hlt _ q; omega) rfl (fun w'' hu => HSp10.out w'' ((Upd.of_below hbW : Upd (fun q => q < p1s0L.heap.size) p1s0 p1W).trans' (hu.mono fun b _ q => by have := hlt b q; omega)))
  have kk := grpsK_1 hgs (fun q => by have := hlt _ q; omega) k0
  have hbT := hq0.trans (hbW.mono z0)
  have hTW := HTp1.out.below hbT
  have C := check_any _ [[stS false [0] []]] hTW tabC_nil kk (fun g hg => by
    simp at hg
    subst hg
    all_goals exact stS_raw (by simp) (by simp [B64]) (by simp)) (by simp) (by simp) (HTAB.out.on (HBU.out.trans (HBp0c.out.mono (by have := HWU.out; omega))))
  have hbWu := HBp1s0.out.trans (hbW.mono (by have := HWU.out; have := HBp1s0.out.size; omega))
  have HBW := hid hbWu
  have HT2 := hid hTW
  have C := hid C
  rw [← hW]
  clear hW hbW hgl hgs hlt k0 kk hq0 hl0 z0 hbT hTW hbWu
  refine C.out.mono ?_
  rintro e p1c ⟨p1u, S', R', rfl, hta, _, hids, hup, _, _⟩
  have HBp1c := hid (HBW.out.trans (hup.below (B := w.heap.size + 1) (fun b hb => by have h1 := HT2.out.base b hb; have := HBp0c.out.size; have := HWU.out; omega) (by have := HBW.out.size; have := HWU.out; omega)))
  have e0 := ck2
  unfold dc0 at e0
  rw [e0.1, e0.2] at *
  clear e0 hids
  clear C hta hup
  dsimp only
  go_wp2_with fail
  -- ck3
  refine (new_any _).mono ?_
  rintro e p2n ⟨p2t, p2S, rfl, hta, hba, hbe⟩
  have hT := tabN_new hta hba hbe
  have HBp2n := hid (HBp1c.out.trans (hbe.mono (by have := HWU.out; have := HBp1c.out.size; omega)))
  have HTp2 := hid hT
  clear hta hba hbe hT
  go_wp2_with fail
  obtain ⟨p2s0L, hL⟩ : ∃ x : World, x = p2n := ⟨_, rfl⟩
  have hbL : Below p2n.heap.size p2n p2s0L := by rw [hL]; exact (Below.refl _ _)
  have hbits : IntsAt p2s0L (.slice none 0 0) [] := RowAt.nil _ 1
  have hsups : IntsAt p2s0L (.slice none 0 0) [] := RowAt.nil _ 1
  rw [← hL]
  clear hL
  refine (st_any true _ _ _ _ p2s0L hsups hbits (by simp) (by simp)).mono ?_
  rintro e p2s0 ⟨cs, rfl, h6, hs, hb⟩
  obtain ⟨p2a0, p2a1, p2a2, p2a3, rfl⟩ := st_form (hs _ (Upd.refl _ _))
  have HSp20 := hid hs
  have HLp20 := hid hbL.size
  have HBp2s0 := hid (HBp2n.out.trans ((hbL.trans (hb.mono hbL.size)).mono (by have := HWU.out; have := HBp2n.out.size; omega)))
  have HQp20 := hid (hbL.trans (hb.mono hbL.size))
  clear hs hb hbL hbits hsups h6
  go_wp2_with fail
  obtain ⟨p2s1L, hL⟩ : ∃ x : World, x = (p2s0.alloc (.cells #[.bool true, p2a0, .int .i64 2, p2a1, p2a2, p2a3] 46)) := ⟨_, rfl⟩
  have hbL : Below p2s0.heap.size p2s0 p2s1L := by rw [hL]; exact ((Below.refl _ _).alloc (Nat.le_refl _) _)
  have hg0 : p2s1L.heap[p2s0.heap.size]? = some (.cells #[.bool true, p2a0, .int .i64 2, p2a1, p2a2, p2a3] 46 (0, 0)) := by rw [hL]; exact heap_alloc_at _ _ rfl
  have hbits : IntsAt p2s1L (.slice none 0 0) [] := RowAt.nil _ 1
  have hsups : IntsAt p2s1L (.slice (some ⟨w.heap.size, 0, none⟩) 1 1) [0] := HUP.out _ (HBp2s0.out.trans (hbL.mono (by have := HWU.out; have := HBp2s0.out.size; omega)))
  rw [← hL]
  clear hL
  refine (st_any false _ _ _ _ p2s1L hsups hbits (by simp) (by simp)).mono ?_
  rintro e p2s1 ⟨cs, rfl, h6, hs, hb⟩
  obtain ⟨p2b0, p2b1, p2b2, p2b3, rfl⟩ := st_form (hs _ (Upd.refl _ _))
  have HSp21 := hid hs
  have HLp21 := hid hbL.size
  have HBp2s1 := hid (HBp2s0.out.trans ((hbL.trans (hb.mono hbL.size)).mono (by have := HWU.out; have := HBp2s0.out.size; omega)))
  have HQp21 := hid (hbL.trans (hb.mono hbL.size))
  have HGp20 := hid ((hb.block _ (heap_lt hg0)).trans hg0)
  clear hg0
  clear hs hb hbL hbits hsups h6
  go_wp2_with fail
  obtain ⟨p2W, hW⟩ : ∃ x : World, x = ((p2s1.alloc (.cells #[.bool false, p2b0, .int .i64 2, p2b1, p2b2, p2b3] 46)).alloc (.cells #[.slice (some ⟨p2s0.heap.size, 0, none⟩) 1 1, .slice (some ⟨p2s1.heap.size, 0, none⟩) 1 1] 97)) := ⟨_, rfl⟩
  have hbW : Below p2s1.heap.size p2s1 p2W := by rw [hW]; exact ((Below.refl _ _).alloc (Nat.le_refl _) _).alloc (by simp) _
  have hgl : p2W.heap[p2s1.heap.size]? = some (.cells #[.bool false, p2b0, .int .i64 2, p2b1, p2b2, p2b3] 46 (0, 0)) := by rw [hW]; exact heap_alloc_keep (heap_alloc_at _ _ rfl) _
  have hgs : p2W.heap[p2s1.heap.size + 1]? = some (.cells #[.slice (some ⟨p2s0.heap.size, 0, none⟩) 1 1, .slice (some ⟨p2s1.heap.size, 0, none⟩) 1 1] 97 (0, 0)) := by rw [hW]; exact heap_alloc_at _ _ (by simp)
  have hlt : ∀ b, p2S b → b < p2n.heap.size := fun b hb => (HTp2.out.tab.lt b hb).1
  have hq0 := HQp20.out; have hq1 := HQp21.out; have hl0 := HLp20.out; have hl1 := HLp21.out; have z0 := hq0.size; have z1 := hq1.size
  have k0 : GrpK p2S p2W (.slice (some ⟨p2s0.heap.size, 0, none⟩) 1 1) [stS true [] []] := grpK_one (cs := [.bool true, p2a0, .int .i64 2, p2a1, p2a2, p2a3]) ((hbW.block _ (heap_lt HGp20.out)).trans HGp20.out) (fun q => by have := hlt _ q; omega) rfl (fun w'' hu => HSp20.out w'' ((Upd.of_below (hq1.trans (hbW.mono z1)) : Upd (fun q => q < p2s0L.heap.size) p2s0 p2W).trans' (hu.mono fun b _ q => by have := hlt b q; omega)))
  have k1 : GrpK p2S p2W (.slice (some ⟨p2s1.heap.size, 0, none⟩) 1 1) [stS false [0] []] := grpK_one (cs := [.bool false, p2b0, .int .i64 2, p2b1, p2b2, p2b3]) hgl (fun q => by have := hlt _ q; omega) rfl (fun w'' hu => HSp21.out w'' ((Upd.of_below hbW : Upd (fun q => q < p2s1L.heap.size) p2s1 p2W).trans' (hu.mono fun b _ q => by have := hlt b q; omega)))
  have kk := grpsK_2 hgs (fun q => by have := hlt _ q; omega) k0 k1
  have hbT := (hq0.trans (hq1.mono z0)).trans (hbW.mono (Nat.le_trans z0 z1))
  have hTW := HTp2.out.below hbT
  have C := check_any _ [[stS true [] []], [stS false [0] []]] hTW tabC_nil kk (fun g hg => by
    simp at hg
    rcases hg with rfl | rfl
    all_goals exact stS_raw (by simp) (by simp [B64]) (by simp)) (by simp) (by simp) (HTAB.out.on (HBU.out.trans (HBp1c.out.mono (by have := HWU.out; omega))))
  have hbWu := HBp2s1.out.trans (hbW.mono (by have := HWU.out; have := HBp2s1.out.size; omega))
  have HBW := hid hbWu
  have HT2 := hid hTW
  have C := hid C
  rw [← hW]
  clear hW hbW hgl hgs hlt k0 k1 hq1 hl1 z1 kk hq0 hl0 z0 hbT hTW hbWu
  refine C.out.mono ?_
  rintro e p2c ⟨p2u, S', R', rfl, hta, _, hids, hup, _, _⟩
  have HBp2c := hid (HBW.out.trans (hup.below (B := w.heap.size + 1) (fun b hb => by have h1 := HT2.out.base b hb; have := HBp1c.out.size; have := HWU.out; omega) (by have := HBW.out.size; have := HWU.out; omega)))
  have e0 := ck3
  unfold dc0 at e0
  rw [e0.1, e0.2] at *
  clear e0 hids
  clear C hta hup
  dsimp only
  go_wp2_with fail
  -- ck4
  refine (new_any _).mono ?_
  rintro e p3n ⟨p3t, p3S, rfl, hta, hba, hbe⟩
  have hT := tabN_new hta hba hbe
  have HBp3n := hid (HBp2c.out.trans (hbe.mono (by have := HWU.out; have := HBp2c.out.size; omega)))
  have HTp3 := hid hT
  clear hta hba hbe hT
  go_wp2_with fail
  obtain ⟨p3s0L, hL⟩ : ∃ x : World, x = (p3n.alloc (.cells #[.int .i64 32] 3)) := ⟨_, rfl⟩
  have hbL : Below p3n.heap.size p3n p3s0L := by rw [hL]; exact ((Below.refl _ _).alloc (Nat.le_refl _) _)
  have hbits : IntsAt p3s0L (.slice (some ⟨p3n.heap.size, 0, none⟩) 1 1) [32] := by rw [hL]; exact row_litD (xs := [.int .i64 32]) (heap_alloc_at _ _ (by simp)) rfl
  have hsups : IntsAt p3s0L (.slice none 0 0) [] := RowAt.nil _ 1
  rw [← hL]
  clear hL
  refine (st_any false _ _ _ _ p3s0L hsups hbits (by simp) (by simp)).mono ?_
  rintro e p3s0 ⟨cs, rfl, h6, hs, hb⟩
  obtain ⟨p3a0, p3a1, p3a2, p3a3, rfl⟩ := st_form (hs _ (Upd.refl _ _))
  have HSp30 := hid hs
  have HLp30 := hid hbL.size
  have HBp3s0 := hid (HBp3n.out.trans ((hbL.trans (hb.mono hbL.size)).mono (by have := HWU.out; have := HBp3n.out.size; omega)))
  have HQp30 := hid (hbL.trans (hb.mono hbL.size))
  clear hs hb hbL hbits hsups h6
  go_wp2_with fail
  obtain ⟨p3s1L, hL⟩ : ∃ x : World, x = ((p3s0.alloc (.cells #[.bool false, p3a0, .int .i64 2, p3a1, p3a2, p3a3] 46)).alloc (.cells #[.int .i64 64] 3)) := ⟨_, rfl⟩
  have hbL : Below p3s0.heap.size p3s0 p3s1L := by rw [hL]; exact (((Below.refl _ _).alloc (Nat.le_refl _) _).alloc (by simp) _)
  have hg0 : p3s1L.heap[p3s0.heap.size]? = some (.cells #[.bool false, p3a0, .int .i64 2, p3a1, p3a2, p3a3] 46 (0, 0)) := by rw [hL]; exact heap_alloc_keep (heap_alloc_at _ _ rfl) _
  have hbits : IntsAt p3s1L (.slice (some ⟨p3s0.heap.size + 1, 0, none⟩) 1 1) [64] := by rw [hL]; exact row_litD (xs := [.int .i64 64]) (heap_alloc_at _ _ (by simp)) rfl
  have hsups : IntsAt p3s1L (.slice (some ⟨w.heap.size, 0, none⟩) 1 1) [0] := HUP.out _ (HBp3s0.out.trans (hbL.mono (by have := HWU.out; have := HBp3s0.out.size; omega)))
  rw [← hL]
  clear hL
  refine (st_any false _ _ _ _ p3s1L hsups hbits (by simp) (by simp)).mono ?_
  rintro e p3s1 ⟨cs, rfl, h6, hs, hb⟩
  obtain ⟨p3b0, p3b1, p3b2, p3b3, rfl⟩ := st_form (hs _ (Upd.refl _ _))
  have HSp31 := hid hs
  have HLp31 := hid hbL.size
  have HBp3s1 := hid (HBp3s0.out.trans ((hbL.trans (hb.mono hbL.size)).mono (by have := HWU.out; have := HBp3s0.out.size; omega)))
  have HQp31 := hid (hbL.trans (hb.mono hbL.size))
  have HGp30 := hid ((hb.block _ (heap_lt hg0)).trans hg0)
  clear hg0
  clear hs hb hbL hbits hsups h6
  go_wp2_with fail
  obtain ⟨p3W, hW⟩ : ∃ x : World, x = ((p3s1.alloc (.cells #[.bool false, p3b0, .int .i64 2, p3b1, p3b2, p3b3] 46)).alloc (.cells #[.slice (some ⟨p3s0.heap.size, 0, none⟩) 1 1, .slice (some ⟨p3s1.heap.size, 0, none⟩) 1 1] 97)) := ⟨_, rfl⟩
  have hbW : Below p3s1.heap.size p3s1 p3W := by rw [hW]; exact ((Below.refl _ _).alloc (Nat.le_refl _) _).alloc (by simp) _
  have hgl : p3W.heap[p3s1.heap.size]? = some (.cells #[.bool false, p3b0, .int .i64 2, p3b1, p3b2, p3b3] 46 (0, 0)) := by rw [hW]; exact heap_alloc_keep (heap_alloc_at _ _ rfl) _
  have hgs : p3W.heap[p3s1.heap.size + 1]? = some (.cells #[.slice (some ⟨p3s0.heap.size, 0, none⟩) 1 1, .slice (some ⟨p3s1.heap.size, 0, none⟩) 1 1] 97 (0, 0)) := by rw [hW]; exact heap_alloc_at _ _ (by simp)
  have hlt : ∀ b, p3S b → b < p3n.heap.size := fun b hb => (HTp3.out.tab.lt b hb).1
  have hq0 := HQp30.out; have hq1 := HQp31.out; have hl0 := HLp30.out; have hl1 := HLp31.out; have z0 := hq0.size; have z1 := hq1.size
  have k0 : GrpK p3S p3W (.slice (some ⟨p3s0.heap.size, 0, none⟩) 1 1) [stS false [] [32]] := grpK_one (cs := [.bool false, p3a0, .int .i64 2, p3a1, p3a2, p3a3]) ((hbW.block _ (heap_lt HGp30.out)).trans HGp30.out) (fun q => by have := hlt _ q; omega) rfl (fun w'' hu => HSp30.out w'' ((Upd.of_below (hq1.trans (hbW.mono z1)) : Upd (fun q => q < p3s0L.heap.size) p3s0 p3W).trans' (hu.mono fun b _ q => by have := hlt b q; omega)))
  have k1 : GrpK p3S p3W (.slice (some ⟨p3s1.heap.size, 0, none⟩) 1 1) [stS false [0] [64]] := grpK_one (cs := [.bool false, p3b0, .int .i64 2, p3b1, p3b2, p3b3]) hgl (fun q => by have := hlt _ q; omega) rfl (fun w'' hu => HSp31.out w'' ((Upd.of_below hbW : Upd (fun q => q < p3s1L.heap.size) p3s1 p3W).trans' (hu.mono fun b _ q => by have := hlt b q; omega)))
  have kk := grpsK_2 hgs (fun q => by have := hlt _ q; omega) k0 k1
  have hbT := (hq0.trans (hq1.mono z0)).trans (hbW.mono (Nat.le_trans z0 z1))
  have hTW := HTp3.out.below hbT
  have C := check_any _ [[stS false [] [32]], [stS false [0] [64]]] hTW tabC_nil kk (fun g hg => by
    simp at hg
    rcases hg with rfl | rfl
    all_goals exact stS_raw (by simp) (by simp [B64]) (by simp)) (by simp) (by simp) (HTAB.out.on (HBU.out.trans (HBp2c.out.mono (by have := HWU.out; omega))))
  have hbWu := HBp3s1.out.trans (hbW.mono (by have := HWU.out; have := HBp3s1.out.size; omega))
  have HBW := hid hbWu
  have HT2 := hid hTW
  have C := hid C
  rw [← hW]
  clear hW hbW hgl hgs hlt k0 k1 hq1 hl1 z1 kk hq0 hl0 z0 hbT hTW hbWu
  refine C.out.mono ?_
  rintro e p3c ⟨p3u, S', R', rfl, hta, _, hids, hup, _, _⟩
  have HBp3c := hid (HBW.out.trans (hup.below (B := w.heap.size + 1) (fun b hb => by have h1 := HT2.out.base b hb; have := HBp2c.out.size; have := HWU.out; omega) (by have := HBW.out.size; have := HWU.out; omega)))
  have e0 := ck4
  unfold dc0 at e0
  rw [e0.1, e0.2] at *
  clear e0 hids
  clear C hta hup
  dsimp only
  go_wp2_with fail
  go_wp2
  go_ret
  exact ⟨rfl, ⟨HBp3c.out.os.trans HBU.out.os, HBp3c.out.tape.trans HBU.out.tape, HBp3c.out.output.trans HBU.out.output, by have := HBp3c.out.size; have := HWU.out; omega, fun q hq => (HBp3c.out.block q (by omega)).trans (HBU.out.block q hq)⟩⟩
end
end Go.Proofs.YtpddbaijnjbfdaaGreatDoor
