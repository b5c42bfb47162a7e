/- geodelaw11: sub, ints. -/
import Derived.Test.YtoamhiaagaaaaaaGreatDoorQMidP
import Derived.Test.YtoamhiaagaaaaaaGreatDoorQRoAskP
import Derived.Test.YtoamhiaagaaaaaaGreatDoorQRoShutP
import Derived.Test.YtoamhiaagaaaaaaGreatDoorQRoKnP
import Derived.Maps.AppendAt
namespace Go.Proofs.YtoamhiaagaaaaaaGreatDoor
open Go.RowKit

def fI : Fl := ⟨0, ⟨1, false, 0, 0⟩, false⟩
theorem sizeSubC : (Tryz.prog.info? 48).map (·.size) = some 6 := by kernel_rfl
def subS (n : Nat) (sups : List Int) : Sb := ⟨false, sups.map (fun k => ⟨13, k⟩), 2, [], [], List.replicate n fI⟩
set_option maxRecDepth 100000 in
set_option maxHeartbeats 16000000 in
theorem sub_any2 (n : Nat) (v : Value) (sups : List Int) (w : World) (hv : IntsAt w v sups) (hn : n ≤ 10) (hl : sups.length ≤ 100000) : Calls Tryz.prog 21 #[.int .i64 n, v] w fun e w' => ∃ cs' : List Value, e = .returned (.agg cs'.toArray) ∧ cs'.length = 6 ∧ (∀ w'', Upd (fun q => q < w.heap.size) w' w'' → SubAt w'' cs' (subS n sups)) ∧ Below w.heap.size w w' := by
  obtain ⟨so, sc, rfl⟩ := RowAt.form hv
  obtain ⟨i0, hi, hz0, hz1, hz2⟩ := info_parts Tryz.infoHeap
  obtain ⟨i2, hi2, hz02, hz12, hz22⟩ := info_parts Tryz.infoField
  have Hi := Lib.hid hi; have Hz0 := Lib.hid hz0; have Hz1 := Lib.hid hz1; have Hz2 := Lib.hid hz2
  have Hi2 := Lib.hid hi2; have Hz02 := Lib.hid hz02; have Hz12 := Lib.hid hz12; have Hz22 := Lib.hid hz22
  obtain ⟨ns, hns⟩ : ∃ n, sups.length = n := ⟨_, rfl⟩
  have HNS := Lib.hid hns
  rw [hns] at hl
  have hsl : (ns : Int) ≤ 100000 := by omega
  obtain ⟨W0, hW⟩ : ∃ W0 : World, W0 = w.alloc (.cells #[.bool false, .slice none 0 0, .int .i64 0, .slice none 0 0, .slice none 0 0, .slice none 0 0] 48) := ⟨_, rfl⟩
  have hB : Below w.heap.size w W0 := by rw [hW]; exact (Below.refl _ _).alloc (by simp) _
  have hws : W0.heap.size = w.heap.size + 1 := by rw [hW]; simp
  have hz : W0.heap[w.heap.size]? = some (.cells #[.bool false, .slice none 0 0, .int .i64 0, .slice none 0 0, .slice none 0 0, .slice none 0 0] 48 (0, 0)) := by rw [hW]; exact heap_alloc_at _ _ (by simp)
  have r5 : ∀ x : Ext W0, IntsAt x.val (.slice so sups.length sc) sups := fun x => RowAt.ext (RowAt.below hv hB (Nat.le_refl _)) x
  have R5 := Lib.hid r5; have HW := Lib.hid hW; have HB := Lib.hid hB; have HWS := Lib.hid hws; have HZ := Lib.hid hz; have HN := Lib.hid hn
  rw [hns]
  have hn10 : (n : Int) ≤ 10 := by omega
  clear hv hi hz0 hz1 hz2 hi2 hz02 hz12 hz22 hW hB hws hz r5 hns hl hn
  go_enter Tryz.func21, Tryz.ntmps21
  go_wp2
  rw [← HW.out]
  obtain ⟨W1, hW1⟩ : ∃ W1 : World, W1 = W0.alloc (.cells #[.bool false, .slice none 0 0, .int .i64 2, .slice none 0 0, .slice none 0 0, .slice none 0 0] 48) := ⟨_, rfl⟩
  rw [← hW1]
  obtain ⟨ob, hob⟩ : ∃ ob, w.heap.size + 1 = ob := ⟨_, rfl⟩
  rw [hob]
  have HOB := Lib.hid hob
  clear hob
  have st : OutS W0.heap.size ob ⟨false, (sups.map fun k => (⟨13, k⟩ : Hp)).take 0, 2, [], [], []⟩ W1 (.slice none 0 0) (.slice none 0 0) (.slice none 0 0) (.slice none 0 0) :=
    ⟨by rw [hW1]; exact heap_alloc_at _ _ (by have := HWS.out; have := HOB.out; omega), owns_zero _ _ _ _, owns_zero _ _ _ _, owns_zero _ _ _ _, owns_zero _ _ _ _, .inl rfl⟩
  have hbw : Below W0.heap.size W0 W1 := by rw [hW1]; exact (Below.refl _ _).alloc (Nat.le_refl _) _
  have ST := Lib.hid st; have HBW := Lib.hid hbw
  clear st hbw hW1
  go_loopw [6] (fun t6 wz => ∃ (i : Nat) (vs : Value), t6 = .int .i64 i ∧ i ≤ ns ∧ OutS W0.heap.size ob ⟨false, (sups.map fun k => (⟨13, k⟩ : Hp)).take i, 2, [], [], []⟩ wz vs (.slice none 0 0) (.slice none 0 0) (.slice none 0 0) ∧ Below W0.heap.size W0 wz) (fun t6 _ => ns - (intOf t6).toNat)
  case atStart => exact ⟨0, _, rfl, Nat.zero_le _, ST.out, HBW.out⟩
  case round =>
    obtain ⟨i, vs, rfl, hi, hO, hbe⟩ := hrel
    have ow := hO.os
    have htl : ((sups.map fun k => (⟨13, k⟩ : Hp)).take i).length = i := by rw [List.length_take, List.length_map, HNS.out]; omega
    have HTL := Lib.hid htl
    obtain ⟨aos, cos, rfl, -⟩ := ownsRow_form ow
    dsimp only at ow hO
    have hrow := R5.out ⟨wr, hbe⟩
    dsimp only at hrow
    rw [htl] at ow hO
    have HO := Lib.hid hO; have HBE := Lib.hid hbe; have OW := Lib.hid ow
    clear hO hbe ow htl
    by_cases hlt : i < ns
    · obtain ⟨y, hy⟩ : ∃ y, sups[i]? = some y := ⟨sups[i]'(by rw [HNS.out]; exact hlt), by simp⟩
      obtain ⟨lb, loff, hlo, hlb, p0⟩ := IntsAt.at hrow hy
      have LBW := Lib.hid (show lb < W0.heap.size by obtain ⟨_, _, e, h, _⟩ := IntsAt.at (R5.out ⟨W0, Below.refl _ _⟩) hy; rw [hlo] at e; simp only [Option.some.injEq, Addr.mk.injEq] at e; rw [e.1]; exact h)
      subst hlo
      have hlt' : (i : Int) < ns := by omega
      have hi6 : (i : Int) < 1000000 := by omega
      have HY := Lib.hid hy; have HI := Lib.hid hlt
      have hnl : ¬ (Value.slice aos i cos).ownBlock = some lb := fun e => by have := (OW.out.lt _ e).1; have := LBW.out; omega
      have hno : ¬ (Value.slice aos i cos).ownBlock = some ob := row_ne HO.out.os HO.out.hp (by decide)
      have d1 := ExtU.cells (R := fun q => (Value.slice aos i cos).ownBlock = some q) (heap_cell HO.out.hp 1) hno
      have d2 := ExtU.cells (R := fun q => (Value.slice aos i cos).ownBlock = some q) p0 hnl
      simp only at d1
      have HRW := Lib.hid (row_cells (cs := [.int .i64 13, .int .i64 y]) (heap_alloc_at wr.drew (.cells #[.int .i64 13, .int .i64 y] 26) rfl))
      have OWA := Lib.hid (show (wr.drew.alloc (.cells #[.int .i64 13, .int .i64 y] 26)).ownsRow W0.heap.size 26 2 (.slice aos i cos) i (flatH ((sups.map fun k => (⟨13, k⟩ : Hp)).take i)) from World.ownsRow.alloc (show wr.drew.ownsRow W0.heap.size 26 2 (.slice aos i cos) i (flatH ((sups.map fun k => (⟨13, k⟩ : Hp)).take i)) from OW.out) _)
      have HSZ := Lib.hid (show W0.heap.size ≤ (wr.drew.alloc (.cells #[.int .i64 13, .int .i64 y] 26)).heap.size from ((HBE.out.drew).alloc HBE.out.size _).size)
      clear hlb hrow hy hlt hi p0 hnl hno
      go_wp2
      refine wp_region_midX (fun x : ExtU (fun q => (Value.slice aos i cos).ownBlock = some q) wr => x.val) 9 [0, 1, 2, 3, 4, 5, 6] [7, 8] (by kernel_rfl) (by kernel_rfl) (by kernel_rfl) (by kernel_rfl) (by rintro c a (_ | d) v w h <;> exact h) ⟨⟨_, (Upd.refl _ _).drew⟩, rfl⟩ ?_
      simp only [pickO, List.getD_cons_succ, List.getD_cons_zero, List.drop_succ_cons, List.drop_zero]
      repeat (go_big_quiet_step (fail))
      refine wpQuiet_nil ?_
      unfold wpMids
      go_wp2
      refine ⟨⟨⟨_, (Upd.refl _ _).drew.alloc _⟩, rfl⟩, ?_⟩
      unfold wpMids
      go_wp2_with (at_builtin; refine wpList_append_own_at _ rfl _ _ 41 rfl W0.heap.size 26 i0 _ 2 16 Tryz.underlying41 Hi.out Hz0.out Hz1.out Hz2.out rfl (by decide) _ _ _ rfl OWA.out ⟨wr.heap.size, 0, none⟩ 1 1 [.int .i64 13, .int .i64 y] rfl rfl HRW.out (by intro u hu; simp at hu; rcases hu with rfl | rfl <;> rfl) (by unfold maxLen; omega) (by omega) HSZ.out ?_)
      intro v9 w9 o9 gr9 mv0 mv9
      obtain ⟨a9, c9, rfl, -⟩ := ownsRow_form o9
      have f9 := outh_sups HO.out gr9
      have f9c := heap_cell f9 1
      have f9f := heap_frozen f9 1
      simp only [List.getElem?_toArray, List.getElem?_cons_succ, List.getElem?_cons_zero] at f9c
      have hu9 : Upd (fun q => (Value.slice aos i cos).ownBlock = some q) wr w9 := ((Upd.refl _ wr).drew.alloc _).grown gr9 (fun q hq => .inl hq)
      have HU9 := Lib.hid hu9
      have hb9 : Below W0.heap.size W0 w9 := ((HBE.out.drew).alloc HBE.out.size _).grown gr9 HSZ.out (fun k hk => (OW.out.lt k hk).1)
      have q := out_sups (y := ⟨13, y⟩) HO.out gr9 (by rw [show (⟨false, (sups.map fun k => (⟨13, k⟩ : Hp)).take i, 2, [], [], []⟩ : Sb).sups.length = i from HTL.out]; exact o9) (by simpa using mv9)
      have HB9 := Lib.hid hb9; have HQ := Lib.hid q
      clear o9 gr9 mv0 mv9 f9 hu9 hb9 q
      go_wp2
      refine ⟨⟨⟨_, HU9.out⟩, rfl⟩, ?_⟩
      unfold wpMids
      go_wp2
      go_roundw
      case rel =>
        refine ⟨i + 1, .slice a9 (i + 1) c9, by go_num, HI.out, ?_, HB9.out.setCell (by have := HOB.out; have := HWS.out; dsimp only; omega) _⟩
        rw [List.take_add_one, List.getElem?_map, HY.out]
        exact HQ.out
      case measure => have := HI.out; simp [intOf]; omega
    · obtain rfl : i = ns := by omega
      have hlt' : ¬ (i : Int) < i := by omega
      have ho2 : OutS W0.heap.size ob ⟨false, sups.map fun k => (⟨13, k⟩ : Hp), 2, [], [], List.replicate 0 fI⟩ wr (.slice aos i cos) (.slice none 0 0) (.slice none 0 0) (.slice none 0 0) := by
        have h := HO.out
        rw [List.take_of_length_le (by rw [List.length_map, HNS.out]; exact Nat.le_refl _)] at h
        exact h
      have HO2 := Lib.hid ho2
      have HBE2 := Lib.hid HBE.out
      clear hlt hi hrow ho2 HO OW HBE
      go_wp2
      go_loopw [7] (fun t7 wz => ∃ (j : Nat) (v9 : Value), t7 = .int .i64 j ∧ j ≤ n ∧ OutS W0.heap.size ob ⟨false, sups.map fun k => (⟨13, k⟩ : Hp), 2, [], [], List.replicate j fI⟩ wz (.slice aos i cos) (.slice none 0 0) (.slice none 0 0) v9 ∧ Below W0.heap.size W0 wz) (fun t7 _ => n - (intOf t7).toNat)
      case atStart => exact ⟨0, _, rfl, Nat.zero_le _, HO2.out, HBE2.out⟩
      case round =>
        clear HO2 HBE2
        obtain ⟨j, v9, rfl, hj, hO, hbe⟩ := hrel
        have ow := hO.of
        have htl : (List.replicate j fI).length = j := List.length_replicate
        have HTL := Lib.hid htl
        obtain ⟨aov, cov, rfl, -⟩ := ownsRow_form ow
        dsimp only at ow hO
        rw [htl] at ow hO
        have HO := Lib.hid hO; have HBE := Lib.hid hbe; have OW := Lib.hid ow
        clear hO hbe ow htl
        by_cases hlt : j < n
        · have hlt' : (j : Int) < n := by omega
          have hj6 : (j : Int) < 1000000 := by omega
          have HJ := Lib.hid hlt
          have d1 := heap_cell HO.out.hp 5
          simp only [List.getElem?_toArray, List.getElem?_cons_succ, List.getElem?_cons_zero] at d1
          have HRW := Lib.hid (row_cells (cs := [.int .i64 0, .int .i64 1, .bool false, .int .i64 0, .int .i64 0, .bool false]) (heap_alloc_at wr (.cells #[.int .i64 0, .int .i64 1, .bool false, .int .i64 0, .int .i64 0, .bool false] 107) rfl))
          have OWA := Lib.hid (OW.out.alloc (.cells #[.int .i64 0, .int .i64 1, .bool false, .int .i64 0, .int .i64 0, .bool false] 107))
          have HSZ := Lib.hid (HBE.out.alloc HBE.out.size (.cells #[.int .i64 0, .int .i64 1, .bool false, .int .i64 0, .int .i64 0, .bool false] 107)).size
          clear hlt hj
          go_wp2_with (at_builtin; refine wpList_append_own_at _ rfl _ _ 44 rfl W0.heap.size 107 i2 _ 6 48 Tryz.underlying44 Hi2.out Hz02.out Hz12.out Hz22.out rfl (by decide) _ _ _ rfl OWA.out ⟨wr.heap.size, 0, none⟩ 1 1 [.int .i64 0, .int .i64 1, .bool false, .int .i64 0, .int .i64 0, .bool false] rfl rfl HRW.out (by intro u hu; simp at hu; rcases hu with rfl | rfl | rfl | rfl | rfl | rfl <;> rfl) (by have := HJ.out; have := HN.out; unfold maxLen; omega) (by have := HJ.out; have := HN.out; omega) HSZ.out ?_)
          intro v9 w9 o9 gr9 mv0 mv9
          obtain ⟨a9, c9, rfl, -⟩ := ownsRow_form o9
          have gr9' : (wr.drew.alloc (.cells #[.int .i64 0, .int .i64 1, .bool false, .int .i64 0, .int .i64 0, .bool false] 107)).grownBy w9 (Value.slice aov j cov).ownBlock := ⟨gr9.os, gr9.tape, gr9.output, gr9.size, gr9.block⟩
          have f9 := outh_fs HO.out gr9'
          have f9c := heap_cell f9 5
          have f9f := heap_frozen f9 5
          simp only [List.getElem?_toArray, List.getElem?_cons_succ, List.getElem?_cons_zero] at f9c
          have hb9 : Below W0.heap.size W0 w9 := (HBE.out.alloc HBE.out.size _).grown gr9 HSZ.out (fun k hk => (OWA.out.lt k hk).1)
          have q := out_fs (y := fI) HO.out gr9' (by rw [show (⟨false, sups.map fun k => (⟨13, k⟩ : Hp), 2, [], [], List.replicate j fI⟩ : Sb).fs.length = j from HTL.out]; exact o9) (by simpa using mv9)
          have HB9 := Lib.hid hb9; have HQ := Lib.hid q
          clear o9 gr9 mv0 mv9 f9 hb9 q gr9'
          go_wp2
          go_roundw
          case rel =>
            refine ⟨j + 1, .slice a9 (j + 1) c9, by go_num, HJ.out, ?_, HB9.out.setCell (by have := HOB.out; have := HWS.out; dsimp only; omega) _⟩
            rw [List.replicate_succ']
            exact HQ.out
          case measure => have := HJ.out; simp [intOf]; omega
        · obtain rfl : j = n := by omega
          have hlt' : ¬ (j : Int) < j := by omega
          have ho3 := HO.out
          have HO3 := Lib.hid ho3
          have g0 := heap_cell ho3.hp 0; have g1 := heap_cell ho3.hp 1; have g2 := heap_cell ho3.hp 2; have g3 := heap_cell ho3.hp 3; have g4 := heap_cell ho3.hp 4; have g5 := heap_cell ho3.hp 5
          simp only [List.getElem?_toArray, List.getElem?_cons_succ, List.getElem?_cons_zero] at g0 g1 g2 g3 g4 g5
          have hz := (HBE.out.block _ (heap_lt HZ.out)).trans HZ.out
          have h1 : (#[.bool false, .slice aos i cos, .int .i64 2, .slice none 0 0, .slice none 0 0, .slice aov j cov] : Array Value).all (·.oneCell') = true := by simp [Value.oneCell']
          have H1 := Lib.hid h1; have HZW := Lib.hid hz
          clear ho3 hlt hj hz h1
          go_wp2_with (first | (refine wpList_store_row rfl 48 _ _ rfl w.heap.size #[.bool false, .slice aos i cos, .int .i64 2, .slice none 0 0, .slice none 0 0, .slice aov j cov] rfl rfl 48 #[.bool false, .slice none 0 0, .int .i64 0, .slice none 0 0, .slice none 0 0, .slice none 0 0] HZW.out sizeSubC rfl H1.out ?_) | fail)
          (try simp only [Exit.inBlock, Exit.then])
          have hr : (loadVar 48 ⟨w.heap.size, 0, none⟩).run Tryz.prog (wr.setRow w.heap.size #[.bool false, .slice aos i cos, .int .i64 2, .slice none 0 0, .slice none 0 0, .slice aov j cov]) = .ok (.agg #[.bool false, .slice aos i cos, .int .i64 2, .slice none 0 0, .slice none 0 0, .slice aov j cov]) (wr.setRow w.heap.size #[.bool false, .slice aos i cos, .int .i64 2, .slice none 0 0, .slice none 0 0, .slice aov j cov]) :=
            run_loadVar_row _ _ 48 48 _ (0, 0) _ (setRow_heap _ _ _ _ _ _ HZW.out) Tryz.underlying48 rfl sizeSubC
          refine bodyPost_ret (v := .agg #[.bool false, .slice aos i cos, .int .i64 2, .slice none 0 0, .slice none 0 0, .slice aov j cov]) (by simp [results, Tryz.results21, asAddr, hr]) rfl ?_
          have hu : Upd (fun q => q = w.heap.size) wr (wr.setRow w.heap.size #[.bool false, .slice aos i cos, .int .i64 2, .slice none 0 0, .slice none 0 0, .slice aov j cov]) := ⟨rfl, rfl, rfl, by rw [size_setRow]; exact Nat.le_refl _, fun q _ hq => setRow_other _ _ _ _ (fun e => hq e)⟩
          have hlow : ∀ {e : TypeId} {sz : Nat} {v : Value} {nn : Nat} {xs : List Value}, wr.ownsRow W0.heap.size e sz v nn xs → ∀ b, v.ownBlock = some b → ¬ (b = w.heap.size ∨ b < w.heap.size) := fun h b hb e => by have := (h.lt b hb).1; have := HWS.out; omega
          have h3 := HO3.out
          refine ⟨_, rfl, rfl, fun w'' hu2 => have hu3 := (hu.mono fun _ _ q => Or.inl q : Upd (fun q => q = w.heap.size ∨ q < w.heap.size) _ _).trans' (hu2.mono fun _ _ q => .inr q); ⟨_, _, _, _, rfl, RowAt.of_own (ownsRow_upd h3.os hu3 (hlow h3.os)), RowAt.of_own (ownsRow_upd h3.op hu3 (hlow h3.op)), RowAt.of_own (ownsRow_upd h3.or hu3 (hlow h3.or)), RowAt.of_own (ownsRow_upd h3.of hu3 (hlow h3.of))⟩, ?_⟩
          have hbb := HB.out.trans (HBE.out.mono HB.out.size)
          exact ⟨hbb.os, hbb.tape, hbb.output, by rw [size_setRow]; exact hbb.size, fun q hq => (setRow_other _ _ _ _ (by omega)).trans (hbb.block q hq)⟩
theorem sub_any (n : Nat) (v : Value) (sups : List Int) (w : World) (hv : IntsAt w v sups) (hn : n ≤ 10) (hl : sups.length ≤ 100000) : Calls Tryz.prog 21 #[.int .i64 n, v] w fun e w' => ∃ cs' : List Value, e = .returned (.agg cs'.toArray) ∧ cs'.length = 6 ∧ SubAt w' cs' (subS n sups) ∧ Below w.heap.size w w' :=
  (sub_any2 n v sups w hv hn hl).mono fun _ w' ⟨cs, h1, h2, h3, h4⟩ => ⟨cs, h1, h2, h3 w' (Upd.refl _ _), h4⟩
set_option maxRecDepth 100000 in
set_option maxHeartbeats 4000000 in
theorem ints11_any (a b : Value) (l m : List Int) (w : World) (ha : IntsAt w a l) (hb : IntsAt w b m) (hl : l.length ≤ 1000000) (_ : m.length ≤ 1000000) :
    Calls Tryz.prog 22 #[a, b] w fun e w' => e = .returned (.bool (decide (l = m))) ∧ ∃ n, w' = w.drewN n := by
  obtain ⟨ao, ca, rfl⟩ := RowAt.form ha
  obtain ⟨bo, cb, rfl⟩ := RowAt.form hb
  by_cases hlen : l.length = m.length
  · obtain ⟨n, hn⟩ : ∃ n, l.length = n := ⟨_, rfl⟩
    have hn2 : m.length = n := by rw [← hlen]; exact hn
    have HA := Lib.hid ha; have HB := Lib.hid hb; have HN := Lib.hid hn; have HN2 := Lib.hid hn2
    rw [hn] at hl
    rw [hn, hn2]
    have HL := Lib.hid hl
    clear ha hb hlen hn hn2 hl
    go_enter Tryz.func22, Tryz.ntmps22
    go_wp2
    go_loopw [5] (fun t5 wr => ∃ i : Nat, i ≤ n ∧ t5 = .int .i64 i ∧ l.take i = m.take i ∧ ∃ k, wr = w.drewN k) (fun t5 _ => n - (intOf t5).toNat)
    case atStart => exact ⟨0, by omega, rfl, rfl, 0, rfl⟩
    case round =>
      obtain ⟨i, hi, rfl, htk, nd, rfl⟩ := hrel
      have HT := Lib.hid htk
      clear htk
      by_cases hlt : i < n
      · obtain ⟨x, hx⟩ : ∃ x, l[i]? = some x := ⟨l[i]'(by rw [HN.out]; exact hlt), by simp⟩
        obtain ⟨y, hy⟩ : ∃ y, m[i]? = some y := ⟨m[i]'(by rw [HN2.out]; exact hlt), by simp⟩
        obtain ⟨b1, o1, e1, _, p0⟩ := IntsAt.at HA.out hx
        obtain ⟨b2, o2, e2, _, q0⟩ := IntsAt.at HB.out hy
        subst e1 e2
        have HX := Lib.hid hx; have HY := Lib.hid hy; have HI := Lib.hid hlt
        have hlt' : (i : Int) < n := by omega
        have hi6 : (i : Int) < 1000000 := by have := HL.out; omega
        clear hx hy hlt hi
        by_cases e0 : x = y
        · subst e0
          have HX2 := Lib.hid (take_eq HX.out HY.out HT.out)
          go_wp2
          go_quiet (fail)
          go_wp2
          go_roundw
          case rel => exact ⟨i + 1, HI.out, by go_num, HX2.out, _, rfl⟩
          case measure => have := HI.out; simp [intOf]; omega
        · have NE := Lib.hid (get_ne HX.out HY.out e0)
          have e1 : (x != y) = true := by simpa using e0
          clear e0
          go_wp2
          go_quiet (fail)
          go_wp2
          go_ret
          exact ⟨retd (decide_eq_false NE.out), _, drewN_drewN _ _ _⟩
      · obtain rfl : i = n := by omega
        have hlt' : ¬ (i : Int) < i := by omega
        have hlm : l = m := by have := HT.out; rw [List.take_of_length_le (by rw [HN.out]; exact Nat.le_refl _), List.take_of_length_le (by rw [HN2.out]; exact Nat.le_refl _)] at this; exact this
        have EQ := Lib.hid hlm
        clear hlm hlt hi
        go_wp2
        go_ret
        exact ⟨retd (decide_eq_true EQ.out), _, rfl⟩
  · have hne : l ≠ m := fun e => hlen (by rw [e])
    have NE := Lib.hid hne
    have h2 : ((l.length : Int) == m.length) = false := by simp; omega
    have h3 : ¬ ((l.length : Int) = m.length) := by omega
    clear ha hb hne hlen
    go_enter Tryz.func22, Tryz.ntmps22
    go_wp2
    go_ret
    exact ⟨retd (decide_eq_false NE.out), 0, rfl⟩
end Go.Proofs.YtoamhiaagaaaaaaGreatDoor
