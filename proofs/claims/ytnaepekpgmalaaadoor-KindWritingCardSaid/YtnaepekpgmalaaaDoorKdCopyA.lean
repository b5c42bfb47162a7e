/- The chapter's copy of its first type. -/
import Derived.Test.YtnaepekpgmalaaaDoorKdSame
import Derived.Deep.RegionLaw
import Derived.Deep.RegionHeldLaw
import Derived.LoopN
namespace Go.Proofs.YtnaepekpgmalaaaDoor
open Go.RowKit

theorem Tryd.infoHeap : (Tryd.prog.info? 33).map (fun i => (i.zero, i.size, i.bytes)) = some (some (.agg #[.int .i64 0, .int .i64 0]), 2, 16) := by kernel_rfl
theorem Tryd.infoVal : (Tryd.prog.info? 35).map (fun i => (i.zero, i.size, i.bytes)) = some (some (.agg #[.int .i64 0, .bool false, .int .i64 0, .int .i64 0]), 4, 32) := by kernel_rfl
theorem Tryd.infoField : (Tryd.prog.info? 46).map (fun i => (i.zero, i.size, i.bytes)) = some (some (.agg #[.int .i64 0, .int .i64 0, .bool false, .int .i64 0, .int .i64 0, .bool false]), 6, 48) := by kernel_rfl
theorem row_cells {W : World} {b : Nat} {cs : List Value} {e : TypeId} (h : W.heap[b]? = some (.cells cs.toArray e (0, 0))) : ∀ j u, cs[j]? = some u → W.cell? ((⟨b, 0, none⟩ : Addr).add j) = some u := fun j u hj => by
  rw [Addr.add_lit, Nat.zero_add, heap_cell h]; simpa using hj
theorem owns_none (W : World) {B : Nat} (hB : B ≤ W.heap.size) (e : TypeId) (size : Nat) {b : Nat} (hb : b = W.heap.size) : (W.alloc (.cells #[] e)).ownsRow B e size (.slice (some ⟨b, 0, none⟩) 0 0) 0 [] :=
  ⟨by simp, .inr ⟨b, 0, #[], rfl, by omega, heap_alloc_at _ _ hb, Nat.le_refl _, Nat.zero_le _, by simp, by simp⟩⟩
set_option maxRecDepth 100000 in
set_option maxHeartbeats 8000000 in
theorem heaps_known (b1 b2 : Nat) (w : World) (g1 : w.heap[b1]? = some (.cells #[.int .i64 13, .int .i64 2] 33 (0, 0))) (g2 : w.heap[b2]? = some (.cells #[.int .i64 8, .int .i64 1, .bool false, .int .i64 0, .int .i64 0, .bool true] 46 (0, 0))) :
    Calls Tryd.prog 26 #[.agg #[.bool false, .slice (some ⟨b1, 0, none⟩) 1 1, .int .i64 3, .slice none 0 0, .slice none 0 0, .slice (some ⟨b2, 0, none⟩) 1 1]] w
      fun e w' => ∃ v, e = .returned v ∧ w'.ownsRow w.heap.size 33 2 v 1 [.int .i64 13, .int .i64 2] ∧ Below w.heap.size w w' := by
  obtain ⟨i0, hi, hz0, hz1, hz2⟩ := info_parts Tryd.infoHeap
  have Hi := Lib.hid hi; have Hz0 := Lib.hid hz0; have Hz1 := Lib.hid hz1; have Hz2 := Lib.hid hz2
  obtain ⟨i1, vi, vz0, vz1, vz2⟩ := info_parts Tryd.infoVal
  have Vi := Lib.hid vi; have Vz0 := Lib.hid vz0; have Vz1 := Lib.hid vz1; have Vz2 := Lib.hid vz2
  obtain ⟨W0, hW0⟩ : ∃ W0, w.alloc (.cells #[.bool false, .slice (some ⟨b1, 0, none⟩) 1 1, .int .i64 3, .slice none 0 0, .slice none 0 0, .slice (some ⟨b2, 0, none⟩) 1 1] 29) = W0 := ⟨_, rfl⟩
  have z0 : W0.heap[w.heap.size]? = some (.cells #[.bool false, .slice (some ⟨b1, 0, none⟩) 1 1, .int .i64 3, .slice none 0 0, .slice none 0 0, .slice (some ⟨b2, 0, none⟩) 1 1] 29 (0, 0)) := by rw [← hW0]; exact heap_alloc_at _ _ rfl
  have hb0 : Below w.heap.size w W0 := by rw [← hW0]; exact (Below.refl _ _).alloc (Nat.le_refl _) _
  have y1 : W0.heap[b1]? = some (.cells #[.int .i64 13, .int .i64 2] 33 (0, 0)) := by rw [← hW0]; exact heap_alloc_keep g1 _
  have y2 : W0.heap[b2]? = some (.cells #[.int .i64 8, .int .i64 1, .bool false, .int .i64 0, .int .i64 0, .bool true] 46 (0, 0)) := by rw [← hW0]; exact heap_alloc_keep g2 _
  have HW := Lib.hid hW0; have Z0 := Lib.hid z0; have HB0 := Lib.hid hb0; have Y1 := Lib.hid y1; have Y2 := Lib.hid y2
  have hsz : W0.heap.size = w.heap.size + 1 := by rw [← hW0]; simp
  have HO1 := Lib.hid (owns_none W0 (B := w.heap.size) hb0.size 33 2 (b := w.heap.size + 1) hsz.symm)
  have HC1 := Lib.hid (row_cells (cs := [.int .i64 13, .int .i64 2]) (heap_alloc_keep y1 (.cells #[] 33)))
  have HB1 := Lib.hid (show w.heap.size ≤ (W0.alloc (.cells #[] 33)).heap.size by simp; omega)
  have HO1x := HO1; have HC1x := HC1; have HB1x := HB1
  rw [← HW.out] at HO1x HC1x HB1x
  have HSZ := Lib.hid hsz
  clear hi hz0 hz1 hz2 vi vz0 vz1 vz2 g1 g2 z0 hb0 y1 y2 hW0 hsz
  go_enter Tryd.func26, Tryd.ntmps26
  go_wp2_with (at_builtin; refine wpList_append_own2 _ rfl _ _ 22 rfl w.heap.size 33 i0 _ 2 16 Tryd.underlying22 Hi.out Hz0.out Hz1.out Hz2.out rfl (by decide) _ _ _ rfl HO1x.out ⟨b1, 0, none⟩ 1 1 [.int .i64 13, .int .i64 2] rfl rfl HC1x.out (by decide) (by decide) (by decide) HB1x.out (by decide) ?_)
  intro v1 w1 o1 gr1 _
  rw [HW.out] at gr1
  obtain ⟨ao1, cap1, hv1, _⟩ := ownsRow_form o1
  subst hv1
  have b1' : Below W0.heap.size W0 w1 := ((Below.refl _ _).alloc (Nat.le_refl _) _).grown gr1 (by simp) (fun k e => by simp [Value.ownBlock] at e; have := HSZ.out; omega)
  have z1 : w1.heap[w.heap.size]? = _ := (b1'.block _ (heap_lt Z0.out)).trans Z0.out
  have x2 : w1.heap[b2]? = _ := (b1'.block _ (heap_lt Y2.out)).trans Y2.out
  have HO2 := Lib.hid o1; have Z1 := Lib.hid z1; have X2 := Lib.hid x2; have HB1' := Lib.hid b1'
  have q3 := heap_cell z1 3
  have q4 := heap_cell z1 4
  have q5 := heap_cell z1 5
  simp at q3 q4 q5
  clear o1 gr1 b1' z1 x2
  go_wp2_with fail
  go_region_held_law (fun w' => w'.cell? ⟨w.heap.size, 3, none⟩ = some (.slice none 0 0) ∧ w'.cell? ⟨w.heap.size, 4, none⟩ = some (.slice none 0 0)) (first | exact ⟨heap_cell Z1.out 3, heap_cell Z1.out 4⟩ | exact ⟨heap_cell (heap_alloc_keep Z1.out _) 3, heap_cell (heap_alloc_keep Z1.out _) 4⟩) (fail)
  go_wp2_with fail
  go_loopw [4, 5] (fun t4 t5 wr => ∃ i : Nat, t5 = .int .i64 (i : Nat) ∧ i ≤ 1 ∧ wr.ownsRow w1.heap.size 35 4 t4 i (if i = 0 then [] else [.int .i64 1, .bool false, .int .i64 0, .int .i64 0]) ∧ Below w1.heap.size w1 wr) (fun _ t5 _ => 1 - (intOf t5).toNat)
  case atStart => exact ⟨0, rfl, Nat.zero_le _, owns_none w1 (Nat.le_refl _) 35 4 rfl, ((Below.refl _ _).alloc (Nat.le_refl _) _).drew⟩
  case round =>
    obtain ⟨i, rfl, hi, ho, hb⟩ := hrel
    have zr := (hb.block _ (heap_lt Z1.out)).trans Z1.out
    have xr := (hb.block _ (heap_lt X2.out)).trans X2.out
    have p5 := heap_cell zr 5
    simp at p5
    have f1 := heap_cell xr 1; have f2 := heap_cell xr 2; have f3 := heap_cell xr 3; have f4 := heap_cell xr 4
    simp at f1 f2 f3 f4
    obtain ⟨a4, c4, rfl, _⟩ := ownsRow_form ho
    have HO := Lib.hid ho; have HBr := Lib.hid hb
    clear ho hb zr xr q3 q4 q5
    rcases Nat.lt_or_ge i 1 with hlt | hge
    · obtain rfl : i = 0 := by omega
      have HOx := Lib.hid (HO.out.alloc (.cells #[.int .i64 1, .bool false, .int .i64 0, .int .i64 0] 35))
      have HCx := Lib.hid (row_cells (cs := [.int .i64 1, .bool false, .int .i64 0, .int .i64 0]) (heap_alloc_at wr (.cells #[.int .i64 1, .bool false, .int .i64 0, .int .i64 0] 35) rfl))
      have HBx := Lib.hid (show w1.heap.size ≤ (wr.alloc (.cells #[.int .i64 1, .bool false, .int .i64 0, .int .i64 0] 35)).heap.size by have := HBr.out.size; simp; omega)
      go_wp2_with (at_builtin; refine wpList_append_own2 _ rfl _ _ 24 rfl w1.heap.size 35 i1 _ 4 32 Tryd.underlying24 Vi.out Vz0.out Vz1.out Vz2.out rfl (by decide) _ _ _ rfl HOx.out ⟨wr.heap.size, 0, none⟩ 1 1 [.int .i64 1, .bool false, .int .i64 0, .int .i64 0] rfl rfl HCx.out (by decide) (by decide) (by decide) HBx.out (by decide) ?_)
      intro v2 w2 o2 gr2 _
      have HO2' := Lib.hid o2
      have HB2 := Lib.hid ((HBr.out.alloc HBr.out.size (.cells #[.int .i64 1, .bool false, .int .i64 0, .int .i64 0] 35)).grown gr2 HBx.out (fun k e => (HO.out.lt k e).1))
      clear o2 gr2
      go_wp2
      go_roundw
      case rel => exact ⟨1, rfl, Nat.le_refl _, HO2'.out, HB2.out⟩
      case measure => simp [intOf]
    · obtain rfl : i = 1 := by omega
      obtain ⟨g4, c5, cur4, e4, _, _, _, hc4⟩ := ownsRow_some HO.out (by omega)
      simp only [Value.slice.injEq, true_and] at e4
      obtain ⟨rfl, rfl⟩ := e4
      have k0 := hc4 0 (by omega)
      simp at k0
      clear hc4
      go_wp2_with fail
      go_loopw [3, 6] (fun t3 t6 ws => ∃ j : Nat, t6 = .int .i64 (j : Nat) ∧ j ≤ 1 ∧ t3 = .slice ao1 1 cap1 ∧ ws = wr) (fun _ t6 _ => 1 - (intOf t6).toNat)
      case atStart => exact ⟨0, rfl, Nat.zero_le _, rfl, rfl⟩
      case round =>
        obtain ⟨j, rfl, hj, rfl, rfl⟩ := hrel
        rcases Nat.lt_or_ge j 1 with hlt | hge2
        · obtain rfl : j = 0 := by omega
          go_wp2
          go_roundw
          case rel => exact ⟨1, rfl, Nat.le_refl _, rfl, trivial⟩
          case measure => simp [intOf]
        · obtain rfl : j = 1 := by omega
          go_wp2
          go_ret
          refine ⟨_, rfl, ?_, HB0.out.trans ((HB1'.out.mono HB0.out.size).trans (HBr.out.mono (Nat.le_trans HB0.out.size HB1'.out.size)))⟩
          have := HO2.out
          exact ownsRow_upd this (Upd.of_below (S := fun _ => False) HBr.out) (fun _ _ h => h)
end Go.Proofs.YtnaepekpgmalaaaDoor
