/- The chapter's copy of its first type: With. -/
import Derived.Test.YtnaepekpgmalaaaDoorKdCopyA
import Derived.Test.YtnaepekpgmalaaaDoorStep
namespace Go.Proofs.YtnaepekpgmalaaaDoor
open Go.RowKit

/-- The copy stands so far: its argument's box, the result's cell, what has been made. -/
structure WithAt (w wr : World) (b1 b2 : Nat) (c1 c5 : Value) : Prop where
  z0 : wr.heap[w.heap.size]? = some (.cells #[.bool false, .slice (some ⟨b1, 0, none⟩) 1 1, .int .i64 3, .slice none 0 0, .slice none 0 0, .slice (some ⟨b2, 0, none⟩) 1 1] 29 (0, 0))
  z1 : wr.heap[w.heap.size + 1]? = some (.cells #[.bool false, .slice none 0 0, .int .i64 0, .slice none 0 0, .slice none 0 0, .slice none 0 0] 29 (0, 0))
  z2 : wr.heap[w.heap.size + 1 + 1]? = some (.cells #[.bool false, c1, .int .i64 3, .slice none 0 0, .slice none 0 0, c5] 29 (0, 0))
  below : Below w.heap.size w wr
theorem cell_below {a b : World} (hb : Below a.heap.size a b) {p : Addr} {v : Value} (h : a.cell? p = some v) : b.cell? p = some v := by rw [hb.cell (World.block_lt_of_cell? _ _ h)]; exact h
/-- Behind a new block, a draw, and an append to a row of another type. -/
theorem WithAt.stepped {w wr w2 : World} {b1 b2 : Nat} {c1 c5 : Value} (h : WithAt w wr b1 b2 c1 c5) {o : Obj} {e : TypeId} {size n : Nat} {v : Value} {xs : List Value} (ho : (wr.alloc o).drew.ownsRow w.heap.size e size v n xs) (hg : (wr.alloc o).drew.grownBy w2 v.ownBlock) (he : e ≠ 29 := by decide) : WithAt w w2 b1 b2 c1 c5 := by
  have key : ∀ (b : Nat) (cs : Array Value), wr.heap[b]? = some (.cells cs 29 (0, 0)) → w2.heap[b]? = some (.cells cs 29 (0, 0)) := fun b cs hb => by
    have h1 : (wr.alloc o).drew.heap[b]? = some (.cells cs 29 (0, 0)) := heap_alloc_keep hb o
    rw [hg.block b (heap_lt h1) (fun e' => by
      obtain ⟨_, (⟨rfl, _⟩ | ⟨g', cap, cur, rfl, _, h3, _⟩)⟩ := ho
      · simp [Value.ownBlock] at e'
      · simp [Value.ownBlock] at e'
        subst e'
        rw [h1] at h3; simp at h3; exact he h3.2.symm)]
    exact h1
  exact ⟨key _ _ h.z0, key _ _ h.z1, key _ _ h.z2, ((h.below.alloc h.below.size o).drew).grown hg (by have := h.below.size; simp; omega) (fun k hk => (ho.lt k hk).1)⟩
theorem WithAt.set1 {w wr : World} {b1 b2 : Nat} {c1 c5 : Value} (h : WithAt w wr b1 b2 c1 c5) (v : Value) : WithAt w (wr.setCell ⟨w.heap.size + 1 + 1, 1, none⟩ v) b1 b2 v c5 :=
  ⟨heap_set_off h.z0 (by simp; omega) v, heap_set_off h.z1 (by simp) v, heap_set_at h.z2 1 v, h.below.setCell (by simp; omega) v⟩
theorem WithAt.set5 {w wr : World} {b1 b2 : Nat} {c1 c5 : Value} (h : WithAt w wr b1 b2 c1 c5) (v : Value) : WithAt w (wr.setCell ⟨w.heap.size + 1 + 1, 5, none⟩ v) b1 b2 c1 v :=
  ⟨heap_set_off h.z0 (by simp; omega) v, heap_set_off h.z1 (by simp) v, heap_set_at h.z2 5 v, h.below.setCell (by simp; omega) v⟩
theorem WithAt.row {w wr : World} {b1 b2 : Nat} {c1 c5 : Value} (h : WithAt w wr b1 b2 c1 c5) {B : Nat} {e : TypeId} {size n : Nat} {v : Value} {xs : List Value} (ho : wr.ownsRow B e size v n xs) (he : e ≠ 29) (j : Nat) (u : Value) : (wr.setCell ⟨w.heap.size + 1 + 1, j, none⟩ u).ownsRow B e size v n xs :=
  ownsRow_upd ho ((Upd.refl (fun k => k = w.heap.size + 1 + 1) wr).setCell (p := ⟨w.heap.size + 1 + 1, j, none⟩) (.inl rfl) u) (fun g hg e' => by
    subst e'
    obtain ⟨_, (⟨rfl, _⟩ | ⟨g', cap, cur, rfl, _, h3, _⟩)⟩ := ho
    · simp [Value.ownBlock] at hg
    · simp [Value.ownBlock] at hg
      subst hg
      rw [h.z2] at h3; simp at h3; exact he h3.2.symm)
theorem WithAt.alloc {w wr : World} {b1 b2 : Nat} {c1 c5 : Value} (h : WithAt w wr b1 b2 c1 c5) (o : Obj) : WithAt w (wr.alloc o) b1 b2 c1 c5 := ⟨heap_alloc_keep h.z0 o, heap_alloc_keep h.z1 o, heap_alloc_keep h.z2 o, h.below.alloc h.below.size o⟩
theorem WithAt.grown {w wr w2 : World} {b1 b2 : Nat} {c1 c5 : Value} (h : WithAt w wr b1 b2 c1 c5) {e : TypeId} {size n : Nat} {v : Value} {xs : List Value} (ho : wr.ownsRow w.heap.size e size v n xs) (hg : wr.grownBy w2 v.ownBlock) (he : e ≠ 29 := by decide) : WithAt w w2 b1 b2 c1 c5 := by
  have key : ∀ (b : Nat) (cs : Array Value), wr.heap[b]? = some (.cells cs 29 (0, 0)) → w2.heap[b]? = some (.cells cs 29 (0, 0)) := fun b cs hb => by
    rw [hg.block b (heap_lt hb) (fun e' => by
      obtain ⟨_, (⟨rfl, _⟩ | ⟨g', cap, cur, rfl, _, h3, _⟩)⟩ := ho
      · simp [Value.ownBlock] at e'
      · simp [Value.ownBlock] at e'
        subst e'
        rw [hb] at h3; simp at h3; exact he h3.2.symm)]
    exact hb
  exact ⟨key _ _ h.z0, key _ _ h.z1, key _ _ h.z2, h.below.grown hg h.below.size (fun k hk => (ho.lt k hk).1)⟩
theorem row_grown {wr w2 : World} {B B' : Nat} {e e' : TypeId} {size size' n n' : Nat} {v v' : Value} {xs xs' : List Value} (h : wr.ownsRow B e size v n xs) (ho : wr.ownsRow B' e' size' v' n' xs') (hg : wr.grownBy w2 v'.ownBlock) (he : e ≠ e' := by decide) : w2.ownsRow B e size v n xs := by
  obtain ⟨h1, (h2 | ⟨g, cap, cur, rfl, hgb, hr, h3⟩)⟩ := h
  · exact ⟨h1, .inl h2⟩
  · refine ⟨h1, .inr ⟨g, cap, cur, rfl, hgb, ?_, h3⟩⟩
    rw [hg.block g (heap_lt hr) (fun e2 => by
      obtain ⟨_, (⟨rfl, _⟩ | ⟨g', cap', cur', rfl, _, h4, _⟩)⟩ := ho
      · simp [Value.ownBlock] at e2
      · simp [Value.ownBlock] at e2
        subst e2
        rw [hr] at h4; simp at h4; exact he h4.2)]
    exact hr
theorem own_at {w : World} {B : Nat} {e : TypeId} {c : Nat} {v : Value} {n : Nat} {xs : List Value} (h : w.ownsRow B e c v n xs) {g : Nat} (hg : v.ownBlock = some g) : B ≤ g ∧ ∃ cur, w.heap[g]? = some (.cells cur e (0, 0)) := by
  obtain ⟨_, (⟨rfl, _⟩ | ⟨g', cap, cur, rfl, h2, h3, _⟩)⟩ := h
  · simp [Value.ownBlock] at hg
  · simp [Value.ownBlock] at hg; subst hg; exact ⟨h2, cur, h3⟩
set_option maxRecDepth 100000 in
set_option maxHeartbeats 16000000 in
theorem with_known (b1 b2 : Nat) (w : World) (lb lo lc : Nat) (gl0 : w.cell? ⟨lb, lo, none⟩ = some (.int .i64 13)) (gl1 : w.cell? ⟨lb, lo + 1, none⟩ = some (.int .i64 2)) (g2 : w.heap[b2]? = some (.cells #[.int .i64 8, .int .i64 1, .bool false, .int .i64 0, .int .i64 0, .bool true] 46 (0, 0))) :
    Calls Tryd.prog 25 #[.agg #[.bool false, .slice (some ⟨b1, 0, none⟩) 1 1, .int .i64 3, .slice none 0 0, .slice none 0 0, .slice (some ⟨b2, 0, none⟩) 1 1], .slice (some ⟨lb, lo, none⟩) 1 lc] w
      fun e w' => ∃ c1 c5, e = .returned (.agg #[.bool false, c1, .int .i64 3, .slice none 0 0, .slice none 0 0, c5]) ∧ HpsAt w' c1 [⟨13, 2⟩] ∧ FlsAt w' c5 [⟨8, ⟨1, false, 0, 0⟩, true⟩] ∧ Below w.heap.size w w' := by
  obtain ⟨i0, hi, hz0, hz1, hz2⟩ := info_parts Tryd.infoHeap
  have Hi := Lib.hid hi; have Hz0 := Lib.hid hz0; have Hz1 := Lib.hid hz1; have Hz2 := Lib.hid hz2
  obtain ⟨i1, vi, vz0, vz1, vz2⟩ := info_parts Tryd.infoField
  have Vi := Lib.hid vi; have Vz0 := Lib.hid vz0; have Vz1 := Lib.hid vz1; have Vz2 := Lib.hid vz2
  clear hi hz0 hz1 hz2 vi vz0 vz1 vz2
  go_enter Tryd.func25, Tryd.ntmps25
  obtain ⟨W0, hW0⟩ : ∃ W0, ((w.alloc (.cells #[.bool false, .slice (some ⟨b1, 0, none⟩) 1 1, .int .i64 3, .slice none 0 0, .slice none 0 0, .slice (some ⟨b2, 0, none⟩) 1 1] 29)).alloc (.cells #[.bool false, .slice none 0 0, .int .i64 0, .slice none 0 0, .slice none 0 0, .slice none 0 0] 29)).alloc (.cells #[.bool false, .slice none 0 0, .int .i64 3, .slice none 0 0, .slice none 0 0, .slice none 0 0] 29) = W0 := ⟨_, rfl⟩
  have hS : WithAt w W0 b1 b2 (.slice none 0 0) (.slice none 0 0) := by
    refine ⟨?_, ?_, ?_, ?_⟩
    · rw [← hW0]; exact heap_alloc_keep (heap_alloc_keep (heap_alloc_at _ _ rfl) _) _
    · rw [← hW0]; exact heap_alloc_keep (heap_alloc_at _ _ (by simp)) _
    · rw [← hW0]; exact heap_alloc_at _ _ (by simp)
    · rw [← hW0]; exact (((Below.refl _ _).alloc (Nat.le_refl _) _).alloc (by simp) _).alloc (by simp; omega) _
  have HS := Lib.hid hS; have HW := Lib.hid hW0; have G0 := Lib.hid gl0; have G1 := Lib.hid gl1; have G2 := Lib.hid g2
  clear hS hW0 gl0 gl1 g2
  go_wp2_with fail
  rw [HW.out]
  go_loopw [5, 7] (fun t5 t7 wr => ∃ (i : Nat) (c1 : Value), t5 = .int .i64 (i : Nat) ∧ t7 = .int .i64 (i : Nat) ∧ i ≤ 1 ∧ WithAt w wr b1 b2 c1 (.slice none 0 0) ∧ wr.ownsRow w.heap.size 33 2 c1 i (if i = 0 then [] else [.int .i64 13, .int .i64 2])) (fun _ t7 _ => 1 - (intOf t7).toNat)
  case atStart => exact ⟨0, _, rfl, rfl, Nat.zero_le _, HS.out, World.ownsRow_nil _ _ _ _⟩
  case round =>
    obtain ⟨i, c1, rfl, rfl, hi, hs, ho⟩ := hrel
    obtain ⟨a1, cp, rfl, _⟩ := ownsRow_form ho
    have q1 := heap_cell hs.z0 1
    simp at q1
    have HS1 := Lib.hid hs; have HO1 := Lib.hid ho
    clear hs ho
    rcases Nat.lt_or_ge i 1 with hlt | hge
    · obtain rfl : i = 0 := by omega
      have k0 := cell_below HS1.out.below G0.out
      have k1 := cell_below HS1.out.below G1.out
      have p1 := heap_cell HS1.out.z2 1
      have y2 := heap_alloc_keep HS1.out.z2 (.cells #[.int .i64 13, .int .i64 2] 33)
      have p1' := heap_cell y2 1
      simp at p1 p1'
      have HOx := Lib.hid (show (wr.alloc (.cells #[.int .i64 13, .int .i64 2] 33)).drew.ownsRow w.heap.size 33 2 (.slice a1 0 cp) 0 [] from HO1.out.alloc _)
      have HCx := Lib.hid (show ∀ j u, [Value.int .i64 13, Value.int .i64 2][j]? = some u → (wr.alloc (.cells #[.int .i64 13, .int .i64 2] 33)).drew.cell? ((⟨wr.heap.size, 0, none⟩ : Addr).add j) = some u from row_cells (cs := [.int .i64 13, .int .i64 2]) (heap_alloc_at wr _ rfl))
      have HBx := Lib.hid (show w.heap.size ≤ (wr.alloc (.cells #[.int .i64 13, .int .i64 2] 33)).drew.heap.size by have := HS1.out.below.size; simp; omega)
      have HY2 := Lib.hid y2
      clear y2
      go_wp2_with fail
      go_region_law (refine step_append_own rfl (.tmp 29) (.tmp 34) 22 rfl w.heap.size 33 i0 _ 2 16 Tryd.underlying22 Hi.out Hz0.out Hz1.out Hz2.out rfl (by decide) _ _ _ rfl HOx.out ⟨wr.heap.size, 0, none⟩ 1 1 [.int .i64 13, .int .i64 2] rfl rfl HCx.out (by decide) (by decide) (by decide) HBx.out ?_; intro v2 w2 o2 gr2 _; obtain ⟨a2, cp2, hv2, _⟩ := ownsRow_form o2; subst hv2; have hs2 := HS1.out.stepped HOx.out gr2; have p2 := heap_cell hs2.z2 1; have p3 := heap_frozen hs2.z2 1; simp at p2)
      all_goals go_wp2
      all_goals go_roundw
      all_goals first
        | (case rel => exact ⟨1, _, rfl, rfl, Nat.le_refl _, hs2.set1 _, hs2.row o2 (by decide) _ _⟩)
        | (case measure => simp [intOf])
    · obtain rfl : i = 1 := by omega
      have p3 := heap_cell HS1.out.z0 3
      have p4 := heap_cell HS1.out.z0 4
      simp at p3 p4
      obtain ⟨W4, hW4⟩ : ∃ W4, wr.alloc (.cells #[.slice none 0 0, .slice none 0 0] 68) = W4 := ⟨_, rfl⟩
      have r0 : W4.cell? ⟨wr.heap.size, 0, none⟩ = some (.slice none 0 0) := by rw [← hW4, heap_cell (heap_alloc_at wr _ rfl)]; rfl
      have r1 : W4.cell? ⟨wr.heap.size, 1, none⟩ = some (.slice none 0 0) := by rw [← hW4, heap_cell (heap_alloc_at wr _ rfl)]; rfl
      have hs4 : WithAt w W4 b1 b2 (.slice a1 1 cp) (.slice none 0 0) := by rw [← hW4]; exact HS1.out.alloc _
      have ho4 : W4.ownsRow w.heap.size 33 2 (.slice a1 1 cp) 1 [.int .i64 13, .int .i64 2] := by rw [← hW4]; exact HO1.out.alloc _
      have HW4 := Lib.hid hW4; have HS4 := Lib.hid hs4; have HO4 := Lib.hid ho4
      clear hW4 hs4 ho4
      go_wp2_with fail
      rw [HW4.out]
      go_loopw [5, 9, 10, 11] (fun t5 t9 _ _ ws => ∃ j : Nat, t9 = .int .i64 (j : Nat) ∧ j ≤ 2 ∧ t5 = .int .i64 1 ∧ W4 = ws) (fun _ t9 _ _ _ => 2 - (intOf t9).toNat)
      case atStart => exact ⟨0, rfl, Nat.zero_le _, rfl, rfl⟩
      case round =>
        obtain ⟨j, rfl, hj, rfl, rfl⟩ := hrel
        rcases (show j = 0 ∨ j = 1 ∨ j = 2 by omega) with rfl | rfl | rfl
        · go_wp2_with fail
          go_loopw [5, 10, 11] (fun t5 t10 _ ws => t5 = .int .i64 1 ∧ t10 = .int .i64 0 ∧ W4 = ws) (fun _ _ _ _ => 0)
          case atStart => exact ⟨rfl, rfl, rfl⟩
          case round =>
            obtain ⟨rfl, rfl, rfl⟩ := hrel
            go_wp2
            go_roundw
            case rel => exact ⟨1, rfl, by omega, rfl, by first | rfl | trivial⟩
            case measure => simp [intOf]
        · go_wp2_with fail
          go_loopw [5, 10, 11] (fun t5 t10 _ ws => t5 = .int .i64 1 ∧ t10 = .int .i64 0 ∧ W4 = ws) (fun _ _ _ _ => 0)
          case atStart => exact ⟨rfl, rfl, rfl⟩
          case round =>
            obtain ⟨rfl, rfl, rfl⟩ := hrel
            go_wp2
            go_roundw
            case rel => exact ⟨2, rfl, by omega, rfl, by first | rfl | trivial⟩
            case measure => simp [intOf]
        · go_wp2_with fail
          go_loopw [5, 12, 13] (fun t5 t12 _ ws => ∃ (i : Nat) (c5 : Value), t12 = .int .i64 (i : Nat) ∧ t5 = .int .i64 1 ∧ i ≤ 1 ∧ WithAt w ws b1 b2 (.slice a1 1 cp) c5 ∧ ws.ownsRow w.heap.size 33 2 (.slice a1 1 cp) 1 [.int .i64 13, .int .i64 2] ∧ ws.ownsRow w.heap.size 46 6 c5 i (if i = 0 then [] else [.int .i64 8, .int .i64 1, .bool false, .int .i64 0, .int .i64 0, .bool true])) (fun _ t12 _ _ => 1 - (intOf t12).toNat)
          case atStart => exact ⟨0, _, rfl, rfl, Nat.zero_le _, HS4.out, HO4.out, World.ownsRow_nil _ _ _ _⟩
          case round =>
            obtain ⟨i, c5, rfl, rfl, hi5, hs5, ho1, ho5⟩ := hrel
            obtain ⟨a5, cp5, rfl, _⟩ := ownsRow_form ho5
            have q5 := heap_cell hs5.z0 5
            have s5 := heap_cell hs5.z2 5
            have x2 := (hs5.below.block _ (heap_lt G2.out)).trans G2.out
            have f0 := heap_cell x2 0; have f1 := heap_cell x2 1; have f2 := heap_cell x2 2; have f3 := heap_cell x2 3; have f4 := heap_cell x2 4; have f5 := heap_cell x2 5
            simp at q5 s5 f0 f1 f2 f3 f4 f5
            have HS5 := Lib.hid hs5; have HO51 := Lib.hid ho1; have HO5 := Lib.hid ho5
            clear hs5 ho1 ho5 x2
            rcases Nat.lt_or_ge i 1 with hlt5 | hge5
            · obtain rfl : i = 0 := by omega
              have HOx := Lib.hid ((HO5.out.alloc (.cells #[.int .i64 8, .int .i64 1, .bool false, .int .i64 0, .int .i64 0, .bool true] 46)).alloc (.cells #[.int .i64 8, .int .i64 1, .bool false, .int .i64 0, .int .i64 0, .bool true] 46))
              have HSx := Lib.hid ((HS5.out.alloc (.cells #[.int .i64 8, .int .i64 1, .bool false, .int .i64 0, .int .i64 0, .bool true] 46)).alloc (.cells #[.int .i64 8, .int .i64 1, .bool false, .int .i64 0, .int .i64 0, .bool true] 46))
              have HO1x := Lib.hid ((HO51.out.alloc (.cells #[.int .i64 8, .int .i64 1, .bool false, .int .i64 0, .int .i64 0, .bool true] 46)).alloc (.cells #[.int .i64 8, .int .i64 1, .bool false, .int .i64 0, .int .i64 0, .bool true] 46))
              have HCx := Lib.hid (row_cells (cs := [.int .i64 8, .int .i64 1, .bool false, .int .i64 0, .int .i64 0, .bool true]) (b := wr.heap.size + 1) (heap_alloc_at (wr.alloc (.cells #[.int .i64 8, .int .i64 1, .bool false, .int .i64 0, .int .i64 0, .bool true] 46)) (.cells #[.int .i64 8, .int .i64 1, .bool false, .int .i64 0, .int .i64 0, .bool true] 46) (by simp)))
              have s5x := heap_cell (heap_alloc_keep HS5.out.z2 (.cells #[.int .i64 8, .int .i64 1, .bool false, .int .i64 0, .int .i64 0, .bool true] 46)) 5
              simp at s5x
              have HBx := Lib.hid (show w.heap.size ≤ ((wr.alloc (.cells #[.int .i64 8, .int .i64 1, .bool false, .int .i64 0, .int .i64 0, .bool true] 46)).alloc (.cells #[.int .i64 8, .int .i64 1, .bool false, .int .i64 0, .int .i64 0, .bool true] 46)).heap.size from HSx.out.below.size)
              go_wp2_with (at_builtin; refine wpList_append_own2 _ rfl _ _ 25 rfl w.heap.size 46 i1 _ 6 48 Tryd.underlying25 Vi.out Vz0.out Vz1.out Vz2.out rfl (by decide) _ _ _ rfl HOx.out ⟨wr.heap.size + 1, 0, none⟩ 1 1 [.int .i64 8, .int .i64 1, .bool false, .int .i64 0, .int .i64 0, .bool true] rfl rfl HCx.out (by decide) (by decide) (by decide) HBx.out (by decide) ?_)
              intro v2 w2 o2 gr2 _
              have hs2 := HSx.out.grown HOx.out gr2
              have ho2 := row_grown HO1x.out HOx.out gr2
              obtain ⟨a6, cp6, hv6, _⟩ := ownsRow_form o2
              subst hv6
              have p5 := heap_cell hs2.z2 5
              have p6 := heap_frozen hs2.z2 5
              simp at p5
              have HS6 := Lib.hid hs2; have HO61 := Lib.hid ho2; have HO6 := Lib.hid o2
              clear hs2 ho2 o2 gr2
              go_wp2
              go_roundw
              case rel => first | exact ⟨1, _, rfl, rfl, Nat.le_refl _, HS6.out.set5 _, HS6.out.row HO61.out (by decide) _ _, HS6.out.row HO6.out (by decide) _ _⟩ | ((repeat apply Exists.intro); exact ⟨⟨1, _, rfl, rfl, Nat.le_refl _, HS6.out.set5 _, HS6.out.row HO61.out (by decide) _ _, HS6.out.row HO6.out (by decide) _ _⟩, rfl⟩)
              case measure => simp [intOf]
            · obtain rfl : i = 1 := by omega
              have t0 := heap_cell HS5.out.z2 0; have t1 := heap_cell HS5.out.z2 1; have t2 := heap_cell HS5.out.z2 2; have t3 := heap_cell HS5.out.z2 3; have t4 := heap_cell HS5.out.z2 4
              have u0 := heap_cell HS5.out.z1 0; have u1 := heap_cell HS5.out.z1 1; have u2 := heap_cell HS5.out.z1 2; have u3 := heap_cell HS5.out.z1 3; have u4 := heap_cell HS5.out.z1 4; have u5 := heap_cell HS5.out.z1 5
              have n0 := heap_frozen HS5.out.z1 0; have n1 := heap_frozen HS5.out.z1 1; have n2 := heap_frozen HS5.out.z1 2; have n3 := heap_frozen HS5.out.z1 3; have n4 := heap_frozen HS5.out.z1 4; have n5 := heap_frozen HS5.out.z1 5
              simp at t0 t1 t2 t3 t4 u0 u1 u2 u3 u4 u5
              go_wp2
              have yz := (heap_set_at (heap_set_at (heap_set_at (heap_set_at (heap_set_at (heap_set_at HS5.out.z1 0 (.bool false)) 1 (.slice a1 1 cp)) 2 (.int .i64 3)) 3 (.slice none 0 0)) 4 (.slice none 0 0)) 5 (.slice a5 1 cp5))
              simp at yz
              have e0 := heap_cell yz 0; have e1 := heap_cell yz 1; have e2 := heap_cell yz 2; have e3 := heap_cell yz 3; have e4 := heap_cell yz 4; have e5 := heap_cell yz 5
              simp at e0 e1 e2 e3 e4 e5
              have up := (((((((Upd.refl (fun k => k = w.heap.size + 1) wr).setCell (p := ⟨w.heap.size + 1, 0, none⟩) (.inl rfl) (.bool false)).setCell (p := ⟨w.heap.size + 1, 1, none⟩) (.inl rfl) (.slice a1 1 cp)).setCell (p := ⟨w.heap.size + 1, 2, none⟩) (.inl rfl) (.int .i64 3)).setCell (p := ⟨w.heap.size + 1, 3, none⟩) (.inl rfl) (.slice none 0 0)).setCell (p := ⟨w.heap.size + 1, 4, none⟩) (.inl rfl) (.slice none 0 0)).setCell (p := ⟨w.heap.size + 1, 5, none⟩) (.inl rfl) (.slice a5 1 cp5))
              have hh := ownsRow_upd HO51.out up (fun g hg e' => by
                obtain ⟨_, cur, h3⟩ := own_at HO51.out hg
                subst e'
                rw [HS5.out.z1] at h3; simp at h3)
              have hf := ownsRow_upd HO5.out up (fun g hg e' => by
                obtain ⟨_, cur, h3⟩ := own_at HO5.out hg
                subst e'
                rw [HS5.out.z1] at h3; simp at h3)
              refine bodyPost_ret (v := .agg #[.bool false, .slice a1 1 cp, .int .i64 3, .slice none 0 0, .slice none 0 0, .slice a5 1 cp5]) (by simp [results, Tryd.results25, go_sem, e0, e1, e2, e3, e4, e5]) rfl ⟨_, _, rfl, RowAt.of_own hh, RowAt.of_own hf, ((((((HS5.out.below.setCell (p := ⟨w.heap.size + 1, 0, none⟩) (by simp) (.bool false)).setCell (p := ⟨w.heap.size + 1, 1, none⟩) (by simp) (.slice a1 1 cp)).setCell (p := ⟨w.heap.size + 1, 2, none⟩) (by simp) (.int .i64 3)).setCell (p := ⟨w.heap.size + 1, 3, none⟩) (by simp) (.slice none 0 0)).setCell (p := ⟨w.heap.size + 1, 4, none⟩) (by simp) (.slice none 0 0)).setCell (p := ⟨w.heap.size + 1, 5, none⟩) (by simp) (.slice a5 1 cp5))⟩
end Go.Proofs.YtnaepekpgmalaaaDoor
