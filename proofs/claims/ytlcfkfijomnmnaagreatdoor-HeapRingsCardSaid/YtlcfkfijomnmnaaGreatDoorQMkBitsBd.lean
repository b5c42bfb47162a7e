import Derived.Test.YtlcfkfijomnmnaaGreatDoorQHpFnsBd
import Derived.Shelf.Spec.TrailingZeros
namespace Go.Proofs.YtlcfkfijomnmnaaGreatDoor
open Lib (hid)
section
open Go.RowKit Go.Maps Go.WideMaps
variable {w0 w w' : World} {hb : Nat} {x : Sb} {hk hn : Int} {kn : Bool} {tn : Int} {m : Nat} {bs bs' : List Blk} {t p kb : Nat} {S R Sa T Z : Nat → Prop} {q l : Nat}
structure ThAt (bs : List Blk) (q l : Nat) : Prop where
  hd : getF bs (q : Int) 0 = (1, 0)
  it : getF bs (q : Int) 1 = (l, 0)
  l64 : l < 18446744073709551616
  q64 : q < 1048577
theorem item_all {v : Nat} (h : v < 18446744073709551616) : itemOf v 0 64 = v := by
  unfold itemOf
  rw [Nat.pow_zero, Nat.div_one, Nat.mod_eq_of_lt (by omega)]
theorem new_all {v y : Nat} (h : v < 18446744073709551616) (hy : y < 18446744073709551616) : newW v 0 64 y = y := by
  have hv : v < 2 ^ 64 := by omega
  have hy' : y < 2 ^ 64 := by omega
  apply Nat.eq_of_testBit_eq
  intro t
  rw [newW_bit v 0 64 y t hv (by omega) hy']
  by_cases ht : t < 64
  · rw [if_pos ⟨Nat.zero_le _, by omega⟩]; simp
  · rw [if_neg (by omega), Nat.testBit_lt_two_pow (Nat.lt_of_lt_of_le hv (Nat.pow_le_pow_right (by omega) (by omega))), Nat.testBit_lt_two_pow (Nat.lt_of_lt_of_le hy' (Nat.pow_le_pow_right (by omega) (by omega)))]
theorem heap_set5 {w : World} {b : Nat} {c0 c1 c2 c3 c4 : Value} {t : TypeId} {fr : Nat × Nat} (h : w.heap[b]? = some (.cells #[c0, c1, c2, c3, c4] t fr)) (v0 v1 v2 v3 v4 : Value) :
    (((((w.setCell ⟨b, 0, none⟩ v0).setCell ⟨b, 1, none⟩ v1).setCell ⟨b, 2, none⟩ v2).setCell ⟨b, 3, none⟩ v3).setCell ⟨b, 4, none⟩ v4).heap[b]? = some (.cells #[v0, v1, v2, v3, v4] t fr) := by
  have h0 := heap_set_at h 0 v0
  have h1 := heap_set_at h0 1 v1
  have h2 := heap_set_at h1 2 v2
  have h3 := heap_set_at h2 3 v3
  have h4 := heap_set_at h3 4 v4
  simpa using h4
theorem upd_set5 (w : World) (b : Nat) (v0 v1 v2 v3 v4 : Value) :
    Upd (fun k => k = b) w (((((w.setCell ⟨b, 0, none⟩ v0).setCell ⟨b, 1, none⟩ v1).setCell ⟨b, 2, none⟩ v2).setCell ⟨b, 3, none⟩ v3).setCell ⟨b, 4, none⟩ v4) :=
  (((((Upd.refl (fun k => k = b) w).setCell (p := ⟨b, 0, none⟩) (.inl rfl) _).setCell (p := ⟨b, 1, none⟩) (.inl rfl) _).setCell (p := ⟨b, 2, none⟩) (.inl rfl) _).setCell (p := ⟨b, 3, none⟩) (.inl rfl) _).setCell (p := ⟨b, 4, none⟩) (.inl rfl) _
theorem bits0 : bitsI 0 3 = ((64 : Nat) : Int) := rfl
set_option maxRecDepth 100000 in
theorem head_h (h : HpZ Z w0 hb x hk hn kn tn m bs w) (ht : ThAt bs q l) :
    Calls Tryz.prog 15 #[.pointer (some ⟨hb, 0, none⟩), .int .i64 q] w fun e w' => e = .returned (.tuple #[thing0, .int .i64 0]) ∧ Below w.heap.size w w' := by
  obtain ⟨t, p, kb, S, R, Sa, T, hw, hd⟩ := h.ex
  have k1 := heap_cell hw.box 1
  simp at k1
  have H := hid h; have HW := hid hw; have HT := hid ht
  have hlt := heap_lt hw.box
  clear h hw hd ht
  go_enter Tryz.func15, Tryz.ntmps15
  go_wp2_with fail
  obtain ⟨W1, hW1⟩ : ∃ W1, W1 = w.alloc (.cells #[.int .i64 0, .int .i64 0, .int .i64 0] 54) := ⟨_, rfl⟩
  rw [← hW1]
  have b1 : Below w.heap.size w W1 := by rw [hW1]; exact (Below.refl _ _).alloc (Nat.le_refl _) _
  have q0 : W1.heap[w.heap.size]? = some (.cells #[.int .i64 0, .int .i64 0, .int .i64 0] 54 (0, 0)) := by rw [hW1]; exact heap_alloc_at _ _ rfl
  have k1 := below_cell b1 k1
  have HQ0 := hid q0; have HB1 := hid b1
  clear hW1 b1 q0
  refine (made_h (H.out.below HB1.out)).mono ?_
  rintro e w1 ⟨rfl, rfl⟩
  go_wp2_with fail
  refine (head_r (HW.out.below HB1.out).arR 0 0 1 (by decide) q HT.out.hd (by omega) (by have := HT.out.q64; omega)).mono ?_
  rintro e w2 ⟨rfl, hb2⟩
  have q0 := (Upd.of_below (S := fun _ => False) hb2).heap_some HQ0.out (fun h => h)
  have d0 := heap_cell q0 0; have d1 := heap_cell q0 1; have d2 := heap_cell q0 2
  have z0 := heap_frozen q0 0; have z1 := heap_frozen q0 1; have z2 := heap_frozen q0 2
  simp at d0 d1 d2
  have HB2 := hid (HB1.out.trans (hb2.mono HB1.out.size))
  clear hb2 q0
  go_wp2
  refine bodyPost_ret (v := .tuple #[thing0, .int .i64 0]) (by simp [results, Tryz.results15, go_sem, d0, d1, d2]) rfl ⟨rfl, ?_⟩
  exact ((HB2.out.setCell (Nat.le_refl _) _).setCell (Nat.le_refl _) _).setCell (Nat.le_refl _) _
set_option maxRecDepth 100000 in
set_option maxHeartbeats 4000000 in
theorem store_h (h : HpZ Z w0 hb x hk hn kn tn m bs w) (hx : TyOk x hk hn) (hZ : ∀ b, Z b → b < w.heap.size) (ht : ThAt bs q l) :
    Calls Tryz.prog 27 #[.pointer (some ⟨hb, 0, none⟩), .int .i64 q, .int .i64 0] w fun e w' => e = .returned (.tuple #[store0 hk hn, .int .i64 0]) ∧ HpZ Z w0 hb x hk hn true tn m bs w' ∧ Kept Z w w' := by
  have H := hid h; have HX := hid hx; have HZ := hid hZ; have HT := hid ht
  clear h hx hZ ht
  go_enter Tryz.func27, Tryz.ntmps27
  go_wp2_with fail
  obtain ⟨W1, hW1⟩ : ∃ W1, W1 = w.alloc (.cells #[.int .i64 0, .int .i64 0, .bool false, .int .i64 0, .int .i64 0] 37) := ⟨_, rfl⟩
  rw [← hW1]
  have b1 : Below w.heap.size w W1 := by rw [hW1]; exact (Below.refl _ _).alloc (Nat.le_refl _) _
  have q0 : W1.heap[w.heap.size]? = some (.cells #[.int .i64 0, .int .i64 0, .bool false, .int .i64 0, .int .i64 0] 37 (0, 0)) := by rw [hW1]; exact heap_alloc_at _ _ rfl
  have HQ0 := hid q0; have HB1 := hid b1
  clear hW1 b1 q0
  refine (head_h (H.out.below HB1.out) HT.out).mono ?_
  rintro e w2 ⟨rfl, hb2⟩
  have HQ2 := hid ((Upd.of_below (S := fun _ => False) hb2).heap_some HQ0.out (fun h => h))
  have HB2 := hid (HB1.out.trans (hb2.mono HB1.out.size))
  clear hb2 HQ0 HB1
  go_wp2_with fail
  obtain ⟨xb, hxb⟩ : ∃ xb, w2.heap.size = xb := ⟨_, rfl⟩
  obtain ⟨W3, hW3⟩ : ∃ W3, W3 = w2.alloc (.cells #[.int .i64 0, .int .i64 0, .int .i64 1] 54) := ⟨_, rfl⟩
  rw [← hW3, hxb]
  have b3 : Below w.heap.size w W3 := by rw [hW3]; exact HB2.out.alloc HB2.out.size _
  have q3 : W3.heap[xb]? = some (.cells #[.int .i64 0, .int .i64 0, .int .i64 1] 54 (0, 0)) := by rw [hW3]; exact heap_alloc_at _ _ hxb.symm
  have q4 : W3.heap[w.heap.size]? = some (.cells #[.int .i64 0, .int .i64 0, .bool false, .int .i64 0, .int .i64 0] 37 (0, 0)) := by rw [hW3]; exact heap_alloc_keep HQ2.out _
  have C := hid (stores_h (H.out.grow b3) HX.out (grow_lt HZ.out b3))
  have HXB := hid (show w.heap.size ≤ xb by rw [← hxb]; exact HB2.out.size)
  have HQ3 := hid q3; have HQ4 := hid q4; have HB3 := hid b3
  clear hxb hW3 b3 q3 q4 HQ2 HB2
  refine C.out.mono ?_
  rintro e w4 ⟨lb, g, c, rfl, hlam, hz4, hk4⟩
  have q3 := hk4.blk xb (.inr ⟨HXB.out, heap_lt HQ3.out⟩)
  have q4 := hk4.blk w.heap.size (.inr ⟨Nat.le_refl _, heap_lt HQ4.out⟩)
  rw [HQ3.out] at q3; rw [HQ4.out] at q4
  have d2 := heap_cell q3 2
  simp at d2
  have hl3 := heap_lt q3
  have HLAM := hid hlam; have HZ4 := hid hz4; have HK4 := hid hk4; have HQ5 := hid q4
  clear C hlam hz4 hk4 q3 q4
  have hfn : ∀ (args : Array Value) (w : World), (callFunc 101 args).run Tryz.prog w = .ok (.enter 101 args) w := fun _ _ => by kernel_rfl
  go_wp2_with fail
  refine (of_h HLAM.out).mono ?_
  rintro e w5 ⟨rfl, hb5⟩
  have q5 := (Upd.of_below (S := fun _ => False) hb5).heap_some HQ5.out (fun h => h)
  have s0 := heap_cell q5 0; have s1 := heap_cell q5 1; have s2 := heap_cell q5 2; have s3 := heap_cell q5 3; have s4 := heap_cell q5 4
  have z0 := heap_frozen q5 0; have z1 := heap_frozen q5 1; have z2 := heap_frozen q5 2; have z3 := heap_frozen q5 3; have z4 := heap_frozen q5 4
  simp at s0 s1 s2 s3 s4
  have HB5 := hid hb5; have HL5 := hid (heap_lt HQ5.out)
  have HQ6 := hid (heap_set5 q5 (.int .i64 0) (.int .i64 3) (.bool true) (.int .i64 hk) (.int .i64 hn))
  have HU6 := hid (upd_set5 w5 w.heap.size (.int .i64 0) (.int .i64 3) (.bool true) (.int .i64 hk) (.int .i64 hn))
  clear hb5 q5
  go_wp2
  obtain ⟨V, hV⟩ : ∃ V, V = ((((w5.setCell ⟨w.heap.size, 0, none⟩ (.int .i64 0)).setCell ⟨w.heap.size, 1, none⟩ (.int .i64 3)).setCell ⟨w.heap.size, 2, none⟩ (.bool true)).setCell ⟨w.heap.size, 3, none⟩ (.int .i64 hk)).setCell ⟨w.heap.size, 4, none⟩ (.int .i64 hn) := ⟨_, rfl⟩
  rw [← hV] at HQ6 HU6 ⊢
  have r0 := heap_cell HQ6.out 0; have r1 := heap_cell HQ6.out 1; have r2 := heap_cell HQ6.out 2; have r3 := heap_cell HQ6.out 3; have r4 := heap_cell HQ6.out 4
  simp at r0 r1 r2 r3 r4
  clear hV
  have hz6 := (HZ4.out.below HB5.out).write HU6.out (fun b e => ⟨.inr ⟨by omega, by have := HL5.out; have := heap_lt HQ4.out; omega⟩, by have := H.out.be.size; omega⟩)
  refine bodyPost_ret (v := .tuple #[store0 hk hn, .int .i64 0]) (by simp [results, Tryz.results27, go_sem, r0, r1, r2, r3, r4]) rfl ⟨rfl, hz6.less (fun b q => .inl q), ⟨?_, fun b z => ?_⟩⟩
  · have := HB3.out.size; have := HK4.out.size; have := HB5.out.size; have := HU6.out.size; omega
  · have h1 := HZ.out b z
    have := HB3.out.size; have := HK4.out.size
    rw [HU6.out.block b (by have := HB5.out.size; omega) (fun e => by omega), HB5.out.block b (by omega), HK4.out.blk b (.inl z), HB3.out.block b h1]
set_option maxRecDepth 100000 in
theorem get_h (h : HpZ Z w0 hb x hk hn kn tn m bs w) (hx : TyOk x hk hn) (hZ : ∀ b, Z b → b < w.heap.size) (ht : ThAt bs q l) :
    Calls Tryz.prog 16 #[.pointer (some ⟨hb, 0, none⟩), .int .i64 q, .int .i64 0] w fun e w' => e = .returned (.tuple #[.int .u64 (l : Nat), .int .i64 0]) ∧ HpZ Z w0 hb x hk hn true tn m bs w' ∧ Kept Z w w' := by
  have H := hid h; have HX := hid hx; have HZ := hid hZ; have HT := hid ht
  clear h hx hZ ht
  go_enter Tryz.func16, Tryz.ntmps16
  go_wp2_with fail
  refine (store_h H.out HX.out HZ.out HT.out).mono ?_
  rintro e w2 ⟨rfl, hz2, hk2⟩
  obtain ⟨t, p, kb, S, R, Sa, T, hw, hd⟩ := hz2.ex
  have k1 := heap_cell hw.box 1
  simp at k1
  have hlt := heap_lt hw.box
  have HZ2 := hid hz2; have HK2 := hid hk2; have HW2 := hid hw
  clear hz2 hk2 hw hd
  go_wp2_with fail
  obtain ⟨W3, hW3⟩ : ∃ W3, W3 = w2.alloc (.cells #[.int .i64 0, .int .i64 3, .bool true, .int .i64 hk, .int .i64 hn] 37) := ⟨_, rfl⟩
  rw [← hW3]
  have HB3 := hid (show Below w2.heap.size w2 W3 by rw [hW3]; exact (Below.refl _ _).alloc (Nat.le_refl _) _)
  have q3 : W3.heap[w2.heap.size]? = some (.cells #[.int .i64 0, .int .i64 3, .bool true, .int .i64 hk, .int .i64 hn] 37 (0, 0)) := by rw [hW3]; exact heap_alloc_at _ _ rfl
  have s0 := heap_cell q3 0; have s1 := heap_cell q3 1; have s2 := heap_cell q3 2; have s3 := heap_cell q3 3; have s4 := heap_cell q3 4
  have k1 := below_cell HB3.out k1
  simp at s0 s1 s2 s3 s4
  have hq2 : (q : Int) < 9223372036854775808 := by have := HT.out.q64; omega
  have D := hid (fun y : Ext W3 => show Calls Tryz.prog 35 #[.pointer (some ⟨p, 0, none⟩), .int .i64 q, storeV 0 3 true hk hn, .int .i64 0] y.val fun e w' => e = .returned (.tuple #[.int .u64 (l : Nat), .int .i64 0]) ∧ Below y.val.heap.size y.val w' from
    (oget_r (HW2.out.below (HB3.out.trans (y.2.mono HB3.out.size))).arR 0 3 true hk hn 0 0 1 (by decide) q HT.out.hd (by omega) hq2 64 1 bits0 (by decide) (by decide) (by simp) 0 (by decide) 1 0 l rfl rfl (by decide) HT.out.it HT.out.l64).mono fun e w' ⟨he, hw⟩ => ⟨by rw [he, item_all HT.out.l64], hw⟩)
  have e0 := Ext.cells (w0 := W3) s0; have e1 := Ext.cells (w0 := W3) s1; have e2 := Ext.cells (w0 := W3) s2; have e3 := Ext.cells (w0 := W3) s3; have e4 := Ext.cells (w0 := W3) s4; have e5 := Ext.cells (w0 := W3) k1
  clear hW3 q3 s0 s1 s2 s3 s4 k1 hq2
  refine wp_region_calm (by kernel_rfl) (by kernel_rfl) ?_
  repeat (go_big_quiet_step (exact Ext.call _ (D.out _)))
  refine wpQuiet_nil ?_
  rintro _ ⟨x0, rfl⟩
  have HB4 := hid (HB3.out.trans (x0.2.mono HB3.out.size))
  clear e0 e1 e2 e3 e4 e5 D
  go_wp2
  go_ret2
  exact ⟨rfl, HZ2.out.below HB4.out, HK2.out.trans (Kept.of_below (fun b z => Nat.lt_of_lt_of_le (HZ.out b z) HK2.out.size) HB4.out)⟩
set_option maxRecDepth 100000 in
theorem set_h (h : HpZ Z w0 hb x hk hn kn tn m bs w) (hx : TyOk x hk hn) (hZ : ∀ b, Z b → b < w.heap.size) (ht : ThAt bs q l) {y : Nat} (hy : y < 18446744073709551616) (hs : setF bs (q : Int) 1 y = (0, bs')) :
    Calls Tryz.prog 10 #[.pointer (some ⟨hb, 0, none⟩), .int .i64 q, .int .i64 0, .int .u64 y] w fun e w' => e = .returned (.int .i64 0) ∧ HpZ Z w0 hb x hk hn true tn m bs' w' ∧ Kept Z w w' := by
  have H := hid h; have HX := hid hx; have HZ := hid hZ; have HT := hid ht; have HY := hid hy; have HS := hid hs
  clear h hx hZ ht hy hs
  go_enter Tryz.func10, Tryz.ntmps10
  go_wp2_with fail
  refine (store_h H.out HX.out HZ.out HT.out).mono ?_
  rintro e w2 ⟨rfl, hz2, hk2⟩
  obtain ⟨t, p, kb, S, R, Sa, T, hw, hd⟩ := hz2.ex
  have k1 := heap_cell hw.box 1
  simp at k1
  have hlt := heap_lt hw.box
  have HZ2 := hid hz2; have HK2 := hid hk2; have HW2 := hid hw; have HD2 := hid hd
  clear hz2 hk2 hw hd
  go_wp2_with fail
  obtain ⟨W3, hW3⟩ : ∃ W3, W3 = w2.alloc (.cells #[.int .i64 0, .int .i64 3, .bool true, .int .i64 hk, .int .i64 hn] 37) := ⟨_, rfl⟩
  rw [← hW3]
  have HB3 := hid (show Below w2.heap.size w2 W3 by rw [hW3]; exact (Below.refl _ _).alloc (Nat.le_refl _) _)
  have q3 : W3.heap[w2.heap.size]? = some (.cells #[.int .i64 0, .int .i64 3, .bool true, .int .i64 hk, .int .i64 hn] 37 (0, 0)) := by rw [hW3]; exact heap_alloc_at _ _ rfl
  have s0 := heap_cell q3 0; have s1 := heap_cell q3 1; have s2 := heap_cell q3 2; have s3 := heap_cell q3 3; have s4 := heap_cell q3 4
  have k1 := below_cell HB3.out k1
  simp at s0 s1 s2 s3 s4
  clear hW3 q3
  go_still_tail 8, (by kernel_rfl)
  change wpList _ _ _ _ _ W3.drew
  go_wp2_with fail
  have hq2 : (q : Int) < 9223372036854775808 := by have := HT.out.q64; omega
  have HA := hid (HW2.out.below HB3.out.drew)
  have hnw := new_all HT.out.l64 HY.out
  refine (oset_r HA.out.arR NotA.lt 0 3 true hk hn 0 0 1 (by decide) q HT.out.hd (by omega) hq2 64 1 bits0 (by decide) (by decide) (by simp) 0 (by decide) 1 0 l rfl rfl (by decide) HT.out.it HT.out.l64 y (by have := HY.out; omega) (by rw [hnw]; exact HS.out)).mono ?_
  rintro e w4 ⟨rfl, hA4, hK4⟩
  have hp := post_of HA.out.be hA4 hK4
  have ht4 := HA.out.turn HD2.out (fun b z => Nat.lt_of_lt_of_le (HZ.out b z) (Nat.le_trans HK2.out.size HB3.out.drew.size)) hp
  have HZ4 := hid ht4.1
  have HK4 := hid ((HK2.out.trans (Kept.of_below (fun b z => Nat.lt_of_lt_of_le (HZ.out b z) HK2.out.size) HB3.out.drew)).trans ht4.2)
  clear hA4 hK4 hp ht4 hnw hq2
  go_wp2
  go_ret
  exact ⟨rfl, HZ4.out, HK4.out⟩
end
section
open Go.RowKit
structure WTab (w : World) : Prop where
  c0 : w.cell? ⟨1, 0, none⟩ = some (.int .u64 0)
  c1 : w.cell? ⟨1, 1, none⟩ = some (.int .u64 1)
  c2 : w.cell? ⟨1, 2, none⟩ = some (.int .u64 0)
  c3 : w.cell? ⟨1, 3, none⟩ = some (.int .u64 2147483648)
  c4 : w.cell? ⟨1, 4, none⟩ = some (.int .u64 1)
  c5 : w.cell? ⟨1, 5, none⟩ = some (.int .u64 1099511627776)
  c6 : w.cell? ⟨1, 6, none⟩ = some (.int .u64 0)
  c7 : w.cell? ⟨1, 7, none⟩ = some (.int .u64 1099511627776)
  c8 : w.cell? ⟨1, 8, none⟩ = some (.int .u64 0)
  c9 : w.cell? ⟨1, 9, none⟩ = some (.int .u64 1099511627776)
  c10 : w.cell? ⟨1, 10, none⟩ = some (.int .u64 1)
  c11 : w.cell? ⟨1, 11, none⟩ = some (.int .u64 1099511627776)
theorem ret2W {k1 k2 : IntKind} {a b c d : Int} (h : a = b) (h' : c = d) : Ending.returned (.tuple #[.int k1 a, .int k2 c]) = .returned (.tuple #[.int k1 b, .int k2 d]) := by rw [h, h']
def there (k n : Int) : Bool :=
  (k == 0 && n == 0) || (k == 1 && decide (n < 2147483648)) || ((k == 2 || k == 5) && decide (1 ≤ n) && decide (n < 1099511627776)) || ((k == 3 || k == 4) && decide (n < 1099511627776))
def refW (k n : Int) : Int := if there k n then 8 * n + k else 0
def refE (k n : Int) : Int := if there k n then 0 else 2
theorem or3 (n k : Int) (h0 : 0 ≤ n) (h1 : n < 1099511627776) (h2 : 0 ≤ k) (h3 : k < 8) : bits .or .u64 (n * 8) k = 8 * n + k := by
  rw [u64_or _ _ (by omega) (by omega) (by omega) (by omega), nat_join 3 _ _ (by omega) (by omega)]
  omega
theorem ref_any (k n : Int) (w : World) (h0 : 0 ≤ n) (ht : WTab w) :
    Calls Tryz.prog 148 #[.int .i64 k, .int .u64 n] w fun e w' => e = .returned (.tuple #[.int .u64 (refW k n), .int .i64 (refE k n)]) ∧ w = w' := by
  obtain ⟨c0, c1, c2, c3, c4, c5, c6, c7, c8, c9, c10, c11⟩ := ht
  by_cases hk : k < 0
  · have hx : there k n = false := by simp [there]; omega
    have hr : refW k n = 0 := by simp [refW, hx]
    have hs : refE k n = 2 := by simp [refE, hx]
    clear hx c0 c1 c2 c3 c4 c5 c6 c7 c8 c9 c10 c11
    rw [hr, hs]; clear hr hs
    go_enter Tryz.func148, Tryz.ntmps148
    go_wp2
    go_ret2
    exact ⟨rfl, rfl⟩
  by_cases hk6 : 6 ≤ k
  · have hx : there k n = false := by simp [there]; omega
    have hr : refW k n = 0 := by simp [refW, hx]
    have hs : refE k n = 2 := by simp [refE, hx]
    clear hx c0 c1 c2 c3 c4 c5 c6 c7 c8 c9 c10 c11
    rw [hr, hs]; clear hr hs
    go_enter Tryz.func148, Tryz.ntmps148
    go_wp2
    go_ret2
    exact ⟨rfl, rfl⟩
  have hk' : k = 0 ∨ k = 1 ∨ k = 2 ∨ k = 3 ∨ k = 4 ∨ k = 5 := by omega
  clear hk hk6
  rcases hk' with rfl | rfl | rfl | rfl | rfl | rfl
  · clear c2 c3 c4 c5 c6 c7 c8 c9 c10 c11
    go_enter Tryz.func148, Tryz.ntmps148
    go_wp2
    all_goals go_ret2
    all_goals refine ⟨ret2W ?_ ?_, rfl⟩
    all_goals simp [refW, refE, there]
    all_goals first | omega | (rw [or3 _ _ (by omega) (by omega) (by omega) (by omega)]; omega)
  · clear c0 c1 c4 c5 c6 c7 c8 c9 c10 c11
    go_enter Tryz.func148, Tryz.ntmps148
    go_wp2
    all_goals go_ret2
    all_goals refine ⟨ret2W ?_ ?_, rfl⟩
    all_goals simp [refW, refE, there]
    all_goals first | omega | (rw [or3 _ _ (by omega) (by omega) (by omega) (by omega)]; omega)
  · clear c0 c1 c2 c3 c6 c7 c8 c9 c10 c11
    go_enter Tryz.func148, Tryz.ntmps148
    go_wp2
    all_goals go_ret2
    all_goals refine ⟨ret2W ?_ ?_, rfl⟩
    all_goals simp [refW, refE, there]
    all_goals first | omega | (rw [or3 _ _ (by omega) (by omega) (by omega) (by omega)]; omega)
  · clear c0 c1 c2 c3 c4 c5 c8 c9 c10 c11
    go_enter Tryz.func148, Tryz.ntmps148
    go_wp2
    all_goals go_ret2
    all_goals refine ⟨ret2W ?_ ?_, rfl⟩
    all_goals simp [refW, refE, there]
    all_goals first | omega | (rw [or3 _ _ (by omega) (by omega) (by omega) (by omega)]; omega)
  · clear c0 c1 c2 c3 c4 c5 c6 c7 c10 c11
    go_enter Tryz.func148, Tryz.ntmps148
    go_wp2
    all_goals go_ret2
    all_goals refine ⟨ret2W ?_ ?_, rfl⟩
    all_goals simp [refW, refE, there]
    all_goals first | omega | (rw [or3 _ _ (by omega) (by omega) (by omega) (by omega)]; omega)
  · clear c0 c1 c2 c3 c4 c5 c6 c7 c8 c9
    go_enter Tryz.func148, Tryz.ntmps148
    go_wp2
    all_goals go_ret2
    all_goals refine ⟨ret2W ?_ ?_, rfl⟩
    all_goals simp [refW, refE, there]
    all_goals first | omega | (rw [or3 _ _ (by omega) (by omega) (by omega) (by omega)]; omega)
def ofK (w : Int) : Int := if there (w % 8) (w / 8) then w % 8 else 0
def ofN (w : Int) : Int := if there (w % 8) (w / 8) then w / 8 else 0
def ofE (w : Int) : Int := if there (w % 8) (w / 8) then 0 else 2
theorem mask7 (x : Int) (h0 : 0 ≤ x) (h1 : x < 18446744073709551616) : bits .and .u64 x 7 = x % 8 := by
  rw [u64_and _ _ h0 h1 (by omega) (by omega)]
  have : (7 : Int).toNat = 7 := rfl
  rw [this, nat_mask3]; omega
theorem mask7' (x : Int) (h0 : 0 ≤ x) (h1 : x < 18446744073709551616) : wrap64 (bits .and .u64 x 7) = x % 8 := by
  rw [mask7 x h0 h1, IntWalk.wrap64_in _ (by omega)]
theorem Of_any (x : Int) (w : World) (h0 : 0 ≤ x) (h1 : x < 18446744073709551616) (ht : WTab w) :
    Calls Tryz.prog 130 #[.int .u64 x] w fun e w' => e = .returned (.tuple #[.int .i64 (ofK x), .int .u64 (ofN x), .int .i64 (ofE x)]) ∧ w = w' := by
  have Ht := hid ht; clear ht
  cases hx : there (x % 8) (x / 8)
  · rw [show ofK x = 0 by simp [ofK, hx], show ofN x = 0 by simp [ofN, hx], show ofE x = 2 by simp [ofE, hx]]
    have hy : refE (x % 8) (x / 8) = 2 := by simp [refE, hx]
    have Hx := hid hy; clear hy
    clear hx
    go_enter Tryz.func130, Tryz.ntmps130
    go_wp2_with fail
    rw [mask7' x h0 h1]
    refine (ref_any _ _ _ (by omega) Ht.out).mono ?_
    rintro e w' ⟨rfl, rfl⟩
    rw [Hx.out]
    go_wp2
    go_ret3
    exact ⟨rfl, rfl⟩
  · rw [show ofK x = x % 8 by simp [ofK, hx], show ofN x = x / 8 by simp [ofN, hx], show ofE x = 0 by simp [ofE, hx]]
    have hy : refE (x % 8) (x / 8) = 0 := by simp [refE, hx]
    have Hx := hid hy; clear hy
    clear hx
    go_enter Tryz.func130, Tryz.ntmps130
    go_wp2_with fail
    rw [mask7' x h0 h1]
    refine (ref_any _ _ _ (by omega) Ht.out).mono ?_
    rintro e w' ⟨rfl, rfl⟩
    rw [Hx.out]
    go_wp2
    go_ret3
    exact ⟨rfl, rfl⟩
end
section
open Go.RowKit
def TzTab (w : World) : Prop := ∀ j, j < Lib.deBruijn64tab.length → w.cell? ⟨0, j, none⟩ = some (.int .u8 (Lib.deBruijn64tab.getD j 0))
theorem TzTab.on {w w' : World} (h : TzTab w) (hb : Below w.heap.size w w') : TzTab w' := fun j hj => by
  have h1 := h j hj
  rw [hb.cell (World.block_lt_of_cell? _ _ h1)]; exact h1
theorem tz64_any (x : Nat) (hx : x < 18446744073709551616) (h0 : x ≠ 0) (w : World) (ht : TzTab w) :
    Calls Tryz.prog 131 #[.int .u64 x] w fun e w' => e = .returned (.int .i64 (Lib.ctz 64 x)) ∧ w = w' := by
  obtain ⟨hlow, hk⟩ := Lib.lowest_bit 64 x h0 hx
  obtain ⟨hi, htab⟩ := Lib.deBruijn64_at _ hk
  have hcell := ht _ (by rw [show Lib.deBruijn64tab.length = 64 by decide]; exact hi)
  rw [htab] at hcell
  have key := tz64_key x _ hx h0 hlow
  obtain ⟨k, hkk⟩ : ∃ k, Lib.ctz 64 x = k := ⟨_, rfl⟩
  rw [hkk] at hk hcell key hi ⊢
  obtain ⟨idx, hidx⟩ : ∃ idx, 2 ^ k * 285870213051353865 % 18446744073709551616 / 288230376151711744 = idx := ⟨_, rfl⟩
  rw [hidx] at hcell key hi
  have hx0 : ((x : Int) == 0) = false := by simp; omega
  have hx1 : ¬ (x : Int) = 0 := by omega
  have hw : IntKind.u8.wrap (k : Int) = k := by rw [IntKind.wrap_u8]; omega
  have hi' : (idx : Int) < 64 := by omega
  clear hlow htab ht h0 hx hkk hidx
  go_enter Tryz.func131, Tryz.ntmps131
  go_wp2
  go_ret
  exact ⟨rfl, rfl⟩
theorem tz_bits {x : Nat} (h0 : x ≠ 0) (hx : x < 18446744073709551616) : Lib.ctz 64 x < 64 ∧ x.testBit (Lib.ctz 64 x) = true ∧ ∀ t, t < Lib.ctz 64 x → x.testBit t = false := by
  obtain ⟨m, hm, hk⟩ := Lib.ctzFrom_spec 64 x (by omega) (by simpa using hx)
  have e : Lib.ctz 64 x = Lib.ctzFrom 64 x := by simp [Lib.ctz, h0]
  rw [e]
  obtain ⟨c, hc⟩ : ∃ c, Lib.ctzFrom 64 x = c := ⟨_, rfl⟩
  rw [hc] at hm hk ⊢
  subst hm
  refine ⟨hk, ?_, fun t ht => ?_⟩
  · rw [Nat.testBit_two_pow_mul]
    simp
  · rw [Nat.testBit_two_pow_mul]
    simp; omega
theorem cut_bits (y s t : Nat) : (y / 2 ^ s * 2 ^ s).testBit t = (decide (s ≤ t) && y.testBit t) := by
  rw [Nat.mul_comm, Nat.testBit_two_pow_mul, Nat.testBit_div_two_pow]
  by_cases h : s ≤ t
  · simp [h, Nat.sub_add_cancel h]
  · simp [h]
def NextP (f : Nat → Bool) (n i : Nat) (r : Int) : Prop := (r = -1 ∧ ∀ j, i ≤ j → j < 64 * n → f j = false) ∨ ∃ j : Nat, r = j ∧ i ≤ j ∧ j < 64 * n ∧ f j = true ∧ ∀ j', i ≤ j' → j' < j → f j' = false
def NextQ (f : Nat → Bool) (n i : Nat) (w : World) (e : Ending) (w' : World) : Prop := ∃ r : Int, e = .returned (.int .i64 r) ∧ NextP f n i r ∧ w = w'
theorem next_word {f : Nat → Bool} {n i k : Nat} {y : Nat} (hn : ∀ j, i ≤ j → j < 64 * k → f j = false) (hk : k < n) (hb : ∀ t, t < 64 → y.testBit t = (decide (i ≤ 64 * k + t) && f (64 * k + t))) (hy : y < 18446744073709551616) :
    (y = 0 → ∀ j, i ≤ j → j < 64 * (k + 1) → f j = false) ∧ (y ≠ 0 → Lib.ctz 64 y < 64 ∧ NextP f n i ((64 * k + Lib.ctz 64 y : Nat) : Int)) := by
  refine ⟨fun h j h1 h2 => ?_, fun h => ?_⟩
  · by_cases h3 : j < 64 * k
    · exact hn j h1 h3
    · have h4 := hb (j - 64 * k) (by omega)
      rw [h, Nat.zero_testBit, show 64 * k + (j - 64 * k) = j by omega] at h4
      simpa [h1] using h4.symm
  · obtain ⟨h1, h2, h3⟩ := tz_bits h hy
    refine ⟨h1, .inr ⟨_, rfl, ?_, by omega, ?_, fun j' h4 h5 => ?_⟩⟩
    · have h4 := hb _ h1
      rw [h2] at h4
      simp at h4
      exact h4.1
    · have h4 := hb _ h1
      rw [h2] at h4
      simp at h4
      exact h4.2
    · by_cases h6 : j' < 64 * k
      · exact hn j' h4 h6
      · have h7 := hb (j' - 64 * k) (by omega)
        rw [h3 _ (by omega), show 64 * k + (j' - 64 * k) = j' by omega] at h7
        simpa [h4] using h7.symm
set_option maxRecDepth 100000 in
theorem next_at (w : World) (g n cap : Nat) (f : Nat → Bool) (bs : List Nat) (k : BRow w g n cap f bs) (i : Nat) (hi : i ≤ 64 * n) (hn : n ≤ 1048576) (ht : TzTab w) :
    Calls Tryz.prog 105 #[.slice (some ⟨g, 0, none⟩) n cap, .int .i64 i] w (NextQ f n i w) := by
  have K := hid k; have HT := hid ht
  have hi6 : (i : Int) ≤ 67108864 := by omega
  have hn6 : (n : Int) ≤ 1048576 := by omega
  have HI := hid hi
  clear k ht hi
  go_enter Tryz.func105, Tryz.ntmps105
  go_wp2_with fail
  go_loopw [5] (fun t5 wr => ∃ kk : Nat, t5 = .int .i64 kk ∧ i / 64 ≤ kk ∧ kk ≤ n ∧ (∀ j, i ≤ j → j < 64 * kk → f j = false) ∧ w = wr) (fun t5 _ => n - (intOf t5).toNat)
  case atStart => exact ⟨i / 64, congrArg _ (by omega), Nat.le_refl _, by have := HI.out; omega, fun j h1 h2 => by omega, rfl⟩
  case round =>
    obtain ⟨kk, rfl, hk1, hk2, hno, rfl⟩ := hrel
    have hkk6 : (kk : Int) ≤ 1048576 := by omega
    have HNO := hid hno; have HK1 := hid hk1
    clear hno
    by_cases hlt : kk < n
    · obtain ⟨y, hy⟩ : ∃ y, bs.getD kk 0 = y := ⟨_, rfl⟩
      have c0 := K.out.row.cellAt kk (by omega)
      rw [u64s_at (by rw [K.out.len]; omega), hy] at c0
      have h64 := K.out.w64 kk
      rw [hy] at h64
      have hbit : ∀ t, t < 64 → y.testBit t = f (64 * kk + t) := fun t h => by
        have := K.out.bit (64 * kk + t) (by omega)
        rw [show (64 * kk + t) / 64 = kk by omega, show (64 * kk + t) % 64 = t by omega, hy] at this
        exact this
      have hlt' : (kk : Int) < n := by omega
      have HBIT := hid hbit; have HLT := hid hlt; have H64 := hid h64
      have hy6 : (y : Int) < 18446744073709551616 := by omega
      clear hy hbit hlt hk1 hk2
      by_cases he : kk = i / 64
      · have he1 : ((kk : Int) == (i : Int) / 64) = true := by simp; omega
        obtain ⟨z, hz⟩ : ∃ z, y / 2 ^ (i % 64) * 2 ^ (i % 64) = z := ⟨_, rfl⟩
        have hzy : z ≤ y := by rw [← hz]; exact Nat.div_mul_le_self _ _
        have hz64 : z < 18446744073709551616 := Nat.lt_of_le_of_lt hzy H64.out
        have key : IntKind.u64.wrap ((y : Int) / 2 ^ (i % 64) * 2 ^ (i % 64)) = (z : Int) := by
          have e : (y : Int) / 2 ^ (i % 64) * 2 ^ (i % 64) = (z : Int) := by rw [← hz, Int.natCast_mul, Int.natCast_ediv]; simp
          rw [e]; exact wrap_u64_in (Int.natCast_nonneg _) (by omega)
        have hw := next_word (f := f) (i := i) (y := z) HNO.out HLT.out (fun t h => by
          rw [← hz, cut_bits, HBIT.out t h]
          have e : decide (i % 64 ≤ t) = decide (i ≤ 64 * kk + t) := by
            rw [decide_eq_decide]; omega
          rw [e]) hz64
        have HW := hid hw; have HE := hid he; have HZ64 := hid hz64
        clear he hw hz hzy hz64
        by_cases h0 : z = 0
        · subst h0
          have hnx := HW.out.1 rfl
          have HNX := hid hnx
          clear hnx
          go_wp2_with (simp only [key])
          go_roundw
          case rel => exact ⟨kk + 1, by go_num, by have := HK1.out; omega, HLT.out, HNX.out, by first | rfl | trivial⟩
          case measure => have := HLT.out; simp [intOf]; omega
        · have h01 : ((z : Int) != 0) = true := by simp; omega
          have h02 : ¬ (z : Int) = 0 := by omega
          have hnx := HW.out.2 h0
          have C := hid (tz64_any z HZ64.out h0 w HT.out)
          obtain ⟨c, hc⟩ : ∃ c, Lib.ctz 64 z = c := ⟨_, rfl⟩
          rw [hc] at hnx C
          have hc6 : (c : Int) < 64 := by have := hnx.1; omega
          have HNX := hid hnx.2
          clear h0 hnx hc
          go_wp2_with (first | (simp only [key]) | fail)
          refine C.out.mono ?_
          rintro e w1 ⟨rfl, rfl⟩
          go_wp2
          go_ret
          refine ⟨_, rfl, ?_, rfl⟩
          have h := HNX.out
          have e1 : ((64 * kk + c : Nat) : Int) = (kk : Int) * 64 + c := by omega
          rw [e1] at h
          exact h
      · have he1 : ((kk : Int) == (i : Int) / 64) = false := by simp; omega
        have hw := next_word (f := f) (i := i) (y := y) HNO.out HLT.out (fun t h => by rw [HBIT.out t h]; have := HK1.out; rw [decide_eq_true (by omega), Bool.true_and]) H64.out
        have HW := hid hw
        have HE := hid he
        clear he hw
        by_cases h0 : y = 0
        · subst h0
          have hnx := HW.out.1 rfl
          have HNX := hid hnx
          clear hnx
          go_wp2
          go_roundw
          case rel => exact ⟨kk + 1, by go_num, by have := HK1.out; omega, HLT.out, HNX.out, by first | rfl | trivial⟩
          case measure => have := HLT.out; simp [intOf]; omega
        · have h01 : ((y : Int) != 0) = true := by simp; omega
          have h02 : ¬ (y : Int) = 0 := by omega
          have hnx := HW.out.2 h0
          have C := hid (tz64_any y H64.out h0 w HT.out)
          obtain ⟨c, hc⟩ : ∃ c, Lib.ctz 64 y = c := ⟨_, rfl⟩
          rw [hc] at hnx C
          have hc6 : (c : Int) < 64 := by have := hnx.1; omega
          have HNX := hid hnx.2
          clear h0 hnx hc
          go_wp2_with fail
          refine C.out.mono ?_
          rintro e w1 ⟨rfl, rfl⟩
          go_wp2
          go_ret
          refine ⟨_, rfl, ?_, rfl⟩
          have h := HNX.out
          have e1 : ((64 * kk + c : Nat) : Int) = (kk : Int) * 64 + c := by omega
          rw [e1] at h
          exact h
    · obtain rfl : kk = n := by omega
      have hlt' : ¬ (kk : Int) < kk := by omega
      clear hlt hk1 hk2
      go_wp2
      go_ret
      exact ⟨-1, rfl, .inl ⟨rfl, HNO.out⟩, rfl⟩
end
end Go.Proofs.YtlcfkfijomnmnaaGreatDoor
