import Derived.Test.YtlcfkfijomnmnaaGreatDoorQKdOwnBd
import Derived.Lib.ItoaLen
import Derived.RangeFuncNested
import Derived.RangeFuncBound
import Derived.Shelf.RegionOpen
import Derived.LoopNIn
import Derived.LoopIn
namespace Go.Proofs.YtlcfkfijomnmnaaGreatDoor
open Lib (hid)
section
open Go.RowKit Go.Sort Go.Lib
set_option maxRecDepth 100000 in
set_option maxHeartbeats 6400000 in
theorem appendUint_small (B : Bs) (l : List UInt8) (u : Nat) (hu : u < 100) (sv : Value) (w : World) (hown : OwnB B w sv l) (f : Fit B w) (hl : l.length ≤ 900000000) :
    Calls Tryz.prog 179 #[sv, .int .u64 u, .int .i64 10] w (PutPost B w (l ++ Lib.decDigits u)) := by
  have hlen : (Lib.decDigits u).length ≤ 20 := by
    rw [Lib.decDigits_length]
    by_cases h10 : u < 10
    · rw [Lib.nDigits_small h10]; omega
    · rw [Lib.nDigits_big h10, Lib.nDigits_small (show u / 10 < 10 by omega)]; omega
  have hsz : (⟨(Lib.decDigits u).toArray⟩ : ByteArray).size = (Lib.decDigits u).length := by simp [ByteArray.size]
  obtain ⟨ao, cap, rfl⟩ := hown.form
  have HO := hid hown; have HF := hid f; have HL := hid hl; have HS := hid hsz; have HN := hid hlen
  clear hown f hl hsz hlen
  go_enter Tryz.func179, Tryz.ntmps179
  go_wp2_with (first
    | (go_at_call 182; refine (Tryz.internal_strconv_small u hu _).mono ?_; rintro e w' ⟨rfl, rfl⟩)
    | (at_builtin; refine wpList_ap_str rfl _ _ rfl rfl HO.out ⟨(Lib.decDigits u).toArray⟩ rfl HF.out ?c1 ?_))
  case c1 => rw [HS.out]; have := HL.out; have := HN.out; omega
  intro v1 w1 o1 r1
  have e : (⟨(Lib.decDigits u).toArray⟩ : ByteArray).data.toList = Lib.decDigits u := rfl
  try rw [e] at o1
  have HO1 := hid o1; have HR1 := hid r1
  clear o1 r1 e
  go_wp2
  go_ret
  exact ⟨_, rfl, HO1.out, HR1.out⟩
set_option maxRecDepth 100000 in
set_option maxHeartbeats 12800000 in
theorem appendUint_big (B : Bs) (l : List UInt8) (u : Nat) (hu : 100 ≤ u) (hu64 : u < 18446744073709551616) (sv : Value) (w : World) (hown : OwnB B w sv l) (f : Fit B w) (hl : l.length ≤ 900000000) (ht : Tb B w) :
    Calls Tryz.prog 179 #[sv, .int .u64 u, .int .i64 10] w (PutPost B w (l ++ Lib.decDigits u)) := by
  obtain ⟨ao, cap, rfl⟩ := hown.form
  have hu1 : 1 ≤ u := by omega
  have hnd20 : Lib.nDigits u ≤ 20 := by have := Lib.numDigits_eq u hu1 hu64; split at this <;> omega
  have hal : Tryz.prog.arrayLen 257 = 24 := by kernel_rfl
  have hsl : ∀ W, (Instr.sliceAt 257 (.pointer (some ⟨w.heap.size, 0, none⟩)) none (some (.int .i64 (Lib.nDigits u : Int))) none).run Tryz.prog W = .ok (.slice (some ⟨w.heap.size, 0, none⟩) (Lib.nDigits u) 24) W := fun W => by
    rw [run_sliceAt_array_h W 257 ⟨w.heap.size, 0, none⟩ (by kernel_rfl) .i64 (Lib.nDigits u : Int) (by omega) (by rw [hal]; omega)]
    go_simp
  have hH0 := Lib.holds_zero0 w 257 (Lib.nDigits u) (by omega)
  have hfmt := Tryz.internal_strconv_formatBase10 w.heap.size 0 24 u (Array.replicate (Lib.nDigits u) 0) (w.alloc (.cells Lib.zeros24 257)) hH0 (by rw [Array.size_replicate]; exact Lib.lt_pow_nDigits u) hu64 (by rw [Array.size_replicate]; omega)
  rw [Array.size_replicate] at hfmt
  have HH0 := hid hH0; have HO := hid hown; have HF := hid f; have HL := hid hl; have HND := hid hnd20; have HU := hid hu1; have HU64 := hid hu64
  have HT := hid (ht.on (Wr.new f (.cells Lib.zeros24 257)))
  have HFM := hid hfmt
  have iu : (100 : Int) ≤ (u : Int) := by omega
  clear hH0 hal hown f hl ht hnd20 hu hu1 hu64 hfmt
  go_enter Tryz.func179, Tryz.ntmps179
  go_wp2_with (go_at_call 183; refine (Tryz.internal_strconv_numDigits u HU.out HU64.out _ HT.out.here).mono ?_; rintro e w' ⟨rfl, rfl⟩)
  refine HFM.out.mono ?_
  rintro e w' ⟨rfl, k, v', dk, rfl, hF⟩
  have hcells : ∀ j u', (Lib.byteCells (Lib.decDigits u))[j]? = some u' → ((putRow (fun (b : UInt8) => Value.int .u8 (b.toNat : Int)) (w.alloc (.cells Lib.zeros24 257)) w.heap.size 0 dk).drewN k).cell? ((⟨w.heap.size, 0, none⟩ : Addr).add j) = some u' := by
    intro j u' hj
    have hjl : j < (Lib.decDigits u).length := by
      have h5 := (List.getElem?_eq_some_iff.1 hj).1
      rwa [Lib.byteCells_length] at h5
    have e5 : (Lib.byteCells (Lib.decDigits u))[j]? = some (Value.int .u8 ((Lib.decDigits u)[j].toNat : Int)) := by simp [Lib.byteCells, hjl]
    rw [e5] at hj
    cases hj
    rw [Lib.row_is_numeral hF j hjl, Lib.add_plain, World.cell?_drewN]
    exact cell?_putRow (fun (b : UInt8) => Value.int .u8 (b.toNat : Int)) _ w.heap.size 0 _ dk HH0.out (by rw [hF.size, Array.size_replicate]) j (by rw [hF.size]; rw [Lib.decDigits_length] at hjl; exact hjl)
  obtain ⟨os, eo⟩ := Lib.fin_at w (.cells Lib.zeros24 257) dk k 0
  have hbel : Below w.heap.size w ((putRow (fun (b : UInt8) => Value.int .u8 (b.toNat : Int)) (w.alloc (.cells Lib.zeros24 257)) w.heap.size 0 dk).drewN k) := by rw [eo]; exact Lib.below_grow w.heap.size w (Nat.le_refl _) k os
  have hown2 : OwnB B ((putRow (fun (b : UInt8) => Value.int .u8 (b.toNat : Int)) (w.alloc (.cells Lib.zeros24 257)) w.heap.size 0 dk).drewN k) (.slice ao l.length cap) l := ⟨by rw [eo]; exact Lib.ownsRow_grow HO.out.row k os, HO.out.ne⟩
  generalize (putRow (fun (b : UInt8) => Value.int .u8 (b.toNat : Int)) (w.alloc (.cells Lib.zeros24 257)) w.heap.size 0 dk).drewN k = W2 at hcells hown2 hbel ⊢
  have hwr2 := (Wr.refl B w).next HF.out hbel
  have HO2 := hid hown2; have HW2 := hid hwr2; have HC := hid hcells; have HN := hid (Lib.decDigits_length u)
  clear eo hcells hown2 hbel hwr2 hF
  go_wp2_with (at_builtin; refine wpList_ap_row rfl _ _ rfl rfl HO2.out ⟨w.heap.size, 0, none⟩ (Lib.nDigits u) 24 (Lib.decDigits u) rfl HN.out.symm HC.out (HF.out.on HW2.out) ?c1 ?_)
  case c1 => rw [HN.out]; have := HL.out; have := HND.out; omega
  intro v2 w3 o3 r3
  have HO3 := hid o3; have HR3 := hid r3
  clear o3 r3
  go_wp2
  go_ret
  exact ⟨_, rfl, HO3.out, HW2.out.trans HR3.out⟩
theorem appendUint_b (B : Bs) (l : List UInt8) (u : Nat) (hu64 : u < 18446744073709551616) (sv : Value) (w : World) (hown : OwnB B w sv l) (f : Fit B w) (hl : l.length ≤ 900000000) (ht : Tb B w) :
    Calls Tryz.prog 179 #[sv, .int .u64 u, .int .i64 10] w (PutPost B w (l ++ Lib.decDigits u)) := by
  by_cases h : u < 100
  · exact appendUint_small B l u h sv w hown f hl
  · exact appendUint_big B l u (by omega) hu64 sv w hown f hl ht
set_option maxRecDepth 100000 in
set_option maxHeartbeats 6400000 in
theorem appendInt_in (B : Bs) (l : List UInt8) (i : Int) (hi : B64 i) (sv : Value) (w : World) (hown : OwnB B w sv l) (f : Fit B w) (hl : l.length ≤ 890000000) (ht : Tb B w) :
    Calls Tryz.prog 172 #[sv, .int .i64 i, .int .i64 10] w (PutPost B w (l ++ Lib.itoa i)) := by
  obtain ⟨h0, h1⟩ := hi
  obtain ⟨ao, cap, rfl⟩ := hown.form
  by_cases hneg : i < 0
  · obtain ⟨u, rfl⟩ : ∃ u : Nat, i = -(u : Int) := ⟨i.natAbs, by omega⟩
    have hu1 : 1 ≤ u := by omega
    have hu64 : u < 18446744073709551616 := by omega
    have hwr : IntKind.u64.wrap (-IntKind.u64.wrap (-(u : Int))) = (u : Int) := by rw [IntKind.wrap_u64, IntKind.wrap_u64]; omega
    rw [Lib.itoa_neg u hu1]
    have HOx := hid (hown.alloc (.cells #[.int .u8 45] 5)); have HFx := hid (f.alloc (.cells #[.int .u8 45] 5)); have HWx := hid (Wr.new f (.cells #[.int .u8 45] 5))
    have HCx := hid (chr_cells (c := 45) (heap_alloc_at w (.cells #[.int .u8 45] 5) rfl))
    have HL := hid hl; have HT := hid (ht.on HWx.out); have HU := hid hu64; have HF := hid f
    clear hown f hl ht hu64 hu1 h0 h1
    go_enter Tryz.func172, Tryz.ntmps172
    go_wp2_with (at_builtin; refine wpList_ap_row rfl _ _ rfl rfl HOx.out ⟨w.heap.size, 0, none⟩ 1 1 [45] rfl rfl HCx.out HFx.out ?c1 ?_)
    case c1 => have := HL.out; simp; omega
    intro v1 w1 o1 r1
    obtain ⟨ao1, cap1, rfl⟩ := o1.form
    obtain ⟨L1, hL1⟩ : ∃ L1, l ++ [45] = L1 := ⟨_, rfl⟩
    have hn1 : L1.length ≤ 900000000 := by rw [← hL1, List.length_append]; have := HL.out; simp; omega
    rw [hL1] at o1 ⊢
    have HO1 := hid o1; have HR1 := hid (HWx.out.trans r1); have HT1 := hid (HT.out.on r1); have HN1 := hid hn1; have HL1 := hid hL1
    clear o1 r1 hn1 hL1
    go_wp2_with fail
    refine (appendUint_b B L1 u HU.out _ _ HO1.out (HF.out.on HR1.out) HN1.out HT1.out).mono ?_
    rintro e w2 ⟨v2, rfl, o2, r2⟩
    have HO2 := hid o2; have HR2 := hid r2
    clear o2 r2
    go_wp2
    go_ret
    exact ⟨_, rfl, by have := HO2.out; rw [← HL1.out] at this; simpa [List.append_assoc] using this, HR1.out.trans HR2.out⟩
  · obtain ⟨u, rfl⟩ : ∃ u : Nat, i = u := ⟨i.toNat, by omega⟩
    have hu64 : u < 18446744073709551616 := by omega
    rw [Lib.itoa_nonneg]
    have HO := hid hown; have HF := hid f; have HL := hid hl; have HT := hid ht; have HU := hid hu64
    have hw : IntKind.u64.wrap (u : Int) = (u : Int) := by rw [IntKind.wrap_u64]; omega
    clear hown f hl ht hu64 h0 h1
    go_enter Tryz.func172, Tryz.ntmps172
    go_wp2_with fail
    refine (appendUint_b B l u HU.out _ _ HO.out HF.out (by have := HL.out; omega) HT.out).mono ?_
    rintro e w2 ⟨v2, rfl, o2, r2⟩
    have HO2 := hid o2; have HR2 := hid r2
    clear o2 r2
    go_wp2
    go_ret
    exact ⟨_, rfl, HO2.out, HR2.out⟩
set_option maxRecDepth 100000 in
theorem appendInt_b (B : Bs) (l : List UInt8) (i : Int) (hi : B64 i) (sv : Value) (w : World) (hown : OwnB B w sv l) (f : Fit B w) (hl : l.length ≤ 890000000) (ht : Tb B w) :
    Calls Tryz.prog 162 #[sv, .int .i64 i, .int .i64 10] w (PutPost B w (l ++ Lib.itoa i)) := by
  obtain ⟨ao, cap, rfl⟩ := hown.form
  have HO := hid hown; have HF := hid f; have HL := hid hl; have HT := hid ht; have HI := hid hi
  clear hown f hl ht hi
  go_enter Tryz.func162, Tryz.ntmps162
  go_wp2_with fail
  refine (appendInt_in B l i HI.out _ _ HO.out HF.out HL.out HT.out).mono ?_
  rintro e w2 ⟨v2, rfl, o2, r2⟩
  have HO2 := hid o2; have HR2 := hid r2
  clear o2 r2
  go_wp2
  go_ret
  exact ⟨_, rfl, HO2.out, HR2.out⟩
end
section
open Go.RowKit
set_option maxRecDepth 100000 in
theorem putHeap_idx (B : Bs) (l : List UInt8) (n : Int) (hn : B64 n) (sv : Value) (w : World) (hown : OwnB B w sv l) (hB : Fit B w) (hl : l.length ≤ 880000000) (ht : Tb B w) :
    Calls Tryz.prog 150 #[sv, .agg #[.int .i64 13, .int .i64 n]] w (PutPost B w (l ++ Lib.itoa n)) := by
  obtain ⟨ao, cap, rfl⟩ := hown.form
  obtain ⟨W0, hW0⟩ : ∃ W0, ((w.alloc (.cells #[.slice ao l.length cap] 197)).alloc (.cells #[.int .i64 13, .int .i64 n] 33)).alloc (.cells #[.slice none 0 0] 197) = W0 := ⟨_, rfl⟩
  have hwr : Wr B w W0 := by rw [← hW0]; exact ((Wr.new hB _).alloc (hB.alloc _) _).alloc ((hB.alloc _).alloc _) _
  have z2 : W0.heap[w.heap.size + 1 + 1]? = some (.cells #[.slice none 0 0] 197 (0, 0)) := by rw [← hW0]; exact heap_alloc_at _ _ (by simp)
  have hO : OwnB B W0 (.slice ao l.length cap) l := by rw [← hW0]; exact ((hown.alloc _).alloc _).alloc _
  have HW := hid hW0; have HR := hid hwr; have HZ := hid z2; have HO := hid hO; have HT := hid (ht.on hwr)
  have HN := hid hn; have HL := hid hl; have HB := hid hB
  clear hn hown ht hl hB hwr z2 hO hW0
  go_enter Tryz.func150, Tryz.ntmps150
  go_wp2_with fail
  rw [HW.out]
  refine (appendInt_b B l n HN.out _ _ HO.out (HB.out.on HR.out) (by have := HL.out; omega) HT.out).mono ?_
  rintro e w1 ⟨v, rfl, ho, hb⟩
  obtain ⟨ao1, cap1, rfl⟩ := ho.form
  obtain ⟨n1, hn1⟩ : ∃ n1, (l ++ Lib.itoa n).length = n1 := ⟨_, rfl⟩
  rw [hn1] at ho ⊢
  have HN1 := hid hn1
  clear hn1
  have z3 := hb.box HZ.out (by decide)
  have c1 := heap_cell z3 0
  have f1 := heap_frozen z3 0
  simp at c1
  have HO1 := hid ho; have HB1 := hid hb; have HZ3 := hid z3
  clear ho hb z3
  go_wp2
  have z4 := heap_set_at HZ3.out 0 (.slice ao1 n1 cap1)
  have c2 := heap_cell z4 0
  simp at c2
  refine bodyPost_ret (v := .slice ao1 n1 cap1) (by simp [results, Tryz.results150, go_sem, c2]) rfl ⟨_, rfl, HO1.out.setBox HZ3.out (by decide) _ _, (HR.out.trans HB1.out).setNew HB.out (by simp; omega) _⟩
set_option maxRecDepth 100000 in
theorem putHeap_rec (B : Bs) (l : List UInt8) (n : Int) (hn : B64 n) (sv : Value) (w : World) (hown : OwnB B w sv l) (hB : Fit B w) (hl : l.length ≤ 880000000) (ht : Tb B w) :
    Calls Tryz.prog 150 #[sv, .agg #[.int .i64 14, .int .i64 n]] w (PutPost B w (l ++ ([114, 101, 99, 46] ++ Lib.itoa n))) := by
  obtain ⟨ao, cap, rfl⟩ := hown.form
  obtain ⟨W0, hW0⟩ : ∃ W0, ((w.alloc (.cells #[.slice ao l.length cap] 197)).alloc (.cells #[.int .i64 14, .int .i64 n] 33)).alloc (.cells #[.slice none 0 0] 197) = W0 := ⟨_, rfl⟩
  have hwr : Wr B w W0 := by rw [← hW0]; exact ((Wr.new hB _).alloc (hB.alloc _) _).alloc ((hB.alloc _).alloc _) _
  have z0 : W0.heap[w.heap.size]? = some (.cells #[.slice ao l.length cap] 197 (0, 0)) := by rw [← hW0]; exact heap_alloc_keep (heap_alloc_keep (heap_alloc_at _ _ rfl) _) _
  have z1 : W0.heap[w.heap.size + 1]? = some (.cells #[.int .i64 14, .int .i64 n] 33 (0, 0)) := by rw [← hW0]; exact heap_alloc_keep (heap_alloc_at _ _ (by simp)) _
  have z2 : W0.heap[w.heap.size + 1 + 1]? = some (.cells #[.slice none 0 0] 197 (0, 0)) := by rw [← hW0]; exact heap_alloc_at _ _ (by simp)
  have hO : OwnB B W0 (.slice ao l.length cap) l := by rw [← hW0]; exact ((hown.alloc _).alloc _).alloc _
  have HW := hid hW0; have HR := hid hwr; have Z0 := hid z0; have Z1 := hid z1; have Z2 := hid z2; have HO := hid hO; have HT := hid (ht.on hwr)
  have HN := hid hn; have HL := hid hl; have HB := hid hB
  clear hn hown ht hl hB hwr z0 z1 z2 hO hW0
  go_enter Tryz.func150, Tryz.ntmps150
  have HOx := HO
  rw [← HW.out] at HOx
  have HFx := hid (HB.out.on HR.out)
  rw [← HW.out] at HFx
  go_wp2_with (at_builtin; refine wpList_ap_str rfl _ _ rfl rfl HOx.out ⟨#[114, 101, 99, 46]⟩ rfl HFx.out ?c1 ?_)
  case c1 => have := HL.out; have e : (⟨#[114, 101, 99, 46]⟩ : ByteArray).size = 4 := rfl; omega
  intro v1 w1 ho1 hr1
  rw [HW.out] at hr1
  obtain ⟨ao1, cap1, rfl⟩ := ho1.form
  obtain ⟨n1, hn1⟩ : ∃ n1, (l ++ [114, 101, 99, 46]).length = n1 := ⟨_, rfl⟩
  rw [hn1] at ho1 ⊢
  have hn2 : (l ++ [114, 101, 99, 46]).length ≤ 890000000 := by have := HL.out; rw [List.length_append]; simp; omega
  have y0 := hr1.box Z0.out (by decide)
  have y1 := hr1.box Z1.out (by decide)
  have y2 := hr1.box Z2.out (by decide)
  have x0 := heap_set_at y0 0 (.slice ao1 n1 cap1)
  have x1 := heap_set_off y1 (a := ⟨w.heap.size, 0, none⟩) (by simp) (.slice ao1 n1 cap1)
  have x2 := heap_set_off y2 (a := ⟨w.heap.size, 0, none⟩) (by simp; omega) (.slice ao1 n1 cap1)
  have ho2 := ho1.setBox y0 (by decide) 0 (.slice ao1 n1 cap1)
  have hr2 := (HR.out.trans hr1).setNew HB.out (p := ⟨w.heap.size, 0, none⟩) (Nat.le_refl _) (.slice ao1 n1 cap1)
  have HO2 := hid ho2; have HR2 := hid hr2; have HN1 := hid hn1; have HN2 := hid hn2; have X2 := hid x2
  have HT2 := hid (Lib.TabBelow.on HT.out ((hr1.below).setCell (p := ⟨w.heap.size, 0, none⟩) HB.out.le (.slice ao1 n1 cap1)))
  have q0 := heap_cell y0 0
  have f0 := heap_frozen y0 0
  have q1 := heap_cell x1 1
  simp at q0 q1
  clear ho1 hr1 hn1 hn2 y0 y1 y2 x0 x1 x2 ho2 hr2
  go_wp2_with fail
  refine (appendInt_b B (l ++ [114, 101, 99, 46]) n HN.out _ _ HO2.out (HB.out.on HR2.out) HN2.out HT2.out).mono ?_
  rintro e w2 ⟨v, rfl, ho, hb⟩
  obtain ⟨ao2, cap2, rfl⟩ := ho.form
  obtain ⟨n2, hn2⟩ : ∃ n2, (l ++ [114, 101, 99, 46] ++ Lib.itoa n).length = n2 := ⟨_, rfl⟩
  rw [hn2] at ho ⊢
  have z3 := hb.box X2.out (by decide)
  have c1 := heap_cell z3 0
  have f1 := heap_frozen z3 0
  simp at c1
  have HO3 := hid ho; have HB3 := hid hb; have HZ3 := hid z3; have HN3 := hid hn2
  clear ho hb z3 hn2 q0 q1 f0
  go_wp2
  have z4 := heap_set_at HZ3.out 0 (.slice ao2 n2 cap2)
  have c2 := heap_cell z4 0
  simp at c2
  have ho := HO3.out.setBox HZ3.out (by decide) 0 (.slice ao2 n2 cap2)
  rw [List.append_assoc] at ho
  refine bodyPost_ret (v := .slice ao2 n2 cap2) (by simp [results, Tryz.results150, go_sem, c2]) rfl ⟨_, rfl, ho, (HR2.out.trans HB3.out).setNew HB.out (by simp; omega) _⟩
set_option maxRecDepth 100000 in
theorem putHeap_def (B : Bs) (l : List UInt8) (n : Int) (hn : B64 n) (sv : Value) (w : World) (hown : OwnB B w sv l) (hB : Fit B w) (hl : l.length ≤ 880000000) (ht : Tb B w) :
    Calls Tryz.prog 150 #[sv, .agg #[.int .i64 15, .int .i64 n]] w (PutPost B w (l ++ ([100, 101, 102, 46] ++ Lib.itoa n))) := by
  obtain ⟨ao, cap, rfl⟩ := hown.form
  obtain ⟨W0, hW0⟩ : ∃ W0, ((w.alloc (.cells #[.slice ao l.length cap] 197)).alloc (.cells #[.int .i64 15, .int .i64 n] 33)).alloc (.cells #[.slice none 0 0] 197) = W0 := ⟨_, rfl⟩
  have hwr : Wr B w W0 := by rw [← hW0]; exact ((Wr.new hB _).alloc (hB.alloc _) _).alloc ((hB.alloc _).alloc _) _
  have z0 : W0.heap[w.heap.size]? = some (.cells #[.slice ao l.length cap] 197 (0, 0)) := by rw [← hW0]; exact heap_alloc_keep (heap_alloc_keep (heap_alloc_at _ _ rfl) _) _
  have z1 : W0.heap[w.heap.size + 1]? = some (.cells #[.int .i64 15, .int .i64 n] 33 (0, 0)) := by rw [← hW0]; exact heap_alloc_keep (heap_alloc_at _ _ (by simp)) _
  have z2 : W0.heap[w.heap.size + 1 + 1]? = some (.cells #[.slice none 0 0] 197 (0, 0)) := by rw [← hW0]; exact heap_alloc_at _ _ (by simp)
  have hO : OwnB B W0 (.slice ao l.length cap) l := by rw [← hW0]; exact ((hown.alloc _).alloc _).alloc _
  have HW := hid hW0; have HR := hid hwr; have Z0 := hid z0; have Z1 := hid z1; have Z2 := hid z2; have HO := hid hO; have HT := hid (ht.on hwr)
  have HN := hid hn; have HL := hid hl; have HB := hid hB
  clear hn hown ht hl hB hwr z0 z1 z2 hO hW0
  go_enter Tryz.func150, Tryz.ntmps150
  have HOx := HO
  rw [← HW.out] at HOx
  have HFx := hid (HB.out.on HR.out)
  rw [← HW.out] at HFx
  go_wp2_with (at_builtin; refine wpList_ap_str rfl _ _ rfl rfl HOx.out ⟨#[100, 101, 102, 46]⟩ rfl HFx.out ?c1 ?_)
  case c1 => have := HL.out; have e : (⟨#[100, 101, 102, 46]⟩ : ByteArray).size = 4 := rfl; omega
  intro v1 w1 ho1 hr1
  rw [HW.out] at hr1
  obtain ⟨ao1, cap1, rfl⟩ := ho1.form
  obtain ⟨n1, hn1⟩ : ∃ n1, (l ++ [100, 101, 102, 46]).length = n1 := ⟨_, rfl⟩
  rw [hn1] at ho1 ⊢
  have hn2 : (l ++ [100, 101, 102, 46]).length ≤ 890000000 := by have := HL.out; rw [List.length_append]; simp; omega
  have y0 := hr1.box Z0.out (by decide)
  have y1 := hr1.box Z1.out (by decide)
  have y2 := hr1.box Z2.out (by decide)
  have x0 := heap_set_at y0 0 (.slice ao1 n1 cap1)
  have x1 := heap_set_off y1 (a := ⟨w.heap.size, 0, none⟩) (by simp) (.slice ao1 n1 cap1)
  have x2 := heap_set_off y2 (a := ⟨w.heap.size, 0, none⟩) (by simp; omega) (.slice ao1 n1 cap1)
  have ho2 := ho1.setBox y0 (by decide) 0 (.slice ao1 n1 cap1)
  have hr2 := (HR.out.trans hr1).setNew HB.out (p := ⟨w.heap.size, 0, none⟩) (Nat.le_refl _) (.slice ao1 n1 cap1)
  have HO2 := hid ho2; have HR2 := hid hr2; have HN1 := hid hn1; have HN2 := hid hn2; have X2 := hid x2
  have HT2 := hid (Lib.TabBelow.on HT.out ((hr1.below).setCell (p := ⟨w.heap.size, 0, none⟩) HB.out.le (.slice ao1 n1 cap1)))
  have q0 := heap_cell y0 0
  have f0 := heap_frozen y0 0
  have q1 := heap_cell x1 1
  simp at q0 q1
  clear ho1 hr1 hn1 hn2 y0 y1 y2 x0 x1 x2 ho2 hr2
  go_wp2_with fail
  refine (appendInt_b B (l ++ [100, 101, 102, 46]) n HN.out _ _ HO2.out (HB.out.on HR2.out) HN2.out HT2.out).mono ?_
  rintro e w2 ⟨v, rfl, ho, hb⟩
  obtain ⟨ao2, cap2, rfl⟩ := ho.form
  obtain ⟨n2, hn2⟩ : ∃ n2, (l ++ [100, 101, 102, 46] ++ Lib.itoa n).length = n2 := ⟨_, rfl⟩
  rw [hn2] at ho ⊢
  have z3 := hb.box X2.out (by decide)
  have c1 := heap_cell z3 0
  have f1 := heap_frozen z3 0
  simp at c1
  have HO3 := hid ho; have HB3 := hid hb; have HZ3 := hid z3; have HN3 := hid hn2
  clear ho hb z3 hn2 q0 q1 f0
  go_wp2
  have z4 := heap_set_at HZ3.out 0 (.slice ao2 n2 cap2)
  have c2 := heap_cell z4 0
  simp at c2
  have ho := HO3.out.setBox HZ3.out (by decide) 0 (.slice ao2 n2 cap2)
  rw [List.append_assoc] at ho
  refine bodyPost_ret (v := .slice ao2 n2 cap2) (by simp [results, Tryz.results150, go_sem, c2]) rfl ⟨_, rfl, ho, (HR2.out.trans HB3.out).setNew HB.out (by simp; omega) _⟩
end
section
open Go.RowKit Go.Shelf
def roundWay {α : Type} (Kp : World → World → Prop) (I : List α → World → Prop) (Ix : Code → List α → World → Prop) (xs : List α) (W : World) : Exit → Act → World → Prop
  | .normal, _, W' => KeepsOthers W W' ∧ Kp W W' ∧ I xs W'
  | .ret, _, W' => KeepsOthers W W' ∧ Ix .ret xs W'
  | .exit id, _, W' => KeepsOthers W W' ∧ Ix (.exit id) xs W'
  | .goto t, _, W' => KeepsOthers W W' ∧ Ix (.goto t) xs W'
  | .panic _, _, _ => False
  | .outgrown, _, _ => False
def IterAt {α : Type} (F : Fence) (n : Nat) (P : Program) (gf : Nat) (lb : Array Value) (encs : α → Array Value) (w : World) (Kp : World → World → Prop) (I : List α → World → Prop) (Ix : Code → List α → World → Prop) (S Sp : List α → Prop) (G : List α → α → Prop) : Prop :=
  ∀ (l : Nat) (L : World → Prop) (L' : Code → World → Prop) (W1 : World), (∀ W W', KeepsOthers W W' → L W → L W') → (∀ c W W', KeepsOthers W W' → L' c W → L' c W') → Below w.heap.size w W1 →
    (∀ pre x W, I pre W → L W → G pre x → YieldAt F (n - 1) P l (encs x) W fun e W' =>
      (e = .returned (.bool true) ∧ I (pre ++ [x]) W' ∧ Kp W W' ∧ L W') ∨ (e = .returned (.bool false) ∧ ∃ c, Ix c (pre ++ [x]) W' ∧ L' c W')) →
    I [] W1 → L W1 →
    CallsIn F n P gf (#[.func (.yield l) #[] #[]] ++ lb) W1 fun e W' => (∃ v, e = .returned v) ∧ ((∃ xs, S xs ∧ I xs W' ∧ L W') ∨ (∃ pre c, Sp pre ∧ Ix c pre W' ∧ L' c W'))
variable {F : Fence} {n : Nat} {P : Program}
theorem wpIn_range_at {α : Type} {g : Operand} {ps : Array Tmp} {assign body : Code} {Q : Exit → Act → World → Prop} {a : Act} {w : World}
    (hro : F.round = none) (h1 : 1 ≤ n) {gf : Nat} {lb : Array Value} (hg : a.eval g = .func (.func gf) #[] lb) (hFg : F.fn gf) (eg : ∀ args w, (callFunc gf args).run P w = .ok (.enter gf args) w)
    {encs : α → Array Value} (hps : ∀ x, (encs x).size = ps.size) {S Sp : List α → Prop} {G : List α → α → Prop} (Kp : World → World → Prop) (I : List α → World → Prop) (Ix : Code → List α → World → Prop)
    (hKt : ∀ {A B C : World}, Kp A B → Kp B C → Kp A C) (hKp : ∀ W l o o', w.heap.size ≤ l → W.heap[l]? = some o → o.isCells = false → Kp W (W.putObj l o'))
    (hIp : ∀ pre W l o o', w.heap.size ≤ l → W.heap[l]? = some o → o.isCells = false → I pre W → I pre (W.putObj l o'))
    (hIxp : ∀ c pre W l o o', w.heap.size ≤ l → W.heap[l]? = some o → o.isCells = false → Ix c pre W → Ix c pre (W.putObj l o'))
    (h0 : ∀ o o', I [] ((w.alloc o).alloc o')) (a₁ : α → Act)
    (hiter : IterAt F (n - 1) P gf lb encs w Kp I Ix S Sp G)
    (hassign : ∀ (l : Nat) (x : α) (W : World) (K : Act → World → Prop), K (a₁ x) W →
      assign.wpIn (F.inRound l) (n - 1 - 1) P (Exit.then K (fun _ _ _ => False)) { tmps := (ps.zip (encs x)).foldl (fun t (p, v) => t.setIfInBounds p v) a.tmps, defers := [] } W)
    (hbody : ∀ (l : Nat) (pre : List α) (x : α) (W : World), I pre W → G pre x → body.wpIn (F.inRound l) (n - 1 - 1) P (roundWay Kp I Ix (pre ++ [x]) W) (a₁ x) W)
    (hdone : ∀ (D : Nat) (xs : List α) (W : World), S xs → I xs W → W.heap[D]? = some (.deferred (some [])) → w.heap.size ≤ D → Q .normal { a with defers := { target := .collected D, args := #[] } :: a.defers } W)
    (hstop : ∀ (D : Nat) (c : Code) (pre : List α) (W : World), Sp pre → Ix c pre W → W.heap[D]? = some (.deferred (some [])) → w.heap.size ≤ D → c.wpIn F n P Q { a with defers := { target := .collected D, args := #[] } :: a.defers } W) :
    (Code.rangeFunc g ps assign body).wpIn F n P Q a w := by
  refine wpIn_rangeFunc fun fn hfn => ?_
  rw [hro]
  -- the loop's record in its states, its block and the block of the deferred calls
  let mk : LoopState → Option Code → Loop := fun st pe => { state := st, pending := pe, fn, tmps := a.tmps, params := ps, assign, body, defers := w.heap.size }
  let R : LoopState → Option Code → World → Prop := fun st pe W => W.heap[w.heap.size + 1]? = some (.loop (mk st pe)) ∧ W.heap[w.heap.size]? = some (.deferred (some []))
  have keep : ∀ st pe W W', KeepsOthers W W' → R st pe W → R st pe W' := fun st pe W W' hk h => ⟨hk.same _ _ h.1 rfl, hk.same _ _ h.2 rfl⟩
  have turn : ∀ st pe st' pe' W, R st pe W → R st' pe' (W.putObj (w.heap.size + 1) (.loop (mk st' pe'))) := fun st pe st' pe' W h =>
    ⟨World.putObj_heap_same (Array.getElem?_eq_some_iff.1 h.1).1, (World.putObj_heap_other (by omega)).trans h.2⟩
  have start : R .ready none ((w.alloc (.deferred (some []))).alloc (.loop (mk .ready none))) := by
    constructor
    · have := World.alloc_heap_new (w.alloc (.deferred (some []))) (.loop (mk .ready none))
      rwa [World.size_alloc] at this
    · exact (Below.heap_alloc _ _ _ (by simp)).trans (World.alloc_heap_new w _)
  refine ⟨w.heap.size + 1, [{ target := .collected w.heap.size, args := #[] }], (w.alloc (.deferred (some []))).alloc (.loop (mk .ready none)), { target := .fn (.func gf) lb, args := #[.func (.yield (w.heap.size + 1)) #[] #[]] }, (w.alloc (.deferred (some []))).alloc (.loop (mk .ready none)), gf,
    #[.func (.yield (w.heap.size + 1)) #[] #[]] ++ lb, (w.alloc (.deferred (some []))).alloc (.loop (mk .ready none)), run_enterLoop_outer _ _ _ _ _, ?_, ?_, ?_, fun _ => h1, ?_⟩
  · simp only [resolve, hg]
    simp [go_sem]
  · intro f' hf'
    simp [Target.leads] at hf'
    subst hf'
    exact hFg
  · simp [invoke, go_sem, eg]
  refine (hiter (w.heap.size + 1) (R .ready none) (fun c => R .done (some c)) _ (keep _ _) (fun c => keep _ _) (((Below.refl _ w).alloc (Nat.le_refl _) _).alloc (by simp) _) ?_ (h0 _ _) start).mono ?_
  · intro pre x W hi hl hlen
    refine ⟨fn, _, assign, body, run_yield hl.1 (hps x), roundIn_of_wpIn hfn (hassign _ x W _ ⟨_, run_beginRound hl.1 rfl, ?_⟩)⟩
    have hb := turn _ _ .busy none W hl
    refine wpIn_mono (hbody _ pre x _ (hIp _ _ _ _ _ (by omega) hl.1 rfl hi) hlen) ?_
    rintro e a3 W3 hp
    cases e with
    | normal =>
      have h3 := keep _ _ _ _ hp.1 hb
      exact ⟨_, _, run_endRound none h3.1, .inl ⟨rfl, hIp _ _ _ _ _ (by omega) h3.1 rfl hp.2.2, hKt (hKt (hKp _ _ _ _ (by omega) hl.1 rfl) hp.2.1) (hKp _ _ _ _ (by omega) h3.1 rfl), turn _ _ .ready none W3 h3⟩⟩
    | ret =>
      have h3 := keep _ _ _ _ hp.1 hb
      exact ⟨_, _, run_endRound (some .ret) h3.1, .inr ⟨rfl, .ret, hIxp _ _ _ _ _ _ (by omega) h3.1 rfl hp.2, turn _ _ .done (some .ret) W3 h3⟩⟩
    | exit id =>
      have h3 := keep _ _ _ _ hp.1 hb
      exact ⟨_, _, run_endRound (some (.exit id)) h3.1, .inr ⟨rfl, .exit id, hIxp _ _ _ _ _ _ (by omega) h3.1 rfl hp.2, turn _ _ .done (some (.exit id)) W3 h3⟩⟩
    | goto t =>
      have h3 := keep _ _ _ _ hp.1 hb
      exact ⟨_, _, run_endRound (some (.goto t)) h3.1, .inr ⟨rfl, .goto t, hIxp _ _ _ _ _ _ (by omega) h3.1 rfl hp.2, turn _ _ .done (some (.goto t)) W3 h3⟩⟩
    | panic ch => exact hp.elim
    | outgrown => exact hp.elim
  · rintro e W2 ⟨⟨v, rfl⟩, (⟨xs, hS, hi, hl⟩ | ⟨pre, c, hSp, hi, hl⟩)⟩
    · exact ⟨none, _, run_endLoop hl.1 (by simp [mk]), hdone _ xs _ hS (hIp _ _ _ _ _ (by omega) hl.1 rfl hi) ((World.putObj_heap_other (by omega)).trans hl.2) (Nat.le_refl _)⟩
    · exact ⟨some c, _, run_endLoop hl.1 (by simp [mk]), hstop _ c pre _ hSp (hIxp _ _ _ _ _ _ (by omega) hl.1 rfl hi) ((World.putObj_heap_other (by omega)).trans hl.2) (Nat.le_refl _)⟩
end
section
open Go.RowKit Go.Shelf
attribute [local go_sem] Oper.semAt_some
def pieces (c : UInt8) : List UInt8 → List (List UInt8)
  | [] => [[]]
  | b :: l => if b == c then [] :: pieces c l else match pieces c l with
    | p :: ps => (b :: p) :: ps
    | [] => [[b]]
theorem pieces_none (c : UInt8) : ∀ l, Lib.indexByte l c = -1 → pieces c l = [l]
  | [], _ => rfl
  | b :: l, h => by
    unfold Lib.indexByte at h
    split at h
    · cases h
    · rename_i hb
      split at h
      · rename_i h1
        have ih := pieces_none c l (by simpa using h1)
        unfold pieces
        rw [if_neg hb, ih]
      · rename_i h1
        have := Lib.indexByte_ge l c
        simp at h1
        omega
theorem pieces_some (c : UInt8) : ∀ (l : List UInt8) (i : Nat), Lib.indexByte l c = i → i < l.length ∧ pieces c l = l.take i :: pieces c (l.drop (i + 1))
  | [], i, h => by unfold Lib.indexByte at h; omega
  | b :: l, i, h => by
    unfold Lib.indexByte at h
    split at h
    · rename_i hb
      obtain rfl : i = 0 := by omega
      refine ⟨by simp, ?_⟩
      rw [pieces, if_pos hb]
      simp
    · rename_i hb
      split at h
      · omega
      · rename_i h1
        have hge := Lib.indexByte_ge l c
        obtain ⟨j, hj⟩ : ∃ j : Nat, Lib.indexByte l c = j := ⟨(Lib.indexByte l c).toNat, by simp at h1; omega⟩
        obtain rfl : i = j + 1 := by omega
        obtain ⟨hl, hp⟩ := pieces_some c l j hj
        refine ⟨by simp; omega, ?_⟩
        rw [pieces, if_neg hb, hp]
        simp
theorem splitSeq_any (s sep : ByteArray) (w : World) :
    Calls Tryz.prog 161 #[.string s, .string sep] w fun e w' => e = .returned (.func (.func 176) #[] #[.pointer (some ⟨w.heap.size + 1, 0, none⟩), .pointer (some ⟨w.heap.size, 0, none⟩), .pointer (some ⟨w.heap.size + 2, 0, none⟩)]) ∧
      ∃ S : ByteArray, Hid (S = s) ∧ w' = ((w.alloc (.cells #[.string S] 9)).alloc (.cells #[.string sep] 9)).alloc (.cells #[.int .i64 0] 3) := by
  go_enter Tryz.func161, Tryz.ntmps161
  go_wp2
  go_ret
  exact ⟨rfl, s, hid rfl, rfl⟩
structure Capt (b : Nat) (c : UInt8) (r : ByteArray) (W : World) : Prop where
  txt : W.cell? ⟨b, 0, none⟩ = some (.string r)
  free : W.frozen? ⟨b, 0, none⟩ = false
  sep : W.cell? ⟨b + 1, 0, none⟩ = some (.string ⟨#[c]⟩)
  sav : W.cell? ⟨b + 2, 0, none⟩ = some (.int .i64 0)
def lenAt (b : Nat) (W : World) : Nat := match W.cell? ⟨b, 0, none⟩ with
  | some (.string s) => s.size
  | _ => 0
theorem Capt.set {b : Nat} {c : UInt8} {r r' : ByteArray} {W : World} (h : Capt b c r W) : Capt b c r' (W.setCell ⟨b, 0, none⟩ (.string r')) := by
  refine ⟨World.cell?_setCell_same' _ _ _ (by rw [h.txt]; rfl), by rw [World.frozen?_setCell]; exact h.free, ?_, ?_⟩
  · rw [World.cell?_setCell_other]
    · exact h.sep
    · intro e; have := congrArg Addr.block e; simp at this
  · rw [World.cell?_setCell_other]
    · exact h.sav
    · intro e; have := congrArg Addr.block e; simp at this
theorem lenAt_of {b : Nat} {c : UInt8} {r : ByteArray} {W : World} (h : Capt b c r W) : lenAt b W = r.size := by
  unfold lenAt; rw [h.txt]
set_option maxHeartbeats 1000000 in
theorem splitSeq_iter (n b : Nat) (hn : 1 ≤ n) (c : UInt8) (s : ByteArray) (hs : s.size ≤ 9223372036854775807) (w : World) (hb : b + 2 < w.heap.size) (hc : Capt b c s w) (Kp : World → World → Prop) (I : List ByteArray → World → Prop) (Ix : Code → List ByteArray → World → Prop)
    (hKp : ∀ W W' r, Kp W W' → Capt b c r W → Capt b c r W') (hI : ∀ pre W r, I pre W → I pre (W.setCell ⟨b, 0, none⟩ (.string r))) :
    IterAt Fence.wide n Tryz.prog 176 #[.pointer (some ⟨b + 1, 0, none⟩), .pointer (some ⟨b, 0, none⟩), .pointer (some ⟨b + 2, 0, none⟩)] (fun x : ByteArray => #[.string x]) w Kp I Ix
      (fun xs => xs.map (·.data.toList) = pieces c s.data.toList) (fun pre => pre.map (·.data.toList) <+: pieces c s.data.toList) (fun pre x => (pre ++ [x]).map (·.data.toList) <+: pieces c s.data.toList) := by
  intro l L L' W1 hL hL' hbel hY h0 hL0
  have hc1 : Capt b c s W1 := ⟨by rw [hbel.cell (by simp; omega)]; exact hc.txt, by rw [hbel.frozen (by simp; omega)]; exact hc.free, by rw [hbel.cell (by simp; omega)]; exact hc.sep, by rw [hbel.cell (by simp; omega)]; exact hc.sav⟩
  clear hbel hc hb
  refine callsIn_of_wp Tryz.func176 rfl trivial ?_ rfl
  simp only [Tryz.ntmps176, List.size_toArray, List.length_cons, List.length_nil, Nat.reduceAdd, Nat.reduceSub, Array.replicate_succ, Array.replicate_zero, List.push_toArray, List.append_toArray, List.nil_append, List.cons_append]
  have q1 := hc1.sep
  gi_wp2
  gi_loopw [7, 8] (fun _ _ wr => ∃ (pre : List ByteArray) (r : ByteArray), pre.map (·.data.toList) ++ pieces c r.data.toList = pieces c s.data.toList ∧ r.size ≤ s.size ∧ Capt b c r wr ∧ I pre wr ∧ L wr) (fun _ _ wr => lenAt b wr)
  case atStart => exact ⟨[], s, rfl, Nat.le_refl _, hc1, h0, hL0⟩
  case round =>
    obtain ⟨pre, r, hp, hrs, hcr, hi, hl⟩ := hrel
    have k0 := hcr.txt
    have k1 := hcr.sep
    have k2 := hcr.sav
    have k3 := hcr.free
    rcases Int.lt_or_le (Lib.indexByte r.data.toList c) 0 with hneg | hpos
    · have hm1 : Lib.indexByte r.data.toList c = -1 := by have := Lib.indexByte_ge r.data.toList c; omega
      have hps := pieces_none c _ hm1
      have HP := hid hps
      have HM := hid hm1
      clear hps hm1 hneg
      obtain ⟨fn, tmps, assign, body, hy, hR⟩ := hY pre r wr hi hl ⟨[], by rw [← hp, HP.out]; simp⟩
      try dsimp only at hy
      gi_wp2_with (refine ⟨trivial, ?_⟩; gi_at_call 178; refine (callsIn_wide.2 (Tryz.strings_Index_one _ c _)).mono ?_; rintro e w' ⟨rfl, rfl⟩; rw [HM.out])
      refine hR.mono ?_
      rintro e W' (⟨rfl, hJ', hk, hl'⟩ | ⟨rfl, c', hx, hl'⟩)
      · gi_wp2
        go_end0
        exact ⟨⟨_, rfl⟩, .inl ⟨pre ++ [r], by rw [← hp, HP.out]; simp, hJ', hl'⟩⟩
      · gi_wp2
        go_end0
        exact ⟨⟨_, rfl⟩, .inr ⟨pre ++ [r], c', by rw [← hp, HP.out]; simp, hx, hl'⟩⟩
    · obtain ⟨i, hi'⟩ : ∃ i : Nat, Lib.indexByte r.data.toList c = i := ⟨(Lib.indexByte r.data.toList c).toNat, by omega⟩
      obtain ⟨hlt, hps⟩ := pieces_some c _ i hi'
      have HP := hid hps
      have HM := hid hi'
      clear hps hi' hpos
      have hsz : i < r.size := by rw [Array.length_toList] at hlt; exact hlt
      clear hlt
      obtain ⟨fn, tmps, assign, body, hy, hR⟩ := hY pre (r.extract 0 i) wr hi hl ⟨pieces c (r.data.toList.drop (i + 1)), by rw [← hp, HP.out, List.map_append, List.map_singleton, show (r.extract 0 i).data.toList = r.data.toList.take i by rw [Lib.extract_data]; simp]; simp⟩
      try dsimp only at hy
      gi_wp2_with (refine ⟨trivial, ?_⟩; gi_at_call 178; refine (callsIn_wide.2 (Tryz.strings_Index_one _ c _)).mono ?_; rintro e w' ⟨rfl, rfl⟩; rw [HM.out])
      refine hR.mono ?_
      have hx : (r.extract 0 i).data.toList = r.data.toList.take i := by rw [Lib.extract_data]; simp
      have HX := hid hx
      clear hx hY
      rintro e W' (⟨rfl, hJ', hk, hl'⟩ | ⟨rfl, c', hx, hl'⟩)
      · have hcr' := hKp _ _ _ hk hcr
        have m0 := hcr'.txt
        have m1 := hcr'.sep
        have m2 := hcr'.sav
        have m3 := hcr'.free
        have HS := hid hcr'
        clear hcr'
        gi_wp2
        go_roundw
        case rel => exact ⟨pre ++ [r.extract 0 i], r.extract (i + 1) r.size, by rw [← hp, HP.out, List.map_append, List.map_singleton, HX.out, Lib.extract_to_end]; simp, by rw [ByteArray.size_extract]; omega, HS.out.set, hI _ _ _ hJ', hL _ _ (KeepsOthers.setCell _ _ _) hl'⟩
        case measure =>
          have e1 := HS.out.set (r' := r.extract (i + 1) r.size)
          have e2 := lenAt_of e1
          have e3 := lenAt_of hcr
          rw [e2, e3, ByteArray.size_extract]
          omega
      · gi_wp2
        refine bodyPost_ret (results_none rfl _ _ _) rfl ?_
        exact ⟨⟨_, rfl⟩, .inr ⟨pre ++ [r.extract 0 i], c', ⟨pieces c (r.data.toList.drop (i + 1)), by rw [← hp, HP.out, List.map_append, List.map_singleton, HX.out]; simp⟩, hx, hl'⟩⟩
end
end Go.Proofs.YtlcfkfijomnmnaaGreatDoor
