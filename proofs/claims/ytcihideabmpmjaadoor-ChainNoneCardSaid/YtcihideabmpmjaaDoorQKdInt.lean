/- strconv.AppendInt at base 10 onto a row of the call's own: what else stays. -/
import Derived.Test.YtcihideabmpmjaaDoorQKdOwn
import Derived.Lib.ItoaLen
namespace Go.Proofs.YtcihideabmpmjaaDoor
open Go.RowKit Go.Sort Go.Lib

set_option maxRecDepth 100000 in
set_option maxHeartbeats 6400000 in
theorem appendUint_small (B : Bs) (l : List UInt8) (u : Nat) (hu : u < 100) (sv : Value) (w : World) (hown : OwnB B w sv l) (f : Fit B w) (hl : l.length ≤ 900000000) :
    Calls Tryd.prog 82 #[sv, .int .u64 u, .int .i64 10] w (PutPost B w (l ++ Lib.decDigits u)) := by
  have hlen : (Lib.decDigits u).length ≤ 20 := by
    rw [Lib.decDigits_length]
    by_cases h10 : u < 10
    · rw [Lib.nDigits_small h10]; omega
    · rw [Lib.nDigits_big h10, Lib.nDigits_small (show u / 10 < 10 by omega)]; omega
  have hsz : (⟨(Lib.decDigits u).toArray⟩ : ByteArray).size = (Lib.decDigits u).length := by simp [ByteArray.size]
  obtain ⟨ao, cap, rfl⟩ := hown.form
  have HO := Lib.hid hown; have HF := Lib.hid f; have HL := Lib.hid hl; have HS := Lib.hid hsz; have HN := Lib.hid hlen
  clear hown f hl hsz hlen
  go_enter Tryd.func82, Tryd.ntmps82
  go_wp2_with (first
    | (go_at_call 85; refine (Tryd.internal_strconv_small u hu _).mono ?_; rintro e w' ⟨rfl, rfl⟩)
    | (at_builtin; refine wpList_ap_str rfl _ _ rfl rfl HO.out ⟨(Lib.decDigits u).toArray⟩ rfl HF.out ?c1 ?_))
  case c1 => rw [HS.out]; have := HL.out; have := HN.out; omega
  intro v1 w1 o1 r1
  have e : (⟨(Lib.decDigits u).toArray⟩ : ByteArray).data.toList = Lib.decDigits u := rfl
  try rw [e] at o1
  have HO1 := Lib.hid o1; have HR1 := Lib.hid r1
  clear o1 r1 e
  go_wp2
  go_ret
  exact ⟨_, rfl, HO1.out, HR1.out⟩
set_option maxRecDepth 100000 in
set_option maxHeartbeats 12800000 in
theorem appendUint_big (B : Bs) (l : List UInt8) (u : Nat) (hu : 100 ≤ u) (hu64 : u < 18446744073709551616) (sv : Value) (w : World) (hown : OwnB B w sv l) (f : Fit B w) (hl : l.length ≤ 900000000) (ht : Tb B w) :
    Calls Tryd.prog 82 #[sv, .int .u64 u, .int .i64 10] w (PutPost B w (l ++ Lib.decDigits u)) := by
  obtain ⟨ao, cap, rfl⟩ := hown.form
  have hu1 : 1 ≤ u := by omega
  have hnd20 : Lib.nDigits u ≤ 20 := by have := Lib.numDigits_eq u hu1 hu64; split at this <;> omega
  have hal : Tryd.prog.arrayLen 152 = 24 := by kernel_rfl
  have hsl : ∀ W, (Instr.sliceAt 152 (.pointer (some ⟨w.heap.size, 0, none⟩)) none (some (.int .i64 (Lib.nDigits u : Int))) none).run Tryd.prog W = .ok (.slice (some ⟨w.heap.size, 0, none⟩) (Lib.nDigits u) 24) W := fun W => by
    rw [run_sliceAt_array_h W 152 ⟨w.heap.size, 0, none⟩ (by kernel_rfl) .i64 (Lib.nDigits u : Int) (by omega) (by rw [hal]; omega)]
    go_simp
  have hH0 := Lib.holds_zero0 w 152 (Lib.nDigits u) (by omega)
  have hfmt := Tryd.internal_strconv_formatBase10 w.heap.size 0 24 u (Array.replicate (Lib.nDigits u) 0) (w.alloc (.cells Lib.zeros24 152)) hH0 (by rw [Array.size_replicate]; exact Lib.lt_pow_nDigits u) hu64 (by rw [Array.size_replicate]; omega)
  rw [Array.size_replicate] at hfmt
  have HH0 := Lib.hid hH0; have HO := Lib.hid hown; have HF := Lib.hid f; have HL := Lib.hid hl; have HND := Lib.hid hnd20; have HU := Lib.hid hu1; have HU64 := Lib.hid hu64
  have HT := Lib.hid (ht.on (Wr.new f (.cells Lib.zeros24 152)))
  have HFM := Lib.hid hfmt
  have iu : (100 : Int) ≤ (u : Int) := by omega
  clear hH0 hal hown f hl ht hnd20 hu hu1 hu64 hfmt
  go_enter Tryd.func82, Tryd.ntmps82
  go_wp2_with (go_at_call 86; refine (Tryd.internal_strconv_numDigits u HU.out HU64.out _ HT.out.here).mono ?_; rintro e w' ⟨rfl, rfl⟩)
  refine HFM.out.mono ?_
  rintro e w' ⟨rfl, k, v', dk, rfl, hF⟩
  have hcells : ∀ j u', (Lib.byteCells (Lib.decDigits u))[j]? = some u' → ((putRow (fun (b : UInt8) => Value.int .u8 (b.toNat : Int)) (w.alloc (.cells Lib.zeros24 152)) w.heap.size 0 dk).drewN k).cell? ((⟨w.heap.size, 0, none⟩ : Addr).add j) = some u' := by
    intro j u' hj
    have hjl : j < (Lib.decDigits u).length := by
      have h5 := (List.getElem?_eq_some_iff.1 hj).1
      rwa [Lib.byteCells_length] at h5
    have e5 : (Lib.byteCells (Lib.decDigits u))[j]? = some (Value.int .u8 ((Lib.decDigits u)[j].toNat : Int)) := by simp [Lib.byteCells, hjl]
    rw [e5] at hj
    cases hj
    rw [Lib.row_is_numeral hF j hjl, Lib.add_plain, World.cell?_drewN]
    exact cell?_putRow (fun (b : UInt8) => Value.int .u8 (b.toNat : Int)) _ w.heap.size 0 _ dk HH0.out (by rw [hF.size, Array.size_replicate]) j (by rw [hF.size]; rw [Lib.decDigits_length] at hjl; exact hjl)
  obtain ⟨os, eo⟩ := Lib.fin_at w (.cells Lib.zeros24 152) dk k 0
  have hbel : Below w.heap.size w ((putRow (fun (b : UInt8) => Value.int .u8 (b.toNat : Int)) (w.alloc (.cells Lib.zeros24 152)) w.heap.size 0 dk).drewN k) := by rw [eo]; exact Lib.below_grow w.heap.size w (Nat.le_refl _) k os
  have hown2 : OwnB B ((putRow (fun (b : UInt8) => Value.int .u8 (b.toNat : Int)) (w.alloc (.cells Lib.zeros24 152)) w.heap.size 0 dk).drewN k) (.slice ao l.length cap) l := ⟨by rw [eo]; exact Lib.ownsRow_grow HO.out.row k os, HO.out.ne⟩
  generalize (putRow (fun (b : UInt8) => Value.int .u8 (b.toNat : Int)) (w.alloc (.cells Lib.zeros24 152)) w.heap.size 0 dk).drewN k = W2 at hcells hown2 hbel ⊢
  have hwr2 := (Wr.refl B w).next HF.out hbel
  have HO2 := Lib.hid hown2; have HW2 := Lib.hid hwr2; have HC := Lib.hid hcells; have HN := Lib.hid (Lib.decDigits_length u)
  clear eo hcells hown2 hbel hwr2 hF
  go_wp2_with (at_builtin; refine wpList_ap_row rfl _ _ rfl rfl HO2.out ⟨w.heap.size, 0, none⟩ (Lib.nDigits u) 24 (Lib.decDigits u) rfl HN.out.symm HC.out (HF.out.on HW2.out) ?c1 ?_)
  case c1 => rw [HN.out]; have := HL.out; have := HND.out; omega
  intro v2 w3 o3 r3
  have HO3 := Lib.hid o3; have HR3 := Lib.hid r3
  clear o3 r3
  go_wp2
  go_ret
  exact ⟨_, rfl, HO3.out, HW2.out.trans HR3.out⟩
theorem appendUint_b (B : Bs) (l : List UInt8) (u : Nat) (hu64 : u < 18446744073709551616) (sv : Value) (w : World) (hown : OwnB B w sv l) (f : Fit B w) (hl : l.length ≤ 900000000) (ht : Tb B w) :
    Calls Tryd.prog 82 #[sv, .int .u64 u, .int .i64 10] w (PutPost B w (l ++ Lib.decDigits u)) := by
  by_cases h : u < 100
  · exact appendUint_small B l u h sv w hown f hl
  · exact appendUint_big B l u (by omega) hu64 sv w hown f hl ht
set_option maxRecDepth 100000 in
set_option maxHeartbeats 6400000 in
theorem appendInt_in (B : Bs) (l : List UInt8) (i : Int) (hi : B64 i) (sv : Value) (w : World) (hown : OwnB B w sv l) (f : Fit B w) (hl : l.length ≤ 890000000) (ht : Tb B w) :
    Calls Tryd.prog 77 #[sv, .int .i64 i, .int .i64 10] w (PutPost B w (l ++ Lib.itoa i)) := by
  obtain ⟨h0, h1⟩ := hi
  obtain ⟨ao, cap, rfl⟩ := hown.form
  by_cases hneg : i < 0
  · obtain ⟨u, rfl⟩ : ∃ u : Nat, i = -(u : Int) := ⟨i.natAbs, by omega⟩
    have hu1 : 1 ≤ u := by omega
    have hu64 : u < 18446744073709551616 := by omega
    have hwr : IntKind.u64.wrap (-IntKind.u64.wrap (-(u : Int))) = (u : Int) := by rw [IntKind.wrap_u64, IntKind.wrap_u64]; omega
    rw [Lib.itoa_neg u hu1]
    have HOx := Lib.hid (hown.alloc (.cells #[.int .u8 45] 5)); have HFx := Lib.hid (f.alloc (.cells #[.int .u8 45] 5)); have HWx := Lib.hid (Wr.new f (.cells #[.int .u8 45] 5))
    have HCx := Lib.hid (chr_cells (c := 45) (heap_alloc_at w (.cells #[.int .u8 45] 5) rfl))
    have HL := Lib.hid hl; have HT := Lib.hid (ht.on HWx.out); have HU := Lib.hid hu64; have HF := Lib.hid f
    clear hown f hl ht hu64 hu1 h0 h1
    go_enter Tryd.func77, Tryd.ntmps77
    go_wp2_with (at_builtin; refine wpList_ap_row rfl _ _ rfl rfl HOx.out ⟨w.heap.size, 0, none⟩ 1 1 [45] rfl rfl HCx.out HFx.out ?c1 ?_)
    case c1 => have := HL.out; simp; omega
    intro v1 w1 o1 r1
    obtain ⟨ao1, cap1, rfl⟩ := o1.form
    obtain ⟨L1, hL1⟩ : ∃ L1, l ++ [45] = L1 := ⟨_, rfl⟩
    have hn1 : L1.length ≤ 900000000 := by rw [← hL1, List.length_append]; have := HL.out; simp; omega
    rw [hL1] at o1 ⊢
    have HO1 := Lib.hid o1; have HR1 := Lib.hid (HWx.out.trans r1); have HT1 := Lib.hid (HT.out.on r1); have HN1 := Lib.hid hn1; have HL1 := Lib.hid hL1
    clear o1 r1 hn1 hL1
    go_wp2_with fail
    refine (appendUint_b B L1 u HU.out _ _ HO1.out (HF.out.on HR1.out) HN1.out HT1.out).mono ?_
    rintro e w2 ⟨v2, rfl, o2, r2⟩
    have HO2 := Lib.hid o2; have HR2 := Lib.hid r2
    clear o2 r2
    go_wp2
    go_ret
    exact ⟨_, rfl, by have := HO2.out; rw [← HL1.out] at this; simpa [List.append_assoc] using this, HR1.out.trans HR2.out⟩
  · obtain ⟨u, rfl⟩ : ∃ u : Nat, i = u := ⟨i.toNat, by omega⟩
    have hu64 : u < 18446744073709551616 := by omega
    rw [Lib.itoa_nonneg]
    have HO := Lib.hid hown; have HF := Lib.hid f; have HL := Lib.hid hl; have HT := Lib.hid ht; have HU := Lib.hid hu64
    have hw : IntKind.u64.wrap (u : Int) = (u : Int) := by rw [IntKind.wrap_u64]; omega
    clear hown f hl ht hu64 h0 h1
    go_enter Tryd.func77, Tryd.ntmps77
    go_wp2_with fail
    refine (appendUint_b B l u HU.out _ _ HO.out HF.out (by have := HL.out; omega) HT.out).mono ?_
    rintro e w2 ⟨v2, rfl, o2, r2⟩
    have HO2 := Lib.hid o2; have HR2 := Lib.hid r2
    clear o2 r2
    go_wp2
    go_ret
    exact ⟨_, rfl, HO2.out, HR2.out⟩
set_option maxRecDepth 100000 in
theorem appendInt_b (B : Bs) (l : List UInt8) (i : Int) (hi : B64 i) (sv : Value) (w : World) (hown : OwnB B w sv l) (f : Fit B w) (hl : l.length ≤ 890000000) (ht : Tb B w) :
    Calls Tryd.prog 73 #[sv, .int .i64 i, .int .i64 10] w (PutPost B w (l ++ Lib.itoa i)) := by
  obtain ⟨ao, cap, rfl⟩ := hown.form
  have HO := Lib.hid hown; have HF := Lib.hid f; have HL := Lib.hid hl; have HT := Lib.hid ht; have HI := Lib.hid hi
  clear hown f hl ht hi
  go_enter Tryd.func73, Tryd.ntmps73
  go_wp2_with fail
  refine (appendInt_in B l i HI.out _ _ HO.out HF.out HL.out HT.out).mono ?_
  rintro e w2 ⟨v2, rfl, o2, r2⟩
  have HO2 := Lib.hid o2; have HR2 := Lib.hid r2
  clear o2 r2
  go_wp2
  go_ret
  exact ⟨_, rfl, HO2.out, HR2.out⟩
end Go.Proofs.YtcihideabmpmjaaDoor
