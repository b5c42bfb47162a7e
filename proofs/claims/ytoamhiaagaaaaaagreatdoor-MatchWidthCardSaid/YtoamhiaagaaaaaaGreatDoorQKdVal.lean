/- package kind: the writing of value types. -/
import Derived.Test.YtoamhiaagaaaaaaGreatDoorQKdWord
import Derived.Lib.ItoaLen
namespace Go.Proofs.YtoamhiaagaaaaaaGreatDoor
open Go.RowKit

theorem heapT_len (h : Hp) (hn : B64 h.n) : (heapT h).length ≤ 40 := by
  have hi : (Lib.itoa h.n).length ≤ 21 := Lib.itoa_length_le h.n hn.1 hn.2
  have hw : (wordT h.k).length ≤ 8 := by
    by_cases hk : ∃ j : Nat, j < 12 ∧ h.k = 1 + j
    · obtain ⟨j, hj, e⟩ := hk
      rw [e, wordT_at j hj]; exact words_small j
    · rw [wordT_none (fun j hj e => hk ⟨j, hj, e⟩)]; decide
  unfold heapT
  repeat' split
  · omega
  · simp; omega
  · simp; omega
  · omega
theorem putHeap_any (B : Bs) (l : List UInt8) (h : Hp) (hn : B64 h.n) (sv : Value) (w : World) (hown : OwnB B w sv l) (hB : Fit B w) (hl : l.length ≤ 880000000) (ht : Tb B w) :
    Calls Tryz.prog 122 #[sv, .agg #[.int .i64 h.k, .int .i64 h.n]] w (PutPost B w (l ++ heapT h)) := by
  obtain ⟨k, n⟩ := h
  unfold heapT
  dsimp only at hn ⊢
  by_cases h1 : k = 13
  · subst h1; exact putHeap_idx B l n hn sv w hown hB (by omega) ht
  by_cases h2 : k = 14
  · subst h2; exact putHeap_rec B l n hn sv w hown hB hl ht
  by_cases h3 : k = 15
  · subst h3; exact putHeap_def B l n hn sv w hown hB hl ht
  · rw [if_neg h1, if_neg h2, if_neg h3]
    obtain ⟨ao, cap, rfl⟩ := hown.form
    exact putHeap_word B l k n (by simpa using h1) (by simpa using h2) (by simpa using h3) ao l.length cap rfl w hown hB hl
set_option maxRecDepth 100000 in
set_option maxHeartbeats 4000000 in
theorem putVal_any (B : Bs) (l : List UInt8) (v : Vl) (hn : B64 v.n) (sv : Value) (w : World) (hown : OwnB B w sv l) (hB : Fit B w) (hl : l.length ≤ 800000000) (ht : Tb B w) :
    Calls Tryz.prog 134 #[sv, .agg (cellsV v).toArray] w (PutPost B w (l ++ valT v)) := by
  obtain ⟨k, nl, h, n⟩ := v
  simp only [cellsV]
  obtain ⟨ao, cap, rfl⟩ := hown.form
  obtain ⟨W0, hW0⟩ : ∃ W0, w.alloc (.cells #[.int .i64 k, .bool nl, .int .i64 h, .int .i64 n] 28) = W0 := ⟨_, rfl⟩
  have hwr : Wr B w W0 := by rw [← hW0]; exact Wr.new hB _
  have z0 : W0.heap[w.heap.size]? = some (.cells #[.int .i64 k, .bool nl, .int .i64 h, .int .i64 n] 28 (0, 0)) := by rw [← hW0]; exact heap_alloc_at _ _ rfl
  have hO : OwnB B W0 (.slice ao l.length cap) l := by rw [← hW0]; exact hown.alloc _
  have HWx := Lib.hid hW0; have HW0 := Lib.hid hwr; have Z0 := Lib.hid z0; have HO0 := Lib.hid hO; have HT := Lib.hid (ht.on hwr)
  have HNN := Lib.hid hn; have HL := Lib.hid hl; have HB := Lib.hid hB
  have HO0x := HO0; have HW0x := HW0
  rw [← HWx.out] at HO0x HW0x
  clear hn hown ht hl hB hwr z0 hO hW0
  by_cases h1 : k = 1
  · subst h1; show Calls _ _ _ _ (PutPost B w (l ++ [105, 51, 50]))
    go_enter Tryz.func134, Tryz.ntmps134
    have HFx1 := Lib.hid (HB.out.on HW0x.out)
    go_wp2_with (at_builtin; refine wpList_ap_str rfl _ _ rfl rfl HO0x.out ⟨#[105, 51, 50]⟩ rfl HFx1.out ?c1 ?_)
    case c1 => have := HL.out; have e : (⟨#[105, 51, 50]⟩ : ByteArray).size = 3 := rfl; omega
    intro v1 w1 ho1 hv1
    have hr1 := HW0x.out.trans hv1
    obtain ⟨L1, hL1⟩ : ∃ L, l ++ [105, 51, 50] = L := ⟨_, rfl⟩
    have hb1 : L1.length ≤ 800000003 := by have := HL.out; rw [← hL1, List.length_append]; simp; omega
    have ho1 : OwnB B w1 v1 L1 := by rw [← hL1]; exact ho1
    obtain ⟨a1, c1, rfl⟩ := ho1.form
    obtain ⟨n1, hn1⟩ : ∃ n, L1.length = n := ⟨_, rfl⟩
    rw [hn1] at ho1 hb1 ⊢
    have HO1 := Lib.hid ho1; have HW1 := Lib.hid hr1; have HV1 := Lib.hid hv1; have HE1 := Lib.hid hL1; have HN1 := Lib.hid hn1; have HK1 := Lib.hid hb1
    clear ho1 hr1 hv1 hL1 hn1 hb1
    go_wp2
    go_ret
    exact ⟨_, rfl, by rw [HE1.out]; exact HO1.out, HW1.out⟩
  by_cases h2 : k = 2
  · subst h2; show Calls _ _ _ _ (PutPost B w (l ++ [105, 54, 52]))
    go_enter Tryz.func134, Tryz.ntmps134
    have HFx1 := Lib.hid (HB.out.on HW0x.out)
    go_wp2_with (at_builtin; refine wpList_ap_str rfl _ _ rfl rfl HO0x.out ⟨#[105, 54, 52]⟩ rfl HFx1.out ?c1 ?_)
    case c1 => have := HL.out; have e : (⟨#[105, 54, 52]⟩ : ByteArray).size = 3 := rfl; omega
    intro v1 w1 ho1 hv1
    have hr1 := HW0x.out.trans hv1
    obtain ⟨L1, hL1⟩ : ∃ L, l ++ [105, 54, 52] = L := ⟨_, rfl⟩
    have hb1 : L1.length ≤ 800000003 := by have := HL.out; rw [← hL1, List.length_append]; simp; omega
    have ho1 : OwnB B w1 v1 L1 := by rw [← hL1]; exact ho1
    obtain ⟨a1, c1, rfl⟩ := ho1.form
    obtain ⟨n1, hn1⟩ : ∃ n, L1.length = n := ⟨_, rfl⟩
    rw [hn1] at ho1 hb1 ⊢
    have HO1 := Lib.hid ho1; have HW1 := Lib.hid hr1; have HV1 := Lib.hid hv1; have HE1 := Lib.hid hL1; have HN1 := Lib.hid hn1; have HK1 := Lib.hid hb1
    clear ho1 hr1 hv1 hL1 hn1 hb1
    go_wp2
    go_ret
    exact ⟨_, rfl, by rw [HE1.out]; exact HO1.out, HW1.out⟩
  by_cases h3 : k = 3
  · subst h3
    show Calls _ _ _ _ (PutPost B w (l ++ ([40, 114, 101, 102, 32] ++ (if nl then [110, 117, 108, 108, 32] else []) ++ heapT ⟨h, n⟩ ++ [41])))
    have HL5 := Lib.hid (heapT_len ⟨h, n⟩ HNN.out)
    cases nl
    · go_enter Tryz.func134, Tryz.ntmps134
      have HFx1 := Lib.hid (HB.out.on HW0x.out)
      go_wp2_with (at_builtin; refine wpList_ap_str rfl _ _ rfl rfl HO0x.out ⟨#[40, 114, 101, 102, 32]⟩ rfl HFx1.out ?c1 ?_)
      case c1 => have := HL.out; have e : (⟨#[40, 114, 101, 102, 32]⟩ : ByteArray).size = 5 := rfl; omega
      intro v1 w1 ho1 hv1
      have hr1 := HW0x.out.trans hv1
      obtain ⟨L1, hL1⟩ : ∃ L, l ++ [40, 114, 101, 102, 32] = L := ⟨_, rfl⟩
      have hb1 : L1.length ≤ 800000005 := by have := HL.out; rw [← hL1, List.length_append]; simp; omega
      have ho1 : OwnB B w1 v1 L1 := by rw [← hL1]; exact ho1
      obtain ⟨a1, c1, rfl⟩ := ho1.form
      obtain ⟨n1, hn1⟩ : ∃ n, L1.length = n := ⟨_, rfl⟩
      rw [hn1] at ho1 hb1 ⊢
      have HO1 := Lib.hid ho1; have HW1 := Lib.hid hr1; have HV1 := Lib.hid hv1; have HE1 := Lib.hid hL1; have HN1 := Lib.hid hn1; have HK1 := Lib.hid hb1
      clear ho1 hr1 hv1 hL1 hn1 hb1
      have hv1 := HV1.out
      rw [HWx.out] at hv1
      have y0 := hv1.box Z0.out (by decide)
      have HT1 := Lib.hid (HT.out.on hv1)
      have HU1 := Lib.hid hv1
      have q1 := heap_cell y0 1
      have q2 := heap_cell y0 2
      have q3 := heap_cell y0 3
      simp at q1 q2 q3
      clear hv1 y0
      go_wp2_with fail
      refine (putHeap_any B L1 ⟨h, n⟩ HNN.out _ _ HO1.out (HB.out.on HW1.out) (by have := HK1.out; have := HN1.out; omega) HT1.out).mono ?_
      rintro e w3 ⟨v3, rfl, ho3, hb3⟩
      obtain ⟨L3, hL3⟩ : ∃ L3, L1 ++ heapT ⟨h, n⟩ = L3 := ⟨_, rfl⟩
      have hl3 : L3.length ≤ 800000060 := by have := HK1.out; have := HN1.out; have := HL5.out; rw [← hL3, List.length_append]; omega
      rw [hL3] at ho3
      obtain ⟨a3, c3, rfl⟩ := ho3.form
      obtain ⟨n3, hn3⟩ : ∃ n3, L3.length = n3 := ⟨_, rfl⟩
      rw [hn3] at ho3 ⊢
      have HO3 := Lib.hid ho3; have HW3 := Lib.hid (HW1.out.trans hb3); have HN3 := Lib.hid hn3; have HE3 := Lib.hid hL3; have HK3 := Lib.hid hl3
      clear ho3 hb3 hn3 hL3 hl3 q1 q2 q3
      have HCe4 := Lib.hid (chr_cells (c := 41) (heap_alloc_at w3 (.cells #[.int .u8 41] 5) rfl))
      have HFe4 := Lib.hid ((HB.out.on HW3.out).alloc (.cells #[.int .u8 41] 5)); have HOe4 := Lib.hid (HO3.out.alloc (.cells #[.int .u8 41] 5)); have HWe4 := Lib.hid (HW3.out.alloc (HB.out.on HW3.out) (.cells #[.int .u8 41] 5))
      go_wp2_with (at_builtin; refine wpList_ap_row rfl _ _ rfl rfl HOe4.out ⟨w3.heap.size, 0, none⟩ 1 1 [41] rfl rfl HCe4.out HFe4.out ?c1 ?_)
      case c1 => have := HK3.out; have := HN3.out; simp; omega
      intro v4 w4 ho4 hv4
      have hr4 := HWe4.out.trans hv4
      obtain ⟨L4, hL4⟩ : ∃ L, L3 ++ [41] = L := ⟨_, rfl⟩
      have hb4 : L4.length ≤ 800000061 := by have := HK3.out; have := HN3.out; rw [← hL4, List.length_append]; simp; omega
      have ho4 : OwnB B w4 v4 L4 := by rw [← hL4]; exact ho4
      obtain ⟨a4, c4, rfl⟩ := ho4.form
      obtain ⟨n4, hn4⟩ : ∃ n, L4.length = n := ⟨_, rfl⟩
      rw [hn4] at ho4 hb4 ⊢
      have HO4 := Lib.hid ho4; have HW4 := Lib.hid hr4; have HV4 := Lib.hid hv4; have HE4 := Lib.hid hL4; have HN4 := Lib.hid hn4; have HK4 := Lib.hid hb4
      clear ho4 hr4 hv4 hL4 hn4 hb4
      go_wp2
      go_ret
      refine ⟨_, rfl, ?_, HW4.out⟩
      have := HO4.out
      rw [← HE4.out, ← HE3.out, ← HE1.out] at this
      simpa [List.append_assoc] using this
    · go_enter Tryz.func134, Tryz.ntmps134
      have HFx1 := Lib.hid (HB.out.on HW0x.out)
      go_wp2_with (at_builtin; refine wpList_ap_str rfl _ _ rfl rfl HO0x.out ⟨#[40, 114, 101, 102, 32]⟩ rfl HFx1.out ?c1 ?_)
      case c1 => have := HL.out; have e : (⟨#[40, 114, 101, 102, 32]⟩ : ByteArray).size = 5 := rfl; omega
      intro v1 w1 ho1 hv1
      have hr1 := HW0x.out.trans hv1
      obtain ⟨L1, hL1⟩ : ∃ L, l ++ [40, 114, 101, 102, 32] = L := ⟨_, rfl⟩
      have hb1 : L1.length ≤ 800000005 := by have := HL.out; rw [← hL1, List.length_append]; simp; omega
      have ho1 : OwnB B w1 v1 L1 := by rw [← hL1]; exact ho1
      obtain ⟨a1, c1, rfl⟩ := ho1.form
      obtain ⟨n1, hn1⟩ : ∃ n, L1.length = n := ⟨_, rfl⟩
      rw [hn1] at ho1 hb1 ⊢
      have HO1 := Lib.hid ho1; have HW1 := Lib.hid hr1; have HV1 := Lib.hid hv1; have HE1 := Lib.hid hL1; have HN1 := Lib.hid hn1; have HK1 := Lib.hid hb1
      clear ho1 hr1 hv1 hL1 hn1 hb1
      have hv1 := HV1.out
      rw [HWx.out] at hv1
      have y0 := hv1.box Z0.out (by decide)
      have HT1 := Lib.hid (HT.out.on hv1)
      have HU1 := Lib.hid hv1
      have q1 := heap_cell y0 1
      have q2 := heap_cell y0 2
      have q3 := heap_cell y0 3
      simp at q1 q2 q3
      clear hv1 y0
      have HFx2 := Lib.hid (HB.out.on HW1.out)
      go_wp2_with (at_builtin; refine wpList_ap_str rfl _ _ rfl rfl HO1.out ⟨#[110, 117, 108, 108, 32]⟩ rfl HFx2.out ?c1 ?_)
      case c1 => have := HK1.out; have := HN1.out; have e : (⟨#[110, 117, 108, 108, 32]⟩ : ByteArray).size = 5 := rfl; omega
      intro v2 w2 ho2 hv2
      have hr2 := HW1.out.trans hv2
      obtain ⟨L2, hL2⟩ : ∃ L, L1 ++ [110, 117, 108, 108, 32] = L := ⟨_, rfl⟩
      have hb2 : L2.length ≤ 800000010 := by have := HK1.out; have := HN1.out; rw [← hL2, List.length_append]; simp; omega
      have ho2 : OwnB B w2 v2 L2 := by rw [← hL2]; exact ho2
      obtain ⟨a2, c2, rfl⟩ := ho2.form
      obtain ⟨n2, hn2⟩ : ∃ n, L2.length = n := ⟨_, rfl⟩
      rw [hn2] at ho2 hb2 ⊢
      have HO2 := Lib.hid ho2; have HW2 := Lib.hid hr2; have HV2 := Lib.hid hv2; have HE2 := Lib.hid hL2; have HN2 := Lib.hid hn2; have HK2 := Lib.hid hb2
      clear ho2 hr2 hv2 hL2 hn2 hb2
      clear q1 q2 q3
      have hv2 := HU1.out.trans HV2.out
      have y0 := hv2.box Z0.out (by decide)
      have HT2 := Lib.hid (HT.out.on hv2)
      have q2 := heap_cell y0 2
      have q3 := heap_cell y0 3
      simp at q2 q3
      clear hv2 y0
      go_wp2_with fail
      refine (putHeap_any B L2 ⟨h, n⟩ HNN.out _ _ HO2.out (HB.out.on HW2.out) (by have := HK2.out; have := HN2.out; omega) HT2.out).mono ?_
      rintro e w3 ⟨v3, rfl, ho3, hb3⟩
      obtain ⟨L3, hL3⟩ : ∃ L3, L2 ++ heapT ⟨h, n⟩ = L3 := ⟨_, rfl⟩
      have hl3 : L3.length ≤ 800000060 := by have := HK2.out; have := HN2.out; have := HL5.out; rw [← hL3, List.length_append]; omega
      rw [hL3] at ho3
      obtain ⟨a3, c3, rfl⟩ := ho3.form
      obtain ⟨n3, hn3⟩ : ∃ n3, L3.length = n3 := ⟨_, rfl⟩
      rw [hn3] at ho3 ⊢
      have HO3 := Lib.hid ho3; have HW3 := Lib.hid (HW2.out.trans hb3); have HN3 := Lib.hid hn3; have HE3 := Lib.hid hL3; have HK3 := Lib.hid hl3
      clear ho3 hb3 hn3 hL3 hl3 q2 q3
      have HCe4 := Lib.hid (chr_cells (c := 41) (heap_alloc_at w3 (.cells #[.int .u8 41] 5) rfl))
      have HFe4 := Lib.hid ((HB.out.on HW3.out).alloc (.cells #[.int .u8 41] 5)); have HOe4 := Lib.hid (HO3.out.alloc (.cells #[.int .u8 41] 5)); have HWe4 := Lib.hid (HW3.out.alloc (HB.out.on HW3.out) (.cells #[.int .u8 41] 5))
      go_wp2_with (at_builtin; refine wpList_ap_row rfl _ _ rfl rfl HOe4.out ⟨w3.heap.size, 0, none⟩ 1 1 [41] rfl rfl HCe4.out HFe4.out ?c1 ?_)
      case c1 => have := HK3.out; have := HN3.out; simp; omega
      intro v4 w4 ho4 hv4
      have hr4 := HWe4.out.trans hv4
      obtain ⟨L4, hL4⟩ : ∃ L, L3 ++ [41] = L := ⟨_, rfl⟩
      have hb4 : L4.length ≤ 800000061 := by have := HK3.out; have := HN3.out; rw [← hL4, List.length_append]; simp; omega
      have ho4 : OwnB B w4 v4 L4 := by rw [← hL4]; exact ho4
      obtain ⟨a4, c4, rfl⟩ := ho4.form
      obtain ⟨n4, hn4⟩ : ∃ n, L4.length = n := ⟨_, rfl⟩
      rw [hn4] at ho4 hb4 ⊢
      have HO4 := Lib.hid ho4; have HW4 := Lib.hid hr4; have HV4 := Lib.hid hv4; have HE4 := Lib.hid hL4; have HN4 := Lib.hid hn4; have HK4 := Lib.hid hb4
      clear ho4 hr4 hv4 hL4 hn4 hb4
      go_wp2
      go_ret
      refine ⟨_, rfl, ?_, HW4.out⟩
      have := HO4.out
      rw [← HE4.out, ← HE3.out, ← HE2.out, ← HE1.out] at this
      simpa [List.append_assoc] using this
  by_cases h4 : k = 4
  · subst h4; show Calls _ _ _ _ (PutPost B w (l ++ [98, 111, 116]))
    go_enter Tryz.func134, Tryz.ntmps134
    have HFx1 := Lib.hid (HB.out.on HW0x.out)
    go_wp2_with (at_builtin; refine wpList_ap_str rfl _ _ rfl rfl HO0x.out ⟨#[98, 111, 116]⟩ rfl HFx1.out ?c1 ?_)
    case c1 => have := HL.out; have e : (⟨#[98, 111, 116]⟩ : ByteArray).size = 3 := rfl; omega
    intro v1 w1 ho1 hv1
    have hr1 := HW0x.out.trans hv1
    obtain ⟨L1, hL1⟩ : ∃ L, l ++ [98, 111, 116] = L := ⟨_, rfl⟩
    have hb1 : L1.length ≤ 800000003 := by have := HL.out; rw [← hL1, List.length_append]; simp; omega
    have ho1 : OwnB B w1 v1 L1 := by rw [← hL1]; exact ho1
    obtain ⟨a1, c1, rfl⟩ := ho1.form
    obtain ⟨n1, hn1⟩ : ∃ n, L1.length = n := ⟨_, rfl⟩
    rw [hn1] at ho1 hb1 ⊢
    have HO1 := Lib.hid ho1; have HW1 := Lib.hid hr1; have HV1 := Lib.hid hv1; have HE1 := Lib.hid hL1; have HN1 := Lib.hid hn1; have HK1 := Lib.hid hb1
    clear ho1 hr1 hv1 hL1 hn1 hb1
    go_wp2
    go_ret
    exact ⟨_, rfl, by rw [HE1.out]; exact HO1.out, HW1.out⟩
  have e0 : valT ⟨k, nl, h, n⟩ = [110, 111, 110, 101] := by unfold valT; rw [if_neg h1, if_neg h2, if_neg h3, if_neg h4]
  rw [e0]
  clear e0
  go_enter Tryz.func134, Tryz.ntmps134
  have HFx1 := Lib.hid (HB.out.on HW0x.out)
  go_wp2_with (at_builtin; refine wpList_ap_str rfl _ _ rfl rfl HO0x.out ⟨#[110, 111, 110, 101]⟩ rfl HFx1.out ?c1 ?_)
  case c1 => have := HL.out; have e : (⟨#[110, 111, 110, 101]⟩ : ByteArray).size = 4 := rfl; omega
  intro v1 w1 ho1 hv1
  have hr1 := HW0x.out.trans hv1
  obtain ⟨L1, hL1⟩ : ∃ L, l ++ [110, 111, 110, 101] = L := ⟨_, rfl⟩
  have hb1 : L1.length ≤ 800000004 := by have := HL.out; rw [← hL1, List.length_append]; simp; omega
  have ho1 : OwnB B w1 v1 L1 := by rw [← hL1]; exact ho1
  obtain ⟨a1, c1, rfl⟩ := ho1.form
  obtain ⟨n1, hn1⟩ : ∃ n, L1.length = n := ⟨_, rfl⟩
  rw [hn1] at ho1 hb1 ⊢
  have HO1 := Lib.hid ho1; have HW1 := Lib.hid hr1; have HV1 := Lib.hid hv1; have HE1 := Lib.hid hL1; have HN1 := Lib.hid hn1; have HK1 := Lib.hid hb1
  clear ho1 hr1 hv1 hL1 hn1 hb1
  go_wp2
  go_ret
  exact ⟨_, rfl, by rw [HE1.out]; exact HO1.out, HW1.out⟩
end Go.Proofs.YtoamhiaagaaaaaaGreatDoor
