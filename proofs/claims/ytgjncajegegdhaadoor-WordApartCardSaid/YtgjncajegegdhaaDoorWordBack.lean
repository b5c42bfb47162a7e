/- Layer 21: WordBack: it returns true. -/
import Derived.Test.YtgjncajegegdhaaDoorWordLaws
namespace Go.Proofs.YtgjncajegegdhaaDoor
open Go.RowKit

theorem pack_open {k r n : Int} (h0 : 0 ≤ n) (h1 : n < 18446744073709551616) (h : packOk k r n = true) :
    (0 ≤ packW k r n ∧ packW k r n < 18446744073709551616) ∧ openOk k (packW k r n) = true ∧ openV k (packW k r n) = val k r n := by
  by_cases k3 : k = 3
  · subst k3
    have ht : there r n = true := by simpa [packOk] using h
    have hb := refs_there ht
    have hw : packW 3 r n = 8 * n + r := by simp [packW, h]
    have e1 : (8 * n + r) % 8 = r := by omega
    have e2 : (8 * n + r) / 8 = n := by omega
    have ho : openOk 3 (packW 3 r n) = true := by rw [hw]; simp [openOk, e1, e2, ht]
    refine ⟨by rw [hw]; omega, ho, ?_⟩
    rw [openV, if_pos ho, hw]
    simp [openR, openN, ofK, ofN, e1, e2, ht, val]
  · have hx : openOk k n = true ∧ r = 0 := by simpa [packOk, k3] using h
    have hw : packW k r n = n := by simp [packW, h, k3]
    rw [hw]
    refine ⟨⟨h0, h1⟩, hx.1, ?_⟩
    rw [openV, if_pos hx.1]
    simp [openR, openN, k3, val, hx.2]

theorem packW_inj {k r n r' n' : Int} (h : packOk k r n = true) (h' : packOk k r' n' = true) (e : packW k r n = packW k r' n') : r = r' ∧ n = n' := by
  by_cases k3 : k = 3
  · subst k3
    have ht : there r n = true := by simpa [packOk] using h
    have ht' : there r' n' = true := by simpa [packOk] using h'
    have hb := refs_there ht
    have hb' := refs_there ht'
    simp [packW, h, h'] at e
    omega
  · have hx : openOk k n = true ∧ r = 0 := by simpa [packOk, k3] using h
    have hx' : openOk k n' = true ∧ r' = 0 := by simpa [packOk, k3] using h'
    simp [packW, h, h', k3] at e
    exact ⟨hx.2.trans hx'.2.symm, e⟩

theorem open_pack {k x : Int} (h0 : 0 ≤ x) (h1 : x < 18446744073709551616) (h : openOk k x = true) :
    ∃ r n, openV k x = val k r n ∧ (0 ≤ n ∧ n < 18446744073709551616) ∧ packW k r n = x ∧ packE k r n = 0 := by
  refine ⟨openR k x, openN k x, by simp [openV, h, val], ?_⟩
  by_cases k3 : k = 3
  · subst k3
    have ht : there (x % 8) (x / 8) = true := by simpa [openOk] using h
    have e1 : openR 3 x = x % 8 := by simp [openR, ofK, ht]
    have e2 : openN 3 x = x / 8 := by simp [openN, ofN, ht]
    rw [e1, e2]
    have hp : packOk 3 (x % 8) (x / 8) = true := by simpa [packOk] using ht
    refine ⟨by omega, ?_, by simp [packE, hp]⟩
    simp [packW, hp]; omega
  · have e1 : openR k x = 0 := by simp [openR, k3]
    have e2 : openN k x = x := by simp [openN, k3]
    rw [e1, e2]
    have hp : packOk k 0 x = true := by simpa [packOk, k3] using h
    exact ⟨⟨h0, h1⟩, by simp [packW, hp, k3], by simp [packE, hp]⟩

theorem small_of (m : Int) (h0 : 0 ≤ m) :
    ofK (8 * (m % 2147483648) + 1) = 1 ∧ ofN (8 * (m % 2147483648) + 1) = m % 2147483648 ∧ ofE (8 * (m % 2147483648) + 1) = 0 ∧
    numF (8 * (m % 2147483648) + 1) false = m % 2147483648 ∧ ∃ q, numF (8 * (m % 2147483648) + 1) true = q ∧ 0 ≤ q ∧ (q % 2147483648 == m % 2147483648) = true := by
  obtain ⟨y, hy, hy0, hy1⟩ : ∃ y, y = m % 2147483648 ∧ 0 ≤ y ∧ y < 2147483648 := ⟨_, rfl, by omega, by omega⟩
  rw [← hy]
  have e1 : (8 * y + 1) % 8 = 1 := by omega
  have e2 : (8 * y + 1) / 8 = y := by omega
  have ht : there 1 y = true := by simp [there, hy1]
  refine ⟨by simp [ofK, e1, e2, ht], by simp [ofN, e1, e2, ht], by simp [ofE, e1, e2, ht], by simp [numF, isI31, e1, e2, ht], _, rfl, ?_, ?_⟩
  · simp [numF, isI31, e1, e2, ht]
    split <;> omega
  · simp [numF, isI31, e1, e2, ht]
    split <;> omega

theorem back_n_skip_o (k r n r2 n2 k2 kind x m o2 o3 : Int) (w : World) (h0 : 0 ≤ n) (h1 : n < 18446744073709551616) (i0 : 0 ≤ n2) (i1 : n2 < 18446744073709551616) (g0 : 0 ≤ x) (g1 : x < 18446744073709551616) (m0 : 0 ≤ m) (m1 : m < 18446744073709551616) (ht : Tab w) (VE : Hid (packE k r n = 2)) (HOE : Hid (openE kind x = 0)) (o3b : Hid (0 ≤ o3 ∧ o3 < 18446744073709551616)) (PW : Hid (packW kind o2 o3 = x)) (PE : Hid (packE kind o2 o3 = 0))
    (HO : Hid (openV kind x = val kind o2 o3)) :
    Calls Tryd.prog 5 #[val k r n, val k2 r2 n2, .int .i64 kind, .int .u64 x, .int .u64 m] w fun e w' => e = .returned (.bool true) ∧ Below w.heap.size w w' := by
  obtain ⟨s1, s2, s3, s4, q, s5, hq0, hq⟩ := small_of m m0
  have S1 := Lib.hid s1; have S2 := Lib.hid s2; have S3 := Lib.hid s3; have S4 := Lib.hid s4; have S5 := Lib.hid s5
  clear s1 s2 s3 s4 s5
  have b0 : Below w.heap.size w ((w.alloc (.cells #[.int .i64 k, .int .i64 r, .int .u64 n] 36)).alloc (.cells #[.int .i64 k2, .int .i64 r2, .int .u64 n2] 36)) := ((Below.refl _ _).alloc (Nat.le_refl _) _).alloc (by simp) _
  have Ht := Lib.hid (ht.below b0)
  have B0 := Lib.hid b0; clear b0
  unfold val
  go_enter Tryd.func5, Tryd.ntmps5
  go_wp2_with fail
  refine (Pack_any _ _ _ _ h0 h1 Ht.out).mono ?_
  rintro e w1 ⟨rfl, hb1⟩
  obtain ⟨hc1, hf1⟩ := bcell hb1
  have hz1 : w.heap.size + 1 < w1.heap.size := by have := hb1.size; (try simp at this); omega
  have hy1 : w.heap.size < w1.heap.size := by omega
  have B1 := Lib.hid (B0.out.trans (hb1.mono (by first | omega | (simp; done) | (simp; omega))))
  have Ht1 := Lib.hid (Ht.out.below hb1)
  clear B0 Ht hb1
  rw [VE.out]
  go_wp2_with fail
  refine (Pack_any _ _ _ _ i0 i1 Ht1.out).mono ?_
  rintro e w2 ⟨rfl, hb2⟩
  obtain ⟨hc2, hf2⟩ := bcell hb2
  have hz2 : w.heap.size + 1 < w2.heap.size := by have := hb2.size; (try simp at this); omega
  have hy2 : w.heap.size < w2.heap.size := by omega
  have B2 := Lib.hid (B1.out.trans (hb2.mono (by first | omega | (simp; done) | (simp; omega))))
  have Ht2 := Lib.hid (Ht1.out.below hb2)
  clear B1 Ht1 hb2
  go_wp2_with fail
  refine (Open_any _ _ _ g0 g1 Ht2.out).mono ?_
  rintro e w4 ⟨rfl, hb4⟩
  obtain ⟨hc4, hf4⟩ := bcell hb4
  have hz4 : w.heap.size + 1 < w4.heap.size := by have := hb4.size; (try simp at this); omega
  have hy4 : w.heap.size < w4.heap.size := by omega
  have B4 := Lib.hid ((B2.out.trans (hb4.mono (by first | omega | (simp; done) | (simp; omega)))).alloc (by omega) (.cells #[.int .i64 kind, .int .i64 o2, .int .u64 o3] 36))
  have Ht4 := Lib.hid (ht.below B4.out)
  clear B2 Ht2 hb4
  rw [HO.out, HOE.out]
  unfold val
  go_wp2_with fail
  refine (Pack_any _ _ _ _ o3b.out.1 o3b.out.2 Ht4.out).mono ?_
  rintro e w5 ⟨rfl, hb5⟩
  obtain ⟨hc5, hf5⟩ := bcell hb5
  have B5 := Lib.hid (B4.out.trans (hb5.mono (by first | omega | (simp; done) | (simp; omega))))
  have Ht5 := Lib.hid (ht.below B5.out)
  clear B4 Ht4 hb5
  rw [PW.out, PE.out]
  go_wp2_with fail
  refine (I31_any _ _ m0 m1).mono ?_
  rintro e w' ⟨rfl, rfl⟩
  go_wp2_with fail
  refine (Of_any _ _ (by omega) (by omega) Ht5.out).mono ?_
  rintro e w' ⟨rfl, rfl⟩
  rw [S1.out, S2.out, S3.out]
  go_wp2_with fail
  refine (Number_any _ _ _ (by omega) (by omega) Ht5.out).mono ?_
  rintro e w' ⟨rfl, rfl⟩
  rw [S4.out]
  go_wp2_with fail
  refine (Number_any _ _ _ (by omega) (by omega) Ht5.out).mono ?_
  rintro e w' ⟨rfl, rfl⟩
  rw [S5.out]
  go_wp2_with fail
  refine (known_any _ Ht5.out).mono ?_
  rintro e w6 ⟨rfl, hb6⟩
  have B6 := Lib.hid (B5.out.trans (hb6.mono B5.out.size))
  go_wp2
  go_ret
  exact ⟨rfl, B6.out⟩

theorem back_n_skip_n (k r n r2 n2 k2 kind x m o1 o2 o3 : Int) (w : World) (h0 : 0 ≤ n) (h1 : n < 18446744073709551616) (i0 : 0 ≤ n2) (i1 : n2 < 18446744073709551616) (g0 : 0 ≤ x) (g1 : x < 18446744073709551616) (m0 : 0 ≤ m) (m1 : m < 18446744073709551616) (ht : Tab w) (VE : Hid (packE k r n = 2)) (HOE : Hid (openE kind x = 2))
    (HO : Hid (openV kind x = val o1 o2 o3)) :
    Calls Tryd.prog 5 #[val k r n, val k2 r2 n2, .int .i64 kind, .int .u64 x, .int .u64 m] w fun e w' => e = .returned (.bool true) ∧ Below w.heap.size w w' := by
  obtain ⟨s1, s2, s3, s4, q, s5, hq0, hq⟩ := small_of m m0
  have S1 := Lib.hid s1; have S2 := Lib.hid s2; have S3 := Lib.hid s3; have S4 := Lib.hid s4; have S5 := Lib.hid s5
  clear s1 s2 s3 s4 s5
  have b0 : Below w.heap.size w ((w.alloc (.cells #[.int .i64 k, .int .i64 r, .int .u64 n] 36)).alloc (.cells #[.int .i64 k2, .int .i64 r2, .int .u64 n2] 36)) := ((Below.refl _ _).alloc (Nat.le_refl _) _).alloc (by simp) _
  have Ht := Lib.hid (ht.below b0)
  have B0 := Lib.hid b0; clear b0
  unfold val
  go_enter Tryd.func5, Tryd.ntmps5
  go_wp2_with fail
  refine (Pack_any _ _ _ _ h0 h1 Ht.out).mono ?_
  rintro e w1 ⟨rfl, hb1⟩
  obtain ⟨hc1, hf1⟩ := bcell hb1
  have hz1 : w.heap.size + 1 < w1.heap.size := by have := hb1.size; (try simp at this); omega
  have hy1 : w.heap.size < w1.heap.size := by omega
  have B1 := Lib.hid (B0.out.trans (hb1.mono (by first | omega | (simp; done) | (simp; omega))))
  have Ht1 := Lib.hid (Ht.out.below hb1)
  clear B0 Ht hb1
  rw [VE.out]
  go_wp2_with fail
  refine (Pack_any _ _ _ _ i0 i1 Ht1.out).mono ?_
  rintro e w2 ⟨rfl, hb2⟩
  obtain ⟨hc2, hf2⟩ := bcell hb2
  have hz2 : w.heap.size + 1 < w2.heap.size := by have := hb2.size; (try simp at this); omega
  have hy2 : w.heap.size < w2.heap.size := by omega
  have B2 := Lib.hid (B1.out.trans (hb2.mono (by first | omega | (simp; done) | (simp; omega))))
  have Ht2 := Lib.hid (Ht1.out.below hb2)
  clear B1 Ht1 hb2
  go_wp2_with fail
  refine (Open_any _ _ _ g0 g1 Ht2.out).mono ?_
  rintro e w4 ⟨rfl, hb4⟩
  obtain ⟨hc4, hf4⟩ := bcell hb4
  have hz4 : w.heap.size + 1 < w4.heap.size := by have := hb4.size; (try simp at this); omega
  have hy4 : w.heap.size < w4.heap.size := by omega
  have B4 := Lib.hid ((B2.out.trans (hb4.mono (by first | omega | (simp; done) | (simp; omega)))).alloc (by omega) (.cells #[.int .i64 o1, .int .i64 o2, .int .u64 o3] 36))
  have Ht4 := Lib.hid (ht.below B4.out)
  clear B2 Ht2 hb4
  rw [HO.out, HOE.out]
  unfold val
  go_wp2_with fail
  refine (I31_any _ _ m0 m1).mono ?_
  rintro e w' ⟨rfl, rfl⟩
  go_wp2_with fail
  refine (Of_any _ _ (by omega) (by omega) Ht4.out).mono ?_
  rintro e w' ⟨rfl, rfl⟩
  rw [S1.out, S2.out, S3.out]
  go_wp2_with fail
  refine (Number_any _ _ _ (by omega) (by omega) Ht4.out).mono ?_
  rintro e w' ⟨rfl, rfl⟩
  rw [S4.out]
  go_wp2_with fail
  refine (Number_any _ _ _ (by omega) (by omega) Ht4.out).mono ?_
  rintro e w' ⟨rfl, rfl⟩
  rw [S5.out]
  go_wp2_with fail
  refine (known_any _ Ht4.out).mono ?_
  rintro e w6 ⟨rfl, hb6⟩
  have B6 := Lib.hid (B4.out.trans (hb6.mono B4.out.size))
  go_wp2
  go_ret
  exact ⟨rfl, B6.out⟩

theorem back_v_bad_o (k r n r2 n2 k2 kind x m o2 o3 : Int) (w : World) (h0 : 0 ≤ n) (h1 : n < 18446744073709551616) (i0 : 0 ≤ n2) (i1 : n2 < 18446744073709551616) (g0 : 0 ≤ x) (g1 : x < 18446744073709551616) (m0 : 0 ≤ m) (m1 : m < 18446744073709551616) (ht : Tab w) (VE : Hid (packE k r n = 0)) (VB : Hid (0 ≤ packW k r n ∧ packW k r n < 18446744073709551616)) (VO : Hid (openV k (packW k r n) = val k r n)) (VOE : Hid (openE k (packW k r n) = 0)) (UE : Hid (packE k2 r2 n2 = 2)) (HOE : Hid (openE kind x = 0)) (o3b : Hid (0 ≤ o3 ∧ o3 < 18446744073709551616)) (PW : Hid (packW kind o2 o3 = x)) (PE : Hid (packE kind o2 o3 = 0))
    (HO : Hid (openV kind x = val kind o2 o3)) :
    Calls Tryd.prog 5 #[val k r n, val k2 r2 n2, .int .i64 kind, .int .u64 x, .int .u64 m] w fun e w' => e = .returned (.bool true) ∧ Below w.heap.size w w' := by
  obtain ⟨s1, s2, s3, s4, q, s5, hq0, hq⟩ := small_of m m0
  have S1 := Lib.hid s1; have S2 := Lib.hid s2; have S3 := Lib.hid s3; have S4 := Lib.hid s4; have S5 := Lib.hid s5
  clear s1 s2 s3 s4 s5
  have b0 : Below w.heap.size w ((w.alloc (.cells #[.int .i64 k, .int .i64 r, .int .u64 n] 36)).alloc (.cells #[.int .i64 k2, .int .i64 r2, .int .u64 n2] 36)) := ((Below.refl _ _).alloc (Nat.le_refl _) _).alloc (by simp) _
  have Ht := Lib.hid (ht.below b0)
  have B0 := Lib.hid b0; clear b0
  unfold val
  go_enter Tryd.func5, Tryd.ntmps5
  go_wp2_with fail
  refine (Pack_any _ _ _ _ h0 h1 Ht.out).mono ?_
  rintro e w1 ⟨rfl, hb1⟩
  obtain ⟨hc1, hf1⟩ := bcell hb1
  have hz1 : w.heap.size + 1 < w1.heap.size := by have := hb1.size; (try simp at this); omega
  have hy1 : w.heap.size < w1.heap.size := by omega
  have B1 := Lib.hid (B0.out.trans (hb1.mono (by first | omega | (simp; done) | (simp; omega))))
  have Ht1 := Lib.hid (Ht.out.below hb1)
  clear B0 Ht hb1
  rw [VE.out]
  go_wp2_with fail
  refine (Pack_any _ _ _ _ i0 i1 Ht1.out).mono ?_
  rintro e w2 ⟨rfl, hb2⟩
  obtain ⟨hc2, hf2⟩ := bcell hb2
  have hz2 : w.heap.size + 1 < w2.heap.size := by have := hb2.size; (try simp at this); omega
  have hy2 : w.heap.size < w2.heap.size := by omega
  have B2 := Lib.hid (B1.out.trans (hb2.mono (by first | omega | (simp; done) | (simp; omega))))
  have Ht2 := Lib.hid (Ht1.out.below hb2)
  clear B1 Ht1 hb2
  rw [UE.out]
  go_wp2_with fail
  refine (Open_any _ _ _ VB.out.1 VB.out.2 Ht2.out).mono ?_
  rintro e w3 ⟨rfl, hb3⟩
  obtain ⟨hc3, hf3⟩ := bcell hb3
  have hz3 : w.heap.size + 1 < w3.heap.size := by have := hb3.size; (try simp at this); omega
  have hy3 : w.heap.size < w3.heap.size := by omega
  have B3 := Lib.hid ((B2.out.trans (hb3.mono (by first | omega | (simp; done) | (simp; omega)))).alloc (by omega) (.cells #[.int .i64 k, .int .i64 r, .int .u64 n] 36))
  have Ht3 := Lib.hid (ht.below B3.out)
  clear B2 Ht2 hb3
  rw [VO.out, VOE.out]
  unfold val
  go_wp2_with fail
  refine (Open_any _ _ _ g0 g1 Ht3.out).mono ?_
  rintro e w4 ⟨rfl, hb4⟩
  obtain ⟨hc4, hf4⟩ := bcell hb4
  have hz4 : w.heap.size + 1 < w4.heap.size := by have := hb4.size; (try simp at this); omega
  have hy4 : w.heap.size < w4.heap.size := by omega
  have B4 := Lib.hid ((B3.out.trans (hb4.mono (by first | omega | (simp; done) | (simp; omega)))).alloc (by omega) (.cells #[.int .i64 kind, .int .i64 o2, .int .u64 o3] 36))
  have Ht4 := Lib.hid (ht.below B4.out)
  clear B3 Ht3 hb4
  rw [HO.out, HOE.out]
  unfold val
  go_wp2_with fail
  refine (Pack_any _ _ _ _ o3b.out.1 o3b.out.2 Ht4.out).mono ?_
  rintro e w5 ⟨rfl, hb5⟩
  obtain ⟨hc5, hf5⟩ := bcell hb5
  have B5 := Lib.hid (B4.out.trans (hb5.mono (by first | omega | (simp; done) | (simp; omega))))
  have Ht5 := Lib.hid (ht.below B5.out)
  clear B4 Ht4 hb5
  rw [PW.out, PE.out]
  go_wp2_with fail
  refine (I31_any _ _ m0 m1).mono ?_
  rintro e w' ⟨rfl, rfl⟩
  go_wp2_with fail
  refine (Of_any _ _ (by omega) (by omega) Ht5.out).mono ?_
  rintro e w' ⟨rfl, rfl⟩
  rw [S1.out, S2.out, S3.out]
  go_wp2_with fail
  refine (Number_any _ _ _ (by omega) (by omega) Ht5.out).mono ?_
  rintro e w' ⟨rfl, rfl⟩
  rw [S4.out]
  go_wp2_with fail
  refine (Number_any _ _ _ (by omega) (by omega) Ht5.out).mono ?_
  rintro e w' ⟨rfl, rfl⟩
  rw [S5.out]
  go_wp2_with fail
  refine (known_any _ Ht5.out).mono ?_
  rintro e w6 ⟨rfl, hb6⟩
  have B6 := Lib.hid (B5.out.trans (hb6.mono B5.out.size))
  go_wp2
  go_ret
  exact ⟨rfl, B6.out⟩

theorem back_v_bad_n (k r n r2 n2 k2 kind x m o1 o2 o3 : Int) (w : World) (h0 : 0 ≤ n) (h1 : n < 18446744073709551616) (i0 : 0 ≤ n2) (i1 : n2 < 18446744073709551616) (g0 : 0 ≤ x) (g1 : x < 18446744073709551616) (m0 : 0 ≤ m) (m1 : m < 18446744073709551616) (ht : Tab w) (VE : Hid (packE k r n = 0)) (VB : Hid (0 ≤ packW k r n ∧ packW k r n < 18446744073709551616)) (VO : Hid (openV k (packW k r n) = val k r n)) (VOE : Hid (openE k (packW k r n) = 0)) (UE : Hid (packE k2 r2 n2 = 2)) (HOE : Hid (openE kind x = 2))
    (HO : Hid (openV kind x = val o1 o2 o3)) :
    Calls Tryd.prog 5 #[val k r n, val k2 r2 n2, .int .i64 kind, .int .u64 x, .int .u64 m] w fun e w' => e = .returned (.bool true) ∧ Below w.heap.size w w' := by
  obtain ⟨s1, s2, s3, s4, q, s5, hq0, hq⟩ := small_of m m0
  have S1 := Lib.hid s1; have S2 := Lib.hid s2; have S3 := Lib.hid s3; have S4 := Lib.hid s4; have S5 := Lib.hid s5
  clear s1 s2 s3 s4 s5
  have b0 : Below w.heap.size w ((w.alloc (.cells #[.int .i64 k, .int .i64 r, .int .u64 n] 36)).alloc (.cells #[.int .i64 k2, .int .i64 r2, .int .u64 n2] 36)) := ((Below.refl _ _).alloc (Nat.le_refl _) _).alloc (by simp) _
  have Ht := Lib.hid (ht.below b0)
  have B0 := Lib.hid b0; clear b0
  unfold val
  go_enter Tryd.func5, Tryd.ntmps5
  go_wp2_with fail
  refine (Pack_any _ _ _ _ h0 h1 Ht.out).mono ?_
  rintro e w1 ⟨rfl, hb1⟩
  obtain ⟨hc1, hf1⟩ := bcell hb1
  have hz1 : w.heap.size + 1 < w1.heap.size := by have := hb1.size; (try simp at this); omega
  have hy1 : w.heap.size < w1.heap.size := by omega
  have B1 := Lib.hid (B0.out.trans (hb1.mono (by first | omega | (simp; done) | (simp; omega))))
  have Ht1 := Lib.hid (Ht.out.below hb1)
  clear B0 Ht hb1
  rw [VE.out]
  go_wp2_with fail
  refine (Pack_any _ _ _ _ i0 i1 Ht1.out).mono ?_
  rintro e w2 ⟨rfl, hb2⟩
  obtain ⟨hc2, hf2⟩ := bcell hb2
  have hz2 : w.heap.size + 1 < w2.heap.size := by have := hb2.size; (try simp at this); omega
  have hy2 : w.heap.size < w2.heap.size := by omega
  have B2 := Lib.hid (B1.out.trans (hb2.mono (by first | omega | (simp; done) | (simp; omega))))
  have Ht2 := Lib.hid (Ht1.out.below hb2)
  clear B1 Ht1 hb2
  rw [UE.out]
  go_wp2_with fail
  refine (Open_any _ _ _ VB.out.1 VB.out.2 Ht2.out).mono ?_
  rintro e w3 ⟨rfl, hb3⟩
  obtain ⟨hc3, hf3⟩ := bcell hb3
  have hz3 : w.heap.size + 1 < w3.heap.size := by have := hb3.size; (try simp at this); omega
  have hy3 : w.heap.size < w3.heap.size := by omega
  have B3 := Lib.hid ((B2.out.trans (hb3.mono (by first | omega | (simp; done) | (simp; omega)))).alloc (by omega) (.cells #[.int .i64 k, .int .i64 r, .int .u64 n] 36))
  have Ht3 := Lib.hid (ht.below B3.out)
  clear B2 Ht2 hb3
  rw [VO.out, VOE.out]
  unfold val
  go_wp2_with fail
  refine (Open_any _ _ _ g0 g1 Ht3.out).mono ?_
  rintro e w4 ⟨rfl, hb4⟩
  obtain ⟨hc4, hf4⟩ := bcell hb4
  have hz4 : w.heap.size + 1 < w4.heap.size := by have := hb4.size; (try simp at this); omega
  have hy4 : w.heap.size < w4.heap.size := by omega
  have B4 := Lib.hid ((B3.out.trans (hb4.mono (by first | omega | (simp; done) | (simp; omega)))).alloc (by omega) (.cells #[.int .i64 o1, .int .i64 o2, .int .u64 o3] 36))
  have Ht4 := Lib.hid (ht.below B4.out)
  clear B3 Ht3 hb4
  rw [HO.out, HOE.out]
  unfold val
  go_wp2_with fail
  refine (I31_any _ _ m0 m1).mono ?_
  rintro e w' ⟨rfl, rfl⟩
  go_wp2_with fail
  refine (Of_any _ _ (by omega) (by omega) Ht4.out).mono ?_
  rintro e w' ⟨rfl, rfl⟩
  rw [S1.out, S2.out, S3.out]
  go_wp2_with fail
  refine (Number_any _ _ _ (by omega) (by omega) Ht4.out).mono ?_
  rintro e w' ⟨rfl, rfl⟩
  rw [S4.out]
  go_wp2_with fail
  refine (Number_any _ _ _ (by omega) (by omega) Ht4.out).mono ?_
  rintro e w' ⟨rfl, rfl⟩
  rw [S5.out]
  go_wp2_with fail
  refine (known_any _ Ht4.out).mono ?_
  rintro e w6 ⟨rfl, hb6⟩
  have B6 := Lib.hid (B4.out.trans (hb6.mono B4.out.size))
  go_wp2
  go_ret
  exact ⟨rfl, B6.out⟩

theorem back_v_kind_o (k r n r2 n2 k2 kind x m o2 o3 : Int) (w : World) (h0 : 0 ≤ n) (h1 : n < 18446744073709551616) (i0 : 0 ≤ n2) (i1 : n2 < 18446744073709551616) (g0 : 0 ≤ x) (g1 : x < 18446744073709551616) (m0 : 0 ≤ m) (m1 : m < 18446744073709551616) (ht : Tab w) (VE : Hid (packE k r n = 0)) (VB : Hid (0 ≤ packW k r n ∧ packW k r n < 18446744073709551616)) (VO : Hid (openV k (packW k r n) = val k r n)) (VOE : Hid (openE k (packW k r n) = 0)) (UE : Hid (packE k2 r2 n2 = 0)) (kk : (k2 == k) = false) (HOE : Hid (openE kind x = 0)) (o3b : Hid (0 ≤ o3 ∧ o3 < 18446744073709551616)) (PW : Hid (packW kind o2 o3 = x)) (PE : Hid (packE kind o2 o3 = 0))
    (HO : Hid (openV kind x = val kind o2 o3)) :
    Calls Tryd.prog 5 #[val k r n, val k2 r2 n2, .int .i64 kind, .int .u64 x, .int .u64 m] w fun e w' => e = .returned (.bool true) ∧ Below w.heap.size w w' := by
  obtain ⟨s1, s2, s3, s4, q, s5, hq0, hq⟩ := small_of m m0
  have S1 := Lib.hid s1; have S2 := Lib.hid s2; have S3 := Lib.hid s3; have S4 := Lib.hid s4; have S5 := Lib.hid s5
  clear s1 s2 s3 s4 s5
  have b0 : Below w.heap.size w ((w.alloc (.cells #[.int .i64 k, .int .i64 r, .int .u64 n] 36)).alloc (.cells #[.int .i64 k2, .int .i64 r2, .int .u64 n2] 36)) := ((Below.refl _ _).alloc (Nat.le_refl _) _).alloc (by simp) _
  have Ht := Lib.hid (ht.below b0)
  have B0 := Lib.hid b0; clear b0
  unfold val
  go_enter Tryd.func5, Tryd.ntmps5
  go_wp2_with fail
  refine (Pack_any _ _ _ _ h0 h1 Ht.out).mono ?_
  rintro e w1 ⟨rfl, hb1⟩
  obtain ⟨hc1, hf1⟩ := bcell hb1
  have hz1 : w.heap.size + 1 < w1.heap.size := by have := hb1.size; (try simp at this); omega
  have hy1 : w.heap.size < w1.heap.size := by omega
  have B1 := Lib.hid (B0.out.trans (hb1.mono (by first | omega | (simp; done) | (simp; omega))))
  have Ht1 := Lib.hid (Ht.out.below hb1)
  clear B0 Ht hb1
  rw [VE.out]
  go_wp2_with fail
  refine (Pack_any _ _ _ _ i0 i1 Ht1.out).mono ?_
  rintro e w2 ⟨rfl, hb2⟩
  obtain ⟨hc2, hf2⟩ := bcell hb2
  have hz2 : w.heap.size + 1 < w2.heap.size := by have := hb2.size; (try simp at this); omega
  have hy2 : w.heap.size < w2.heap.size := by omega
  have B2 := Lib.hid (B1.out.trans (hb2.mono (by first | omega | (simp; done) | (simp; omega))))
  have Ht2 := Lib.hid (Ht1.out.below hb2)
  clear B1 Ht1 hb2
  rw [UE.out]
  go_wp2_with fail
  refine (Open_any _ _ _ VB.out.1 VB.out.2 Ht2.out).mono ?_
  rintro e w3 ⟨rfl, hb3⟩
  obtain ⟨hc3, hf3⟩ := bcell hb3
  have hz3 : w.heap.size + 1 < w3.heap.size := by have := hb3.size; (try simp at this); omega
  have hy3 : w.heap.size < w3.heap.size := by omega
  have B3 := Lib.hid ((B2.out.trans (hb3.mono (by first | omega | (simp; done) | (simp; omega)))).alloc (by omega) (.cells #[.int .i64 k, .int .i64 r, .int .u64 n] 36))
  have Ht3 := Lib.hid (ht.below B3.out)
  clear B2 Ht2 hb3
  rw [VO.out, VOE.out]
  unfold val
  go_wp2_with fail
  refine (Open_any _ _ _ g0 g1 Ht3.out).mono ?_
  rintro e w4 ⟨rfl, hb4⟩
  obtain ⟨hc4, hf4⟩ := bcell hb4
  have hz4 : w.heap.size + 1 < w4.heap.size := by have := hb4.size; (try simp at this); omega
  have hy4 : w.heap.size < w4.heap.size := by omega
  have B4 := Lib.hid ((B3.out.trans (hb4.mono (by first | omega | (simp; done) | (simp; omega)))).alloc (by omega) (.cells #[.int .i64 kind, .int .i64 o2, .int .u64 o3] 36))
  have Ht4 := Lib.hid (ht.below B4.out)
  clear B3 Ht3 hb4
  rw [HO.out, HOE.out]
  unfold val
  go_wp2_with fail
  refine (Pack_any _ _ _ _ o3b.out.1 o3b.out.2 Ht4.out).mono ?_
  rintro e w5 ⟨rfl, hb5⟩
  obtain ⟨hc5, hf5⟩ := bcell hb5
  have B5 := Lib.hid (B4.out.trans (hb5.mono (by first | omega | (simp; done) | (simp; omega))))
  have Ht5 := Lib.hid (ht.below B5.out)
  clear B4 Ht4 hb5
  rw [PW.out, PE.out]
  go_wp2_with fail
  refine (I31_any _ _ m0 m1).mono ?_
  rintro e w' ⟨rfl, rfl⟩
  go_wp2_with fail
  refine (Of_any _ _ (by omega) (by omega) Ht5.out).mono ?_
  rintro e w' ⟨rfl, rfl⟩
  rw [S1.out, S2.out, S3.out]
  go_wp2_with fail
  refine (Number_any _ _ _ (by omega) (by omega) Ht5.out).mono ?_
  rintro e w' ⟨rfl, rfl⟩
  rw [S4.out]
  go_wp2_with fail
  refine (Number_any _ _ _ (by omega) (by omega) Ht5.out).mono ?_
  rintro e w' ⟨rfl, rfl⟩
  rw [S5.out]
  go_wp2_with fail
  refine (known_any _ Ht5.out).mono ?_
  rintro e w6 ⟨rfl, hb6⟩
  have B6 := Lib.hid (B5.out.trans (hb6.mono B5.out.size))
  go_wp2
  go_ret
  exact ⟨rfl, B6.out⟩

theorem back_v_kind_n (k r n r2 n2 k2 kind x m o1 o2 o3 : Int) (w : World) (h0 : 0 ≤ n) (h1 : n < 18446744073709551616) (i0 : 0 ≤ n2) (i1 : n2 < 18446744073709551616) (g0 : 0 ≤ x) (g1 : x < 18446744073709551616) (m0 : 0 ≤ m) (m1 : m < 18446744073709551616) (ht : Tab w) (VE : Hid (packE k r n = 0)) (VB : Hid (0 ≤ packW k r n ∧ packW k r n < 18446744073709551616)) (VO : Hid (openV k (packW k r n) = val k r n)) (VOE : Hid (openE k (packW k r n) = 0)) (UE : Hid (packE k2 r2 n2 = 0)) (kk : (k2 == k) = false) (HOE : Hid (openE kind x = 2))
    (HO : Hid (openV kind x = val o1 o2 o3)) :
    Calls Tryd.prog 5 #[val k r n, val k2 r2 n2, .int .i64 kind, .int .u64 x, .int .u64 m] w fun e w' => e = .returned (.bool true) ∧ Below w.heap.size w w' := by
  obtain ⟨s1, s2, s3, s4, q, s5, hq0, hq⟩ := small_of m m0
  have S1 := Lib.hid s1; have S2 := Lib.hid s2; have S3 := Lib.hid s3; have S4 := Lib.hid s4; have S5 := Lib.hid s5
  clear s1 s2 s3 s4 s5
  have b0 : Below w.heap.size w ((w.alloc (.cells #[.int .i64 k, .int .i64 r, .int .u64 n] 36)).alloc (.cells #[.int .i64 k2, .int .i64 r2, .int .u64 n2] 36)) := ((Below.refl _ _).alloc (Nat.le_refl _) _).alloc (by simp) _
  have Ht := Lib.hid (ht.below b0)
  have B0 := Lib.hid b0; clear b0
  unfold val
  go_enter Tryd.func5, Tryd.ntmps5
  go_wp2_with fail
  refine (Pack_any _ _ _ _ h0 h1 Ht.out).mono ?_
  rintro e w1 ⟨rfl, hb1⟩
  obtain ⟨hc1, hf1⟩ := bcell hb1
  have hz1 : w.heap.size + 1 < w1.heap.size := by have := hb1.size; (try simp at this); omega
  have hy1 : w.heap.size < w1.heap.size := by omega
  have B1 := Lib.hid (B0.out.trans (hb1.mono (by first | omega | (simp; done) | (simp; omega))))
  have Ht1 := Lib.hid (Ht.out.below hb1)
  clear B0 Ht hb1
  rw [VE.out]
  go_wp2_with fail
  refine (Pack_any _ _ _ _ i0 i1 Ht1.out).mono ?_
  rintro e w2 ⟨rfl, hb2⟩
  obtain ⟨hc2, hf2⟩ := bcell hb2
  have hz2 : w.heap.size + 1 < w2.heap.size := by have := hb2.size; (try simp at this); omega
  have hy2 : w.heap.size < w2.heap.size := by omega
  have B2 := Lib.hid (B1.out.trans (hb2.mono (by first | omega | (simp; done) | (simp; omega))))
  have Ht2 := Lib.hid (Ht1.out.below hb2)
  clear B1 Ht1 hb2
  rw [UE.out]
  go_wp2_with fail
  refine (Open_any _ _ _ VB.out.1 VB.out.2 Ht2.out).mono ?_
  rintro e w3 ⟨rfl, hb3⟩
  obtain ⟨hc3, hf3⟩ := bcell hb3
  have hz3 : w.heap.size + 1 < w3.heap.size := by have := hb3.size; (try simp at this); omega
  have hy3 : w.heap.size < w3.heap.size := by omega
  have B3 := Lib.hid ((B2.out.trans (hb3.mono (by first | omega | (simp; done) | (simp; omega)))).alloc (by omega) (.cells #[.int .i64 k, .int .i64 r, .int .u64 n] 36))
  have Ht3 := Lib.hid (ht.below B3.out)
  clear B2 Ht2 hb3
  rw [VO.out, VOE.out]
  unfold val
  go_wp2_with fail
  refine (Open_any _ _ _ g0 g1 Ht3.out).mono ?_
  rintro e w4 ⟨rfl, hb4⟩
  obtain ⟨hc4, hf4⟩ := bcell hb4
  have hz4 : w.heap.size + 1 < w4.heap.size := by have := hb4.size; (try simp at this); omega
  have hy4 : w.heap.size < w4.heap.size := by omega
  have B4 := Lib.hid ((B3.out.trans (hb4.mono (by first | omega | (simp; done) | (simp; omega)))).alloc (by omega) (.cells #[.int .i64 o1, .int .i64 o2, .int .u64 o3] 36))
  have Ht4 := Lib.hid (ht.below B4.out)
  clear B3 Ht3 hb4
  rw [HO.out, HOE.out]
  unfold val
  go_wp2_with fail
  refine (I31_any _ _ m0 m1).mono ?_
  rintro e w' ⟨rfl, rfl⟩
  go_wp2_with fail
  refine (Of_any _ _ (by omega) (by omega) Ht4.out).mono ?_
  rintro e w' ⟨rfl, rfl⟩
  rw [S1.out, S2.out, S3.out]
  go_wp2_with fail
  refine (Number_any _ _ _ (by omega) (by omega) Ht4.out).mono ?_
  rintro e w' ⟨rfl, rfl⟩
  rw [S4.out]
  go_wp2_with fail
  refine (Number_any _ _ _ (by omega) (by omega) Ht4.out).mono ?_
  rintro e w' ⟨rfl, rfl⟩
  rw [S5.out]
  go_wp2_with fail
  refine (known_any _ Ht4.out).mono ?_
  rintro e w6 ⟨rfl, hb6⟩
  have B6 := Lib.hid (B4.out.trans (hb6.mono B4.out.size))
  go_wp2
  go_ret
  exact ⟨rfl, B6.out⟩

theorem back_v_same_o (k r n kind x m o2 o3 : Int) (w : World) (h0 : 0 ≤ n) (h1 : n < 18446744073709551616) (g0 : 0 ≤ x) (g1 : x < 18446744073709551616) (m0 : 0 ≤ m) (m1 : m < 18446744073709551616) (ht : Tab w) (VE : Hid (packE k r n = 0)) (VB : Hid (0 ≤ packW k r n ∧ packW k r n < 18446744073709551616)) (VO : Hid (openV k (packW k r n) = val k r n)) (VOE : Hid (openE k (packW k r n) = 0)) (HOE : Hid (openE kind x = 0)) (o3b : Hid (0 ≤ o3 ∧ o3 < 18446744073709551616)) (PW : Hid (packW kind o2 o3 = x)) (PE : Hid (packE kind o2 o3 = 0))
    (HO : Hid (openV kind x = val kind o2 o3)) :
    Calls Tryd.prog 5 #[val k r n, val k r n, .int .i64 kind, .int .u64 x, .int .u64 m] w fun e w' => e = .returned (.bool true) ∧ Below w.heap.size w w' := by
  obtain ⟨s1, s2, s3, s4, q, s5, hq0, hq⟩ := small_of m m0
  have S1 := Lib.hid s1; have S2 := Lib.hid s2; have S3 := Lib.hid s3; have S4 := Lib.hid s4; have S5 := Lib.hid s5
  clear s1 s2 s3 s4 s5
  have b0 : Below w.heap.size w ((w.alloc (.cells #[.int .i64 k, .int .i64 r, .int .u64 n] 36)).alloc (.cells #[.int .i64 k, .int .i64 r, .int .u64 n] 36)) := ((Below.refl _ _).alloc (Nat.le_refl _) _).alloc (by simp) _
  have Ht := Lib.hid (ht.below b0)
  have B0 := Lib.hid b0; clear b0
  unfold val
  go_enter Tryd.func5, Tryd.ntmps5
  go_wp2_with fail
  refine (Pack_any _ _ _ _ h0 h1 Ht.out).mono ?_
  rintro e w1 ⟨rfl, hb1⟩
  obtain ⟨hc1, hf1⟩ := bcell hb1
  have hz1 : w.heap.size + 1 < w1.heap.size := by have := hb1.size; (try simp at this); omega
  have hy1 : w.heap.size < w1.heap.size := by omega
  have B1 := Lib.hid (B0.out.trans (hb1.mono (by first | omega | (simp; done) | (simp; omega))))
  have Ht1 := Lib.hid (Ht.out.below hb1)
  clear B0 Ht hb1
  rw [VE.out]
  go_wp2_with fail
  refine (Pack_any _ _ _ _ h0 h1 Ht1.out).mono ?_
  rintro e w2 ⟨rfl, hb2⟩
  obtain ⟨hc2, hf2⟩ := bcell hb2
  have hz2 : w.heap.size + 1 < w2.heap.size := by have := hb2.size; (try simp at this); omega
  have hy2 : w.heap.size < w2.heap.size := by omega
  have B2 := Lib.hid (B1.out.trans (hb2.mono (by first | omega | (simp; done) | (simp; omega))))
  have Ht2 := Lib.hid (Ht1.out.below hb2)
  clear B1 Ht1 hb2
  rw [VE.out]
  go_wp2_with fail
  refine (Open_any _ _ _ VB.out.1 VB.out.2 Ht2.out).mono ?_
  rintro e w3 ⟨rfl, hb3⟩
  obtain ⟨hc3, hf3⟩ := bcell hb3
  have hz3 : w.heap.size + 1 < w3.heap.size := by have := hb3.size; (try simp at this); omega
  have hy3 : w.heap.size < w3.heap.size := by omega
  have B3 := Lib.hid ((B2.out.trans (hb3.mono (by first | omega | (simp; done) | (simp; omega)))).alloc (by omega) (.cells #[.int .i64 k, .int .i64 r, .int .u64 n] 36))
  have Ht3 := Lib.hid (ht.below B3.out)
  clear B2 Ht2 hb3
  rw [VO.out, VOE.out]
  unfold val
  go_wp2_with fail
  refine (Open_any _ _ _ g0 g1 Ht3.out).mono ?_
  rintro e w4 ⟨rfl, hb4⟩
  obtain ⟨hc4, hf4⟩ := bcell hb4
  have hz4 : w.heap.size + 1 < w4.heap.size := by have := hb4.size; (try simp at this); omega
  have hy4 : w.heap.size < w4.heap.size := by omega
  have B4 := Lib.hid ((B3.out.trans (hb4.mono (by first | omega | (simp; done) | (simp; omega)))).alloc (by omega) (.cells #[.int .i64 kind, .int .i64 o2, .int .u64 o3] 36))
  have Ht4 := Lib.hid (ht.below B4.out)
  clear B3 Ht3 hb4
  rw [HO.out, HOE.out]
  unfold val
  go_wp2_with fail
  refine (Pack_any _ _ _ _ o3b.out.1 o3b.out.2 Ht4.out).mono ?_
  rintro e w5 ⟨rfl, hb5⟩
  obtain ⟨hc5, hf5⟩ := bcell hb5
  have B5 := Lib.hid (B4.out.trans (hb5.mono (by first | omega | (simp; done) | (simp; omega))))
  have Ht5 := Lib.hid (ht.below B5.out)
  clear B4 Ht4 hb5
  rw [PW.out, PE.out]
  go_wp2_with fail
  refine (I31_any _ _ m0 m1).mono ?_
  rintro e w' ⟨rfl, rfl⟩
  go_wp2_with fail
  refine (Of_any _ _ (by omega) (by omega) Ht5.out).mono ?_
  rintro e w' ⟨rfl, rfl⟩
  rw [S1.out, S2.out, S3.out]
  go_wp2_with fail
  refine (Number_any _ _ _ (by omega) (by omega) Ht5.out).mono ?_
  rintro e w' ⟨rfl, rfl⟩
  rw [S4.out]
  go_wp2_with fail
  refine (Number_any _ _ _ (by omega) (by omega) Ht5.out).mono ?_
  rintro e w' ⟨rfl, rfl⟩
  rw [S5.out]
  go_wp2_with fail
  refine (known_any _ Ht5.out).mono ?_
  rintro e w6 ⟨rfl, hb6⟩
  have B6 := Lib.hid (B5.out.trans (hb6.mono B5.out.size))
  go_wp2
  go_ret
  exact ⟨rfl, B6.out⟩

theorem back_v_same_n (k r n kind x m o1 o2 o3 : Int) (w : World) (h0 : 0 ≤ n) (h1 : n < 18446744073709551616) (g0 : 0 ≤ x) (g1 : x < 18446744073709551616) (m0 : 0 ≤ m) (m1 : m < 18446744073709551616) (ht : Tab w) (VE : Hid (packE k r n = 0)) (VB : Hid (0 ≤ packW k r n ∧ packW k r n < 18446744073709551616)) (VO : Hid (openV k (packW k r n) = val k r n)) (VOE : Hid (openE k (packW k r n) = 0)) (HOE : Hid (openE kind x = 2))
    (HO : Hid (openV kind x = val o1 o2 o3)) :
    Calls Tryd.prog 5 #[val k r n, val k r n, .int .i64 kind, .int .u64 x, .int .u64 m] w fun e w' => e = .returned (.bool true) ∧ Below w.heap.size w w' := by
  obtain ⟨s1, s2, s3, s4, q, s5, hq0, hq⟩ := small_of m m0
  have S1 := Lib.hid s1; have S2 := Lib.hid s2; have S3 := Lib.hid s3; have S4 := Lib.hid s4; have S5 := Lib.hid s5
  clear s1 s2 s3 s4 s5
  have b0 : Below w.heap.size w ((w.alloc (.cells #[.int .i64 k, .int .i64 r, .int .u64 n] 36)).alloc (.cells #[.int .i64 k, .int .i64 r, .int .u64 n] 36)) := ((Below.refl _ _).alloc (Nat.le_refl _) _).alloc (by simp) _
  have Ht := Lib.hid (ht.below b0)
  have B0 := Lib.hid b0; clear b0
  unfold val
  go_enter Tryd.func5, Tryd.ntmps5
  go_wp2_with fail
  refine (Pack_any _ _ _ _ h0 h1 Ht.out).mono ?_
  rintro e w1 ⟨rfl, hb1⟩
  obtain ⟨hc1, hf1⟩ := bcell hb1
  have hz1 : w.heap.size + 1 < w1.heap.size := by have := hb1.size; (try simp at this); omega
  have hy1 : w.heap.size < w1.heap.size := by omega
  have B1 := Lib.hid (B0.out.trans (hb1.mono (by first | omega | (simp; done) | (simp; omega))))
  have Ht1 := Lib.hid (Ht.out.below hb1)
  clear B0 Ht hb1
  rw [VE.out]
  go_wp2_with fail
  refine (Pack_any _ _ _ _ h0 h1 Ht1.out).mono ?_
  rintro e w2 ⟨rfl, hb2⟩
  obtain ⟨hc2, hf2⟩ := bcell hb2
  have hz2 : w.heap.size + 1 < w2.heap.size := by have := hb2.size; (try simp at this); omega
  have hy2 : w.heap.size < w2.heap.size := by omega
  have B2 := Lib.hid (B1.out.trans (hb2.mono (by first | omega | (simp; done) | (simp; omega))))
  have Ht2 := Lib.hid (Ht1.out.below hb2)
  clear B1 Ht1 hb2
  rw [VE.out]
  go_wp2_with fail
  refine (Open_any _ _ _ VB.out.1 VB.out.2 Ht2.out).mono ?_
  rintro e w3 ⟨rfl, hb3⟩
  obtain ⟨hc3, hf3⟩ := bcell hb3
  have hz3 : w.heap.size + 1 < w3.heap.size := by have := hb3.size; (try simp at this); omega
  have hy3 : w.heap.size < w3.heap.size := by omega
  have B3 := Lib.hid ((B2.out.trans (hb3.mono (by first | omega | (simp; done) | (simp; omega)))).alloc (by omega) (.cells #[.int .i64 k, .int .i64 r, .int .u64 n] 36))
  have Ht3 := Lib.hid (ht.below B3.out)
  clear B2 Ht2 hb3
  rw [VO.out, VOE.out]
  unfold val
  go_wp2_with fail
  refine (Open_any _ _ _ g0 g1 Ht3.out).mono ?_
  rintro e w4 ⟨rfl, hb4⟩
  obtain ⟨hc4, hf4⟩ := bcell hb4
  have hz4 : w.heap.size + 1 < w4.heap.size := by have := hb4.size; (try simp at this); omega
  have hy4 : w.heap.size < w4.heap.size := by omega
  have B4 := Lib.hid ((B3.out.trans (hb4.mono (by first | omega | (simp; done) | (simp; omega)))).alloc (by omega) (.cells #[.int .i64 o1, .int .i64 o2, .int .u64 o3] 36))
  have Ht4 := Lib.hid (ht.below B4.out)
  clear B3 Ht3 hb4
  rw [HO.out, HOE.out]
  unfold val
  go_wp2_with fail
  refine (I31_any _ _ m0 m1).mono ?_
  rintro e w' ⟨rfl, rfl⟩
  go_wp2_with fail
  refine (Of_any _ _ (by omega) (by omega) Ht4.out).mono ?_
  rintro e w' ⟨rfl, rfl⟩
  rw [S1.out, S2.out, S3.out]
  go_wp2_with fail
  refine (Number_any _ _ _ (by omega) (by omega) Ht4.out).mono ?_
  rintro e w' ⟨rfl, rfl⟩
  rw [S4.out]
  go_wp2_with fail
  refine (Number_any _ _ _ (by omega) (by omega) Ht4.out).mono ?_
  rintro e w' ⟨rfl, rfl⟩
  rw [S5.out]
  go_wp2_with fail
  refine (known_any _ Ht4.out).mono ?_
  rintro e w6 ⟨rfl, hb6⟩
  have B6 := Lib.hid (B4.out.trans (hb6.mono B4.out.size))
  go_wp2
  go_ret
  exact ⟨rfl, B6.out⟩

theorem back_v_dr_o (k r n r2 n2 kind x m o2 o3 : Int) (w : World) (h0 : 0 ≤ n) (h1 : n < 18446744073709551616) (i0 : 0 ≤ n2) (i1 : n2 < 18446744073709551616) (g0 : 0 ≤ x) (g1 : x < 18446744073709551616) (m0 : 0 ≤ m) (m1 : m < 18446744073709551616) (ht : Tab w) (VE : Hid (packE k r n = 0)) (VB : Hid (0 ≤ packW k r n ∧ packW k r n < 18446744073709551616)) (VO : Hid (openV k (packW k r n) = val k r n)) (VOE : Hid (openE k (packW k r n) = 0)) (UE : Hid (packE k r2 n2 = 0)) (ND : Hid ((packW k r n == packW k r2 n2) = false)) (nr : ¬ r2 = r) (HOE : Hid (openE kind x = 0)) (o3b : Hid (0 ≤ o3 ∧ o3 < 18446744073709551616)) (PW : Hid (packW kind o2 o3 = x)) (PE : Hid (packE kind o2 o3 = 0))
    (HO : Hid (openV kind x = val kind o2 o3)) :
    Calls Tryd.prog 5 #[val k r n, val k r2 n2, .int .i64 kind, .int .u64 x, .int .u64 m] w fun e w' => e = .returned (.bool true) ∧ Below w.heap.size w w' := by
  obtain ⟨s1, s2, s3, s4, q, s5, hq0, hq⟩ := small_of m m0
  have S1 := Lib.hid s1; have S2 := Lib.hid s2; have S3 := Lib.hid s3; have S4 := Lib.hid s4; have S5 := Lib.hid s5
  clear s1 s2 s3 s4 s5
  have b0 : Below w.heap.size w ((w.alloc (.cells #[.int .i64 k, .int .i64 r, .int .u64 n] 36)).alloc (.cells #[.int .i64 k, .int .i64 r2, .int .u64 n2] 36)) := ((Below.refl _ _).alloc (Nat.le_refl _) _).alloc (by simp) _
  have Ht := Lib.hid (ht.below b0)
  have B0 := Lib.hid b0; clear b0
  unfold val
  go_enter Tryd.func5, Tryd.ntmps5
  go_wp2_with fail
  refine (Pack_any _ _ _ _ h0 h1 Ht.out).mono ?_
  rintro e w1 ⟨rfl, hb1⟩
  obtain ⟨hc1, hf1⟩ := bcell hb1
  have hz1 : w.heap.size + 1 < w1.heap.size := by have := hb1.size; (try simp at this); omega
  have hy1 : w.heap.size < w1.heap.size := by omega
  have B1 := Lib.hid (B0.out.trans (hb1.mono (by first | omega | (simp; done) | (simp; omega))))
  have Ht1 := Lib.hid (Ht.out.below hb1)
  clear B0 Ht hb1
  rw [VE.out]
  go_wp2_with fail
  refine (Pack_any _ _ _ _ i0 i1 Ht1.out).mono ?_
  rintro e w2 ⟨rfl, hb2⟩
  obtain ⟨hc2, hf2⟩ := bcell hb2
  have hz2 : w.heap.size + 1 < w2.heap.size := by have := hb2.size; (try simp at this); omega
  have hy2 : w.heap.size < w2.heap.size := by omega
  have B2 := Lib.hid (B1.out.trans (hb2.mono (by first | omega | (simp; done) | (simp; omega))))
  have Ht2 := Lib.hid (Ht1.out.below hb2)
  clear B1 Ht1 hb2
  rw [UE.out]
  go_wp2_with fail
  refine (Open_any _ _ _ VB.out.1 VB.out.2 Ht2.out).mono ?_
  rintro e w3 ⟨rfl, hb3⟩
  obtain ⟨hc3, hf3⟩ := bcell hb3
  have hz3 : w.heap.size + 1 < w3.heap.size := by have := hb3.size; (try simp at this); omega
  have hy3 : w.heap.size < w3.heap.size := by omega
  have B3 := Lib.hid ((B2.out.trans (hb3.mono (by first | omega | (simp; done) | (simp; omega)))).alloc (by omega) (.cells #[.int .i64 k, .int .i64 r, .int .u64 n] 36))
  have Ht3 := Lib.hid (ht.below B3.out)
  clear B2 Ht2 hb3
  rw [VO.out, VOE.out]
  unfold val
  have nd := ND.out
  go_wp2_with fail
  refine (Open_any _ _ _ g0 g1 Ht3.out).mono ?_
  rintro e w4 ⟨rfl, hb4⟩
  clear nd
  obtain ⟨hc4, hf4⟩ := bcell hb4
  have hz4 : w.heap.size + 1 < w4.heap.size := by have := hb4.size; (try simp at this); omega
  have hy4 : w.heap.size < w4.heap.size := by omega
  have B4 := Lib.hid ((B3.out.trans (hb4.mono (by first | omega | (simp; done) | (simp; omega)))).alloc (by omega) (.cells #[.int .i64 kind, .int .i64 o2, .int .u64 o3] 36))
  have Ht4 := Lib.hid (ht.below B4.out)
  clear B3 Ht3 hb4
  rw [HO.out, HOE.out]
  unfold val
  go_wp2_with fail
  refine (Pack_any _ _ _ _ o3b.out.1 o3b.out.2 Ht4.out).mono ?_
  rintro e w5 ⟨rfl, hb5⟩
  obtain ⟨hc5, hf5⟩ := bcell hb5
  have B5 := Lib.hid (B4.out.trans (hb5.mono (by first | omega | (simp; done) | (simp; omega))))
  have Ht5 := Lib.hid (ht.below B5.out)
  clear B4 Ht4 hb5
  rw [PW.out, PE.out]
  go_wp2_with fail
  refine (I31_any _ _ m0 m1).mono ?_
  rintro e w' ⟨rfl, rfl⟩
  go_wp2_with fail
  refine (Of_any _ _ (by omega) (by omega) Ht5.out).mono ?_
  rintro e w' ⟨rfl, rfl⟩
  rw [S1.out, S2.out, S3.out]
  go_wp2_with fail
  refine (Number_any _ _ _ (by omega) (by omega) Ht5.out).mono ?_
  rintro e w' ⟨rfl, rfl⟩
  rw [S4.out]
  go_wp2_with fail
  refine (Number_any _ _ _ (by omega) (by omega) Ht5.out).mono ?_
  rintro e w' ⟨rfl, rfl⟩
  rw [S5.out]
  go_wp2_with fail
  refine (known_any _ Ht5.out).mono ?_
  rintro e w6 ⟨rfl, hb6⟩
  have B6 := Lib.hid (B5.out.trans (hb6.mono B5.out.size))
  go_wp2
  go_ret
  exact ⟨rfl, B6.out⟩

theorem back_v_dr_n (k r n r2 n2 kind x m o1 o2 o3 : Int) (w : World) (h0 : 0 ≤ n) (h1 : n < 18446744073709551616) (i0 : 0 ≤ n2) (i1 : n2 < 18446744073709551616) (g0 : 0 ≤ x) (g1 : x < 18446744073709551616) (m0 : 0 ≤ m) (m1 : m < 18446744073709551616) (ht : Tab w) (VE : Hid (packE k r n = 0)) (VB : Hid (0 ≤ packW k r n ∧ packW k r n < 18446744073709551616)) (VO : Hid (openV k (packW k r n) = val k r n)) (VOE : Hid (openE k (packW k r n) = 0)) (UE : Hid (packE k r2 n2 = 0)) (ND : Hid ((packW k r n == packW k r2 n2) = false)) (nr : ¬ r2 = r) (HOE : Hid (openE kind x = 2))
    (HO : Hid (openV kind x = val o1 o2 o3)) :
    Calls Tryd.prog 5 #[val k r n, val k r2 n2, .int .i64 kind, .int .u64 x, .int .u64 m] w fun e w' => e = .returned (.bool true) ∧ Below w.heap.size w w' := by
  obtain ⟨s1, s2, s3, s4, q, s5, hq0, hq⟩ := small_of m m0
  have S1 := Lib.hid s1; have S2 := Lib.hid s2; have S3 := Lib.hid s3; have S4 := Lib.hid s4; have S5 := Lib.hid s5
  clear s1 s2 s3 s4 s5
  have b0 : Below w.heap.size w ((w.alloc (.cells #[.int .i64 k, .int .i64 r, .int .u64 n] 36)).alloc (.cells #[.int .i64 k, .int .i64 r2, .int .u64 n2] 36)) := ((Below.refl _ _).alloc (Nat.le_refl _) _).alloc (by simp) _
  have Ht := Lib.hid (ht.below b0)
  have B0 := Lib.hid b0; clear b0
  unfold val
  go_enter Tryd.func5, Tryd.ntmps5
  go_wp2_with fail
  refine (Pack_any _ _ _ _ h0 h1 Ht.out).mono ?_
  rintro e w1 ⟨rfl, hb1⟩
  obtain ⟨hc1, hf1⟩ := bcell hb1
  have hz1 : w.heap.size + 1 < w1.heap.size := by have := hb1.size; (try simp at this); omega
  have hy1 : w.heap.size < w1.heap.size := by omega
  have B1 := Lib.hid (B0.out.trans (hb1.mono (by first | omega | (simp; done) | (simp; omega))))
  have Ht1 := Lib.hid (Ht.out.below hb1)
  clear B0 Ht hb1
  rw [VE.out]
  go_wp2_with fail
  refine (Pack_any _ _ _ _ i0 i1 Ht1.out).mono ?_
  rintro e w2 ⟨rfl, hb2⟩
  obtain ⟨hc2, hf2⟩ := bcell hb2
  have hz2 : w.heap.size + 1 < w2.heap.size := by have := hb2.size; (try simp at this); omega
  have hy2 : w.heap.size < w2.heap.size := by omega
  have B2 := Lib.hid (B1.out.trans (hb2.mono (by first | omega | (simp; done) | (simp; omega))))
  have Ht2 := Lib.hid (Ht1.out.below hb2)
  clear B1 Ht1 hb2
  rw [UE.out]
  go_wp2_with fail
  refine (Open_any _ _ _ VB.out.1 VB.out.2 Ht2.out).mono ?_
  rintro e w3 ⟨rfl, hb3⟩
  obtain ⟨hc3, hf3⟩ := bcell hb3
  have hz3 : w.heap.size + 1 < w3.heap.size := by have := hb3.size; (try simp at this); omega
  have hy3 : w.heap.size < w3.heap.size := by omega
  have B3 := Lib.hid ((B2.out.trans (hb3.mono (by first | omega | (simp; done) | (simp; omega)))).alloc (by omega) (.cells #[.int .i64 k, .int .i64 r, .int .u64 n] 36))
  have Ht3 := Lib.hid (ht.below B3.out)
  clear B2 Ht2 hb3
  rw [VO.out, VOE.out]
  unfold val
  have nd := ND.out
  go_wp2_with fail
  refine (Open_any _ _ _ g0 g1 Ht3.out).mono ?_
  rintro e w4 ⟨rfl, hb4⟩
  clear nd
  obtain ⟨hc4, hf4⟩ := bcell hb4
  have hz4 : w.heap.size + 1 < w4.heap.size := by have := hb4.size; (try simp at this); omega
  have hy4 : w.heap.size < w4.heap.size := by omega
  have B4 := Lib.hid ((B3.out.trans (hb4.mono (by first | omega | (simp; done) | (simp; omega)))).alloc (by omega) (.cells #[.int .i64 o1, .int .i64 o2, .int .u64 o3] 36))
  have Ht4 := Lib.hid (ht.below B4.out)
  clear B3 Ht3 hb4
  rw [HO.out, HOE.out]
  unfold val
  go_wp2_with fail
  refine (I31_any _ _ m0 m1).mono ?_
  rintro e w' ⟨rfl, rfl⟩
  go_wp2_with fail
  refine (Of_any _ _ (by omega) (by omega) Ht4.out).mono ?_
  rintro e w' ⟨rfl, rfl⟩
  rw [S1.out, S2.out, S3.out]
  go_wp2_with fail
  refine (Number_any _ _ _ (by omega) (by omega) Ht4.out).mono ?_
  rintro e w' ⟨rfl, rfl⟩
  rw [S4.out]
  go_wp2_with fail
  refine (Number_any _ _ _ (by omega) (by omega) Ht4.out).mono ?_
  rintro e w' ⟨rfl, rfl⟩
  rw [S5.out]
  go_wp2_with fail
  refine (known_any _ Ht4.out).mono ?_
  rintro e w6 ⟨rfl, hb6⟩
  have B6 := Lib.hid (B4.out.trans (hb6.mono B4.out.size))
  go_wp2
  go_ret
  exact ⟨rfl, B6.out⟩

theorem back_v_dn_o (k r n n2 kind x m o2 o3 : Int) (w : World) (h0 : 0 ≤ n) (h1 : n < 18446744073709551616) (i0 : 0 ≤ n2) (i1 : n2 < 18446744073709551616) (g0 : 0 ≤ x) (g1 : x < 18446744073709551616) (m0 : 0 ≤ m) (m1 : m < 18446744073709551616) (ht : Tab w) (VE : Hid (packE k r n = 0)) (VB : Hid (0 ≤ packW k r n ∧ packW k r n < 18446744073709551616)) (VO : Hid (openV k (packW k r n) = val k r n)) (VOE : Hid (openE k (packW k r n) = 0)) (UE : Hid (packE k r n2 = 0)) (ND : Hid ((packW k r n == packW k r n2) = false)) (nn : ¬ n2 = n) (HOE : Hid (openE kind x = 0)) (o3b : Hid (0 ≤ o3 ∧ o3 < 18446744073709551616)) (PW : Hid (packW kind o2 o3 = x)) (PE : Hid (packE kind o2 o3 = 0))
    (HO : Hid (openV kind x = val kind o2 o3)) :
    Calls Tryd.prog 5 #[val k r n, val k r n2, .int .i64 kind, .int .u64 x, .int .u64 m] w fun e w' => e = .returned (.bool true) ∧ Below w.heap.size w w' := by
  obtain ⟨s1, s2, s3, s4, q, s5, hq0, hq⟩ := small_of m m0
  have S1 := Lib.hid s1; have S2 := Lib.hid s2; have S3 := Lib.hid s3; have S4 := Lib.hid s4; have S5 := Lib.hid s5
  clear s1 s2 s3 s4 s5
  have b0 : Below w.heap.size w ((w.alloc (.cells #[.int .i64 k, .int .i64 r, .int .u64 n] 36)).alloc (.cells #[.int .i64 k, .int .i64 r, .int .u64 n2] 36)) := ((Below.refl _ _).alloc (Nat.le_refl _) _).alloc (by simp) _
  have Ht := Lib.hid (ht.below b0)
  have B0 := Lib.hid b0; clear b0
  unfold val
  go_enter Tryd.func5, Tryd.ntmps5
  go_wp2_with fail
  refine (Pack_any _ _ _ _ h0 h1 Ht.out).mono ?_
  rintro e w1 ⟨rfl, hb1⟩
  obtain ⟨hc1, hf1⟩ := bcell hb1
  have hz1 : w.heap.size + 1 < w1.heap.size := by have := hb1.size; (try simp at this); omega
  have hy1 : w.heap.size < w1.heap.size := by omega
  have B1 := Lib.hid (B0.out.trans (hb1.mono (by first | omega | (simp; done) | (simp; omega))))
  have Ht1 := Lib.hid (Ht.out.below hb1)
  clear B0 Ht hb1
  rw [VE.out]
  go_wp2_with fail
  refine (Pack_any _ _ _ _ i0 i1 Ht1.out).mono ?_
  rintro e w2 ⟨rfl, hb2⟩
  obtain ⟨hc2, hf2⟩ := bcell hb2
  have hz2 : w.heap.size + 1 < w2.heap.size := by have := hb2.size; (try simp at this); omega
  have hy2 : w.heap.size < w2.heap.size := by omega
  have B2 := Lib.hid (B1.out.trans (hb2.mono (by first | omega | (simp; done) | (simp; omega))))
  have Ht2 := Lib.hid (Ht1.out.below hb2)
  clear B1 Ht1 hb2
  rw [UE.out]
  go_wp2_with fail
  refine (Open_any _ _ _ VB.out.1 VB.out.2 Ht2.out).mono ?_
  rintro e w3 ⟨rfl, hb3⟩
  obtain ⟨hc3, hf3⟩ := bcell hb3
  have hz3 : w.heap.size + 1 < w3.heap.size := by have := hb3.size; (try simp at this); omega
  have hy3 : w.heap.size < w3.heap.size := by omega
  have B3 := Lib.hid ((B2.out.trans (hb3.mono (by first | omega | (simp; done) | (simp; omega)))).alloc (by omega) (.cells #[.int .i64 k, .int .i64 r, .int .u64 n] 36))
  have Ht3 := Lib.hid (ht.below B3.out)
  clear B2 Ht2 hb3
  rw [VO.out, VOE.out]
  unfold val
  have nd := ND.out
  go_wp2_with fail
  refine (Open_any _ _ _ g0 g1 Ht3.out).mono ?_
  rintro e w4 ⟨rfl, hb4⟩
  clear nd
  obtain ⟨hc4, hf4⟩ := bcell hb4
  have hz4 : w.heap.size + 1 < w4.heap.size := by have := hb4.size; (try simp at this); omega
  have hy4 : w.heap.size < w4.heap.size := by omega
  have B4 := Lib.hid ((B3.out.trans (hb4.mono (by first | omega | (simp; done) | (simp; omega)))).alloc (by omega) (.cells #[.int .i64 kind, .int .i64 o2, .int .u64 o3] 36))
  have Ht4 := Lib.hid (ht.below B4.out)
  clear B3 Ht3 hb4
  rw [HO.out, HOE.out]
  unfold val
  go_wp2_with fail
  refine (Pack_any _ _ _ _ o3b.out.1 o3b.out.2 Ht4.out).mono ?_
  rintro e w5 ⟨rfl, hb5⟩
  obtain ⟨hc5, hf5⟩ := bcell hb5
  have B5 := Lib.hid (B4.out.trans (hb5.mono (by first | omega | (simp; done) | (simp; omega))))
  have Ht5 := Lib.hid (ht.below B5.out)
  clear B4 Ht4 hb5
  rw [PW.out, PE.out]
  go_wp2_with fail
  refine (I31_any _ _ m0 m1).mono ?_
  rintro e w' ⟨rfl, rfl⟩
  go_wp2_with fail
  refine (Of_any _ _ (by omega) (by omega) Ht5.out).mono ?_
  rintro e w' ⟨rfl, rfl⟩
  rw [S1.out, S2.out, S3.out]
  go_wp2_with fail
  refine (Number_any _ _ _ (by omega) (by omega) Ht5.out).mono ?_
  rintro e w' ⟨rfl, rfl⟩
  rw [S4.out]
  go_wp2_with fail
  refine (Number_any _ _ _ (by omega) (by omega) Ht5.out).mono ?_
  rintro e w' ⟨rfl, rfl⟩
  rw [S5.out]
  go_wp2_with fail
  refine (known_any _ Ht5.out).mono ?_
  rintro e w6 ⟨rfl, hb6⟩
  have B6 := Lib.hid (B5.out.trans (hb6.mono B5.out.size))
  go_wp2
  go_ret
  exact ⟨rfl, B6.out⟩

theorem back_v_dn_n (k r n n2 kind x m o1 o2 o3 : Int) (w : World) (h0 : 0 ≤ n) (h1 : n < 18446744073709551616) (i0 : 0 ≤ n2) (i1 : n2 < 18446744073709551616) (g0 : 0 ≤ x) (g1 : x < 18446744073709551616) (m0 : 0 ≤ m) (m1 : m < 18446744073709551616) (ht : Tab w) (VE : Hid (packE k r n = 0)) (VB : Hid (0 ≤ packW k r n ∧ packW k r n < 18446744073709551616)) (VO : Hid (openV k (packW k r n) = val k r n)) (VOE : Hid (openE k (packW k r n) = 0)) (UE : Hid (packE k r n2 = 0)) (ND : Hid ((packW k r n == packW k r n2) = false)) (nn : ¬ n2 = n) (HOE : Hid (openE kind x = 2))
    (HO : Hid (openV kind x = val o1 o2 o3)) :
    Calls Tryd.prog 5 #[val k r n, val k r n2, .int .i64 kind, .int .u64 x, .int .u64 m] w fun e w' => e = .returned (.bool true) ∧ Below w.heap.size w w' := by
  obtain ⟨s1, s2, s3, s4, q, s5, hq0, hq⟩ := small_of m m0
  have S1 := Lib.hid s1; have S2 := Lib.hid s2; have S3 := Lib.hid s3; have S4 := Lib.hid s4; have S5 := Lib.hid s5
  clear s1 s2 s3 s4 s5
  have b0 : Below w.heap.size w ((w.alloc (.cells #[.int .i64 k, .int .i64 r, .int .u64 n] 36)).alloc (.cells #[.int .i64 k, .int .i64 r, .int .u64 n2] 36)) := ((Below.refl _ _).alloc (Nat.le_refl _) _).alloc (by simp) _
  have Ht := Lib.hid (ht.below b0)
  have B0 := Lib.hid b0; clear b0
  unfold val
  go_enter Tryd.func5, Tryd.ntmps5
  go_wp2_with fail
  refine (Pack_any _ _ _ _ h0 h1 Ht.out).mono ?_
  rintro e w1 ⟨rfl, hb1⟩
  obtain ⟨hc1, hf1⟩ := bcell hb1
  have hz1 : w.heap.size + 1 < w1.heap.size := by have := hb1.size; (try simp at this); omega
  have hy1 : w.heap.size < w1.heap.size := by omega
  have B1 := Lib.hid (B0.out.trans (hb1.mono (by first | omega | (simp; done) | (simp; omega))))
  have Ht1 := Lib.hid (Ht.out.below hb1)
  clear B0 Ht hb1
  rw [VE.out]
  go_wp2_with fail
  refine (Pack_any _ _ _ _ i0 i1 Ht1.out).mono ?_
  rintro e w2 ⟨rfl, hb2⟩
  obtain ⟨hc2, hf2⟩ := bcell hb2
  have hz2 : w.heap.size + 1 < w2.heap.size := by have := hb2.size; (try simp at this); omega
  have hy2 : w.heap.size < w2.heap.size := by omega
  have B2 := Lib.hid (B1.out.trans (hb2.mono (by first | omega | (simp; done) | (simp; omega))))
  have Ht2 := Lib.hid (Ht1.out.below hb2)
  clear B1 Ht1 hb2
  rw [UE.out]
  go_wp2_with fail
  refine (Open_any _ _ _ VB.out.1 VB.out.2 Ht2.out).mono ?_
  rintro e w3 ⟨rfl, hb3⟩
  obtain ⟨hc3, hf3⟩ := bcell hb3
  have hz3 : w.heap.size + 1 < w3.heap.size := by have := hb3.size; (try simp at this); omega
  have hy3 : w.heap.size < w3.heap.size := by omega
  have B3 := Lib.hid ((B2.out.trans (hb3.mono (by first | omega | (simp; done) | (simp; omega)))).alloc (by omega) (.cells #[.int .i64 k, .int .i64 r, .int .u64 n] 36))
  have Ht3 := Lib.hid (ht.below B3.out)
  clear B2 Ht2 hb3
  rw [VO.out, VOE.out]
  unfold val
  have nd := ND.out
  go_wp2_with fail
  refine (Open_any _ _ _ g0 g1 Ht3.out).mono ?_
  rintro e w4 ⟨rfl, hb4⟩
  clear nd
  obtain ⟨hc4, hf4⟩ := bcell hb4
  have hz4 : w.heap.size + 1 < w4.heap.size := by have := hb4.size; (try simp at this); omega
  have hy4 : w.heap.size < w4.heap.size := by omega
  have B4 := Lib.hid ((B3.out.trans (hb4.mono (by first | omega | (simp; done) | (simp; omega)))).alloc (by omega) (.cells #[.int .i64 o1, .int .i64 o2, .int .u64 o3] 36))
  have Ht4 := Lib.hid (ht.below B4.out)
  clear B3 Ht3 hb4
  rw [HO.out, HOE.out]
  unfold val
  go_wp2_with fail
  refine (I31_any _ _ m0 m1).mono ?_
  rintro e w' ⟨rfl, rfl⟩
  go_wp2_with fail
  refine (Of_any _ _ (by omega) (by omega) Ht4.out).mono ?_
  rintro e w' ⟨rfl, rfl⟩
  rw [S1.out, S2.out, S3.out]
  go_wp2_with fail
  refine (Number_any _ _ _ (by omega) (by omega) Ht4.out).mono ?_
  rintro e w' ⟨rfl, rfl⟩
  rw [S4.out]
  go_wp2_with fail
  refine (Number_any _ _ _ (by omega) (by omega) Ht4.out).mono ?_
  rintro e w' ⟨rfl, rfl⟩
  rw [S5.out]
  go_wp2_with fail
  refine (known_any _ Ht4.out).mono ?_
  rintro e w6 ⟨rfl, hb6⟩
  have B6 := Lib.hid (B4.out.trans (hb6.mono B4.out.size))
  go_wp2
  go_ret
  exact ⟨rfl, B6.out⟩

theorem WordBack_any (k r n k2 r2 n2 kind x m : Int) (w : World) (h0 : 0 ≤ n) (h1 : n < 18446744073709551616) (i0 : 0 ≤ n2) (i1 : n2 < 18446744073709551616) (g0 : 0 ≤ x) (g1 : x < 18446744073709551616) (m0 : 0 ≤ m) (m1 : m < 18446744073709551616) (ht : Tab w) :
    Calls Tryd.prog 5 #[val k r n, val k2 r2 n2, .int .i64 kind, .int .u64 x, .int .u64 m] w fun e w' => e = .returned (.bool true) ∧ Below w.heap.size w w' := by
  cases ho : openOk kind x
  · have HOE := Lib.hid (show openE kind x = 2 by simp [openE, ho])
    have HO := Lib.hid (show openV kind x = val 0 0 0 by simp [openV, ho, val])
    cases hp : packOk k r n
    · exact back_n_skip_n _ _ _ _ _ _ _ _ _ 0 0 0 w h0 h1 i0 i1 g0 g1 m0 m1 ht (Lib.hid (by simp [packE, hp])) HOE HO
    · obtain ⟨vb, vo, vv⟩ := pack_open h0 h1 hp
      have VE := Lib.hid (show packE k r n = 0 by simp [packE, hp])
      have VB := Lib.hid vb
      have VO := Lib.hid vv
      have VOE := Lib.hid (show openE k (packW k r n) = 0 by simp [openE, vo])
      cases hu : packOk k2 r2 n2
      · exact back_v_bad_n _ _ _ _ _ _ _ _ _ 0 0 0 w h0 h1 i0 i1 g0 g1 m0 m1 ht VE VB VO VOE (Lib.hid (by simp [packE, hu])) HOE HO
      · have UE := Lib.hid (show packE k2 r2 n2 = 0 by simp [packE, hu])
        by_cases kk : k2 = k
        · subst kk
          by_cases hr : r2 = r
          · subst hr
            by_cases hn : n2 = n
            · subst hn
              exact back_v_same_n _ _ _ _ _ _ 0 0 0 w h0 h1 g0 g1 m0 m1 ht VE VB VO VOE HOE HO
            · exact back_v_dn_n _ _ _ _ _ _ _ 0 0 0 w h0 h1 i0 i1 g0 g1 m0 m1 ht VE VB VO VOE UE (Lib.hid (by simp; intro e; exact hn (packW_inj hp hu e).2.symm)) hn HOE HO
          · exact back_v_dr_n _ _ _ _ _ _ _ _ 0 0 0 w h0 h1 i0 i1 g0 g1 m0 m1 ht VE VB VO VOE UE (Lib.hid (by simp; intro e; exact hr (packW_inj hp hu e).1.symm)) hr HOE HO
        · exact back_v_kind_n _ _ _ _ _ _ _ _ _ 0 0 0 w h0 h1 i0 i1 g0 g1 m0 m1 ht VE VB VO VOE UE (by simpa using kk) HOE HO
  · obtain ⟨o2, o3, e1, e2, e3, e4⟩ := open_pack g0 g1 ho
    have HOE := Lib.hid (show openE kind x = 0 by simp [openE, ho])
    have HO := Lib.hid e1
    have O3 := Lib.hid e2
    have PW := Lib.hid e3
    have PE := Lib.hid e4
    cases hp : packOk k r n
    · exact back_n_skip_o _ _ _ _ _ _ _ _ _ _ _ w h0 h1 i0 i1 g0 g1 m0 m1 ht (Lib.hid (by simp [packE, hp])) HOE O3 PW PE HO
    · obtain ⟨vb, vo, vv⟩ := pack_open h0 h1 hp
      have VE := Lib.hid (show packE k r n = 0 by simp [packE, hp])
      have VB := Lib.hid vb
      have VO := Lib.hid vv
      have VOE := Lib.hid (show openE k (packW k r n) = 0 by simp [openE, vo])
      cases hu : packOk k2 r2 n2
      · exact back_v_bad_o _ _ _ _ _ _ _ _ _ _ _ w h0 h1 i0 i1 g0 g1 m0 m1 ht VE VB VO VOE (Lib.hid (by simp [packE, hu])) HOE O3 PW PE HO
      · have UE := Lib.hid (show packE k2 r2 n2 = 0 by simp [packE, hu])
        by_cases kk : k2 = k
        · subst kk
          by_cases hr : r2 = r
          · subst hr
            by_cases hn : n2 = n
            · subst hn
              exact back_v_same_o _ _ _ _ _ _ _ _ w h0 h1 g0 g1 m0 m1 ht VE VB VO VOE HOE O3 PW PE HO
            · exact back_v_dn_o _ _ _ _ _ _ _ _ _ w h0 h1 i0 i1 g0 g1 m0 m1 ht VE VB VO VOE UE (Lib.hid (by simp; intro e; exact hn (packW_inj hp hu e).2.symm)) hn HOE O3 PW PE HO
          · exact back_v_dr_o _ _ _ _ _ _ _ _ _ _ w h0 h1 i0 i1 g0 g1 m0 m1 ht VE VB VO VOE UE (Lib.hid (by simp; intro e; exact hr (packW_inj hp hu e).1.symm)) hr HOE O3 PW PE HO
        · exact back_v_kind_o _ _ _ _ _ _ _ _ _ _ _ w h0 h1 i0 i1 g0 g1 m0 m1 ht VE VB VO VOE UE (by simpa using kk) HOE O3 PW PE HO
end Go.Proofs.YtgjncajegegdhaaDoor
