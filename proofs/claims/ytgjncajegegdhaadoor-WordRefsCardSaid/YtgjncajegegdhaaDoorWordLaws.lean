/- Layer 21: 'known' and the four laws: each returns true. -/
import Derived.Test.YtgjncajegegdhaaDoorWordPack
namespace Go.Proofs.YtgjncajegegdhaaDoor
open Go.RowKit

theorem known_any (w : World) (ht : Tab w) :
    Calls Tryd.prog 14 #[] w fun e w' => e = .returned (.bool true) ∧ Below w.heap.size w w' := by
  have Ht := Lib.hid ht; clear ht
  go_enter Tryd.func14, Tryd.ntmps14
  go_wp2_with fail
  refine (ref_any _ _ _ (by omega) Ht.out).mono ?_
  rintro e w' ⟨rfl, rfl⟩
  rw [show refW 1 5 = 41 by decide, show refE 1 5 = 0 by decide]
  go_wp2_with fail
  refine (ref_any _ _ _ (by omega) Ht.out).mono ?_
  rintro e w' ⟨rfl, rfl⟩
  rw [show refW 2 0 = 0 by decide, show refE 2 0 = 2 by decide]
  go_wp2_with fail
  refine (ref_any _ _ _ (by omega) Ht.out).mono ?_
  rintro e w' ⟨rfl, rfl⟩
  rw [show refW 0 1 = 0 by decide, show refE 0 1 = 2 by decide]
  go_wp2_with fail
  refine (Of_any _ _ (by omega) (by omega) Ht.out).mono ?_
  rintro e w' ⟨rfl, rfl⟩
  rw [show ofK 41 = 1 by decide, show ofN 41 = 5 by decide, show ofE 41 = 0 by decide]
  go_wp2_with fail
  refine (I31_any _ _ (by omega) (by omega)).mono ?_
  rintro e w' ⟨rfl, rfl⟩
  rw [show (8 * (4294967295 % 2147483648) + 1 : Int) = 17179869177 by decide]
  go_wp2_with fail
  refine (Open_any _ _ _ (by omega) (by omega) Ht.out).mono ?_
  rintro e w1 ⟨rfl, hb⟩
  rw [show openE 3 0 = 0 by decide, show openV 3 0 = .agg #[.int .i64 3, .int .i64 0, .int .u64 0] by simp [openV, openOk, openR, openN, ofK, ofN, there]]
  have ht1 := Ht.out.below hb
  have Ht1 := Lib.hid (ht1.below ((Below.refl _ _).alloc (Nat.le_refl _) (.cells #[.int .i64 3, .int .i64 0, .int .u64 0] 36))); clear ht1
  go_wp2_with fail
  refine (Number_any _ _ _ (by omega) (by omega) Ht1.out).mono ?_
  rintro e w' ⟨rfl, rfl⟩
  rw [show numF 17179869177 true = 4294967295 by decide]
  go_wp2
  go_ret
  exact ⟨rfl, hb.alloc hb.size _⟩

theorem WordRefs_any (k n x : Int) (s : Bool) (w : World) (h0 : 0 ≤ n) (h1 : n < 18446744073709551616) (g0 : 0 ≤ x) (g1 : x < 18446744073709551616) (ht : Tab w) :
    Calls Tryd.prog 3 #[.int .i64 k, .int .u64 n, .int .u64 x, .bool s] w fun e w' => e = .returned (.bool true) ∧ Below w.heap.size w w' := by
  have Ht := Lib.hid ht; clear ht
  go_enter Tryd.func3, Tryd.ntmps3
  go_wp2_with fail
  refine (ref_any _ _ _ h0 Ht.out).mono ?_
  rintro e w' ⟨rfl, rfl⟩
  go_wp2_with fail
  refine (RRef_any _ _ _ h0).mono ?_
  rintro e w' ⟨rfl, rfl⟩
  go_wp2_with fail
  refine (Of_any _ _ g0 g1 Ht.out).mono ?_
  rintro e w' ⟨rfl, rfl⟩
  go_wp2_with fail
  refine (ROf_any _ _ g0 g1).mono ?_
  rintro e w' ⟨rfl, rfl⟩
  go_wp2_with fail
  refine (RRef_any _ _ _ (by omega)).mono ?_
  rintro e w' ⟨rfl, rfl⟩
  rw [show refW 1 (n % 2147483648) = 8 * (n % 2147483648) + 1 by simp [refW, there]; omega]
  go_wp2_with fail
  refine (I31_any _ _ h0 h1).mono ?_
  rintro e w' ⟨rfl, rfl⟩
  go_wp2_with fail
  refine (Number_any _ _ _ g0 g1 Ht.out).mono ?_
  rintro e w' ⟨rfl, rfl⟩
  go_wp2_with fail
  refine (RNumber_any _ _ _ g0 g1).mono ?_
  rintro e w' ⟨rfl, rfl⟩
  go_wp2_with fail
  refine (known_any _ Ht.out).mono ?_
  rintro e w' ⟨rfl, hb⟩
  go_wp2
  go_ret
  exact ⟨rfl, hb⟩

theorem hi_bits (m : Int) (h0 : 0 ≤ m) (h1 : m < 18446744073709551616) : ∃ y, bits .or .u64 m 9223372036854775808 = y ∧ 9223372036854775808 ≤ y ∧ y < 18446744073709551616 := by
  rw [u64_or _ _ h0 h1 (by omega) (by omega)]
  refine ⟨_, rfl, ?_, ?_⟩
  · have e : (9223372036854775808 : Int).toNat = 9223372036854775808 := rfl
    rw [e]
    have := Nat.right_le_or (n := m.toNat) (m := 9223372036854775808)
    omega
  · have e : (9223372036854775808 : Int).toNat = 9223372036854775808 := rfl
    rw [e]
    have := Nat.or_lt_two_pow (x := m.toNat) (y := 9223372036854775808) (n := 64) (by omega) (by omega)
    omega

theorem refs_there {k n : Int} (h : there k n = true) : 0 ≤ k ∧ k < 6 ∧ n < 1099511627776 ∧ (k = 0 → n = 0) := by
  simp [there] at h; omega
theorem refW_t {k n : Int} (h : there k n = true) : refW k n = 8 * n + k := by simp [refW, h]
theorem refW_f {k n : Int} (h : there k n = false) : refW k n = 0 := by simp [refW, h]
theorem refE_t {k n : Int} (h : there k n = true) : refE k n = 0 := by simp [refE, h]
theorem refE_f {k n : Int} (h : there k n = false) : refE k n = 2 := by simp [refE, h]

theorem WordApart_any (j k m n : Int) (w : World) (g0 : 0 ≤ m) (g1 : m < 18446744073709551616) (h0 : 0 ≤ n) (ht : Tab w) :
    Calls Tryd.prog 4 #[.int .i64 j, .int .i64 k, .int .u64 m, .int .u64 n] w fun e w' => e = .returned (.bool true) ∧ Below w.heap.size w w' := by
  have Ht := Lib.hid ht; clear ht
  obtain ⟨y, hy, hy0, hy1⟩ := hi_bits m g0 g1
  have hyE : ofE y = 2 := by
    have : there (y % 8) (y / 8) = false := by simp [there]; omega
    simp [ofE, this]
  have HY := Lib.hid hy; clear hy
  have HYE := Lib.hid hyE; clear hyE
  cases hj : there j m
  · have Hj := Lib.hid hj; clear hj
    go_enter Tryd.func4, Tryd.ntmps4
    go_wp2_with fail
    refine (ref_any _ _ _ (by omega) Ht.out).mono ?_
    rintro e w' ⟨rfl, rfl⟩
    rw [refW_f Hj.out, refE_f Hj.out]
    go_wp2_with fail
    refine (ref_any _ _ _ (by omega) Ht.out).mono ?_
    rintro e w' ⟨rfl, rfl⟩
    go_wp2_with fail
    refine (ref_any _ _ _ (by omega) Ht.out).mono ?_
    rintro e w' ⟨rfl, rfl⟩
    rw [show refW 0 0 = 0 by decide, show refE 0 0 = 0 by decide]
    go_wp2_with fail
    rw [HY.out]
    refine (Of_any _ _ (by omega) hy1 Ht.out).mono ?_
    rintro e w' ⟨rfl, rfl⟩
    rw [HYE.out]
    go_wp2_with fail
    refine (known_any _ Ht.out).mono ?_
    rintro e w' ⟨rfl, hb⟩
    go_wp2
    go_ret
    exact ⟨rfl, hb⟩
  have bj := refs_there hj
  have Hj := Lib.hid hj; clear hj
  by_cases j0 : j = 0
  · obtain rfl := bj.2.2.2 j0
    subst j0
    clear bj
    cases hk : there k n
    · have Hk := Lib.hid hk; clear hk
      go_enter Tryd.func4, Tryd.ntmps4
      go_wp2_with fail
      refine (ref_any _ _ _ (by omega) Ht.out).mono ?_
      rintro e w' ⟨rfl, rfl⟩
      rw [refW_t Hj.out, refE_t Hj.out]
      go_wp2_with fail
      refine (ref_any _ _ _ (by omega) Ht.out).mono ?_
      rintro e w' ⟨rfl, rfl⟩
      rw [refW_f Hk.out, refE_f Hk.out]
      go_wp2_with fail
      refine (ref_any _ _ _ (by omega) Ht.out).mono ?_
      rintro e w' ⟨rfl, rfl⟩
      rw [show refW 0 0 = 0 by decide, show refE 0 0 = 0 by decide]
      go_wp2_with fail
      rw [HY.out]
      refine (Of_any _ _ (by omega) hy1 Ht.out).mono ?_
      rintro e w' ⟨rfl, rfl⟩
      rw [HYE.out]
      go_wp2_with fail
      refine (known_any _ Ht.out).mono ?_
      rintro e w' ⟨rfl, hb⟩
      go_wp2
      go_ret
      exact ⟨rfl, hb⟩
    · have bk := refs_there hk
      have Hk := Lib.hid hk; clear hk
      by_cases k0 : k = 0
      · obtain rfl := bk.2.2.2 k0
        subst k0
        clear bk
        go_enter Tryd.func4, Tryd.ntmps4
        go_wp2_with fail
        refine (ref_any _ _ _ (by omega) Ht.out).mono ?_
        rintro e w' ⟨rfl, rfl⟩
        rw [refW_t Hj.out, refE_t Hj.out]
        go_wp2_with fail
        refine (ref_any _ _ _ (by omega) Ht.out).mono ?_
        rintro e w' ⟨rfl, rfl⟩
        rw [refW_t Hk.out, refE_t Hk.out]
        go_wp2_with fail
        refine (ref_any _ _ _ (by omega) Ht.out).mono ?_
        rintro e w' ⟨rfl, rfl⟩
        rw [show refW 0 0 = 0 by decide, show refE 0 0 = 0 by decide]
        go_wp2_with fail
        rw [HY.out]
        refine (Of_any _ _ (by omega) hy1 Ht.out).mono ?_
        rintro e w' ⟨rfl, rfl⟩
        rw [HYE.out]
        go_wp2_with fail
        refine (known_any _ Ht.out).mono ?_
        rintro e w' ⟨rfl, hb⟩
        go_wp2
        go_ret
        exact ⟨rfl, hb⟩
      · have b1 : (0 == 8 * n + k) = false := by simp; omega
        have b2 : (0 == k) = false := by simp; omega
        clear bk k0
        go_enter Tryd.func4, Tryd.ntmps4
        go_wp2_with fail
        refine (ref_any _ _ _ (by omega) Ht.out).mono ?_
        rintro e w' ⟨rfl, rfl⟩
        rw [refW_t Hj.out, refE_t Hj.out]
        go_wp2_with fail
        refine (ref_any _ _ _ (by omega) Ht.out).mono ?_
        rintro e w' ⟨rfl, rfl⟩
        rw [refW_t Hk.out, refE_t Hk.out]
        go_wp2_with fail
        refine (ref_any _ _ _ (by omega) Ht.out).mono ?_
        rintro e w' ⟨rfl, rfl⟩
        rw [show refW 0 0 = 0 by decide, show refE 0 0 = 0 by decide]
        go_wp2_with fail
        rw [HY.out]
        refine (Of_any _ _ (by omega) hy1 Ht.out).mono ?_
        rintro e w' ⟨rfl, rfl⟩
        rw [HYE.out]
        go_wp2_with fail
        refine (known_any _ Ht.out).mono ?_
        rintro e w' ⟨rfl, hb⟩
        go_wp2
        go_ret
        exact ⟨rfl, hb⟩
  have c1 : (8 * m + j == 0) = false := by simp; omega
  have c2 : (j == 0) = false := by simp; omega
  cases hk : there k n
  · have Hk := Lib.hid hk; clear hk bj j0
    go_enter Tryd.func4, Tryd.ntmps4
    go_wp2_with fail
    refine (ref_any _ _ _ (by omega) Ht.out).mono ?_
    rintro e w' ⟨rfl, rfl⟩
    rw [refW_t Hj.out, refE_t Hj.out]
    go_wp2_with fail
    refine (ref_any _ _ _ (by omega) Ht.out).mono ?_
    rintro e w' ⟨rfl, rfl⟩
    rw [refW_f Hk.out, refE_f Hk.out]
    go_wp2_with fail
    refine (ref_any _ _ _ (by omega) Ht.out).mono ?_
    rintro e w' ⟨rfl, rfl⟩
    rw [show refW 0 0 = 0 by decide, show refE 0 0 = 0 by decide]
    go_wp2_with fail
    rw [HY.out]
    refine (Of_any _ _ (by omega) hy1 Ht.out).mono ?_
    rintro e w' ⟨rfl, rfl⟩
    rw [HYE.out]
    go_wp2_with fail
    refine (known_any _ Ht.out).mono ?_
    rintro e w' ⟨rfl, hb⟩
    go_wp2
    go_ret
    exact ⟨rfl, hb⟩
  have bk := refs_there hk
  have Hk := Lib.hid hk; clear hk
  by_cases hjk : j = k
  · subst hjk
    by_cases hmn : m = n
    · subst hmn
      clear bk bj j0
      go_enter Tryd.func4, Tryd.ntmps4
      go_wp2_with fail
      refine (ref_any _ _ _ (by omega) Ht.out).mono ?_
      rintro e w' ⟨rfl, rfl⟩
      rw [refW_t Hj.out, refE_t Hj.out]
      go_wp2_with fail
      refine (ref_any _ _ _ (by omega) Ht.out).mono ?_
      rintro e w' ⟨rfl, rfl⟩
      rw [refW_t Hk.out, refE_t Hk.out]
      go_wp2_with fail
      refine (ref_any _ _ _ (by omega) Ht.out).mono ?_
      rintro e w' ⟨rfl, rfl⟩
      rw [show refW 0 0 = 0 by decide, show refE 0 0 = 0 by decide]
      go_wp2_with fail
      rw [HY.out]
      refine (Of_any _ _ (by omega) hy1 Ht.out).mono ?_
      rintro e w' ⟨rfl, rfl⟩
      rw [HYE.out]
      go_wp2_with fail
      refine (known_any _ Ht.out).mono ?_
      rintro e w' ⟨rfl, hb⟩
      go_wp2
      go_ret
      exact ⟨rfl, hb⟩
    · have b1 : (8 * m + j == 8 * n + j) = false := by simp; omega
      have b2 : (m == n) = false := by simp; omega
      clear bk bj j0 hmn
      go_enter Tryd.func4, Tryd.ntmps4
      go_wp2_with fail
      refine (ref_any _ _ _ (by omega) Ht.out).mono ?_
      rintro e w' ⟨rfl, rfl⟩
      rw [refW_t Hj.out, refE_t Hj.out]
      go_wp2_with fail
      refine (ref_any _ _ _ (by omega) Ht.out).mono ?_
      rintro e w' ⟨rfl, rfl⟩
      rw [refW_t Hk.out, refE_t Hk.out]
      go_wp2_with fail
      refine (ref_any _ _ _ (by omega) Ht.out).mono ?_
      rintro e w' ⟨rfl, rfl⟩
      rw [show refW 0 0 = 0 by decide, show refE 0 0 = 0 by decide]
      go_wp2_with fail
      rw [HY.out]
      refine (Of_any _ _ (by omega) hy1 Ht.out).mono ?_
      rintro e w' ⟨rfl, rfl⟩
      rw [HYE.out]
      go_wp2_with fail
      refine (known_any _ Ht.out).mono ?_
      rintro e w' ⟨rfl, hb⟩
      go_wp2
      go_ret
      exact ⟨rfl, hb⟩
  · have b1 : (8 * m + j == 8 * n + k) = false := by simp; omega
    have b2 : (j == k) = false := by simp; omega
    clear bk bj j0 hjk
    go_enter Tryd.func4, Tryd.ntmps4
    go_wp2_with fail
    refine (ref_any _ _ _ (by omega) Ht.out).mono ?_
    rintro e w' ⟨rfl, rfl⟩
    rw [refW_t Hj.out, refE_t Hj.out]
    go_wp2_with fail
    refine (ref_any _ _ _ (by omega) Ht.out).mono ?_
    rintro e w' ⟨rfl, rfl⟩
    rw [refW_t Hk.out, refE_t Hk.out]
    go_wp2_with fail
    refine (ref_any _ _ _ (by omega) Ht.out).mono ?_
    rintro e w' ⟨rfl, rfl⟩
    rw [show refW 0 0 = 0 by decide, show refE 0 0 = 0 by decide]
    go_wp2_with fail
    rw [HY.out]
    refine (Of_any _ _ (by omega) hy1 Ht.out).mono ?_
    rintro e w' ⟨rfl, rfl⟩
    rw [HYE.out]
    go_wp2_with fail
    refine (known_any _ Ht.out).mono ?_
    rintro e w' ⟨rfl, hb⟩
    go_wp2
    go_ret
    exact ⟨rfl, hb⟩

theorem Zero_any (a b c d : Value) (w : World) :
    Calls Tryd.prog 19 #[.agg #[a, b, c, d]] w fun e w' => e = .returned (.int .u64 0) ∧ Below w.heap.size w w' := by
  go_enter Tryd.func19, Tryd.ntmps19
  go_wp2
  go_ret
  exact ⟨rfl, (Below.refl _ _).alloc (Nat.le_refl _) _⟩

theorem openV_agg (k x : Int) : ∃ a b c, openV k x = val a b c := by
  unfold openV val; split <;> exact ⟨_, _, _, rfl⟩

theorem WordValues_any (k r n kind x : Int) (a b c d : Value) (w : World) (h0 : 0 ≤ n) (h1 : n < 18446744073709551616) (g0 : 0 ≤ x) (g1 : x < 18446744073709551616) (ht : Tab w) :
    Calls Tryd.prog 6 #[val k r n, .int .i64 kind, .int .u64 x, .agg #[a, b, c, d]] w fun e w' => e = .returned (.bool true) ∧ Below w.heap.size w w' := by
  obtain ⟨o1, o2, o3, ho⟩ := openV_agg kind x
  have HO := Lib.hid ho; clear ho
  unfold val
  have b0 : Below w.heap.size w ((w.alloc (.cells #[.int .i64 k, .int .i64 r, .int .u64 n] 36)).alloc (.cells #[a, b, c, d] 45)) := ((Below.refl _ _).alloc (Nat.le_refl _) _).alloc (by simp) _
  have Ht := Lib.hid (ht.below b0)
  have B0 := Lib.hid b0; clear b0
  go_enter Tryd.func6, Tryd.ntmps6
  go_wp2_with fail
  refine (Pack_any _ _ _ _ h0 h1 Ht.out).mono ?_
  rintro e w1 ⟨rfl, hb1⟩
  obtain ⟨hc1, hf1⟩ := bcell hb1
  have hz1 : w.heap.size + 1 < w1.heap.size := by have := hb1.size; simp at this; omega
  have B1 := Lib.hid (B0.out.trans (hb1.mono (by simp; omega)))
  have Ht1 := Lib.hid (Ht.out.below hb1)
  clear B0 Ht hb1
  go_wp2_with fail
  refine (RPack_any _ _ _ _ h0).mono ?_
  rintro e w2 ⟨rfl, hb2⟩
  obtain ⟨hc2, hf2⟩ := bcell hb2
  have hz2 : w.heap.size + 1 < w2.heap.size := by have := hb2.size; omega
  have B2 := Lib.hid (B1.out.trans (hb2.mono (by omega)))
  have Ht2 := Lib.hid (Ht1.out.below hb2)
  clear B1 Ht1 hb2
  go_wp2_with fail
  refine (Open_any _ _ _ g0 g1 Ht2.out).mono ?_
  rintro e w3 ⟨rfl, hb3⟩
  obtain ⟨hc3, hf3⟩ := bcell hb3
  have hz3 : w.heap.size + 1 < w3.heap.size := by have := hb3.size; omega
  have B3 := Lib.hid ((B2.out.trans (hb3.mono (by omega))).alloc (by omega) (.cells #[.int .i64 o1, .int .i64 o2, .int .u64 o3] 36))
  have Ht3 := Lib.hid (Ht2.out.below hb3)
  clear B2 Ht2 hb3
  rw [HO.out]
  unfold val
  go_wp2_with fail
  refine (ROpen_any _ _ _ g0 g1).mono ?_
  rintro e w4 ⟨rfl, hb4⟩
  obtain ⟨hc4, hf4⟩ := bcell hb4
  have hz4 : w3.heap.size < w4.heap.size := by have := hb4.size; simp at this; omega
  have hz5 : w.heap.size < w3.heap.size := by omega
  have hz6 : w.heap.size + 1 < w4.heap.size := by omega
  have b4 := (B3.out.trans (hb4.mono (by simp; omega))).alloc (by omega) (.cells #[.int .i64 o1, .int .i64 o2, .int .u64 o3] 36)
  have Ht4 := Lib.hid (ht.below b4)
  have B4 := Lib.hid b4
  clear B3 Ht3 hb4 b4
  rw [HO.out]
  unfold val
  go_wp2_with fail
  refine (Zero_any _ _ _ _ _).mono ?_
  rintro e w5 ⟨rfl, hb5⟩
  have b5 := B4.out.trans (hb5.mono (by simp; omega))
  have Ht5 := Lib.hid (ht.below b5)
  have B5 := Lib.hid b5
  clear b5 hb5 B4 Ht4
  go_wp2_with fail
  refine (known_any _ Ht5.out).mono ?_
  rintro e w6 ⟨rfl, hb6⟩
  have B6 := Lib.hid (B5.out.trans (hb6.mono B5.out.size))
  go_wp2
  go_ret
  exact ⟨rfl, B6.out⟩
end Go.Proofs.YtgjncajegegdhaaDoor
