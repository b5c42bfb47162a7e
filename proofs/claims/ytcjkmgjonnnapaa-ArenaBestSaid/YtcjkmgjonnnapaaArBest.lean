/- package arena: ArenaBest walked. -/
import Derived.Test.YtcjkmgjonnnapaaArKnown
import Derived.Test.YtcjkmgjonnnapaaArBestP
namespace Go.Proofs.Ytcjkmgjonnnapaa
open Go.RowKit

theorem wf100 {w0 w : World} {p : Nat} {bs : List Blk} (A : ArN w0 w p 100 bs) : Span 1 bs 101 := A.wf.span
set_option maxRecDepth 100000 in
set_option maxHeartbeats 16000000 in
theorem best_main (w : World) (x y z : Nat) (hx : 1 ≤ x ∧ x ≤ 20) (hy : 1 ≤ y ∧ y ≤ 20) (hz : 1 ≤ z ∧ z ≤ 20) :
    Calls Try.prog 4 #[.int .i64 (x : Nat), .int .i64 (y : Nat), .int .i64 (z : Nat)] w fun e w' => e = .returned (.bool true) ∧ Below w.heap.size w w' := by
  have f1 : ¬ (x : Int) < 1 := by omega
  have f2 : ¬ (20 : Int) < x := by omega
  have f3 : ¬ (y : Int) < 1 := by omega
  have f4 : ¬ (20 : Int) < y := by omega
  have f5 : ¬ (z : Int) < 1 := by omega
  have f6 : ¬ (20 : Int) < z := by omega
  have g1 : decide ((x : Int) < 1) = false := decide_eq_false f1
  have g2 : decide ((20 : Int) < x) = false := decide_eq_false f2
  have g3 : decide ((y : Int) < 1) = false := decide_eq_false f3
  have g4 : decide ((20 : Int) < y) = false := decide_eq_false f4
  have g5 : decide ((z : Int) < 1) = false := decide_eq_false f5
  have g6 : decide ((20 : Int) < z) = false := decide_eq_false f6
  have HX := Lib.hid hx; have HY := Lib.hid hy; have HZ := Lib.hid hz
  have hxr : -9223372036854775808 ≤ (x : Int) ∧ (x : Int) < 9223372036854775808 := by omega
  have hyr : -9223372036854775808 ≤ (y : Int) ∧ (y : Int) < 9223372036854775808 := by omega
  have hzr : -9223372036854775808 ≤ (z : Int) ∧ (z : Int) < 9223372036854775808 := by omega
  have RX := Lib.hid hxr; have RY := Lib.hid hyr; have RZ := Lib.hid hzr
  obtain ⟨q, hq⟩ : ∃ q, x + 2 = q := ⟨_, rfl⟩
  obtain ⟨xy, hxy⟩ : ∃ xy, x + y = xy := ⟨_, rfl⟩
  obtain ⟨r, hr⟩ : ∃ r, x + y + 3 = r := ⟨_, rfl⟩
  obtain ⟨xyz, hxyz⟩ : ∃ xyz, x + y + z = xyz := ⟨_, rfl⟩
  obtain ⟨s, hs⟩ : ∃ s, x + y + z + 4 = s := ⟨_, rfl⟩
  have e1 : IntKind.i64.wrap ((x : Int) + 2) = (q : Int) := by rw [IntWalk.i64_in _ ⟨by omega, by omega⟩]; omega
  have e2 : IntKind.i64.wrap ((x : Int) + y) = (xy : Int) := by rw [IntWalk.i64_in _ ⟨by omega, by omega⟩]; omega
  have e3 : IntKind.i64.wrap ((xy : Int) + 3) = (r : Int) := by rw [IntWalk.i64_in _ ⟨by omega, by omega⟩]; omega
  have e4 : IntKind.i64.wrap ((xy : Int) + z) = (xyz : Int) := by rw [IntWalk.i64_in _ ⟨by omega, by omega⟩]; omega
  have e5 : IntKind.i64.wrap ((xyz : Int) + 4) = (s : Int) := by rw [IntWalk.i64_in _ ⟨by omega, by omega⟩]; omega
  have hqr : -9223372036854775808 ≤ (q : Int) ∧ (q : Int) < 9223372036854775808 := by omega
  have hrr : -9223372036854775808 ≤ (r : Int) ∧ (r : Int) < 9223372036854775808 := by omega
  have RQ := Lib.hid hqr; have RR := Lib.hid hrr
  have HQ := Lib.hid hq; have HR := Lib.hid hr; have HS := Lib.hid hs
  clear hx hy hz hxr hyr hzr hqr hrr hq hr hs hxy hxyz
  go_enter Try.func4, Try.ntmps4
  go_wp2_with fail
  refine (known_any w).mono ?_
  rintro e w1 ⟨rfl, hb1⟩
  have HB1 := Lib.hid hb1
  clear hb1
  go_wp2_with fail
  refine (New_n w1 100 100 (by omega) (by decide)).mono ?_
  rintro e w2 ⟨p, rfl, A⟩
  clear f1 f2 f3 f4 f5 f6 g1 g2 g3 g4 g5 g6
  have HA := Lib.hid A
  clear A
  have ht := bt1 HX.out HY.out HZ.out (wf100 HA.out)
  have HT := Lib.hid ht
  clear ht
  go_wp2_with fail
  refine (Take_k HA.out HT.out 1 rfl RX.out.1 RX.out.2).mono ?_
  clear HA HT
  rintro e w3 ⟨rfl, A⟩
  have HA := Lib.hid A
  clear A
  have ht := bt2 HX.out HY.out HZ.out (wf100 HA.out)
  rw [HQ.out] at ht
  have HT := Lib.hid ht
  clear ht
  go_wp2_with fail
  refine (Take_k HA.out HT.out q rfl RY.out.1 RY.out.2).mono ?_
  clear HA HT
  rintro e w3 ⟨rfl, A⟩
  have HA := Lib.hid A
  clear A
  have ht := bt3 HX.out HY.out HZ.out (wf100 HA.out)
  rw [HR.out] at ht
  have HT := Lib.hid ht
  clear ht
  go_wp2_with fail
  refine (Take_k HA.out HT.out r rfl RZ.out.1 RZ.out.2).mono ?_
  clear HA HT
  rintro e w3 ⟨rfl, A⟩
  have HA := Lib.hid A
  clear A
  have ht := bt4 HX.out HY.out HZ.out (wf100 HA.out)
  rw [HS.out] at ht
  have HT := Lib.hid ht
  clear ht
  go_wp2_with fail
  refine (Take_k HA.out HT.out s rfl (show -9223372036854775808 ≤ (1 : Int) ∧ (1 : Int) < 9223372036854775808 by decide).1 (show -9223372036854775808 ≤ (1 : Int) ∧ (1 : Int) < 9223372036854775808 by decide).2).mono ?_
  clear HA HT
  rintro e w3 ⟨rfl, A⟩
  have HA := Lib.hid A
  clear A
  have ht := bf1 HX.out HY.out HZ.out (wf100 HA.out) HA.out.wf.two
  rw [HQ.out] at ht
  have HT := Lib.hid ht
  clear ht
  go_wp2_with fail
  refine (Free_k HA.out HT.out RQ.out.1 RQ.out.2).mono ?_
  clear HA HT
  rintro e w3 ⟨rfl, A⟩
  have HA := Lib.hid A
  clear A
  have ht := bt5 HX.out HY.out HZ.out (wf100 HA.out)
  rw [HQ.out] at ht
  have HT := Lib.hid ht
  clear ht
  go_wp2_with fail
  refine (Take_k HA.out HT.out q rfl RY.out.1 RY.out.2).mono ?_
  clear HA HT
  rintro e w3 ⟨rfl, A⟩
  have HA := Lib.hid A
  clear A
  have ht := bf2 HX.out HY.out HZ.out (wf100 HA.out) HA.out.wf.two
  have HT := Lib.hid ht
  clear ht
  go_wp2_with fail
  refine (Free_k HA.out HT.out (show -9223372036854775808 ≤ (1 : Int) ∧ (1 : Int) < 9223372036854775808 by decide).1 (show -9223372036854775808 ≤ (1 : Int) ∧ (1 : Int) < 9223372036854775808 by decide).2).mono ?_
  clear HA HT
  rintro e w3 ⟨rfl, A⟩
  have HA := Lib.hid A
  clear A
  have ht := bf3 HX.out HY.out HZ.out (wf100 HA.out) HA.out.wf.two
  rw [HR.out] at ht
  have HT := Lib.hid ht
  clear ht
  go_wp2_with fail
  refine (Free_k HA.out HT.out RR.out.1 RR.out.2).mono ?_
  clear HA HT
  rintro e w3 ⟨rfl, A⟩
  have HA := Lib.hid A
  clear A
  by_cases hl : z < x
  · have hzx : (z : Int) < x := by omega
    have hzx2 : z < x := hl
    have hmin : min (x : Int) z = z := by omega
    have hmax : max (x : Int) z = x := by omega
    have HL := Lib.hid hl
    clear hl
    have ht := bt6 HX.out HY.out HZ.out HL.out (wf100 HA.out)
    rw [HR.out] at ht
    have HT := Lib.hid ht
    clear ht
    go_wp2_with fail
    refine (Take_k HA.out HT.out r rfl RZ.out.1 RZ.out.2).mono ?_
    clear HA HT
    rintro e w3 ⟨rfl, A⟩
    have HA := Lib.hid A
    clear A
    have ht := bt7 HX.out HY.out HZ.out (wf100 HA.out)
    have HT := Lib.hid ht
    clear ht
    go_wp2_with fail
    refine (Take_k HA.out HT.out 1 rfl RX.out.1 RX.out.2).mono ?_
    clear HA HT
    rintro e w3 ⟨rfl, A⟩
    have HA := Lib.hid A
    clear A
    have hsz : sizeF (bbF true true true x y z) (r : Int) = z := by
      rw [← HR.out]
      exact size_at_of (wf100 HA.out) (b := Ub (x + y + 3) z) (by simp [bbF]) rfl (Ub_n _ _)
    have HSZ := Lib.hid hsz
    clear hsz
    by_cases hn1 : (1 : Int) < z
    · have hn1' : 1 < z := by omega
      obtain ⟨n2, hn2, hnq⟩ : ∃ n2, z + 2 = n2 ∧ n2 = z + 2 := ⟨_, rfl, rfl⟩
      skip
      obtain ⟨n1, hn3⟩ : ∃ n1, z + 1 = n1 := ⟨_, rfl⟩
      have en2 : IntKind.i64.wrap ((z : Int) + 2) = (n2 : Int) := by have := HX.out; have := HZ.out; rw [IntWalk.i64_in _ ⟨by omega, by omega⟩]; omega
      have en1 : IntKind.i64.wrap ((z : Int) + 1) = (n1 : Int) := by have := HX.out; have := HZ.out; rw [IntWalk.i64_in _ ⟨by omega, by omega⟩]; omega
      have HN := Lib.hid (show n2 ≤ 300 ∧ z + 2 = n2 ∧ z + 1 = n1 by have := HX.out; have := HZ.out; omega)
      clear hn2 hn3 hnq
      go_wp2_with fail
      refine (New_n w3 n2 n2 (by have := HN.out; omega) (by have := HN.out; omega)).mono ?_
      rintro e w4 ⟨p2, rfl, A⟩
      have HA1 := Lib.hid (HA.out.then A.below)
      have htw : takeF (newBs n2) (z : Int) = (1, 0, [Ub 1 n1]) := by
        have hs := A.wf.span
        rw [← HN.out.2.1, show endOf (z + 2) = z + 3 from if_pos (by omega)] at hs
        have := bnew (n := z) (by omega) hs
        rw [HN.out.2.1, HN.out.2.2] at this
        exact this
      have HW := Lib.hid A; have HTW := Lib.hid htw
      clear A htw
      go_wp2_with fail
      refine (Take_k HW.out HTW.out 1 rfl RZ.out.1 RZ.out.2).mono ?_
      rintro e w5 ⟨rfl, A⟩
      have hs1 : sizeF [Ub 1 n1] (1 : Int) = n1 := by
        exact size_at_of A.wf.span (b := Ub 1 n1) (by simp) rfl (Ub_n _ _)
      have HA5 := Lib.hid (HA.out.then A.below)
      have HS1 := Lib.hid hs1; have HW5 := Lib.hid A
      clear A hs1 HA HA1
      have HA := HA5
      go_wp2_with fail
      refine (Size_n HW5.out 1 (by decide) (by decide)).mono ?_
      rintro e w6 ⟨rfl, rfl⟩
      rw [HS1.out]
      go_wp2_with fail
      refine (Size_n HA.out r RR.out.1 RR.out.2).mono ?_
      rintro e w6 ⟨rfl, rfl⟩
      rw [HSZ.out]
      clear hzx hzx2 hmin hmax hn1 hn1' e1 e2 e3 e4 e5
      go_wp2
      go_ret
      exact ⟨rfl, HB1.out.trans (HA.out.below.mono HB1.out.size)⟩
    · have hn1' : ¬ 1 < z := by omega
      go_wp2_with fail
      refine (Size_n HA.out r RR.out.1 RR.out.2).mono ?_
      rintro e w6 ⟨rfl, rfl⟩
      rw [HSZ.out]
      clear hzx hzx2 hmin hmax hn1 hn1' e1 e2 e3 e4 e5
      go_wp2
      go_ret
      exact ⟨rfl, HB1.out.trans (HA.out.below.mono HB1.out.size)⟩
  · have hzx : ¬ (z : Int) < x := by omega
    have hzx2 : ¬ z < x := hl
    have hmin : min (x : Int) z = x := by omega
    have hmax : max (x : Int) z = z := by omega
    have HL := Lib.hid (show x ≤ z by omega)
    clear hl
    have ht := bt8 HX.out HY.out HZ.out HL.out (wf100 HA.out)
    have HT := Lib.hid ht
    clear ht
    go_wp2_with fail
    refine (Take_k HA.out HT.out 1 rfl RX.out.1 RX.out.2).mono ?_
    clear HA HT
    rintro e w3 ⟨rfl, A⟩
    have HA := Lib.hid A
    clear A
    have ht := bt9 HX.out HY.out HZ.out (wf100 HA.out)
    rw [HR.out] at ht
    have HT := Lib.hid ht
    clear ht
    go_wp2_with fail
    refine (Take_k HA.out HT.out r rfl RZ.out.1 RZ.out.2).mono ?_
    clear HA HT
    rintro e w3 ⟨rfl, A⟩
    have HA := Lib.hid A
    clear A
    have hsz : sizeF (bbF true true true x y z) (1 : Int) = x := by
      skip
      exact size_at_of (wf100 HA.out) (b := Ub 1 x) (by simp [bbF]) rfl (Ub_n _ _)
    have HSZ := Lib.hid hsz
    clear hsz
    by_cases hn1 : (1 : Int) < x
    · have hn1' : 1 < x := by omega
      obtain ⟨n2, hn2, hnq⟩ : ∃ n2, x + 2 = n2 ∧ n2 = x + 2 := ⟨_, rfl, rfl⟩
      rw [HQ.out] at hnq; subst hnq
      obtain ⟨n1, hn3⟩ : ∃ n1, x + 1 = n1 := ⟨_, rfl⟩
      have en2 : IntKind.i64.wrap ((x : Int) + 2) = (n2 : Int) := by have := HX.out; have := HZ.out; rw [IntWalk.i64_in _ ⟨by omega, by omega⟩]; omega
      have en1 : IntKind.i64.wrap ((x : Int) + 1) = (n1 : Int) := by have := HX.out; have := HZ.out; rw [IntWalk.i64_in _ ⟨by omega, by omega⟩]; omega
      have HN := Lib.hid (show n2 ≤ 300 ∧ x + 2 = n2 ∧ x + 1 = n1 by have := HX.out; have := HZ.out; omega)
      clear hn2 hn3
      go_wp2_with fail
      refine (New_n w3 n2 n2 (by have := HN.out; omega) (by have := HN.out; omega)).mono ?_
      rintro e w4 ⟨p2, rfl, A⟩
      have HA1 := Lib.hid (HA.out.then A.below)
      have htw : takeF (newBs n2) (x : Int) = (1, 0, [Ub 1 n1]) := by
        have hs := A.wf.span
        rw [← HN.out.2.1, show endOf (x + 2) = x + 3 from if_pos (by omega)] at hs
        have := bnew (n := x) (by omega) hs
        rw [HN.out.2.1, HN.out.2.2] at this
        exact this
      have HW := Lib.hid A; have HTW := Lib.hid htw
      clear A htw
      go_wp2_with fail
      refine (Take_k HW.out HTW.out 1 rfl RX.out.1 RX.out.2).mono ?_
      rintro e w5 ⟨rfl, A⟩
      have hs1 : sizeF [Ub 1 n1] (1 : Int) = n1 := by
        exact size_at_of A.wf.span (b := Ub 1 n1) (by simp) rfl (Ub_n _ _)
      have HA5 := Lib.hid (HA.out.then A.below)
      have HS1 := Lib.hid hs1; have HW5 := Lib.hid A
      clear A hs1 HA HA1
      have HA := HA5
      go_wp2_with fail
      refine (Size_n HW5.out 1 (by decide) (by decide)).mono ?_
      rintro e w6 ⟨rfl, rfl⟩
      rw [HS1.out]
      go_wp2_with fail
      refine (Size_n HA.out 1 (by decide) (by decide)).mono ?_
      rintro e w6 ⟨rfl, rfl⟩
      rw [HSZ.out]
      clear hzx hzx2 hmin hmax hn1 hn1' e1 e2 e3 e4 e5
      go_wp2
      go_ret
      exact ⟨rfl, HB1.out.trans (HA.out.below.mono HB1.out.size)⟩
    · have hn1' : ¬ 1 < x := by omega
      go_wp2_with fail
      refine (Size_n HA.out 1 (by decide) (by decide)).mono ?_
      rintro e w6 ⟨rfl, rfl⟩
      rw [HSZ.out]
      clear hzx hzx2 hmin hmax hn1 hn1' e1 e2 e3 e4 e5
      go_wp2
      go_ret
      exact ⟨rfl, HB1.out.trans (HA.out.below.mono HB1.out.size)⟩
set_option maxRecDepth 100000 in
set_option maxHeartbeats 2000000 in
theorem best_any (x y z : Int) (w : World) :
    Calls Try.prog 4 #[.int .i64 x, .int .i64 y, .int .i64 z] w fun e w' => e = .returned (.bool true) ∧ Below w.heap.size w w' := by
  by_cases h1 : x < 1
  · have d0 : decide (x < 1) = true := decide_eq_true h1
    go_enter Try.func4, Try.ntmps4
    go_wp2_with fail
    refine (known_any w).mono ?_
    rintro e w1 ⟨rfl, hb1⟩
    have HB1 := Lib.hid hb1
    clear hb1
    go_wp2
    go_ret
    exact ⟨rfl, HB1.out⟩
  by_cases h2 : 20 < x
  · have d0 : decide (x < 1) = false := decide_eq_false h1
    have d1 : decide (20 < x) = true := decide_eq_true h2
    go_enter Try.func4, Try.ntmps4
    go_wp2_with fail
    refine (known_any w).mono ?_
    rintro e w1 ⟨rfl, hb1⟩
    have HB1 := Lib.hid hb1
    clear hb1
    go_wp2
    go_ret
    exact ⟨rfl, HB1.out⟩
  by_cases h3 : y < 1
  · have d0 : decide (x < 1) = false := decide_eq_false h1
    have d1 : decide (20 < x) = false := decide_eq_false h2
    have d2 : decide (y < 1) = true := decide_eq_true h3
    go_enter Try.func4, Try.ntmps4
    go_wp2_with fail
    refine (known_any w).mono ?_
    rintro e w1 ⟨rfl, hb1⟩
    have HB1 := Lib.hid hb1
    clear hb1
    go_wp2
    go_ret
    exact ⟨rfl, HB1.out⟩
  by_cases h4 : 20 < y
  · have d0 : decide (x < 1) = false := decide_eq_false h1
    have d1 : decide (20 < x) = false := decide_eq_false h2
    have d2 : decide (y < 1) = false := decide_eq_false h3
    have d3 : decide (20 < y) = true := decide_eq_true h4
    go_enter Try.func4, Try.ntmps4
    go_wp2_with fail
    refine (known_any w).mono ?_
    rintro e w1 ⟨rfl, hb1⟩
    have HB1 := Lib.hid hb1
    clear hb1
    go_wp2
    go_ret
    exact ⟨rfl, HB1.out⟩
  by_cases h5 : z < 1
  · have d0 : decide (x < 1) = false := decide_eq_false h1
    have d1 : decide (20 < x) = false := decide_eq_false h2
    have d2 : decide (y < 1) = false := decide_eq_false h3
    have d3 : decide (20 < y) = false := decide_eq_false h4
    have d4 : decide (z < 1) = true := decide_eq_true h5
    go_enter Try.func4, Try.ntmps4
    go_wp2_with fail
    refine (known_any w).mono ?_
    rintro e w1 ⟨rfl, hb1⟩
    have HB1 := Lib.hid hb1
    clear hb1
    go_wp2
    go_ret
    exact ⟨rfl, HB1.out⟩
  by_cases h6 : 20 < z
  · have d0 : decide (x < 1) = false := decide_eq_false h1
    have d1 : decide (20 < x) = false := decide_eq_false h2
    have d2 : decide (y < 1) = false := decide_eq_false h3
    have d3 : decide (20 < y) = false := decide_eq_false h4
    have d4 : decide (z < 1) = false := decide_eq_false h5
    have d5 : decide (20 < z) = true := decide_eq_true h6
    go_enter Try.func4, Try.ntmps4
    go_wp2_with fail
    refine (known_any w).mono ?_
    rintro e w1 ⟨rfl, hb1⟩
    have HB1 := Lib.hid hb1
    clear hb1
    go_wp2
    go_ret
    exact ⟨rfl, HB1.out⟩
  obtain ⟨x, rfl⟩ : ∃ m : Nat, x = (m : Int) := ⟨x.toNat, by omega⟩
  obtain ⟨y, rfl⟩ : ∃ m : Nat, y = (m : Int) := ⟨y.toNat, by omega⟩
  obtain ⟨z, rfl⟩ : ∃ m : Nat, z = (m : Int) := ⟨z.toNat, by omega⟩
  exact best_main w x y z (by omega) (by omega) (by omega)
end Go.Proofs.Ytcjkmgjonnnapaa
