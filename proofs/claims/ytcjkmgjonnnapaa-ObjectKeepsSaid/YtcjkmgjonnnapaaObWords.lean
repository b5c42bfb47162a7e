/- package object: ObjectWords walked. -/
import Derived.Test.YtcjkmgjonnnapaaObWordsP
namespace Go.Proofs.Ytcjkmgjonnnapaa
open Go.RowKit

/-- A thing's data in memory. -/
structure ThingAt (T : Nat) (k i n : Int) (w : World) : Prop where
  c0 : w.cell? ⟨T, 0, none⟩ = some (.int .i64 k)
  c1 : w.cell? ⟨T, 1, none⟩ = some (.int .i64 i)
  c2 : w.cell? ⟨T, 2, none⟩ = some (.int .i64 n)
theorem ThingAt.below {T : Nat} {k i n : Int} {w w' : World} (h : ThingAt T k i n w) (hb : Below w.heap.size w w') : ThingAt T k i n w' :=
  ⟨below_cell hb h.c0, below_cell hb h.c1, below_cell hb h.c2⟩
theorem ThingAt.of {T : Nat} {k i n : Int} {w : World} (h : w.heap[T]? = some (.cells #[.int .i64 k, .int .i64 i, .int .i64 n] 50 (0, 0))) : ThingAt T k i n w :=
  ⟨by have := heap_cell h 0; simpa using this, by have := heap_cell h 1; simpa using this, by have := heap_cell h 2; simpa using this⟩
theorem alloc_below (w : World) (o : Obj) : Below w.heap.size w (w.alloc o) := (Below.refl _ _).alloc (Nat.le_refl _) _
set_option maxRecDepth 100000 in
set_option maxHeartbeats 16000000 in
theorem ow_pos (w : World) (n : Nat) (hn : n ≤ 200) (hn1 : 1 ≤ n) (pack kind : Int) (bo : Bool) (hk hh : Int) (b p : Nat) (hbb : bitsI pack kind = (b : Int)) (hb1 : 1 ≤ b) (hb2 : b ≤ 64) (hp1 : 1 ≤ p) (hp8 : p ≤ 8) (hpb : p * b = 64) :
    Calls Try.prog 6 #[.int .i64 (n : Nat), storeV pack kind bo hk hh] w fun e w' => e = .returned (.bool true) ∧ Below w.heap.size w w' := by
  obtain ⟨d, hd⟩ : ∃ d, (n + p - 1) / p = d := ⟨_, rfl⟩
  obtain ⟨hge, hpos, hzero, hdn⟩ := words_ge hp1 hd
  obtain ⟨nw, hnw⟩ : ∃ nw, 1 + d = nw := ⟨_, rfl⟩
  have hpl : p = 64 / b := by rw [← hpb]; exact (Nat.mul_div_cancel _ (by omega)).symm
  have hmay1 : mayI ((1 : Nat) : Int) ((0 : Nat) : Int) (n : Int) = true := (mayI_iff _ _ _).2 (by omega)
  have hmay2 : mayI ((0 : Nat) : Int) ((3 : Nat) : Int) (n : Int) = true := (mayI_iff _ _ _).2 (by omega)
  have hmay3 : mayI ((2 : Nat) : Int) ((0 : Nat) : Int) (n : Int) = true := (mayI_iff _ _ _).2 (by omega)
  have ep2 : (64 : Int) / (b : Int) = (p : Int) := by rw [hpl]; simp
  have hw1 : wordsI pack kind ((1 : Nat) : Int) ((0 : Nat) : Int) (n : Int) = (nw : Int) := by
    unfold wordsI
    rw [hmay1, if_pos rfl, if_pos (show ((1 : Nat) : Int) = 1 from rfl), hbb, if_neg (by omega), ep2]
    unfold wordsN
    rw [if_pos rfl]; simp only [Int.toNat_natCast]; rw [hd, hnw]
  obtain ⟨n1, hn1'⟩ : ∃ n1, n + 1 = n1 := ⟨_, rfl⟩
  have hw2 : wordsI pack kind ((0 : Nat) : Int) ((3 : Nat) : Int) (n : Int) = (n1 : Int) := by
    unfold wordsI; rw [hmay2, if_pos rfl, if_neg (by simp)]; omega
  have hw3 : wordsI pack kind ((2 : Nat) : Int) ((0 : Nat) : Int) (n : Int) = (n1 : Int) := by
    unfold wordsI; rw [hmay3, if_pos rfl, if_neg (by simp)]; omega
  obtain ⟨dp, hdp⟩ : ∃ dp, d * p = dp := ⟨_, rfl⟩
  have hdpl : dp ≤ 1600 := by rw [← hdp]; exact Nat.le_trans (Nat.mul_le_mul (by omega : d ≤ 200) hp8) (by omega)
  obtain ⟨dq, hdq⟩ : ∃ dq, (d - 1) * p = dq := ⟨_, rfl⟩
  have hdql : dq ≤ 1600 := by rw [← hdq]; exact Nat.le_trans (Nat.mul_le_mul (by omega : d - 1 ≤ 200) hp8) (by omega)
  rw [hdp] at hge
  rw [hdq] at hpos
  have e0 : (64 : Int).tdiv (b : Int) = (p : Int) := by rw [Int.tdiv_eq_ediv_of_nonneg (by omega)]; exact ep2
  have e0' : IntKind.i64.wrap (p : Int) = (p : Int) := IntWalk.i64_in _ ⟨by omega, by omega⟩
  have e1 : IntKind.i64.wrap ((nw : Int) - 1) = (d : Int) := by rw [IntWalk.i64_in _ ⟨by omega, by omega⟩]; omega
  have e2 : IntKind.i64.wrap ((d : Int) * p) = (dp : Int) := by
    have : (d : Int) * p = (dp : Int) := by rw [← hdp]; simp
    rw [this]; exact IntWalk.i64_in _ ⟨by omega, by omega⟩
  have t0 : ¬ (b : Int) = 0 := by omega
  have t0' : ¬ b = 0 := by omega
  have t1 : ¬ (n : Int) < 0 := by omega
  have t2 : ¬ (200 : Int) < n := by omega
  have t2' : decide ((200 : Int) < n) = false := decide_eq_false t2
  have t1' : decide ((n : Int) < 0) = false := decide_eq_false t1
  have t3 : ¬ dp < n := by omega
  have t3' : decide (dp < n) = false := decide_eq_false t3
  have t4 : (1 : Int) < nw := by have := (hpos hn1).1; omega
  have t4' : decide ((1 : Int) < nw) = true := decide_eq_true t4
  have t4'' : 1 < nw := by omega
  obtain ⟨d1, hd1⟩ : ∃ d1, d - 1 = d1 := ⟨_, rfl⟩
  have e3 : IntKind.i64.wrap ((nw : Int) - 2) = (d1 : Int) := by have := (hpos hn1).1; rw [IntWalk.i64_in _ ⟨by omega, by omega⟩]; omega
  have e4 : IntKind.i64.wrap ((d1 : Int) * p) = (dq : Int) := by
    have : (d1 : Int) * p = (dq : Int) := by rw [← hdq, ← hd1]; simp
    rw [this]; exact IntWalk.i64_in _ ⟨by omega, by omega⟩
  have t5 : ¬ n ≤ dq := by have := (hpos hn1).2; omega
  have t5' : decide (n ≤ dq) = false := decide_eq_false t5
  have e5 : IntKind.i64.wrap ((n : Int) + 1) = (n1 : Int) := by rw [IntWalk.i64_in _ ⟨by omega, by omega⟩]; omega
  obtain ⟨s1, hs1⟩ : ∃ s1, nw + n = s1 := ⟨_, rfl⟩
  obtain ⟨m, hm⟩ : ∃ m, s1 + 4 = m := ⟨_, rfl⟩
  have e6 : IntKind.i64.wrap ((nw : Int) + n) = (s1 : Int) := by rw [IntWalk.i64_in _ ⟨by omega, by omega⟩]; omega
  have e7 : IntKind.i64.wrap ((s1 : Int) + 4) = (m : Int) := by rw [IntWalk.i64_in _ ⟨by omega, by omega⟩]; omega
  obtain ⟨s2, hs2⟩ : ∃ s2, 1 + nw = s2 := ⟨_, rfl⟩
  obtain ⟨a, ha⟩ : ∃ a, nw + 2 = a := ⟨_, rfl⟩
  have e8 : IntKind.i64.wrap (1 + (nw : Int)) = (s2 : Int) := by rw [IntWalk.i64_in _ ⟨by omega, by omega⟩]; omega
  have e9 : IntKind.i64.wrap ((s2 : Int) + 1) = (a : Int) := by rw [IntWalk.i64_in _ ⟨by omega, by omega⟩]; omega
  obtain ⟨cb, hcb⟩ : ∃ cb, 64 - b = cb := ⟨_, rfl⟩
  have f1 : IntKind.i64.wrap (64 - (b : Int)) = (cb : Int) := by rw [IntWalk.i64_in _ ⟨by omega, by omega⟩]; omega
  have f2 : IntKind.u64.wrap (cb : Int) = (cb : Int) := wrap_u64_in (by omega) (by omega)
  obtain ⟨mk, hmk⟩ : ∃ mk, 2 ^ b - 1 = mk := ⟨_, rfl⟩
  have f3 : (18446744073709551615 : Int) / 2 ^ cb = (mk : Int) := by
    rw [← hmk, ← mask_div b (by omega), ← hcb]; simp
  have f4 : cb < 64 := by omega
  have f5 : (cb : Int) < 64 := by omega
  have hmkx : mk < 2 ^ b := by have := Nat.two_pow_pos b; omega
  obtain ⟨hd1, hhd1⟩ : ∃ h, headN 1 0 n = h := ⟨_, rfl⟩
  obtain ⟨hd2, hhd2⟩ : ∃ h, headN 0 3 n = h := ⟨_, rfl⟩
  have hhl : hd1 < 18446744073709551616 ∧ hd2 < 18446744073709551616 := by rw [← hhd1, ← hhd2]; unfold headN; omega
  -- memory
  obtain ⟨W0, hW0⟩ : ∃ W0, W0 = w.alloc (.cells #[.int .i64 pack, .int .i64 kind, .bool bo, .int .i64 hk, .int .i64 hh] 47) := ⟨_, rfl⟩
  have hb0 : Below w.heap.size w W0 := by rw [hW0]; exact alloc_below _ _
  have b0 := heap_alloc_at w (.cells #[.int .i64 pack, .int .i64 kind, .bool bo, .int .i64 hk, .int .i64 hh] 47) (b := w.heap.size) rfl
  rw [← hW0] at b0
  have HW := Lib.hid hW0; have HB0 := Lib.hid hb0; have HS0 := Lib.hid (StoreAt.of b0)
  have HN := Lib.hid (show 1 ≤ nw ∧ nw ≤ 201 ∧ n ≤ 200 ∧ s1 = nw + n ∧ m = s1 + 4 ∧ a = nw + 2 ∧ n1 = n + 1 by omega)
  have HNW := Lib.hid (show 1 + (n + p - 1) / p = nw by omega)
  have HP := Lib.hid (And.intro hb1 (And.intro hb2 (And.intro hp1 (And.intro hpb hpl))))
  have HBB := Lib.hid hbb; have HM1 := Lib.hid hmay1; have HM2 := Lib.hid hmay2; have HW1 := Lib.hid hw1; have HW2 := Lib.hid hw2; have HW3 := Lib.hid hw3
  have HMK := Lib.hid (And.intro hmk hmkx); have HH1 := Lib.hid hhd1; have HH2 := Lib.hid hhd2; have HHL := Lib.hid hhl
  clear hW0 hb0 b0 hd hge hpos hzero hdn hnw hpl hmay1 hmay2 hmay3 ep2 hw1 hw2 hw3 hdp hdpl hdq hdql hb1 hb2 hp1 hp8 hpb hbb hs1 hm hs2 ha hcb hmk hmkx hhd1 hhd2 hhl hn1' hn hn1
  go_enter Try.func6, Try.ntmps6
  go_wp2_with fail
  rw [← HW.out]
  refine (oknown_any W0).mono ?_
  rintro e w1 ⟨rfl, hb1⟩
  have HS1 := Lib.hid (HS0.out.below hb1)
  have HB1 := Lib.hid (HB0.out.trans (hb1.mono HB0.out.size))
  obtain ⟨c0, c1, c2, c3, c4⟩ := HS1.out
  clear hb1 HS0 HB0
  go_wp2_with fail
  refine (bits_at pack kind bo hk hh w1).mono ?_
  rintro e w2 ⟨rfl, hb2⟩
  rw [HBB.out]
  have HS2 := Lib.hid (HS1.out.below hb2)
  have HB2 := Lib.hid (HB1.out.trans (hb2.mono HB1.out.size))
  clear hb2 HS1 HB1 c0 c1 c2 c3 c4
  obtain ⟨x5, hx5⟩ : ∃ x5, w2.heap.size = x5 := ⟨_, rfl⟩
  obtain ⟨W3, hW3⟩ : ∃ W3, W3 = w2.alloc (.cells #[.int .i64 1, .int .i64 0, .int .i64 (n : Nat)] 50) := ⟨_, rfl⟩
  have hb3 : Below w2.heap.size w2 W3 := by rw [hW3]; exact alloc_below _ _
  have b5 := heap_alloc_at w2 (.cells #[.int .i64 1, .int .i64 0, .int .i64 (n : Nat)] 50) (b := x5) hx5.symm
  rw [← hW3] at b5
  have HX3 := Lib.hid (ThingAt.of b5)
  have HS3 := Lib.hid (HS2.out.below hb3)
  have HB3 := Lib.hid (HB2.out.trans (hb3.mono HB2.out.size))
  obtain ⟨c0, c1, c2, c3, c4⟩ := HS3.out
  have HW3' := Lib.hid hW3; have HX5 := Lib.hid hx5
  rw [hW3] at c0 c1 c2 c3 c4
  clear hb3 b5 hW3 hx5 HS2 HB2
  go_wp2_with fail
  rw [← HW3'.out, HX5.out]
  refine (words_at pack kind bo hk hh ((1 : Nat) : Int) ((0 : Nat) : Int) n W3).mono ?_
  rintro e w4 ⟨rfl, hb4⟩
  rw [HW1.out]
  have HX4 := Lib.hid (HX3.out.below hb4)
  have HS4 := Lib.hid (HS3.out.below hb4)
  have HB4 := Lib.hid (HB3.out.trans (hb4.mono HB3.out.size))
  clear hb4 HX3 HS3 HB3 c0 c1 c2 c3 c4
  obtain ⟨c0, c1, c2, c3, c4⟩ := HS4.out
  go_wp2_with fail
  refine (bits_at pack kind bo hk hh w4).mono ?_
  rintro e w5 ⟨rfl, hb5⟩
  rw [HBB.out]
  have HX5' := Lib.hid (HX4.out.below hb5)
  have HS5 := Lib.hid (HS4.out.below hb5)
  have HB5 := Lib.hid (HB4.out.trans (hb5.mono HB4.out.size))
  clear hb5 HX4 HS4 HB4 c0 c1 c2 c3 c4
  obtain ⟨x8, hx8⟩ : ∃ x8, w5.heap.size = x8 := ⟨_, rfl⟩
  obtain ⟨W6, hW6⟩ : ∃ W6, W6 = w5.alloc (.cells #[.int .i64 0, .int .i64 3, .int .i64 (n : Nat)] 50) := ⟨_, rfl⟩
  have hb6 : Below w5.heap.size w5 W6 := by rw [hW6]; exact alloc_below _ _
  have b8 := heap_alloc_at w5 (.cells #[.int .i64 0, .int .i64 3, .int .i64 (n : Nat)] 50) (b := x8) hx8.symm
  rw [← hW6] at b8
  have HT6 := Lib.hid (ThingAt.of b8)
  have HX6 := Lib.hid (HX5'.out.below hb6)
  have HS6 := Lib.hid (HS5.out.below hb6)
  have HB6 := Lib.hid (HB5.out.trans (hb6.mono HB5.out.size))
  obtain ⟨c0, c1, c2, c3, c4⟩ := HS6.out
  have HW6 := Lib.hid hW6; have HX8 := Lib.hid hx8
  rw [hW6] at c0 c1 c2 c3 c4
  clear hb6 b8 hW6 hx8 HX5' HS5 HB5
  go_wp2_with fail
  rw [← HW6.out, HX8.out]
  refine (words_at pack kind bo hk hh ((0 : Nat) : Int) ((3 : Nat) : Int) n W6).mono ?_
  rintro e w7 ⟨rfl, hb7⟩
  rw [HW2.out]
  have HT7 := Lib.hid (HT6.out.below hb7)
  have HX7 := Lib.hid (HX6.out.below hb7)
  have HS7 := Lib.hid (HS6.out.below hb7)
  have HB7 := Lib.hid (HB6.out.trans (hb7.mono HB6.out.size))
  clear hb7 HT6 HX6 HS6 HB6 c0 c1 c2 c3 c4
  obtain ⟨c0, c1, c2, c3, c4⟩ := HS7.out
  go_wp2_with fail
  refine (words_at pack kind bo hk hh ((2 : Nat) : Int) ((0 : Nat) : Int) n w7).mono ?_
  rintro e w8 ⟨rfl, hb8⟩
  rw [HW3.out]
  have HT8 := Lib.hid (HT7.out.below hb8)
  have HX8' := Lib.hid (HX7.out.below hb8)
  have HS8 := Lib.hid (HS7.out.below hb8)
  have HB8 := Lib.hid (HB7.out.trans (hb8.mono HB7.out.size))
  clear hb8 HT7 HX7 HS7 HB7 c0 c1 c2 c3 c4 e0 e0' e1 e2 e3 e4
  go_wp2_with fail
  refine (New_n w8 m m (by have := HN.out; omega) (by have := HN.out; omega)).mono ?_
  rintro e w9 ⟨pa, rfl, A⟩
  have hs9 := A.wf.span
  rw [show endOf m = m + 1 from if_pos (by have := HN.out; omega)] at hs9
  have ht1 := take_first (nw := nw) (r := n + 2) (by have := HN.out; omega) HN.out.1 (by omega) hs9
  have HA := Lib.hid A.toR
  obtain ⟨c0, c1, c2, c3, c4⟩ := HS8.out.below A.below
  obtain ⟨x0, x1, x2⟩ := HX8'.out.below A.below
  have HT1 := Lib.hid ht1
  -- the first thing
  obtain ⟨W1, hW1⟩ : ∃ W1, (zeros nw).set 0 hd1 = W1 := ⟨_, rfl⟩
  have hspan1 : ∃ t, Span 1 (oneB (zeros nw) (n + 2)) t := ⟨_, rfl, by show 0 < (zeros nw).length; rw [zeros_len]; exact HN.out.1, (by show (zeros nw).length + 2 = 1 + (zeros nw).length + 1; omega), by rw [Fb_n]; omega, rfl⟩
  obtain ⟨tt, hspan1⟩ := hspan1
  have hst1 : setF (oneB (zeros nw) (n + 2)) 1 0 hd1 = (0, oneB W1 (n + 2)) := by
    have := oneB_set hspan1 (i := 0) (v := hd1) (by rw [zeros_len]; exact HN.out.1)
    rw [hW1] at this; exact this
  have hl1 : W1.length = nw := by rw [← hW1]; simp [zeros_len]
  have hg1 : W1.getD 0 0 = hd1 := by rw [← hW1, getD_set_list _ _ _ _ (by rw [zeros_len]; exact HN.out.1), if_pos rfl]
  have hv1 : ∀ i, W1.getD i 0 < 18446744073709551616 := fun i => by
    rw [← hW1, getD_set_list _ _ _ _ (by rw [zeros_len]; exact HN.out.1)]
    split
    · exact HHL.out.1
    · rw [zeros_getD]; omega
  have HST1 := Lib.hid hst1; have HW1' := Lib.hid (And.intro hl1 (And.intro hg1 hv1))
  clear A hs9 ht1 hst1 hl1 hg1 hv1 hW1 hspan1
  go_wp2_with fail
  refine (make_r HA.out noR pack kind bo hk hh 1 0 n HM1.out nw HW1.out HN.out.1 (by have := HN.out; omega) 1 (by omega) HT1.out (by rw [HH1.out]; exact HST1.out)).mono ?_
  clear c0 c1 c2 c3 c4 x0 x1 x2 HA HT1 HST1
  rintro e w10 ⟨rfl, A, -⟩
  rw [show ((1 : Nat) : Int) = 1 from rfl]
  have hs10 := A.wf.span
  have ht2 := take_whole2 (n := n + 1) hs10 (by omega) (.inr rfl)
  rw [HW1'.out.1, ← HN.out.2.2.2.2.2.1, ← HN.out.2.2.2.2.2.2] at ht2
  -- the second thing
  obtain ⟨W2, hW2⟩ : ∃ W2, (zeros (n + 2)).set 0 hd2 = W2 := ⟨_, rfl⟩
  have hst2 : setF (two a W1 (zeros (n + 2))) (a : Int) 0 hd2 = (0, two a W1 W2) := by
    have := two_set2 (a := a) (W1 := W1) (W2 := zeros (n + 2)) (by rw [HW1'.out.1]; exact HN.out.2.2.2.2.2.1) (by rw [HW1'.out.1]; exact HN.out.1) (by rw [zeros_len]; omega) (i := 0) (v := hd2) (by rw [zeros_len]; omega)
    rw [hW2] at this; exact this
  have hl2 : W2.length = n + 2 := by rw [← hW2]; simp [zeros_len]
  have hg2 : W2.getD 0 0 = hd2 := by rw [← hW2, getD_set_list _ _ _ _ (by rw [zeros_len]; omega), if_pos rfl]
  have hz2 : ∀ i, 1 ≤ i → W2.getD i 0 = 0 := fun i hi => by
    rw [← hW2, getD_set_list _ _ _ _ (by rw [zeros_len]; omega), if_neg (by omega), zeros_getD]
  have HT2 := Lib.hid ht2; have HST2 := Lib.hid hst2; have HW2' := Lib.hid (And.intro hl2 (And.intro hg2 hz2))
  have HA := Lib.hid A
  obtain ⟨c0, c1, c2, c3, c4⟩ := HS8.out.below A.below
  obtain ⟨x0, x1, x2⟩ := HT8.out.below A.below
  clear A hs10 ht2 hst2 hl2 hg2 hz2 hW2
  go_wp2_with fail
  refine (make_r HA.out noR pack kind bo hk hh 0 3 n HM2.out n1 HW2.out (by have := HN.out; omega) (by have := HN.out; omega) a (by have := HN.out; omega) HT2.out (by rw [HH2.out]; exact HST2.out)).mono ?_
  clear c0 c1 c2 c3 c4 x0 x1 x2 HA HT2 HST2
  rintro e w11 ⟨rfl, A, -⟩
  have HA := Lib.hid A
  obtain ⟨c0, c1, c2, c3, c4⟩ := HS8.out.below A.below
  clear A
  go_wp2_with fail
  refine (bits_at pack kind bo hk hh w11).mono ?_
  rintro e w12 ⟨rfl, hb12⟩
  rw [HBB.out]
  have HA12 := Lib.hid (HA.out.stay hb12)
  clear hb12 HA c0 c1 c2 c3 c4
  have HD := Lib.hid (show a = nw + 2 from HN.out.2.2.2.2.2.1)
  go_wp2
  go_loopw [15] (fun t15 wr => ∃ (j : Nat) (V1 : List Nat), t15 = .int .i64 (j : Nat) ∧ j ≤ n ∧ ArR (fun _ => False) w8 wr pa m (two a V1 W2) ∧ V1.length = nw ∧ V1.getD 0 0 = hd1 ∧ ∀ i, V1.getD i 0 < 18446744073709551616) (fun t15 _ => n - (intOf t15).toNat)
  case atStart => exact ⟨0, W1, rfl, Nat.zero_le _, HA12.out, HW1'.out.1, HW1'.out.2.1, HW1'.out.2.2⟩
  case round =>
    clear HA12
    obtain ⟨j, V1, rfl, hj, A, hl1, hg1, hv1⟩ := hrel
    have HA := Lib.hid A
    by_cases hjn : j < n
    · have hjn' : (j : Int) < n := by omega
      have ej : IntKind.i64.wrap ((j : Int) + 1) = ((j + 1 : Nat) : Int) := by have := HN.out; rw [IntWalk.i64_in _ ⟨by omega, by omega⟩]; omega
      obtain ⟨hpl1, hpl2⟩ := item_place HP.out.2.2.1 HP.out.2.2.2.1 hjn
      rw [HNW.out] at hpl1
      have hA1 : a = V1.length + 2 := by rw [hl1]; exact HD.out
      have hA2 : 0 < V1.length := by rw [hl1]; exact HN.out.1
      have hA3 : 0 < W2.length := by rw [HW2'.out.1]; omega
      obtain ⟨wd, hwd⟩ : ∃ wd, 1 + j / p = wd := ⟨_, rfl⟩
      obtain ⟨sh, hsh⟩ : ∃ sh, j % p * b = sh := ⟨_, rfl⟩
      rw [hwd] at hpl1
      rw [hsh] at hpl2
      obtain ⟨v, hv⟩ : ∃ v, V1.getD wd 0 = v := ⟨_, rfl⟩
      have hgi : getF (two a V1 W2) 1 (wd : Int) = (v, 0) := by rw [two_get1 hA1 hA2 hA3 (by rw [hl1]; exact hpl1), hv]
      have hgh : getF (two a V1 W2) 1 0 = (headN 1 0 n, 0) := by
        have := two_get1 hA1 hA2 hA3 (i := 0) hA2
        rw [hg1, ← HH1.out] at this; exact this
      have hvl : v < 18446744073709551616 := by rw [← hv]; exact hv1 wd
      obtain ⟨y, hy⟩ : ∃ y, newW v sh b mk = y := ⟨_, rfl⟩
      have hyl := newW_lt v sh b mk (by have h64 : (2 : Nat) ^ 64 = 18446744073709551616 := by decide
                                        omega) hpl2 HMK.out.2
      have hsi : setF (two a V1 W2) 1 (wd : Int) (newW v sh b mk) = (0, two a (V1.set wd y) W2) := by rw [two_set1 hA1 hA2 hA3 (by rw [hl1]; exact hpl1), hy]
      have hwd0 : wd ≠ 0 := fun h => by
        have := Nat.le_add_right 1 (j / p)
        rw [hwd, h] at this
        exact absurd this (by decide)
      have hnew : (V1.set wd y).length = nw ∧ (V1.set wd y).getD 0 0 = hd1 ∧ ∀ i, (V1.set wd y).getD i 0 < 18446744073709551616 := by
        refine ⟨by rw [List.length_set]; exact hl1, ?_, fun i => ?_⟩
        · rw [getD_set_list _ _ _ _ (by rw [hl1]; exact hpl1), if_neg (fun e => hwd0 e.symm)]; exact hg1
        · rw [getD_set_list _ _ _ _ (by rw [hl1]; exact hpl1)]
          split
          · have h64 : (2 : Nat) ^ 64 = 18446744073709551616 := by decide
            rw [h64, hy] at hyl
            exact hyl
          · exact hv1 i
      have HNEW := Lib.hid hnew
      have hcall := oset_r HA.out noR pack kind bo hk hh 1 0 n HM1.out 1 hgh (by decide) (by decide) b p HBB.out HP.out.1 HP.out.2.1 (by rw [if_pos (show ((1 : Nat) : Int) = 1 from rfl)]; exact HP.out.2.2.2.2) j hjn wd sh v hwd hsh hpl2 hgi hvl mk HMK.out.2 hsi
      have HCALL := Lib.hid hcall
      obtain ⟨c0, c1, c2, c3, c4⟩ := HS8.out.below A.below
      clear A hl1 hg1 hv1 hpl1 hpl2 hA1 hA2 hA3 hwd hsh hv hgi hgh hvl hy hyl hsi hwd0 hnew hcall
      go_wp2_with fail
      refine HCALL.out.mono ?_
      clear c0 c1 c2 c3 c4
      rintro e w13 ⟨rfl, A, -⟩
      have HA13 := Lib.hid A
      clear A
      go_wp2
      go_roundw
      case rel => exact ⟨j + 1, _, rfl, hjn, HA13.out, HNEW.out.1, HNEW.out.2.1, HNEW.out.2.2⟩
      case measure => simp only [intOf]; omega
    · have hjn' : ¬ (j : Int) < n := by omega
      have hA1 : a = V1.length + 2 := by rw [hl1]; exact HD.out
      have hA2 : 0 < V1.length := by rw [hl1]; exact HN.out.1
      have hA3 : 0 < W2.length := by rw [HW2'.out.1]; omega
      have hgh : getF (two a V1 W2) 1 0 = (headN 1 0 n, 0) := by
        have := two_get1 hA1 hA2 hA3 (i := 0) hA2
        rw [hg1, ← HH1.out] at this; exact this
      have hgq : getF (two a V1 W2) (a : Int) 0 = (headN 0 3 n, 0) := by
        have := two_get2 hA1 hA2 hA3 (i := 0) hA3
        rw [HW2'.out.2.1, ← HH2.out] at this; exact this
      have hgz : ∀ i : Nat, i < n → getF (two a V1 W2) (a : Int) ((1 + i : Nat) : Int) = (0, 0) := fun i hi => by
        rw [two_get2 hA1 hA2 hA3 (by rw [HW2'.out.1]; omega), HW2'.out.2.2 _ (by omega)]
      have HGH := Lib.hid hgh; have HGQ := Lib.hid hgq; have HGZ := Lib.hid hgz
      have har : -9223372036854775808 ≤ (a : Int) ∧ (a : Int) < 9223372036854775808 := by have := HN.out; omega
      have HAR := Lib.hid har
      clear A hl1 hg1 hv1 hA1 hA2 hA3 hgh hgq hgz har
      go_wp2_with fail
      refine (head_r HA.out 0 3 n HM2.out a HGQ.out HAR.out.1 HAR.out.2).mono ?_
      rintro e w14 ⟨rfl, hb14⟩
      rw [show ((0 : Nat) : Int) = 0 from rfl, show ((3 : Nat) : Int) = 3 from rfl]
      have A14 := HA.out.stay hb14
      obtain ⟨x16, hx16⟩ : ∃ x16, w14.heap.size = x16 := ⟨_, rfl⟩
      obtain ⟨W15, hW15⟩ : ∃ W15, W15 = w14.alloc (.cells #[.int .i64 0, .int .i64 3, .int .i64 (n : Nat)] 50) := ⟨_, rfl⟩
      have hb15 : Below w14.heap.size w14 W15 := by rw [hW15]; exact alloc_below _ _
      have b16 := heap_alloc_at w14 (.cells #[.int .i64 0, .int .i64 3, .int .i64 (n : Nat)] 50) (b := x16) hx16.symm
      rw [← hW15] at b16
      have HH15 := Lib.hid (ThingAt.of b16)
      have HA15 := Lib.hid (A14.stay hb15)
      have HW15 := Lib.hid hW15; have HX16 := Lib.hid hx16
      clear hb14 A14 hb15 b16 hW15 hx16 HA
      go_wp2
      rw [← HW15.out, HX16.out]
      go_loopw [18] (fun t18 wr => ∃ j : Nat, t18 = .int .i64 (j : Nat) ∧ j ≤ n ∧ ArR (fun _ => False) w8 wr pa m (two a V1 W2) ∧ ThingAt x16 0 3 n wr) (fun t18 _ => n - (intOf t18).toNat)
      case atStart => exact ⟨0, rfl, Nat.zero_le _, HA15.out, HH15.out⟩
      case round =>
        clear HA15 HH15
        obtain ⟨j, rfl, hj, A, hH⟩ := hrel
        have HA := Lib.hid A
        have HHt := Lib.hid hH
        obtain ⟨c0, c1, c2, c3, c4⟩ := HS8.out.below A.below
        clear A hH
        by_cases hjn : j < n
        · have hjn' : (j : Int) < n := by omega
          have ej : IntKind.i64.wrap ((j : Int) + 1) = ((j + 1 : Nat) : Int) := by have := HN.out; rw [IntWalk.i64_in _ ⟨by omega, by omega⟩]; omega
          have hcall := oget_r HA.out pack kind bo hk hh 0 3 n HM2.out a HGQ.out HAR.out.1 HAR.out.2 b 1 HBB.out HP.out.1 HP.out.2.1 (by rw [if_neg (by simp)]) j hjn (1 + j) 0 0 (by rw [Nat.div_one]) (by rw [Nat.mod_one, Nat.zero_mul]) (by have := HP.out; omega) (HGZ.out j hjn) (by omega)
          rw [show itemOf 0 0 b = 0 by simp [itemOf], show ((0 : Nat) : Int) = 0 from rfl] at hcall
          have HCALL := Lib.hid hcall
          clear hcall
          go_wp2_with fail
          refine HCALL.out.mono ?_
          clear c0 c1 c2 c3 c4
          rintro e w16 ⟨rfl, hb16⟩
          have HA16 := Lib.hid (HA.out.stay hb16)
          have HH16 := Lib.hid (HHt.out.below hb16)
          clear hb16
          go_wp2
          go_roundw
          case rel => exact ⟨j + 1, rfl, hjn, HA16.out, HH16.out⟩
          case measure => simp only [intOf]; omega
        · have hjn' : ¬ (j : Int) < n := by omega
          obtain ⟨y0, y1, y2⟩ := HHt.out
          obtain ⟨z0, z1, z2⟩ := HT8.out.below HA.out.below
          go_wp2_with fail
          refine (oset_miss HA.out pack kind bo hk hh 1 0 n HM1.out 1 HGH.out (by decide) (by decide) b HBB.out HP.out.1 n (Nat.le_refl _) 0).mono ?_
          clear c0 c1 c2 c3 c4 y0 y1 y2 z0 z1 z2
          rintro e w17 ⟨rfl, hb17⟩
          have HA17 := Lib.hid (HA.out.stay hb17)
          clear hb17
          go_wp2
          go_ret
          exact ⟨rfl, HB8.out.trans (HA17.out.below.mono HB8.out.size)⟩
set_option maxRecDepth 100000 in
set_option maxHeartbeats 16000000 in
theorem ow_zero (w : World) (n : Nat) (hn : n ≤ 200) (hn1 : n = 0) (pack kind : Int) (bo : Bool) (hk hh : Int) (b p : Nat) (hbb : bitsI pack kind = (b : Int)) (hb1 : 1 ≤ b) (hb2 : b ≤ 64) (hp1 : 1 ≤ p) (hp8 : p ≤ 8) (hpb : p * b = 64) :
    Calls Try.prog 6 #[.int .i64 (n : Nat), storeV pack kind bo hk hh] w fun e w' => e = .returned (.bool true) ∧ Below w.heap.size w w' := by
  obtain ⟨d, hd⟩ : ∃ d, (n + p - 1) / p = d := ⟨_, rfl⟩
  obtain ⟨hge, hpos, hzero, hdn⟩ := words_ge hp1 hd
  obtain ⟨nw, hnw⟩ : ∃ nw, 1 + d = nw := ⟨_, rfl⟩
  have hpl : p = 64 / b := by rw [← hpb]; exact (Nat.mul_div_cancel _ (by omega)).symm
  have hmay1 : mayI ((1 : Nat) : Int) ((0 : Nat) : Int) (n : Int) = true := (mayI_iff _ _ _).2 (by omega)
  have hmay2 : mayI ((0 : Nat) : Int) ((3 : Nat) : Int) (n : Int) = true := (mayI_iff _ _ _).2 (by omega)
  have hmay3 : mayI ((2 : Nat) : Int) ((0 : Nat) : Int) (n : Int) = true := (mayI_iff _ _ _).2 (by omega)
  have ep2 : (64 : Int) / (b : Int) = (p : Int) := by rw [hpl]; simp
  have hw1 : wordsI pack kind ((1 : Nat) : Int) ((0 : Nat) : Int) (n : Int) = (nw : Int) := by
    unfold wordsI
    rw [hmay1, if_pos rfl, if_pos (show ((1 : Nat) : Int) = 1 from rfl), hbb, if_neg (by omega), ep2]
    unfold wordsN
    rw [if_pos rfl]; simp only [Int.toNat_natCast]; rw [hd, hnw]
  obtain ⟨n1, hn1'⟩ : ∃ n1, n + 1 = n1 := ⟨_, rfl⟩
  have hw2 : wordsI pack kind ((0 : Nat) : Int) ((3 : Nat) : Int) (n : Int) = (n1 : Int) := by
    unfold wordsI; rw [hmay2, if_pos rfl, if_neg (by simp)]; omega
  have hw3 : wordsI pack kind ((2 : Nat) : Int) ((0 : Nat) : Int) (n : Int) = (n1 : Int) := by
    unfold wordsI; rw [hmay3, if_pos rfl, if_neg (by simp)]; omega
  obtain ⟨dp, hdp⟩ : ∃ dp, d * p = dp := ⟨_, rfl⟩
  have hdpl : dp ≤ 1600 := by rw [← hdp]; exact Nat.le_trans (Nat.mul_le_mul (by omega : d ≤ 200) hp8) (by omega)
  obtain ⟨dq, hdq⟩ : ∃ dq, (d - 1) * p = dq := ⟨_, rfl⟩
  have hdql : dq ≤ 1600 := by rw [← hdq]; exact Nat.le_trans (Nat.mul_le_mul (by omega : d - 1 ≤ 200) hp8) (by omega)
  rw [hdp] at hge
  rw [hdq] at hpos
  have e0 : (64 : Int).tdiv (b : Int) = (p : Int) := by rw [Int.tdiv_eq_ediv_of_nonneg (by omega)]; exact ep2
  have e0' : IntKind.i64.wrap (p : Int) = (p : Int) := IntWalk.i64_in _ ⟨by omega, by omega⟩
  have e1 : IntKind.i64.wrap ((nw : Int) - 1) = (d : Int) := by rw [IntWalk.i64_in _ ⟨by omega, by omega⟩]; omega
  have e2 : IntKind.i64.wrap ((d : Int) * p) = (dp : Int) := by
    have : (d : Int) * p = (dp : Int) := by rw [← hdp]; simp
    rw [this]; exact IntWalk.i64_in _ ⟨by omega, by omega⟩
  have t0 : ¬ (b : Int) = 0 := by omega
  have t0' : ¬ b = 0 := by omega
  have t1 : ¬ (n : Int) < 0 := by omega
  have t2 : ¬ (200 : Int) < n := by omega
  have t2' : decide ((200 : Int) < n) = false := decide_eq_false t2
  have t1' : decide ((n : Int) < 0) = false := decide_eq_false t1
  have t3 : ¬ dp < n := by omega
  have t3' : decide (dp < n) = false := decide_eq_false t3
  have t4 : ¬ (1 : Int) < nw := by have := hzero hn1; omega
  have t4' : decide ((1 : Int) < nw) = false := decide_eq_false t4
  have t4'' : ¬ 1 < nw := by omega
  have e5 : IntKind.i64.wrap ((n : Int) + 1) = (n1 : Int) := by rw [IntWalk.i64_in _ ⟨by omega, by omega⟩]; omega
  obtain ⟨s1, hs1⟩ : ∃ s1, nw + n = s1 := ⟨_, rfl⟩
  obtain ⟨m, hm⟩ : ∃ m, s1 + 4 = m := ⟨_, rfl⟩
  have e6 : IntKind.i64.wrap ((nw : Int) + n) = (s1 : Int) := by rw [IntWalk.i64_in _ ⟨by omega, by omega⟩]; omega
  have e7 : IntKind.i64.wrap ((s1 : Int) + 4) = (m : Int) := by rw [IntWalk.i64_in _ ⟨by omega, by omega⟩]; omega
  obtain ⟨s2, hs2⟩ : ∃ s2, 1 + nw = s2 := ⟨_, rfl⟩
  obtain ⟨a, ha⟩ : ∃ a, nw + 2 = a := ⟨_, rfl⟩
  have e8 : IntKind.i64.wrap (1 + (nw : Int)) = (s2 : Int) := by rw [IntWalk.i64_in _ ⟨by omega, by omega⟩]; omega
  have e9 : IntKind.i64.wrap ((s2 : Int) + 1) = (a : Int) := by rw [IntWalk.i64_in _ ⟨by omega, by omega⟩]; omega
  obtain ⟨cb, hcb⟩ : ∃ cb, 64 - b = cb := ⟨_, rfl⟩
  have f1 : IntKind.i64.wrap (64 - (b : Int)) = (cb : Int) := by rw [IntWalk.i64_in _ ⟨by omega, by omega⟩]; omega
  have f2 : IntKind.u64.wrap (cb : Int) = (cb : Int) := wrap_u64_in (by omega) (by omega)
  obtain ⟨mk, hmk⟩ : ∃ mk, 2 ^ b - 1 = mk := ⟨_, rfl⟩
  have f3 : (18446744073709551615 : Int) / 2 ^ cb = (mk : Int) := by
    rw [← hmk, ← mask_div b (by omega), ← hcb]; simp
  have f4 : cb < 64 := by omega
  have f5 : (cb : Int) < 64 := by omega
  have hmkx : mk < 2 ^ b := by have := Nat.two_pow_pos b; omega
  obtain ⟨hd1, hhd1⟩ : ∃ h, headN 1 0 n = h := ⟨_, rfl⟩
  obtain ⟨hd2, hhd2⟩ : ∃ h, headN 0 3 n = h := ⟨_, rfl⟩
  have hhl : hd1 < 18446744073709551616 ∧ hd2 < 18446744073709551616 := by rw [← hhd1, ← hhd2]; unfold headN; omega
  -- memory
  obtain ⟨W0, hW0⟩ : ∃ W0, W0 = w.alloc (.cells #[.int .i64 pack, .int .i64 kind, .bool bo, .int .i64 hk, .int .i64 hh] 47) := ⟨_, rfl⟩
  have hb0 : Below w.heap.size w W0 := by rw [hW0]; exact alloc_below _ _
  have b0 := heap_alloc_at w (.cells #[.int .i64 pack, .int .i64 kind, .bool bo, .int .i64 hk, .int .i64 hh] 47) (b := w.heap.size) rfl
  rw [← hW0] at b0
  have HW := Lib.hid hW0; have HB0 := Lib.hid hb0; have HS0 := Lib.hid (StoreAt.of b0)
  have HN := Lib.hid (show 1 ≤ nw ∧ nw ≤ 201 ∧ n ≤ 200 ∧ s1 = nw + n ∧ m = s1 + 4 ∧ a = nw + 2 ∧ n1 = n + 1 by omega)
  have HNW := Lib.hid (show 1 + (n + p - 1) / p = nw by omega)
  have HP := Lib.hid (And.intro hb1 (And.intro hb2 (And.intro hp1 (And.intro hpb hpl))))
  have HBB := Lib.hid hbb; have HM1 := Lib.hid hmay1; have HM2 := Lib.hid hmay2; have HW1 := Lib.hid hw1; have HW2 := Lib.hid hw2; have HW3 := Lib.hid hw3
  have HMK := Lib.hid (And.intro hmk hmkx); have HH1 := Lib.hid hhd1; have HH2 := Lib.hid hhd2; have HHL := Lib.hid hhl
  clear hW0 hb0 b0 hd hge hpos hzero hdn hnw hpl hmay1 hmay2 hmay3 ep2 hw1 hw2 hw3 hdp hdpl hdq hdql hb1 hb2 hp1 hp8 hpb hbb hs1 hm hs2 ha hcb hmk hmkx hhd1 hhd2 hhl hn1' hn hn1
  go_enter Try.func6, Try.ntmps6
  go_wp2_with fail
  rw [← HW.out]
  refine (oknown_any W0).mono ?_
  rintro e w1 ⟨rfl, hb1⟩
  have HS1 := Lib.hid (HS0.out.below hb1)
  have HB1 := Lib.hid (HB0.out.trans (hb1.mono HB0.out.size))
  obtain ⟨c0, c1, c2, c3, c4⟩ := HS1.out
  clear hb1 HS0 HB0
  go_wp2_with fail
  refine (bits_at pack kind bo hk hh w1).mono ?_
  rintro e w2 ⟨rfl, hb2⟩
  rw [HBB.out]
  have HS2 := Lib.hid (HS1.out.below hb2)
  have HB2 := Lib.hid (HB1.out.trans (hb2.mono HB1.out.size))
  clear hb2 HS1 HB1 c0 c1 c2 c3 c4
  obtain ⟨x5, hx5⟩ : ∃ x5, w2.heap.size = x5 := ⟨_, rfl⟩
  obtain ⟨W3, hW3⟩ : ∃ W3, W3 = w2.alloc (.cells #[.int .i64 1, .int .i64 0, .int .i64 (n : Nat)] 50) := ⟨_, rfl⟩
  have hb3 : Below w2.heap.size w2 W3 := by rw [hW3]; exact alloc_below _ _
  have b5 := heap_alloc_at w2 (.cells #[.int .i64 1, .int .i64 0, .int .i64 (n : Nat)] 50) (b := x5) hx5.symm
  rw [← hW3] at b5
  have HX3 := Lib.hid (ThingAt.of b5)
  have HS3 := Lib.hid (HS2.out.below hb3)
  have HB3 := Lib.hid (HB2.out.trans (hb3.mono HB2.out.size))
  obtain ⟨c0, c1, c2, c3, c4⟩ := HS3.out
  have HW3' := Lib.hid hW3; have HX5 := Lib.hid hx5
  rw [hW3] at c0 c1 c2 c3 c4
  clear hb3 b5 hW3 hx5 HS2 HB2
  go_wp2_with fail
  rw [← HW3'.out, HX5.out]
  refine (words_at pack kind bo hk hh ((1 : Nat) : Int) ((0 : Nat) : Int) n W3).mono ?_
  rintro e w4 ⟨rfl, hb4⟩
  rw [HW1.out]
  have HX4 := Lib.hid (HX3.out.below hb4)
  have HS4 := Lib.hid (HS3.out.below hb4)
  have HB4 := Lib.hid (HB3.out.trans (hb4.mono HB3.out.size))
  clear hb4 HX3 HS3 HB3 c0 c1 c2 c3 c4
  obtain ⟨c0, c1, c2, c3, c4⟩ := HS4.out
  go_wp2_with fail
  refine (bits_at pack kind bo hk hh w4).mono ?_
  rintro e w5 ⟨rfl, hb5⟩
  rw [HBB.out]
  have HX5' := Lib.hid (HX4.out.below hb5)
  have HS5 := Lib.hid (HS4.out.below hb5)
  have HB5 := Lib.hid (HB4.out.trans (hb5.mono HB4.out.size))
  clear hb5 HX4 HS4 HB4 c0 c1 c2 c3 c4
  obtain ⟨x8, hx8⟩ : ∃ x8, w5.heap.size = x8 := ⟨_, rfl⟩
  obtain ⟨W6, hW6⟩ : ∃ W6, W6 = w5.alloc (.cells #[.int .i64 0, .int .i64 3, .int .i64 (n : Nat)] 50) := ⟨_, rfl⟩
  have hb6 : Below w5.heap.size w5 W6 := by rw [hW6]; exact alloc_below _ _
  have b8 := heap_alloc_at w5 (.cells #[.int .i64 0, .int .i64 3, .int .i64 (n : Nat)] 50) (b := x8) hx8.symm
  rw [← hW6] at b8
  have HT6 := Lib.hid (ThingAt.of b8)
  have HX6 := Lib.hid (HX5'.out.below hb6)
  have HS6 := Lib.hid (HS5.out.below hb6)
  have HB6 := Lib.hid (HB5.out.trans (hb6.mono HB5.out.size))
  obtain ⟨c0, c1, c2, c3, c4⟩ := HS6.out
  have HW6 := Lib.hid hW6; have HX8 := Lib.hid hx8
  rw [hW6] at c0 c1 c2 c3 c4
  clear hb6 b8 hW6 hx8 HX5' HS5 HB5
  go_wp2_with fail
  rw [← HW6.out, HX8.out]
  refine (words_at pack kind bo hk hh ((0 : Nat) : Int) ((3 : Nat) : Int) n W6).mono ?_
  rintro e w7 ⟨rfl, hb7⟩
  rw [HW2.out]
  have HT7 := Lib.hid (HT6.out.below hb7)
  have HX7 := Lib.hid (HX6.out.below hb7)
  have HS7 := Lib.hid (HS6.out.below hb7)
  have HB7 := Lib.hid (HB6.out.trans (hb7.mono HB6.out.size))
  clear hb7 HT6 HX6 HS6 HB6 c0 c1 c2 c3 c4
  obtain ⟨c0, c1, c2, c3, c4⟩ := HS7.out
  go_wp2_with fail
  refine (words_at pack kind bo hk hh ((2 : Nat) : Int) ((0 : Nat) : Int) n w7).mono ?_
  rintro e w8 ⟨rfl, hb8⟩
  rw [HW3.out]
  have HT8 := Lib.hid (HT7.out.below hb8)
  have HX8' := Lib.hid (HX7.out.below hb8)
  have HS8 := Lib.hid (HS7.out.below hb8)
  have HB8 := Lib.hid (HB7.out.trans (hb8.mono HB7.out.size))
  clear hb8 HT7 HX7 HS7 HB7 c0 c1 c2 c3 c4 e0 e0' e1 e2 
  go_wp2_with fail
  refine (New_n w8 m m (by have := HN.out; omega) (by have := HN.out; omega)).mono ?_
  rintro e w9 ⟨pa, rfl, A⟩
  have hs9 := A.wf.span
  rw [show endOf m = m + 1 from if_pos (by have := HN.out; omega)] at hs9
  have ht1 := take_first (nw := nw) (r := n + 2) (by have := HN.out; omega) HN.out.1 (by omega) hs9
  have HA := Lib.hid A.toR
  obtain ⟨c0, c1, c2, c3, c4⟩ := HS8.out.below A.below
  obtain ⟨x0, x1, x2⟩ := HX8'.out.below A.below
  have HT1 := Lib.hid ht1
  -- the first thing
  obtain ⟨W1, hW1⟩ : ∃ W1, (zeros nw).set 0 hd1 = W1 := ⟨_, rfl⟩
  have hspan1 : ∃ t, Span 1 (oneB (zeros nw) (n + 2)) t := ⟨_, rfl, by show 0 < (zeros nw).length; rw [zeros_len]; exact HN.out.1, (by show (zeros nw).length + 2 = 1 + (zeros nw).length + 1; omega), by rw [Fb_n]; omega, rfl⟩
  obtain ⟨tt, hspan1⟩ := hspan1
  have hst1 : setF (oneB (zeros nw) (n + 2)) 1 0 hd1 = (0, oneB W1 (n + 2)) := by
    have := oneB_set hspan1 (i := 0) (v := hd1) (by rw [zeros_len]; exact HN.out.1)
    rw [hW1] at this; exact this
  have hl1 : W1.length = nw := by rw [← hW1]; simp [zeros_len]
  have hg1 : W1.getD 0 0 = hd1 := by rw [← hW1, getD_set_list _ _ _ _ (by rw [zeros_len]; exact HN.out.1), if_pos rfl]
  have hv1 : ∀ i, W1.getD i 0 < 18446744073709551616 := fun i => by
    rw [← hW1, getD_set_list _ _ _ _ (by rw [zeros_len]; exact HN.out.1)]
    split
    · exact HHL.out.1
    · rw [zeros_getD]; omega
  have HST1 := Lib.hid hst1; have HW1' := Lib.hid (And.intro hl1 (And.intro hg1 hv1))
  clear A hs9 ht1 hst1 hl1 hg1 hv1 hW1 hspan1
  go_wp2_with fail
  refine (make_r HA.out noR pack kind bo hk hh 1 0 n HM1.out nw HW1.out HN.out.1 (by have := HN.out; omega) 1 (by omega) HT1.out (by rw [HH1.out]; exact HST1.out)).mono ?_
  clear c0 c1 c2 c3 c4 x0 x1 x2 HA HT1 HST1
  rintro e w10 ⟨rfl, A, -⟩
  rw [show ((1 : Nat) : Int) = 1 from rfl]
  have hs10 := A.wf.span
  have ht2 := take_whole2 (n := n + 1) hs10 (by omega) (.inr rfl)
  rw [HW1'.out.1, ← HN.out.2.2.2.2.2.1, ← HN.out.2.2.2.2.2.2] at ht2
  -- the second thing
  obtain ⟨W2, hW2⟩ : ∃ W2, (zeros (n + 2)).set 0 hd2 = W2 := ⟨_, rfl⟩
  have hst2 : setF (two a W1 (zeros (n + 2))) (a : Int) 0 hd2 = (0, two a W1 W2) := by
    have := two_set2 (a := a) (W1 := W1) (W2 := zeros (n + 2)) (by rw [HW1'.out.1]; exact HN.out.2.2.2.2.2.1) (by rw [HW1'.out.1]; exact HN.out.1) (by rw [zeros_len]; omega) (i := 0) (v := hd2) (by rw [zeros_len]; omega)
    rw [hW2] at this; exact this
  have hl2 : W2.length = n + 2 := by rw [← hW2]; simp [zeros_len]
  have hg2 : W2.getD 0 0 = hd2 := by rw [← hW2, getD_set_list _ _ _ _ (by rw [zeros_len]; omega), if_pos rfl]
  have hz2 : ∀ i, 1 ≤ i → W2.getD i 0 = 0 := fun i hi => by
    rw [← hW2, getD_set_list _ _ _ _ (by rw [zeros_len]; omega), if_neg (by omega), zeros_getD]
  have HT2 := Lib.hid ht2; have HST2 := Lib.hid hst2; have HW2' := Lib.hid (And.intro hl2 (And.intro hg2 hz2))
  have HA := Lib.hid A
  obtain ⟨c0, c1, c2, c3, c4⟩ := HS8.out.below A.below
  obtain ⟨x0, x1, x2⟩ := HT8.out.below A.below
  clear A hs10 ht2 hst2 hl2 hg2 hz2 hW2
  go_wp2_with fail
  refine (make_r HA.out noR pack kind bo hk hh 0 3 n HM2.out n1 HW2.out (by have := HN.out; omega) (by have := HN.out; omega) a (by have := HN.out; omega) HT2.out (by rw [HH2.out]; exact HST2.out)).mono ?_
  clear c0 c1 c2 c3 c4 x0 x1 x2 HA HT2 HST2
  rintro e w11 ⟨rfl, A, -⟩
  have HA := Lib.hid A
  obtain ⟨c0, c1, c2, c3, c4⟩ := HS8.out.below A.below
  clear A
  go_wp2_with fail
  refine (bits_at pack kind bo hk hh w11).mono ?_
  rintro e w12 ⟨rfl, hb12⟩
  rw [HBB.out]
  have HA12 := Lib.hid (HA.out.stay hb12)
  clear hb12 HA c0 c1 c2 c3 c4
  have HD := Lib.hid (show a = nw + 2 from HN.out.2.2.2.2.2.1)
  go_wp2
  go_loopw [15] (fun t15 wr => ∃ (j : Nat) (V1 : List Nat), t15 = .int .i64 (j : Nat) ∧ j ≤ n ∧ ArR (fun _ => False) w8 wr pa m (two a V1 W2) ∧ V1.length = nw ∧ V1.getD 0 0 = hd1 ∧ ∀ i, V1.getD i 0 < 18446744073709551616) (fun t15 _ => n - (intOf t15).toNat)
  case atStart => exact ⟨0, W1, rfl, Nat.zero_le _, HA12.out, HW1'.out.1, HW1'.out.2.1, HW1'.out.2.2⟩
  case round =>
    clear HA12
    obtain ⟨j, V1, rfl, hj, A, hl1, hg1, hv1⟩ := hrel
    have HA := Lib.hid A
    by_cases hjn : j < n
    · have hjn' : (j : Int) < n := by omega
      have ej : IntKind.i64.wrap ((j : Int) + 1) = ((j + 1 : Nat) : Int) := by have := HN.out; rw [IntWalk.i64_in _ ⟨by omega, by omega⟩]; omega
      obtain ⟨hpl1, hpl2⟩ := item_place HP.out.2.2.1 HP.out.2.2.2.1 hjn
      rw [HNW.out] at hpl1
      have hA1 : a = V1.length + 2 := by rw [hl1]; exact HD.out
      have hA2 : 0 < V1.length := by rw [hl1]; exact HN.out.1
      have hA3 : 0 < W2.length := by rw [HW2'.out.1]; omega
      obtain ⟨wd, hwd⟩ : ∃ wd, 1 + j / p = wd := ⟨_, rfl⟩
      obtain ⟨sh, hsh⟩ : ∃ sh, j % p * b = sh := ⟨_, rfl⟩
      rw [hwd] at hpl1
      rw [hsh] at hpl2
      obtain ⟨v, hv⟩ : ∃ v, V1.getD wd 0 = v := ⟨_, rfl⟩
      have hgi : getF (two a V1 W2) 1 (wd : Int) = (v, 0) := by rw [two_get1 hA1 hA2 hA3 (by rw [hl1]; exact hpl1), hv]
      have hgh : getF (two a V1 W2) 1 0 = (headN 1 0 n, 0) := by
        have := two_get1 hA1 hA2 hA3 (i := 0) hA2
        rw [hg1, ← HH1.out] at this; exact this
      have hvl : v < 18446744073709551616 := by rw [← hv]; exact hv1 wd
      obtain ⟨y, hy⟩ : ∃ y, newW v sh b mk = y := ⟨_, rfl⟩
      have hyl := newW_lt v sh b mk (by have h64 : (2 : Nat) ^ 64 = 18446744073709551616 := by decide
                                        omega) hpl2 HMK.out.2
      have hsi : setF (two a V1 W2) 1 (wd : Int) (newW v sh b mk) = (0, two a (V1.set wd y) W2) := by rw [two_set1 hA1 hA2 hA3 (by rw [hl1]; exact hpl1), hy]
      have hwd0 : wd ≠ 0 := fun h => by
        have := Nat.le_add_right 1 (j / p)
        rw [hwd, h] at this
        exact absurd this (by decide)
      have hnew : (V1.set wd y).length = nw ∧ (V1.set wd y).getD 0 0 = hd1 ∧ ∀ i, (V1.set wd y).getD i 0 < 18446744073709551616 := by
        refine ⟨by rw [List.length_set]; exact hl1, ?_, fun i => ?_⟩
        · rw [getD_set_list _ _ _ _ (by rw [hl1]; exact hpl1), if_neg (fun e => hwd0 e.symm)]; exact hg1
        · rw [getD_set_list _ _ _ _ (by rw [hl1]; exact hpl1)]
          split
          · have h64 : (2 : Nat) ^ 64 = 18446744073709551616 := by decide
            rw [h64, hy] at hyl
            exact hyl
          · exact hv1 i
      have HNEW := Lib.hid hnew
      have hcall := oset_r HA.out noR pack kind bo hk hh 1 0 n HM1.out 1 hgh (by decide) (by decide) b p HBB.out HP.out.1 HP.out.2.1 (by rw [if_pos (show ((1 : Nat) : Int) = 1 from rfl)]; exact HP.out.2.2.2.2) j hjn wd sh v hwd hsh hpl2 hgi hvl mk HMK.out.2 hsi
      have HCALL := Lib.hid hcall
      obtain ⟨c0, c1, c2, c3, c4⟩ := HS8.out.below A.below
      clear A hl1 hg1 hv1 hpl1 hpl2 hA1 hA2 hA3 hwd hsh hv hgi hgh hvl hy hyl hsi hwd0 hnew hcall
      go_wp2_with fail
      refine HCALL.out.mono ?_
      clear c0 c1 c2 c3 c4
      rintro e w13 ⟨rfl, A, -⟩
      have HA13 := Lib.hid A
      clear A
      go_wp2
      go_roundw
      case rel => exact ⟨j + 1, _, rfl, hjn, HA13.out, HNEW.out.1, HNEW.out.2.1, HNEW.out.2.2⟩
      case measure => simp only [intOf]; omega
    · have hjn' : ¬ (j : Int) < n := by omega
      have hA1 : a = V1.length + 2 := by rw [hl1]; exact HD.out
      have hA2 : 0 < V1.length := by rw [hl1]; exact HN.out.1
      have hA3 : 0 < W2.length := by rw [HW2'.out.1]; omega
      have hgh : getF (two a V1 W2) 1 0 = (headN 1 0 n, 0) := by
        have := two_get1 hA1 hA2 hA3 (i := 0) hA2
        rw [hg1, ← HH1.out] at this; exact this
      have hgq : getF (two a V1 W2) (a : Int) 0 = (headN 0 3 n, 0) := by
        have := two_get2 hA1 hA2 hA3 (i := 0) hA3
        rw [HW2'.out.2.1, ← HH2.out] at this; exact this
      have hgz : ∀ i : Nat, i < n → getF (two a V1 W2) (a : Int) ((1 + i : Nat) : Int) = (0, 0) := fun i hi => by
        rw [two_get2 hA1 hA2 hA3 (by rw [HW2'.out.1]; omega), HW2'.out.2.2 _ (by omega)]
      have HGH := Lib.hid hgh; have HGQ := Lib.hid hgq; have HGZ := Lib.hid hgz
      have har : -9223372036854775808 ≤ (a : Int) ∧ (a : Int) < 9223372036854775808 := by have := HN.out; omega
      have HAR := Lib.hid har
      clear A hl1 hg1 hv1 hA1 hA2 hA3 hgh hgq hgz har
      go_wp2_with fail
      refine (head_r HA.out 0 3 n HM2.out a HGQ.out HAR.out.1 HAR.out.2).mono ?_
      rintro e w14 ⟨rfl, hb14⟩
      rw [show ((0 : Nat) : Int) = 0 from rfl, show ((3 : Nat) : Int) = 3 from rfl]
      have A14 := HA.out.stay hb14
      obtain ⟨x16, hx16⟩ : ∃ x16, w14.heap.size = x16 := ⟨_, rfl⟩
      obtain ⟨W15, hW15⟩ : ∃ W15, W15 = w14.alloc (.cells #[.int .i64 0, .int .i64 3, .int .i64 (n : Nat)] 50) := ⟨_, rfl⟩
      have hb15 : Below w14.heap.size w14 W15 := by rw [hW15]; exact alloc_below _ _
      have b16 := heap_alloc_at w14 (.cells #[.int .i64 0, .int .i64 3, .int .i64 (n : Nat)] 50) (b := x16) hx16.symm
      rw [← hW15] at b16
      have HH15 := Lib.hid (ThingAt.of b16)
      have HA15 := Lib.hid (A14.stay hb15)
      have HW15 := Lib.hid hW15; have HX16 := Lib.hid hx16
      clear hb14 A14 hb15 b16 hW15 hx16 HA
      go_wp2
      rw [← HW15.out, HX16.out]
      go_loopw [18] (fun t18 wr => ∃ j : Nat, t18 = .int .i64 (j : Nat) ∧ j ≤ n ∧ ArR (fun _ => False) w8 wr pa m (two a V1 W2) ∧ ThingAt x16 0 3 n wr) (fun t18 _ => n - (intOf t18).toNat)
      case atStart => exact ⟨0, rfl, Nat.zero_le _, HA15.out, HH15.out⟩
      case round =>
        clear HA15 HH15
        obtain ⟨j, rfl, hj, A, hH⟩ := hrel
        have HA := Lib.hid A
        have HHt := Lib.hid hH
        obtain ⟨c0, c1, c2, c3, c4⟩ := HS8.out.below A.below
        clear A hH
        by_cases hjn : j < n
        · have hjn' : (j : Int) < n := by omega
          have ej : IntKind.i64.wrap ((j : Int) + 1) = ((j + 1 : Nat) : Int) := by have := HN.out; rw [IntWalk.i64_in _ ⟨by omega, by omega⟩]; omega
          have hcall := oget_r HA.out pack kind bo hk hh 0 3 n HM2.out a HGQ.out HAR.out.1 HAR.out.2 b 1 HBB.out HP.out.1 HP.out.2.1 (by rw [if_neg (by simp)]) j hjn (1 + j) 0 0 (by rw [Nat.div_one]) (by rw [Nat.mod_one, Nat.zero_mul]) (by have := HP.out; omega) (HGZ.out j hjn) (by omega)
          rw [show itemOf 0 0 b = 0 by simp [itemOf], show ((0 : Nat) : Int) = 0 from rfl] at hcall
          have HCALL := Lib.hid hcall
          clear hcall
          go_wp2_with fail
          refine HCALL.out.mono ?_
          clear c0 c1 c2 c3 c4
          rintro e w16 ⟨rfl, hb16⟩
          have HA16 := Lib.hid (HA.out.stay hb16)
          have HH16 := Lib.hid (HHt.out.below hb16)
          clear hb16
          go_wp2
          go_roundw
          case rel => exact ⟨j + 1, rfl, hjn, HA16.out, HH16.out⟩
          case measure => simp only [intOf]; omega
        · have hjn' : ¬ (j : Int) < n := by omega
          obtain ⟨y0, y1, y2⟩ := HHt.out
          obtain ⟨z0, z1, z2⟩ := HT8.out.below HA.out.below
          go_wp2_with fail
          refine (oset_miss HA.out pack kind bo hk hh 1 0 n HM1.out 1 HGH.out (by decide) (by decide) b HBB.out HP.out.1 n (Nat.le_refl _) 0).mono ?_
          clear c0 c1 c2 c3 c4 y0 y1 y2 z0 z1 z2
          rintro e w17 ⟨rfl, hb17⟩
          have HA17 := Lib.hid (HA.out.stay hb17)
          clear hb17
          go_wp2
          go_ret
          exact ⟨rfl, HB8.out.trans (HA17.out.below.mono HB8.out.size)⟩
set_option maxRecDepth 100000 in
set_option maxHeartbeats 2000000 in
theorem owords_any (n : Int) (pack kind : Int) (bo : Bool) (hk hh : Int) (w : World) :
    Calls Try.prog 6 #[.int .i64 n, storeV pack kind bo hk hh] w fun e w' => e = .returned (.bool true) ∧ Below w.heap.size w w' := by
  obtain ⟨W0, hW0⟩ : ∃ W0, W0 = w.alloc (.cells #[.int .i64 pack, .int .i64 kind, .bool bo, .int .i64 hk, .int .i64 hh] 47) := ⟨_, rfl⟩
  have hb0 : Below w.heap.size w W0 := by rw [hW0]; exact alloc_below _ _
  have b0 := heap_alloc_at w (.cells #[.int .i64 pack, .int .i64 kind, .bool bo, .int .i64 hk, .int .i64 hh] 47) (b := w.heap.size) rfl
  rw [← hW0] at b0
  have HW := Lib.hid hW0; have HB0 := Lib.hid hb0; have HS0 := Lib.hid (StoreAt.of b0)
  clear hW0 hb0 b0
  by_cases h1 : n < 0
  · have g1 : decide (n < 0) = true := decide_eq_true h1
    go_enter Try.func6, Try.ntmps6
    go_wp2_with fail
    rw [← HW.out]
    refine (oknown_any W0).mono ?_
    rintro e w1 ⟨rfl, hb1⟩
    have HS1 := Lib.hid (HS0.out.below hb1)
    have HB1 := Lib.hid (HB0.out.trans (hb1.mono HB0.out.size))
    obtain ⟨c0, c1, c2, c3, c4⟩ := HS1.out
    clear hb1
    go_wp2
    go_ret
    exact ⟨rfl, HB1.out⟩
  by_cases h2 : 200 < n
  · have g1 : decide (n < 0) = false := decide_eq_false h1
    have g2 : decide (200 < n) = true := decide_eq_true h2
    go_enter Try.func6, Try.ntmps6
    go_wp2_with fail
    rw [← HW.out]
    refine (oknown_any W0).mono ?_
    rintro e w1 ⟨rfl, hb1⟩
    have HS1 := Lib.hid (HS0.out.below hb1)
    have HB1 := Lib.hid (HB0.out.trans (hb1.mono HB0.out.size))
    obtain ⟨c0, c1, c2, c3, c4⟩ := HS1.out
    clear hb1
    go_wp2
    go_ret
    exact ⟨rfl, HB1.out⟩
  rcases bits_cases pack kind with h0 | ⟨b, p, hbb, hb1, hb64, hp1, hp8, hpb⟩
  · have g1 : decide (n < 0) = false := decide_eq_false h1
    have g2 : decide (200 < n) = false := decide_eq_false h2
    have HZ := Lib.hid h0
    clear h0
    go_enter Try.func6, Try.ntmps6
    go_wp2_with fail
    rw [← HW.out]
    refine (oknown_any W0).mono ?_
    rintro e w1 ⟨rfl, hb1⟩
    have HS1 := Lib.hid (HS0.out.below hb1)
    have HB1 := Lib.hid (HB0.out.trans (hb1.mono HB0.out.size))
    obtain ⟨c0, c1, c2, c3, c4⟩ := HS1.out
    clear hb1
    go_wp2_with fail
    refine (bits_at pack kind bo hk hh w1).mono ?_
    rintro e w2 ⟨rfl, hb2⟩
    rw [HZ.out]
    have HB2 := Lib.hid (HB1.out.trans (hb2.mono HB1.out.size))
    clear hb2 c0 c1 c2 c3 c4
    go_wp2
    go_ret
    exact ⟨rfl, HB2.out⟩
  clear HW HB0 HS0
  obtain ⟨m, rfl⟩ : ∃ m : Nat, n = (m : Int) := ⟨n.toNat, by omega⟩
  by_cases hm : 1 ≤ m
  · exact ow_pos w m (by omega) hm pack kind bo hk hh b p hbb hb1 hb64 hp1 hp8 hpb
  · exact ow_zero w m (by omega) (by omega) pack kind bo hk hh b p hbb hb1 hb64 hp1 hp8 hpb
end Go.Proofs.Ytcjkmgjonnnapaa
