/- package object: Get, Set. -/
import Derived.Test.YtcjkmgjonnnapaaObFind
import Derived.Test.YtcjkmgjonnnapaaObBits
namespace Go.Proofs.Ytcjkmgjonnnapaa
open Go.RowKit

variable {R : Nat → Prop} {w0 w : World} {p m : Nat} {bs bs1 bs2 : List Blk}
set_option maxRecDepth 100000 in
set_option maxHeartbeats 2000000 in
theorem oget_r (A : ArR R w0 w p m bs) (pack kind : Int) (bo : Bool) (hk hn : Int) (k i n : Nat) (hmay : mayI k i n = true) (q : Int) (hg : getF bs q 0 = (headN k i n, 0)) (h1 : -9223372036854775808 ≤ q) (h2 : q < 9223372036854775808)
    (b pl : Nat) (hbb : bitsI pack kind = (b : Int)) (hb1 : 1 ≤ b) (hb2 : b ≤ 64) (hpl : pl = if (k : Int) = 1 then 64 / b else 1) (j : Nat) (hj : j < n)
    (wd sh v : Nat) (hwd : 1 + j / pl = wd) (hsh : j % pl * b = sh) (hsl : sh + b ≤ 64) (hv : getF bs q wd = (v, 0)) (hv64 : v < 18446744073709551616) :
    Calls Try.prog 26 #[.pointer (some ⟨p, 0, none⟩), .int .i64 q, storeV pack kind bo hk hn, .int .i64 (j : Nat)] w fun e w' => e = .returned (.tuple #[.int .u64 (itemOf v sh b : Nat), .int .i64 0]) ∧ Below w.heap.size w w' := by
  obtain ⟨W1, hW1⟩ : ∃ W1, W1 = w.alloc (.cells #[.int .i64 pack, .int .i64 kind, .bool bo, .int .i64 hk, .int .i64 hn] 47) := ⟨_, rfl⟩
  have hb1' : Below w.heap.size w W1 := by rw [hW1]; exact (Below.refl _ _).alloc (Nat.le_refl _) _
  have A1 := A.stay hb1'
  have hf := find_r A1 pack kind bo hk hn k i n hmay q hg h1 h2 b pl hbb hb1 hb2 hpl j hj
  rw [hwd, hsh] at hf
  obtain ⟨mk, hmk⟩ : ∃ mk, 2 ^ b - 1 = mk := ⟨_, rfl⟩
  have hm : ∀ w, Calls Try.prog 42 #[.int .i64 (b : Nat)] w fun e w' => e = .returned (.int .u64 (mk : Nat)) ∧ Below w.heap.size w w' := fun w => (mask_at b hb1 hb2 w).mono fun e w' ⟨he, hw⟩ => ⟨by rw [he, hmk], by rw [hw]; exact Below.refl _ _⟩
  obtain ⟨it, hit⟩ : ∃ it, itemOf v sh b = it := ⟨_, rfl⟩
  have hmkl : mk < 18446744073709551616 := by
    rw [← hmk]
    have := Nat.pow_le_pow_right (n := 2) (by decide) hb2
    have h64 : (2 : Nat) ^ 64 = 18446744073709551616 := by decide
    omega
  have eit : bits .and .u64 ((v : Int) / 2 ^ sh) (mk : Int) = (it : Int) := by
    have e : (v : Int) / 2 ^ sh = ((v / 2 ^ sh : Nat) : Int) := by rw [Int.natCast_ediv]; simp
    rw [e, bits_and64 _ _ (Nat.lt_of_le_of_lt (Nat.div_le_self _ _) hv64) hmkl, ← hmk, Nat.and_two_pow_sub_one_eq_mod, ← hit]
    rfl
  rw [hit]
  have t1 : ¬ (sh : Int) < 0 := by omega
  have t2 : (sh : Int) < 64 := by omega
  have t3 : sh < 64 := by omega
  have HF := Lib.hid hf; have HM := Lib.hid hm; have HA := Lib.hid A1; have HW := Lib.hid hW1; have HB1 := Lib.hid hb1'; have HV := Lib.hid hv; have HQ := Lib.hid (And.intro h1 h2)
  clear A A1 hf hm hW1 hb1' hv hmay hg h1 h2 hbb hb1 hb2 hpl hj hwd hsh hsl hmk hit hmkl hv64
  go_enter Try.func26, Try.ntmps26
  go_wp2_with fail
  rw [← HW.out]
  refine HF.out.mono ?_
  rintro e w1 ⟨rfl, hbw⟩
  unfold foundV
  have A1 := HA.out.stay hbw
  have BW1 := Lib.hid (HB1.out.trans (hbw.mono HB1.out.size))
  obtain ⟨t10, ht10⟩ : ∃ t10, w1.heap.size = t10 := ⟨_, rfl⟩
  obtain ⟨W2, hW2⟩ : ∃ W2, W2 = w1.alloc (.cells #[.int .i64 (wd : Nat), .int .i64 (sh : Nat)] 78) := ⟨_, rfl⟩
  have hb2' : Below w1.heap.size w1 W2 := by rw [hW2]; exact (Below.refl _ _).alloc (Nat.le_refl _) _
  have b10 := heap_alloc_at w1 (.cells #[.int .i64 (wd : Nat), .int .i64 (sh : Nat)] 78) (b := t10) ht10.symm
  rw [← hW2] at b10
  have d0 := heap_cell b10 0
  have d1 := heap_cell b10 1
  simp at d0 d1
  have g1 := Ext.cells (w0 := W2) d1
  have HA2 := Lib.hid (A1.stay hb2')
  have BW2 := Lib.hid (BW1.out.trans (hb2'.mono BW1.out.size))
  have HW2 := Lib.hid hW2; have HT10 := Lib.hid ht10
  clear hbw A1 hb2' b10 hW2 ht10
  go_wp2_with fail
  rw [← HW2.out, HT10.out]
  refine (Get_r HA2.out HV.out v rfl HQ.out.1 HQ.out.2).mono ?_
  rintro e w2 ⟨rfl, rfl⟩
  go_wp2
  refine wp_region_calm (by kernel_rfl) (by kernel_rfl) ?_
  repeat (go_big_quiet_step ((exact Ext.call _ (HM.out _))))
  refine wpQuiet_nil ?_
  rintro _ ⟨x0, rfl⟩
  clear g1 d0 d1
  have BX := Lib.hid (BW2.out.trans (x0.2.mono BW2.out.size))
  go_wp2
  go_ret2
  exact ⟨rfl, BX.out⟩
set_option maxRecDepth 100000 in
set_option maxHeartbeats 4000000 in
theorem oset_r (A : ArR R w0 w p m bs) (hR : ∀ b, R b → b < w.heap.size) (pack kind : Int) (bo : Bool) (hk hn : Int) (k i n : Nat) (hmay : mayI k i n = true) (q : Int) (hg : getF bs q 0 = (headN k i n, 0)) (h1 : -9223372036854775808 ≤ q) (h2 : q < 9223372036854775808)
    (b pl : Nat) (hbb : bitsI pack kind = (b : Int)) (hb1 : 1 ≤ b) (hb2 : b ≤ 64) (hpl : pl = if (k : Int) = 1 then 64 / b else 1) (j : Nat) (hj : j < n)
    (wd sh v : Nat) (hwd : 1 + j / pl = wd) (hsh : j % pl * b = sh) (hsl : sh + b ≤ 64) (hv : getF bs q wd = (v, 0)) (hv64 : v < 18446744073709551616) (x : Nat) (hx : x < 2 ^ b) (hs : setF bs q wd (newW v sh b x) = (0, bs2)) :
    Calls Try.prog 24 #[.pointer (some ⟨p, 0, none⟩), .int .i64 q, storeV pack kind bo hk hn, .int .i64 (j : Nat), .int .u64 (x : Nat)] w fun e w' => e = .returned (.int .i64 0) ∧ ArR R w0 w' p m bs2 ∧ Kept R w w' := by
  obtain ⟨W1, hW1⟩ : ∃ W1, W1 = w.alloc (.cells #[.int .i64 pack, .int .i64 kind, .bool bo, .int .i64 hk, .int .i64 hn] 47) := ⟨_, rfl⟩
  have hb1' : Below w.heap.size w W1 := by rw [hW1]; exact (Below.refl _ _).alloc (Nat.le_refl _) _
  have A1 := A.stay hb1'
  have hf := find_r A1 pack kind bo hk hn k i n hmay q hg h1 h2 b pl hbb hb1 hb2 hpl j hj
  rw [hwd, hsh] at hf
  have h64 : (2 : Nat) ^ 64 = 18446744073709551616 := by decide
  have hv64' : v < 2 ^ 64 := by omega
  have hyl := newW_lt v sh b x hv64' hsl hx
  obtain ⟨y, hy⟩ : ∃ y, newW v sh b x = y := ⟨_, rfl⟩
  rw [hy] at hs hyl
  obtain ⟨mk, hmk⟩ : ∃ mk, 2 ^ b - 1 = mk := ⟨_, rfl⟩
  have hm : ∀ w, Calls Try.prog 42 #[.int .i64 (b : Nat)] w fun e w' => e = .returned (.int .u64 (mk : Nat)) ∧ w = w' := fun w => (mask_at b hb1 hb2 w).mono fun e w' ⟨he, hw⟩ => ⟨by rw [he, hmk], hw⟩
  have hm2 : ∀ w, Calls Try.prog 42 #[.int .i64 (b : Nat)] w fun e w' => e = .returned (.int .u64 (mk : Nat)) ∧ Below w.heap.size w w' := fun w => (hm w).mono fun e w' ⟨he, hw⟩ => ⟨he, by rw [hw]; exact Below.refl _ _⟩
  have hpow : 2 ^ b * 2 ^ sh ≤ 2 ^ 64 := by rw [← Nat.pow_add]; exact Nat.pow_le_pow_right (by decide) (by omega)
  have hsp := Nat.two_pow_pos sh
  have hbp := Nat.two_pow_pos b
  obtain ⟨M, hM⟩ : ∃ M, mk * 2 ^ sh = M := ⟨_, rfl⟩
  obtain ⟨X, hX⟩ : ∃ X, x * 2 ^ sh = X := ⟨_, rfl⟩
  have hMl : M < 18446744073709551616 := by
    have : mk * 2 ^ sh < 2 ^ b * 2 ^ sh := Nat.mul_lt_mul_of_pos_right (by omega) hsp
    omega
  have hXl : X < 18446744073709551616 := by
    have : x * 2 ^ sh < 2 ^ b * 2 ^ sh := Nat.mul_lt_mul_of_pos_right hx hsp
    omega
  obtain ⟨r, hrl, hr, hrb⟩ := bits_andNot64 v M hv64 hMl
  have hre := andNot_eq v M r hv64' hrb
  have hyo : r ||| X = y := by rw [hre, ← hM, ← hX, ← hy, ← hmk]; rfl
  have f1 : IntKind.u64.wrap ((mk : Int) * 2 ^ sh) = (M : Int) := by
    have e : (mk : Int) * 2 ^ sh = (M : Int) := by rw [← hM]; simp
    rw [e]; exact wrap_u64_in (by omega) (by omega)
  have f2 : IntKind.u64.wrap ((x : Int) * 2 ^ sh) = (X : Int) := by
    have e : (x : Int) * 2 ^ sh = (X : Int) := by rw [← hX]; simp
    rw [e]; exact wrap_u64_in (by omega) (by omega)
  have f3 : bits .or .u64 (r : Int) (X : Int) = (y : Int) := by rw [bits_or64 _ _ hrl hXl, hyo]
  have t1 : ¬ (sh : Int) < 0 := by omega
  have t2 : (sh : Int) < 64 := by omega
  have t3 : sh < 64 := by omega
  have t4 : ¬ mk < x := by omega
  have t5 : ¬ (mk : Int) < x := by omega
  have t6 : decide (mk < x) = false := decide_eq_false t4
  have hmf : ∀ (fn : Fn) (first cap : Array Value) (w : World), (Instr.makeFunc fn first cap).run Try.prog w = .ok (.func fn first cap) w := fun _ _ _ _ => rfl
  have HF := Lib.hid hf; have HM := Lib.hid hm; have HM2 := Lib.hid hm2; have HA := Lib.hid A1; have HW := Lib.hid hW1; have HB1 := Lib.hid hb1'; have HV := Lib.hid hv; have HQ := Lib.hid (And.intro h1 h2); have HS := Lib.hid hs
  have HYL := Lib.hid (show y < 18446744073709551616 by omega); have HR := Lib.hid hR; have HHR := Lib.hid hr
  clear A A1 hf hm hm2 hW1 hb1' hv hmay hg h1 h2 hbb hb1 hb2 hpl hj hwd hsh hsl hmk hv64 hv64' hyl hy hpow hsp hbp hM hX hMl hXl hrl hrb hre hyo hs hR h64 hx hr
  go_enter Try.func24, Try.ntmps24
  go_wp2_with fail
  rw [← HW.out]
  refine HF.out.mono ?_
  rintro e w1 ⟨rfl, hbw⟩
  unfold foundV
  have A1 := HA.out.stay hbw
  have BW1 := Lib.hid (HB1.out.trans (hbw.mono HB1.out.size))
  obtain ⟨t11, ht11⟩ : ∃ t11, w1.heap.size = t11 := ⟨_, rfl⟩
  obtain ⟨W2, hW2⟩ : ∃ W2, W2 = w1.alloc (.cells #[.int .i64 (wd : Nat), .int .i64 (sh : Nat)] 78) := ⟨_, rfl⟩
  have hb2' : Below w1.heap.size w1 W2 := by rw [hW2]; exact (Below.refl _ _).alloc (Nat.le_refl _) _
  have b11 := heap_alloc_at w1 (.cells #[.int .i64 (wd : Nat), .int .i64 (sh : Nat)] 78) (b := t11) ht11.symm
  rw [← hW2] at b11
  have d0 := heap_cell b11 0
  have d1 := heap_cell b11 1
  simp at d0 d1
  have g0 := Ext.cells (w0 := W2) d0
  have g1 := Ext.cells (w0 := W2) d1
  have HA2 := Lib.hid (A1.stay hb2')
  have BW2 := Lib.hid (BW1.out.trans (hb2'.mono BW1.out.size))
  have HW2 := Lib.hid hW2; have HT11 := Lib.hid ht11
  clear hbw A1 hb2' b11 hW2 ht11
  go_wp2_with fail
  rw [← HW2.out, HT11.out]
  refine (HM.out _).mono ?_
  rintro e w2 ⟨rfl, rfl⟩
  go_wp2_with fail
  refine (Get_r HA2.out HV.out v rfl HQ.out.1 HQ.out.2).mono ?_
  rintro e w2 ⟨rfl, rfl⟩
  go_wp2
  have hr := HHR.out
  refine wp_region_calm_tail 16 (by kernel_rfl) (by kernel_rfl) ?_
  simp only [List.take_succ_cons, List.take_zero, List.drop_succ_cons, List.drop_zero]
  repeat (go_big_quiet_step ((exact Ext.call _ (HM2.out _))))
  refine wpQuiet_nil ?_
  intro w3 hb3
  have HA3 := Lib.hid (HA2.out.stay hb3)
  have BW3 := Lib.hid (BW2.out.trans (hb3.mono BW2.out.size))
  have HR3 := Lib.hid (fun b hb => Nat.lt_of_lt_of_le (HR.out b hb) BW3.out.size)
  clear g0 g1 d0 d1 hb3 hr
  go_wp2_with fail
  refine (Set_r HA3.out HR3.out HS.out y rfl HQ.out.1 HQ.out.2 HYL.out).mono ?_
  rintro e w4 ⟨rfl, A4, K4⟩
  have HA4 := Lib.hid A4
  have HK4 := Lib.hid ((Kept.of_below HR.out BW3.out).trans K4)
  clear A4 K4
  go_wp2
  go_ret
  exact ⟨rfl, HA4.out, HK4.out⟩
end Go.Proofs.Ytcjkmgjonnnapaa
