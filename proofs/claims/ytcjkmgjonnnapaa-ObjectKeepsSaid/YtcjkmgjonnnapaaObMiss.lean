/- package object: what is refused. -/
import Derived.Test.YtcjkmgjonnnapaaObItem
namespace Go.Proofs.Ytcjkmgjonnnapaa
open Go.RowKit

variable {R : Nat → Prop} {w0 w : World} {p m : Nat} {bs bs1 bs2 : List Blk}
set_option maxRecDepth 100000 in
set_option maxHeartbeats 2000000 in
theorem ofind_miss (A : ArR R w0 w p m bs) (pack kind : Int) (bo : Bool) (hk hn : Int) (k i n : Nat) (hmay : mayI k i n = true) (q : Int) (hg : getF bs q 0 = (headN k i n, 0)) (h1 : -9223372036854775808 ≤ q) (h2 : q < 9223372036854775808)
    (b : Nat) (hbb : bitsI pack kind = (b : Int)) (hb1 : 1 ≤ b) (j : Nat) (hj : n ≤ j) :
    Calls Try.prog 41 #[.pointer (some ⟨p, 0, none⟩), .int .i64 q, storeV pack kind bo hk hn, .int .i64 (j : Nat)] w fun e w' => e = .returned (.tuple #[.agg #[.int .i64 0, .int .i64 0], .int .i64 0, .int .i64 2]) ∧ Below w.heap.size w w' := by
  obtain ⟨_, _, _, _, hn0, hn1⟩ := (mayI_iff _ _ _).1 hmay
  obtain ⟨W1, hW1⟩ : ∃ W1, W1 = (w.alloc (.cells #[.int .i64 pack, .int .i64 kind, .bool bo, .int .i64 hk, .int .i64 hn] 47)).alloc (.cells #[.int .i64 0, .int .i64 0] 78) := ⟨_, rfl⟩
  have hb1' : Below w.heap.size w W1 := by rw [hW1]; exact ((Below.refl _ _).alloc (Nat.le_refl _) _).alloc (by simp) _
  have b6 := heap_alloc_keep (heap_alloc_at w (.cells #[.int .i64 pack, .int .i64 kind, .bool bo, .int .i64 hk, .int .i64 hn] 47) (b := w.heap.size) rfl) (.cells #[.int .i64 0, .int .i64 0] 78)
  have b8 := heap_alloc_at (w.alloc (.cells #[.int .i64 pack, .int .i64 kind, .bool bo, .int .i64 hk, .int .i64 hn] 47)) (.cells #[.int .i64 0, .int .i64 0] 78) (b := w.heap.size + 1) (by simp)
  rw [← hW1] at b6 b8
  have H1 := Lib.hid (head_r (A.stay hb1') k i n hmay q hg h1 h2)
  have HW := Lib.hid hW1; have HB1 := Lib.hid hb1'; have B6 := Lib.hid b6; have B8 := Lib.hid b8
  have HBB := Lib.hid hbb
  have t1 : ¬ (b : Int) = 0 := by omega
  have t1' : ¬ b = 0 := by omega
  have t2 : ¬ (j : Int) < 0 := by omega
  have t3 : n ≤ j := hj
  have t4 : (n : Int) ≤ j := by omega
  have t5 : decide (n ≤ j) = true := decide_eq_true t3
  have t6 : decide ((j : Int) < 0) = false := decide_eq_false t2
  clear A hmay hg h1 h2 hW1 b6 b8 hb1 hbb hn0 hn1 hj
  go_enter Try.func41, Try.ntmps41
  go_wp2_with fail
  rw [← HW.out]
  refine H1.out.mono ?_
  rintro e w1 ⟨rfl, hbw⟩
  have b6 : w1.heap[w.heap.size]? = _ := (hbw.block _ (heap_lt B6.out)).trans B6.out
  have b8 : w1.heap[w.heap.size + 1]? = _ := (hbw.block _ (heap_lt B8.out)).trans B8.out
  have c0 := heap_cell b6 0
  have c1 := heap_cell b6 1
  have c2 := heap_cell b6 2
  have c3 := heap_cell b6 3
  have c4 := heap_cell b6 4
  simp at c0 c1 c2 c3 c4
  have B81 := Lib.hid b8
  have BW1 := Lib.hid (HB1.out.trans (hbw.mono HB1.out.size))
  have hal : Below w1.heap.size w1 (w1.alloc (.cells #[.int .i64 (k : Nat), .int .i64 (i : Nat), .int .i64 (n : Nat)] 50)) := (Below.refl _ _).alloc (Nat.le_refl _) _
  replace c0 := below_cell hal c0
  replace c1 := below_cell hal c1
  replace c2 := below_cell hal c2
  replace c3 := below_cell hal c3
  replace c4 := below_cell hal c4
  clear hbw b6 b8 hal
  go_wp2_with fail
  obtain ⟨t11, ht11⟩ : ∃ t11, w1.heap.size = t11 := ⟨_, rfl⟩
  obtain ⟨W2, hW2⟩ : ∃ W2, W2 = w1.alloc (.cells #[.int .i64 (k : Nat), .int .i64 (i : Nat), .int .i64 (n : Nat)] 50) := ⟨_, rfl⟩
  have hb2' : Below w1.heap.size w1 W2 := by rw [hW2]; exact (Below.refl _ _).alloc (Nat.le_refl _) _
  have b11 := heap_alloc_at w1 (.cells #[.int .i64 (k : Nat), .int .i64 (i : Nat), .int .i64 (n : Nat)] 50) (b := t11) ht11.symm
  rw [← hW2] at b11
  rw [← hW2, ht11]
  have hlt8 : w.heap.size + 1 < w1.heap.size := heap_lt B81.out
  have b8 : W2.heap[w.heap.size + 1]? = _ := (hb2'.block _ hlt8).trans B81.out
  have B82 := Lib.hid b8; have B11 := Lib.hid b11
  have BW2 := Lib.hid (BW1.out.trans (hb2'.mono BW1.out.size))
  clear b8 b11 hb2' hW2 c0 c1 c2 c3 c4 ht11 hlt8
  refine (bits_at pack kind bo hk hn W2).mono ?_
  rintro e w3 ⟨rfl, hb3⟩
  rw [HBB.out]
  have b8 : w3.heap[w.heap.size + 1]? = _ := (hb3.block _ (heap_lt B82.out)).trans B82.out
  have b11 : w3.heap[t11]? = _ := (hb3.block _ (heap_lt B11.out)).trans B11.out
  have d2 := heap_cell b11 2
  have r0 := heap_cell b8 0
  have r1 := heap_cell b8 1
  have z0 := heap_frozen b8 0
  have z1 := heap_frozen b8 1
  simp at d2 r0 r1
  have B85 := Lib.hid b8
  have BW5 := Lib.hid (BW2.out.trans (hb3.mono BW2.out.size))
  clear hb3 b8 b11
  go_wp2
  have s1 := heap_set_at B85.out 0 (.int .i64 0)
  simp at s1
  have s2 := heap_set_at s1 1 (.int .i64 0)
  simp at s2
  have q0 := heap_cell s2 0
  have q1 := heap_cell s2 1
  simp at q0 q1
  refine bodyPost_ret (v := .tuple #[.agg #[.int .i64 0, .int .i64 0], .int .i64 0, .int .i64 2]) ?_ rfl ⟨rfl, ?_⟩
  · simp [results, Try.results41, go_sem, q0, q1]
  · exact (BW5.out.setCell (by simp) _).setCell (by simp) _
set_option maxHeartbeats 2000000 in
theorem oget_miss (A : ArR R w0 w p m bs) (pack kind : Int) (bo : Bool) (hk hn : Int) (k i n : Nat) (hmay : mayI k i n = true) (q : Int) (hg : getF bs q 0 = (headN k i n, 0)) (h1 : -9223372036854775808 ≤ q) (h2 : q < 9223372036854775808)
    (b : Nat) (hbb : bitsI pack kind = (b : Int)) (hb1 : 1 ≤ b) (j : Nat) (hj : n ≤ j) :
    Calls Try.prog 26 #[.pointer (some ⟨p, 0, none⟩), .int .i64 q, storeV pack kind bo hk hn, .int .i64 (j : Nat)] w fun e w' => e = .returned (.tuple #[.int .u64 0, .int .i64 2]) ∧ Below w.heap.size w w' := by
  obtain ⟨W1, hW1⟩ : ∃ W1, W1 = w.alloc (.cells #[.int .i64 pack, .int .i64 kind, .bool bo, .int .i64 hk, .int .i64 hn] 47) := ⟨_, rfl⟩
  have hb1' : Below w.heap.size w W1 := by rw [hW1]; exact (Below.refl _ _).alloc (Nat.le_refl _) _
  have hf := ofind_miss (A.stay hb1') pack kind bo hk hn k i n hmay q hg h1 h2 b hbb hb1 j hj
  have HF := Lib.hid hf; have HW := Lib.hid hW1; have HB1 := Lib.hid hb1'
  clear A hf hW1 hb1' hmay hg h1 h2 hbb hb1 hj
  go_enter Try.func26, Try.ntmps26
  go_wp2_with fail
  rw [← HW.out]
  refine HF.out.mono ?_
  rintro e w1 ⟨rfl, hbw⟩
  have BW1 := Lib.hid (HB1.out.trans (hbw.mono HB1.out.size))
  clear hbw
  go_wp2
  go_ret2
  exact ⟨rfl, BW1.out.alloc BW1.out.size _⟩
set_option maxHeartbeats 2000000 in
theorem oset_miss (A : ArR R w0 w p m bs) (pack kind : Int) (bo : Bool) (hk hn : Int) (k i n : Nat) (hmay : mayI k i n = true) (q : Int) (hg : getF bs q 0 = (headN k i n, 0)) (h1 : -9223372036854775808 ≤ q) (h2 : q < 9223372036854775808)
    (b : Nat) (hbb : bitsI pack kind = (b : Int)) (hb1 : 1 ≤ b) (j : Nat) (hj : n ≤ j) (x : Int) :
    Calls Try.prog 24 #[.pointer (some ⟨p, 0, none⟩), .int .i64 q, storeV pack kind bo hk hn, .int .i64 (j : Nat), .int .u64 x] w fun e w' => e = .returned (.int .i64 2) ∧ Below w.heap.size w w' := by
  obtain ⟨W1, hW1⟩ : ∃ W1, W1 = w.alloc (.cells #[.int .i64 pack, .int .i64 kind, .bool bo, .int .i64 hk, .int .i64 hn] 47) := ⟨_, rfl⟩
  have hb1' : Below w.heap.size w W1 := by rw [hW1]; exact (Below.refl _ _).alloc (Nat.le_refl _) _
  have hf := ofind_miss (A.stay hb1') pack kind bo hk hn k i n hmay q hg h1 h2 b hbb hb1 j hj
  have HF := Lib.hid hf; have HW := Lib.hid hW1; have HB1 := Lib.hid hb1'
  clear A hf hW1 hb1' hmay hg h1 h2 hbb hb1 hj
  go_enter Try.func24, Try.ntmps24
  go_wp2_with fail
  rw [← HW.out]
  refine HF.out.mono ?_
  rintro e w1 ⟨rfl, hbw⟩
  have BW1 := Lib.hid (HB1.out.trans (hbw.mono HB1.out.size))
  clear hbw
  go_wp2
  go_ret
  exact ⟨rfl, BW1.out.alloc BW1.out.size _⟩
set_option maxHeartbeats 2000000 in
theorem oset_big (A : ArR R w0 w p m bs) (pack kind : Int) (bo : Bool) (hk hn : Int) (k i n : Nat) (hmay : mayI k i n = true) (q : Int) (hg : getF bs q 0 = (headN k i n, 0)) (h1 : -9223372036854775808 ≤ q) (h2 : q < 9223372036854775808)
    (b pl : Nat) (hbb : bitsI pack kind = (b : Int)) (hb1 : 1 ≤ b) (hb2 : b ≤ 64) (hpl : pl = if (k : Int) = 1 then 64 / b else 1) (j : Nat) (hj : j < n) (x mk : Nat) (hmk : 2 ^ b - 1 = mk) (hx : mk < x) :
    Calls Try.prog 24 #[.pointer (some ⟨p, 0, none⟩), .int .i64 q, storeV pack kind bo hk hn, .int .i64 (j : Nat), .int .u64 (x : Nat)] w fun e w' => e = .returned (.int .i64 2) ∧ Below w.heap.size w w' := by
  obtain ⟨W1, hW1⟩ : ∃ W1, W1 = w.alloc (.cells #[.int .i64 pack, .int .i64 kind, .bool bo, .int .i64 hk, .int .i64 hn] 47) := ⟨_, rfl⟩
  have hb1' : Below w.heap.size w W1 := by rw [hW1]; exact (Below.refl _ _).alloc (Nat.le_refl _) _
  have hf := find_r (A.stay hb1') pack kind bo hk hn k i n hmay q hg h1 h2 b pl hbb hb1 hb2 hpl j hj
  obtain ⟨wd, hwd⟩ : ∃ wd, 1 + j / pl = wd := ⟨_, rfl⟩
  obtain ⟨sh, hsh⟩ : ∃ sh, j % pl * b = sh := ⟨_, rfl⟩
  rw [hwd, hsh] at hf
  have hm : ∀ w, Calls Try.prog 42 #[.int .i64 (b : Nat)] w fun e w' => e = .returned (.int .u64 (mk : Nat)) ∧ w = w' := fun w => (mask_at b hb1 hb2 w).mono fun e w' ⟨he, hw⟩ => ⟨by rw [he, hmk], hw⟩
  have t4 : mk < x := hx
  have t5 : (mk : Int) < x := by omega
  have HF := Lib.hid hf; have HW := Lib.hid hW1; have HB1 := Lib.hid hb1'; have HM := Lib.hid hm
  clear A hf hW1 hb1' hmay hg h1 h2 hbb hb1 hb2 hpl hj hm hmk hx hwd hsh
  go_enter Try.func24, Try.ntmps24
  go_wp2_with fail
  rw [← HW.out]
  refine HF.out.mono ?_
  rintro e w1 ⟨rfl, hbw⟩
  unfold foundV
  have BW1 := Lib.hid (HB1.out.trans (hbw.mono HB1.out.size))
  clear hbw
  go_wp2_with fail
  refine (HM.out _).mono ?_
  rintro e w2 ⟨rfl, rfl⟩
  go_wp2
  go_ret
  exact ⟨rfl, BW1.out.alloc BW1.out.size _⟩
end Go.Proofs.Ytcjkmgjonnnapaa
