/- package object: places, find, Get, Set. -/
import Derived.Test.YtcjkmgjonnnapaaObHead
namespace Go.Proofs.Ytcjkmgjonnnapaa
open Go.RowKit

theorem cell_of2 {w : World} {o1 o2 : Obj} {v : Value} : (((w.alloc o1).alloc o2).alloc (.cells #[v] 3)).cell? ⟨w.heap.size + 2, 0, none⟩ = some v := by
  have q := heap_cell (heap_alloc_at ((w.alloc o1).alloc o2) (.cells #[v] 3) (b := w.heap.size + 2) (by simp)) 0
  simpa using q
theorem cell_of1 {w : World} {o1 o3 : Obj} {v : Value} : (((w.alloc o1).alloc (.cells #[v] 3)).alloc o3).cell? ⟨w.heap.size + 1, 0, none⟩ = some v := by
  have q := heap_cell (heap_alloc_at (w.alloc o1) (.cells #[v] 3) (b := w.heap.size + 1) (by simp)) 0
  have hb : Below ((w.alloc o1).alloc (.cells #[v] 3)).heap.size ((w.alloc o1).alloc (.cells #[v] 3)) (((w.alloc o1).alloc (.cells #[v] 3)).alloc o3) := (Below.refl _ _).alloc (Nat.le_refl _) _
  exact below_cell hb (by simp at q ⊢)
theorem below3 {w : World} {o1 o2 o3 : Obj} : Below w.heap.size w (((w.alloc o1).alloc o2).alloc o3) :=
  (((Below.refl _ _).alloc (Nat.le_refl _) _).alloc (by simp) _).alloc (by simp; omega) _
theorem places_at (k i n : Int) (b pl : Nat) (hb1 : 1 ≤ b) (hb2 : b ≤ 64) (hpl : pl = if k = 1 then 64 / b else 1) (w : World) :
    Calls Try.prog 55 #[thingV k i n, .int .i64 (b : Nat)] w fun e w' => e = .returned (.func (.func 59) #[] #[.pointer (some ⟨w.heap.size + 2, 0, none⟩), .pointer (some ⟨w.heap.size + 1, 0, none⟩)]) ∧ w'.cell? ⟨w.heap.size + 2, 0, none⟩ = some (.int .i64 (pl : Nat)) ∧ w'.cell? ⟨w.heap.size + 1, 0, none⟩ = some (.int .i64 (b : Nat)) ∧ Below w.heap.size w w' := by
  have hbe : ¬ (b : Int) = 0 := by omega
  have hbe2 : ¬ b = 0 := by omega
  have hmf : ∀ (fn : Fn) (first cap : Array Value) (w : World), (Instr.makeFunc fn first cap).run Try.prog w = .ok (.func fn first cap) w := fun _ _ _ _ => rfl
  by_cases hk : k = 1
  · subst hk
    rw [if_pos rfl] at hpl
    have hple : pl ≤ 64 := by rw [hpl]; exact Nat.div_le_self _ _
    have e1 : (64 : Int).tdiv (b : Int) = (pl : Int) := by rw [Int.tdiv_eq_ediv_of_nonneg (by omega), hpl]; simp
    have e2 : IntKind.i64.wrap (pl : Int) = (pl : Int) := IntWalk.i64_in _ ⟨by omega, by omega⟩
    clear hpl hple hb1 hb2
    go_enter Try.func55, Try.ntmps55
    go_wp2
    go_ret
    exact ⟨rfl, cell_of2, cell_of1, below3⟩
  · rw [if_neg hk] at hpl
    subst hpl
    clear hb1 hb2 hbe hbe2
    go_enter Try.func55, Try.ntmps55
    go_wp2
    go_ret
    exact ⟨rfl, cell_of2, cell_of1, below3⟩
set_option maxHeartbeats 1000000 in
theorem places1_at (j b pl : Nat) (hb2 : b ≤ 64) (hp1 : 1 ≤ pl) (hp2 : pl ≤ 64) (hj : j ≤ 16777216) (E B : Nat) (w : World) (hE : w.cell? ⟨E, 0, none⟩ = some (.int .i64 (pl : Nat))) (hB : w.cell? ⟨B, 0, none⟩ = some (.int .i64 (b : Nat))) :
    Calls Try.prog 59 (#[.int .i64 (j : Nat)] ++ #[.pointer (some ⟨E, 0, none⟩), .pointer (some ⟨B, 0, none⟩)]) w fun e w' => e = .returned (.agg #[.int .i64 ((1 + j / pl : Nat) : Int), .int .i64 ((j % pl * b : Nat) : Int)]) ∧ Below w.heap.size w w' := by
  obtain ⟨W1, hW1⟩ : ∃ W1, W1 = w.alloc (.cells #[.int .i64 0, .int .i64 0] 78) := ⟨_, rfl⟩
  have hb1 : Below w.heap.size w W1 := by rw [hW1]; exact (Below.refl _ _).alloc (Nat.le_refl _) _
  have b4 := heap_alloc_at w (.cells #[.int .i64 0, .int .i64 0] 78) (b := w.heap.size) rfl
  rw [← hW1] at b4
  have d0 := Ext.cells (w0 := W1) (below_cell hb1 hE)
  have d1 := Ext.cells (w0 := W1) (below_cell hb1 hB)
  obtain ⟨jd, hjd⟩ : ∃ jd, j / pl = jd := ⟨_, rfl⟩
  obtain ⟨jm, hjm⟩ : ∃ jm, j % pl = jm := ⟨_, rfl⟩
  obtain ⟨wd, hwd⟩ : ∃ wd, 1 + jd = wd := ⟨_, rfl⟩
  obtain ⟨sh, hsh⟩ : ∃ sh, jm * b = sh := ⟨_, rfl⟩
  have l1 : jd ≤ j := by rw [← hjd]; exact Nat.div_le_self _ _
  have l2 : jm < pl := by rw [← hjm]; exact Nat.mod_lt _ (by omega)
  have l3 : sh ≤ 4096 := by rw [← hsh]; exact Nat.le_trans (Nat.mul_le_mul (by omega : jm ≤ 64) hb2) (by omega)
  rw [hjd, hjm, hwd, hsh]
  have hpe : ¬ (pl : Int) = 0 := by omega
  have hpe2 : ¬ pl = 0 := by omega
  have e1 : (j : Int).tdiv (pl : Int) = (jd : Int) := by rw [Int.tdiv_eq_ediv_of_nonneg (by omega), ← hjd]; simp
  have e2 : IntKind.i64.wrap (jd : Int) = (jd : Int) := IntWalk.i64_in _ ⟨by omega, by omega⟩
  have e3 : IntKind.i64.wrap (1 + (jd : Int)) = (wd : Int) := by rw [IntWalk.i64_in _ ⟨by omega, by omega⟩]; omega
  have e4 : (j : Int).tmod (pl : Int) = (jm : Int) := by rw [Int.tmod_eq_emod_of_nonneg (by omega), ← hjm]; simp
  have e5 : IntKind.i64.wrap (jm : Int) = (jm : Int) := IntWalk.i64_in _ ⟨by omega, by omega⟩
  have e6 : IntKind.i64.wrap ((jm : Int) * b) = (sh : Int) := by
    rw [show (jm : Int) * b = (sh : Int) by rw [← hsh]; simp, IntWalk.i64_in _ ⟨by omega, by omega⟩]
  have HW := Lib.hid hW1; have HB1 := Lib.hid hb1; have B4 := Lib.hid b4
  clear hW1 hb1 b4 hE hB hjd hjm hwd hsh l1 l2 l3 hb2 hp1 hp2 hj
  go_enter Try.func59, Try.ntmps59
  go_wp2
  rw [← HW.out]
  refine wp_region_calm_tail 10 (by kernel_rfl) (by kernel_rfl) ?_
  simp only [List.take_succ_cons, List.take_zero, List.drop_succ_cons, List.drop_zero]
  repeat (go_big_quiet_step (fail))
  refine wpQuiet_nil ?_
  intro w2 hb2
  have b2 : w2.heap[w.heap.size]? = _ := (hb2.block _ (heap_lt B4.out)).trans B4.out
  have r0 := heap_cell b2 0
  have r1 := heap_cell b2 1
  have z0 := heap_frozen b2 0
  have z1 := heap_frozen b2 1
  simp at r0 r1
  have HB2 := Lib.hid hb2; have B2 := Lib.hid b2
  clear hb2 b2 d0 d1
  go_wp2
  have s1 := heap_set_at B2.out 0 (.int .i64 (wd : Nat))
  simp at s1
  have s2 := heap_set_at s1 1 (.int .i64 (sh : Nat))
  simp at s2
  have q0 := heap_cell s2 0
  have q1 := heap_cell s2 1
  simp at q0 q1
  refine bodyPost_ret (v := .agg #[.int .i64 (wd : Nat), .int .i64 (sh : Nat)]) ?_ rfl ⟨rfl, ?_⟩
  · simp [results, Try.results59, go_sem, q0, q1]
  · exact ((HB1.out.trans (HB2.out.mono HB1.out.size)).setCell (Nat.le_refl _) _).setCell (Nat.le_refl _) _
variable {R : Nat → Prop} {w0 w : World} {p m : Nat} {bs bs1 bs2 : List Blk}
/-- What find answers of an item of a thing. -/
def foundV (wd sh b : Nat) : Value := .tuple #[.agg #[.int .i64 (wd : Nat), .int .i64 (sh : Nat)], .int .i64 (b : Nat), .int .i64 0]
set_option maxRecDepth 100000 in
set_option maxHeartbeats 2000000 in
theorem find_r (A : ArR R w0 w p m bs) (pack kind : Int) (bo : Bool) (hk hn : Int) (k i n : Nat) (hmay : mayI k i n = true) (q : Int) (hg : getF bs q 0 = (headN k i n, 0)) (h1 : -9223372036854775808 ≤ q) (h2 : q < 9223372036854775808)
    (b pl : Nat) (hbb : bitsI pack kind = (b : Int)) (hb1 : 1 ≤ b) (hb2 : b ≤ 64) (hpl : pl = if (k : Int) = 1 then 64 / b else 1) (j : Nat) (hj : j < n) :
    Calls Try.prog 41 #[.pointer (some ⟨p, 0, none⟩), .int .i64 q, storeV pack kind bo hk hn, .int .i64 (j : Nat)] w fun e w' => e = .returned (foundV (1 + j / pl) (j % pl * b) b) ∧ Below w.heap.size w w' := by
  obtain ⟨_, _, _, _, hn0, hn1⟩ := (mayI_iff _ _ _).1 hmay
  have hp1 : 1 ≤ pl := by
    rw [hpl]; split
    · exact (Nat.le_div_iff_mul_le (by omega)).2 (by omega)
    · omega
  have hp2 : pl ≤ 64 := by
    rw [hpl]; split
    · exact Nat.div_le_self _ _
    · omega
  obtain ⟨W1, hW1⟩ : ∃ W1, W1 = (w.alloc (.cells #[.int .i64 pack, .int .i64 kind, .bool bo, .int .i64 hk, .int .i64 hn] 47)).alloc (.cells #[.int .i64 0, .int .i64 0] 78) := ⟨_, rfl⟩
  have hb1' : Below w.heap.size w W1 := by rw [hW1]; exact ((Below.refl _ _).alloc (Nat.le_refl _) _).alloc (by simp) _
  have b6 := heap_alloc_keep (heap_alloc_at w (.cells #[.int .i64 pack, .int .i64 kind, .bool bo, .int .i64 hk, .int .i64 hn] 47) (b := w.heap.size) rfl) (.cells #[.int .i64 0, .int .i64 0] 78)
  have b8 := heap_alloc_at (w.alloc (.cells #[.int .i64 pack, .int .i64 kind, .bool bo, .int .i64 hk, .int .i64 hn] 47)) (.cells #[.int .i64 0, .int .i64 0] 78) (b := w.heap.size + 1) (by simp)
  rw [← hW1] at b6 b8
  have H1 := Lib.hid (head_r (A.stay hb1') k i n hmay q hg h1 h2)
  have HW := Lib.hid hW1; have HB1 := Lib.hid hb1'; have B6 := Lib.hid b6; have B8 := Lib.hid b8
  have HP := Lib.hid (And.intro hp1 (And.intro hp2 (And.intro hb1 (And.intro hb2 hpl))))
  have HJ := Lib.hid (show j ≤ 16777216 by omega)
  have HBB := Lib.hid hbb
  have t1 : ¬ (b : Int) = 0 := by omega
  have t1' : ¬ b = 0 := by omega
  have t2 : ¬ (j : Int) < 0 := by omega
  have t3 : ¬ n ≤ j := by omega
  have t4 : ¬ (n : Int) ≤ j := by omega
  have t5 : decide (n ≤ j) = false := decide_eq_false t3
  have t6 : decide ((j : Int) < 0) = false := decide_eq_false t2
  clear A hmay hg h1 h2 hW1 b6 b8 hp1 hp2 hb1 hb2 hpl hbb hn0 hn1
  go_enter Try.func41, Try.ntmps41
  go_wp2_with fail
  rw [← HW.out]
  refine H1.out.mono ?_
  rintro e w1 ⟨rfl, hbw⟩
  have b6 : w1.heap[w.heap.size]? = _ := (hbw.block _ (heap_lt B6.out)).trans B6.out
  have b8 : w1.heap[w.heap.size + 1]? = _ := (hbw.block _ (heap_lt B8.out)).trans B8.out
  have c0 := heap_cell b6 0
  have c1 := heap_cell b6 1
  have c2 := heap_cell b6 2
  have c3 := heap_cell b6 3
  have c4 := heap_cell b6 4
  simp at c0 c1 c2 c3 c4
  have B81 := Lib.hid b8
  have BW1 := Lib.hid (HB1.out.trans (hbw.mono HB1.out.size))
  have hal : Below w1.heap.size w1 (w1.alloc (.cells #[.int .i64 (k : Nat), .int .i64 (i : Nat), .int .i64 (n : Nat)] 50)) := (Below.refl _ _).alloc (Nat.le_refl _) _
  replace c0 := below_cell hal c0
  replace c1 := below_cell hal c1
  replace c2 := below_cell hal c2
  replace c3 := below_cell hal c3
  replace c4 := below_cell hal c4
  clear hbw b6 b8 hal
  go_wp2_with fail
  obtain ⟨t11, ht11⟩ : ∃ t11, w1.heap.size = t11 := ⟨_, rfl⟩
  obtain ⟨W2, hW2⟩ : ∃ W2, W2 = w1.alloc (.cells #[.int .i64 (k : Nat), .int .i64 (i : Nat), .int .i64 (n : Nat)] 50) := ⟨_, rfl⟩
  have hb2' : Below w1.heap.size w1 W2 := by rw [hW2]; exact (Below.refl _ _).alloc (Nat.le_refl _) _
  have b11 := heap_alloc_at w1 (.cells #[.int .i64 (k : Nat), .int .i64 (i : Nat), .int .i64 (n : Nat)] 50) (b := t11) ht11.symm
  rw [← hW2] at b11
  rw [← hW2, ht11]
  have hlt8 : w.heap.size + 1 < w1.heap.size := heap_lt B81.out
  have b8 : W2.heap[w.heap.size + 1]? = _ := (hb2'.block _ hlt8).trans B81.out
  have B82 := Lib.hid b8; have B11 := Lib.hid b11
  have BW2 := Lib.hid (BW1.out.trans (hb2'.mono BW1.out.size))
  clear b8 b11 hb2' hW2 c0 c1 c2 c3 c4 ht11 hlt8
  refine (bits_at pack kind bo hk hn W2).mono ?_
  rintro e w3 ⟨rfl, hb3⟩
  rw [HBB.out]
  have b8 : w3.heap[w.heap.size + 1]? = _ := (hb3.block _ (heap_lt B82.out)).trans B82.out
  have b11 : w3.heap[t11]? = _ := (hb3.block _ (heap_lt B11.out)).trans B11.out
  have d0 := heap_cell b11 0
  have d1 := heap_cell b11 1
  have d2 := heap_cell b11 2
  simp at d0 d1 d2
  have B83 := Lib.hid b8
  have BW3 := Lib.hid (BW2.out.trans (hb3.mono BW2.out.size))
  clear hb3 b8 b11
  go_wp2_with fail
  refine (places_at k i n b pl HP.out.2.2.1 HP.out.2.2.2.1 HP.out.2.2.2.2 w3).mono ?_
  rintro e w4 ⟨rfl, hE, hB, hb4⟩
  have b8 : w4.heap[w.heap.size + 1]? = _ := (hb4.block _ (heap_lt B83.out)).trans B83.out
  have HEB := Lib.hid (And.intro hE hB)
  have B84 := Lib.hid b8
  have BW4 := Lib.hid (BW3.out.trans (hb4.mono BW3.out.size))
  clear hb4 b8 hE hB d0 d1 d2
  go_wp2_with fail
  refine (places1_at j b pl HP.out.2.2.2.1 HP.out.1 HP.out.2.1 HJ.out _ _ w4 HEB.out.1 HEB.out.2).mono ?_
  rintro e w5 ⟨rfl, hb5⟩
  have b8 : w5.heap[w.heap.size + 1]? = _ := (hb5.block _ (heap_lt B84.out)).trans B84.out
  have r0 := heap_cell b8 0
  have r1 := heap_cell b8 1
  have z0 := heap_frozen b8 0
  have z1 := heap_frozen b8 1
  simp at r0 r1
  have B85 := Lib.hid b8
  have BW5 := Lib.hid (BW4.out.trans (hb5.mono BW4.out.size))
  obtain ⟨wd, hwd⟩ : ∃ wd, 1 + j / pl = wd := ⟨_, rfl⟩
  obtain ⟨sh, hsh⟩ : ∃ sh, j % pl * b = sh := ⟨_, rfl⟩
  rw [hwd, hsh]
  have HWS := Lib.hid (And.intro hwd hsh)
  clear hb5 b8 hwd hsh
  go_wp2
  have s1 := heap_set_at B85.out 0 (.int .i64 (wd : Nat))
  simp at s1
  have s2 := heap_set_at s1 1 (.int .i64 (sh : Nat))
  simp at s2
  have q0 := heap_cell s2 0
  have q1 := heap_cell s2 1
  simp at q0 q1
  refine bodyPost_ret (v := foundV wd sh b) ?_ rfl ⟨?_, ?_⟩
  · simp [results, foundV, Try.results41, go_sem, q0, q1]
  · rw [HWS.out.1, HWS.out.2]
  · exact (BW5.out.setCell (by simp) _).setCell (by simp) _
end Go.Proofs.Ytcjkmgjonnnapaa
