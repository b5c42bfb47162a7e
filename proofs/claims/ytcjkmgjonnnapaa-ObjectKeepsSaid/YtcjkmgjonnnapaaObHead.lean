/- package object: Make, Head. -/
import Derived.Test.YtcjkmgjonnnapaaObFns
import Derived.Test.YtcjkmgjonnnapaaArFrame
namespace Go.Proofs.Ytcjkmgjonnnapaa
open Go.RowKit

/-- A head's word. -/
def headN (k i n : Nat) : Nat := k * 4611686018427387904 + i * 4294967296 + n
theorem headN_or (k i n : Nat) (hi : i < 1073741824) (hn : n < 4294967296) : (k * 4611686018427387904 ||| i * 4294967296) ||| n = headN k i n := by
  have h1 : k * 4611686018427387904 ||| i * 4294967296 = k * 4611686018427387904 + i * 4294967296 := by
    have := Nat.two_pow_add_eq_or_of_lt (i := 62) (b := i * 4294967296) (by omega) k
    rw [show (2 : Nat) ^ 62 = 4611686018427387904 by decide, Nat.mul_comm] at this
    exact this.symm
  rw [h1]
  have := Nat.two_pow_add_eq_or_of_lt (i := 32) (b := n) (by omega) (k * 1073741824 + i)
  rw [show (2 : Nat) ^ 32 = 4294967296 by decide] at this
  rw [show k * 4611686018427387904 + i * 4294967296 = 4294967296 * (k * 1073741824 + i) by omega, ← this]
  unfold headN; omega
theorem and_id (y : Nat) (hy : y < 18446744073709551616) : bits .and .u64 (y : Int) 1073741823 = ((y % 1073741824 : Nat) : Int) := by
  have := bits_and64 y 1073741823 hy (by omega)
  rw [show ((1073741823 : Nat) : Int) = 1073741823 from rfl] at this
  rw [this, show (1073741823 : Nat) = 2 ^ 30 - 1 by decide, Nat.and_two_pow_sub_one_eq_mod]
variable {R : Nat → Prop} {w0 w : World} {p m : Nat} {bs bs1 bs2 : List Blk}
set_option maxHeartbeats 2000000 in
/-- Make, where there is room. -/
theorem make_r (A : ArR R w0 w p m bs) (hR : ∀ b, R b → b < w.heap.size) (pack kind : Int) (b : Bool) (hk hn : Int) (k i n : Nat) (hmay : mayI k i n = true) (nw : Nat) (hnw : wordsI pack kind k i n = (nw : Int)) (h1 : 1 ≤ nw) (h2 : nw ≤ 1048576) (x : Nat) (hx : x ≤ 1048576)
    (ht : takeF bs nw = (x, 0, bs1)) (hs : setF bs1 x 0 (headN k i n) = (0, bs2)) :
    Calls Try.prog 23 #[.pointer (some ⟨p, 0, none⟩), thingV k i n, storeV pack kind b hk hn] w fun e w' => e = .returned (.tuple #[.int .i64 (x : Nat), .int .i64 0]) ∧ ArR R w0 w' p m bs2 ∧ Kept R w w' := by
  obtain ⟨hk0, hk2, hi0, hi1, hn0, hn1⟩ := (mayI_iff _ _ _).1 hmay
  obtain ⟨W1, hW1⟩ : ∃ W1, W1 = (w.alloc (.cells #[.int .i64 (k : Nat), .int .i64 (i : Nat), .int .i64 (n : Nat)] 50)).alloc (.cells #[.int .i64 pack, .int .i64 kind, .bool b, .int .i64 hk, .int .i64 hn] 47) := ⟨_, rfl⟩
  have hb1 : Below w.heap.size w W1 := by rw [hW1]; exact ((Below.refl _ _).alloc (Nat.le_refl _) _).alloc (by simp) _
  have hsz : W1.heap.size = w.heap.size + 2 := by rw [hW1]; simp
  have A1 := A.grow hb1
  have hR1 := grow_lt hR hb1
  have K1 := Kept.of_below hR hb1
  have c0 := Ext.cells (w0 := W1) (p := ⟨w.heap.size, 0, none⟩) (v := .int .i64 (k : Nat)) (by rw [hW1]; simp)
  have c1 := Ext.cells (w0 := W1) (p := ⟨w.heap.size, 1, none⟩) (v := .int .i64 (i : Nat)) (by rw [hW1]; simp)
  have c2 := Ext.cells (w0 := W1) (p := ⟨w.heap.size, 2, none⟩) (v := .int .i64 (n : Nat)) (by rw [hW1]; simp)
  have hin : w.heap.size ≤ w.heap.size ∧ w.heap.size < W1.heap.size := by omega
  have HIN := Lib.hid hin
  have HA := Lib.hid A1; have HR := Lib.hid hR1; have HK := Lib.hid K1; have HW := Lib.hid hW1; have HC := Lib.hid (And.intro c0 (And.intro c1 c2))
  have HT := Lib.hid ht; have HS := Lib.hid hs; have HN := Lib.hid hnw
  have HNW := Lib.hid (show -9223372036854775808 ≤ (nw : Int) ∧ (nw : Int) < 9223372036854775808 by omega)
  have HXW := Lib.hid (show -9223372036854775808 ≤ (x : Int) ∧ (x : Int) < 9223372036854775808 by omega)
  have hnw0 : ¬ (nw : Int) = 0 := by omega
  have hnw1 : ¬ nw = 0 := by omega
  have e1 : IntKind.u64.wrap (k : Int) = (k : Int) := wrap_u64_in (by omega) (by omega)
  have e2 : IntKind.u64.wrap (i : Int) = (i : Int) := wrap_u64_in (by omega) (by omega)
  have e3 : IntKind.u64.wrap (n : Int) = (n : Int) := wrap_u64_in (by omega) (by omega)
  have e4 : IntKind.u64.wrap ((k : Int) * 4611686018427387904) = (k : Int) * 4611686018427387904 := wrap_u64_in (by omega) (by omega)
  have e5 : IntKind.u64.wrap ((i : Int) * 4294967296) = (i : Int) * 4294967296 := wrap_u64_in (by omega) (by omega)
  obtain ⟨ki, hki⟩ : ∃ ki, k * 4611686018427387904 ||| i * 4294967296 = ki := ⟨_, rfl⟩
  obtain ⟨hd, hhd⟩ : ∃ hd, headN k i n = hd := ⟨_, rfl⟩
  have hor := headN_or k i n (by omega) (by omega)
  rw [hki, hhd] at hor
  have hkil : ki < 18446744073709551616 := by
    rw [← hki]
    have := Nat.or_lt_two_pow (n := 64) (x := k * 4611686018427387904) (y := i * 4294967296) (by omega) (by omega)
    simpa using this
  have e6 : bits .or .u64 ((k : Int) * 4611686018427387904) ((i : Int) * 4294967296) = (ki : Int) := by
    have := bits_or64 (k * 4611686018427387904) (i * 4294967296) (by omega) (by omega)
    rw [hki] at this
    simpa using this
  have e7 : bits .or .u64 (ki : Int) (n : Int) = (hd : Int) := by
    have := bits_or64 ki n hkil (by omega)
    rw [hor] at this
    exact this
  have HHD := Lib.hid (show hd < 18446744073709551616 by rw [← hhd]; unfold headN; omega)
  rw [hhd] at hs
  have HS := Lib.hid hs
  have hmf : ∀ (fn : Fn) (first cap : Array Value) (w : World), (Instr.makeFunc fn first cap).run Try.prog w = .ok (.func fn first cap) w := fun _ _ _ _ => rfl
  clear A A1 hR hR1 K1 hW1 hb1 c0 c1 c2 ht hs hnw hmay hin hki hhd hor hkil hk0 hk2 hi0 hi1 hn0 hn1 h1 h2 hx
  go_enter Try.func23, Try.ntmps23
  go_wp2_with fail
  rw [← HW.out]
  refine (words_at pack kind b hk hn k i n W1).mono ?_
  rintro e w1 ⟨rfl, hb2⟩
  rw [HN.out]
  obtain ⟨c0, c1, c2⟩ := HC.out
  have HX1 := Lib.hid (show w1.cell? ⟨w.heap.size, 0, none⟩ = some (.int .i64 (k : Nat)) ∧ w1.cell? ⟨w.heap.size, 1, none⟩ = some (.int .i64 (i : Nat)) ∧ w1.cell? ⟨w.heap.size, 2, none⟩ = some (.int .i64 (n : Nat)) from ⟨c0 ⟨w1, hb2⟩, c1 ⟨w1, hb2⟩, c2 ⟨w1, hb2⟩⟩)
  have HA1 := Lib.hid (HA.out.stay hb2)
  have HK1 := Lib.hid (HK.out.trans ((Kept.of_below HR.out hb2).less (fun _ h => .inl h)))
  have HR1 := Lib.hid (fun b hb => Nat.lt_of_lt_of_le (HR.out b hb) hb2.size)
  clear c0 c1 c2 hb2
  go_wp2_with fail
  refine (Take_r HA1.out HR1.out HT.out x rfl HNW.out.1 HNW.out.2).mono ?_
  rintro e w2 ⟨rfl, A2, K2⟩
  have d0 := K2.cell HX1.out.1 (.inr HIN.out)
  have d1 := K2.cell HX1.out.2.1 (.inr HIN.out)
  have d2 := K2.cell HX1.out.2.2 (.inr HIN.out)
  have HA2 := Lib.hid A2
  have HK2 := Lib.hid (HK1.out.trans (K2.less (fun _ h => .inl h)))
  have HR2 := Lib.hid (fun b hb => Nat.lt_of_lt_of_le (HR1.out b hb) K2.size)
  clear A2 K2
  go_wp2_with fail
  refine (Set_r HA2.out HR2.out HS.out hd rfl HXW.out.1 HXW.out.2 HHD.out).mono ?_
  rintro e w3 ⟨rfl, A3, K3⟩
  have HA3 := Lib.hid (A3.less (fun _ h => .inl h))
  have HK3 := Lib.hid (HK2.out.trans (K3.less (fun _ h => .inl h)))
  clear A3 K3 d0 d1 d2
  go_wp2
  go_ret2
  exact ⟨rfl, HA3.out, HK3.out⟩
set_option maxHeartbeats 2000000 in
/-- Head, of a thing. -/
theorem head_r (A : ArR R w0 w p m bs) (k i n : Nat) (hmay : mayI k i n = true) (q : Int) (hg : getF bs q 0 = (headN k i n, 0)) (h1 : -9223372036854775808 ≤ q) (h2 : q < 9223372036854775808) :
    Calls Try.prog 25 #[.pointer (some ⟨p, 0, none⟩), .int .i64 q] w fun e w' => e = .returned (.tuple #[thingV k i n, .int .i64 0]) ∧ Below w.heap.size w w' := by
  obtain ⟨hk0, hk2, hi0, hi1, hn0, hn1⟩ := (mayI_iff _ _ _).1 hmay
  obtain ⟨W1, hW1⟩ : ∃ W1, W1 = w.alloc (.cells #[.int .i64 0, .int .i64 0, .int .i64 0] 50) := ⟨_, rfl⟩
  have hb1 : Below w.heap.size w W1 := by rw [hW1]; exact (Below.refl _ _).alloc (Nat.le_refl _) _
  obtain ⟨hd, hhd⟩ : ∃ hd, headN k i n = hd := ⟨_, rfl⟩
  rw [hhd] at hg
  unfold headN at hhd
  have f1 : (hd : Int) / 4611686018427387904 = (k : Int) := by omega
  have f1' : IntKind.i64.wrap (k : Int) = (k : Int) := IntWalk.i64_in _ ⟨by omega, by omega⟩
  have f2 : bits .and .u64 ((hd : Int) / 4294967296) 1073741823 = (i : Int) := by
    have := and_id (hd / 4294967296) (by omega)
    rw [show ((hd / 4294967296 : Nat) : Int) = (hd : Int) / 4294967296 by omega] at this
    rw [this]; omega
  have f2' : IntKind.i64.wrap (i : Int) = (i : Int) := IntWalk.i64_in _ ⟨by omega, by omega⟩
  have f3 : bits .and .u64 (hd : Int) 4294967295 = (n : Int) := by
    rw [and_low hd (by omega)]; omega
  have f3' : IntKind.i64.wrap (n : Int) = (n : Int) := IntWalk.i64_in _ ⟨by omega, by omega⟩
  have HA := Lib.hid A; have HG := Lib.hid hg; have HM := Lib.hid hmay; have HW := Lib.hid hW1; have HB1 := Lib.hid hb1; have HQ := Lib.hid (And.intro h1 h2)
  clear A hg hmay hW1 hb1 hhd hk0 hk2 hi0 hi1 hn0 hn1 h1 h2
  go_enter Try.func25, Try.ntmps25
  go_wp2_with fail
  rw [← HW.out]
  refine (Get_r (HA.out.stay HB1.out) HG.out hd rfl HQ.out.1 HQ.out.2).mono ?_
  rintro e w1 ⟨rfl, rfl⟩
  go_wp2_with fail
  obtain ⟨t8, ht8⟩ : ∃ t8, W1.heap.size = t8 := ⟨_, rfl⟩
  obtain ⟨W2, hW2⟩ : ∃ W2, W2 = W1.alloc (.cells #[.int .i64 (k : Nat), .int .i64 (i : Nat), .int .i64 (n : Nat)] 50) := ⟨_, rfl⟩
  have hb2 : Below W1.heap.size W1 W2 := by rw [hW2]; exact (Below.refl _ _).alloc (Nat.le_refl _) _
  rw [← hW2, ht8]
  have b8 := heap_alloc_at W1 (.cells #[.int .i64 (k : Nat), .int .i64 (i : Nat), .int .i64 (n : Nat)] 50) (b := t8) ht8.symm
  rw [← hW2] at b8
  have b4 := heap_alloc_at w (.cells #[.int .i64 0, .int .i64 0, .int .i64 0] 50) (b := w.heap.size) rfl
  rw [← HW.out] at b4
  have hlt4 := heap_lt b4
  have b4' : W2.heap[w.heap.size]? = _ := (hb2.block _ hlt4).trans b4
  have HB2 := Lib.hid hb2; have B8 := Lib.hid b8; have B4 := Lib.hid b4'
  have hne : ¬ w.heap.size = t8 := by omega
  clear hW2 hb2 b8 b4 b4' ht8 hlt4
  refine (may_at k i n W2).mono ?_
  rintro e w3 ⟨rfl, hb3⟩
  rw [HM.out]
  have b8 : w3.heap[t8]? = _ := (hb3.block _ (heap_lt B8.out)).trans B8.out
  have b4 : w3.heap[w.heap.size]? = _ := (hb3.block _ (heap_lt B4.out)).trans B4.out
  have d0 := heap_cell b8 0
  have d1 := heap_cell b8 1
  have d2 := heap_cell b8 2
  have r0 := heap_cell b4 0
  have r1 := heap_cell b4 1
  have r2 := heap_cell b4 2
  have z0 := heap_frozen b4 0
  have z1 := heap_frozen b4 1
  have z2 := heap_frozen b4 2
  simp at d0 d1 d2 r0 r1 r2
  have HB3 := Lib.hid hb3
  have B43 := Lib.hid b4
  clear hb3 b8 b4
  go_wp2
  have s1 := heap_set_at B43.out 0 (.int .i64 (k : Nat))
  simp at s1
  have s2 := heap_set_at s1 1 (.int .i64 (i : Nat))
  simp at s2
  have s3 := heap_set_at s2 2 (.int .i64 (n : Nat))
  simp at s3
  have q0 := heap_cell s3 0
  have q1 := heap_cell s3 1
  have q2 := heap_cell s3 2
  simp at q0 q1 q2
  refine bodyPost_ret (v := .tuple #[thingV k i n, .int .i64 0]) ?_ rfl ⟨rfl, ?_⟩
  · simp [results, Try.results25, go_sem, q0, q1, q2]
  · exact ((((HB1.out.trans (HB2.out.mono HB1.out.size)).trans (HB3.out.mono (Nat.le_trans HB1.out.size HB2.out.size))).setCell (Nat.le_refl _) _).setCell (Nat.le_refl _) _).setCell (Nat.le_refl _) _
end Go.Proofs.Ytcjkmgjonnnapaa
