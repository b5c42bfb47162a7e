import Derived.Test.YtlcfkfijomnmnaaGreatDoorQHpLayBd
namespace Go.Proofs.YtlcfkfijomnmnaaGreatDoor
open Lib (hid)
section
open Go.RowKit
def bitsI (pack kind : Int) : Int := if pack = 8 then 8 else if pack = 16 then 16 else if pack = 0 then (if kind = 1 then 32 else if kind = 2 then 64 else if kind = 3 then 64 else 0) else 0
abbrev storeV (pack kind : Int) (b : Bool) (hk hn : Int) : Value := .agg #[.int .i64 pack, .int .i64 kind, .bool b, .int .i64 hk, .int .i64 hn]
abbrev thingV (k i n : Int) : Value := .agg #[.int .i64 k, .int .i64 i, .int .i64 n]
theorem bits_at (pack kind : Int) (b : Bool) (hk hn : Int) (w : World) :
    Calls Tryz.prog 86 #[storeV pack kind b hk hn] w fun e w' => e = .returned (.int .i64 (bitsI pack kind)) ∧ Below w.heap.size w w' := by
  unfold bitsI
  by_cases h1 : pack = 8
  · subst h1
    go_enter Tryz.func86, Tryz.ntmps86
    go_wp2
    go_ret
    exact ⟨rfl, (Below.refl _ _).alloc (Nat.le_refl _) _⟩
  by_cases h2 : pack = 16
  · subst h2
    go_enter Tryz.func86, Tryz.ntmps86
    go_wp2
    go_ret
    exact ⟨rfl, (Below.refl _ _).alloc (Nat.le_refl _) _⟩
  by_cases h3 : pack = 0
  · subst h3
    by_cases k1 : kind = 1
    · subst k1
      go_enter Tryz.func86, Tryz.ntmps86
      go_wp2
      go_ret
      exact ⟨rfl, (Below.refl _ _).alloc (Nat.le_refl _) _⟩
    by_cases k2 : kind = 2
    · subst k2
      go_enter Tryz.func86, Tryz.ntmps86
      go_wp2
      go_ret
      exact ⟨rfl, (Below.refl _ _).alloc (Nat.le_refl _) _⟩
    by_cases k3 : kind = 3
    · subst k3
      go_enter Tryz.func86, Tryz.ntmps86
      go_wp2
      go_ret
      exact ⟨rfl, (Below.refl _ _).alloc (Nat.le_refl _) _⟩
    rw [if_neg h1, if_neg h2, if_pos rfl, if_neg k1, if_neg k2, if_neg k3]
    go_enter Tryz.func86, Tryz.ntmps86
    go_wp2
    go_ret
    exact ⟨rfl, (Below.refl _ _).alloc (Nat.le_refl _) _⟩
  rw [if_neg h1, if_neg h2, if_neg h3]
  go_enter Tryz.func86, Tryz.ntmps86
  go_wp2
  go_ret
  exact ⟨rfl, (Below.refl _ _).alloc (Nat.le_refl _) _⟩
theorem mask_div : ∀ b, b < 65 → 18446744073709551615 / 2 ^ (64 - b) = 2 ^ b - 1 := by decide +kernel
theorem mask_at (b : Nat) (h1 : 1 ≤ b) (h2 : b ≤ 64) (w : World) :
    Calls Tryz.prog 56 #[.int .i64 (b : Nat)] w fun e w' => e = .returned (.int .u64 ((2 ^ b - 1 : Nat) : Int)) ∧ w = w' := by
  have hm := mask_div b (by omega)
  have hi : (18446744073709551615 : Int) / 2 ^ (64 - b) = ((2 ^ b - 1 : Nat) : Int) := by rw [← hm]; simp
  have HI := hid hi
  clear hm hi
  go_enter Tryz.func56, Tryz.ntmps56
  go_wp2
  go_ret
  refine ⟨?_, rfl⟩
  show Ending.returned (Value.int .u64 ((18446744073709551615 : Int) / 2 ^ (64 - b))) = _
  rw [HI.out]
def mayI (k i n : Int) : Bool := decide (0 ≤ k) && decide (k ≤ 2) && decide (0 ≤ i) && decide (i ≤ 1073741823) && decide (0 ≤ n) && decide (n ≤ 16777216)
theorem may_at (k i n : Int) (w : World) :
    Calls Tryz.prog 67 #[thingV k i n] w fun e w' => e = .returned (.bool (mayI k i n)) ∧ Below w.heap.size w w' := by
  go_enter Tryz.func67, Tryz.ntmps67
  go_wp2
  all_goals go_ret
  all_goals refine ⟨?_, (Below.refl _ _).alloc (Nat.le_refl _) _⟩
  all_goals first
    | (rw [show mayI k i n = true by unfold mayI; simp only [Bool.and_eq_true, decide_eq_true_eq]; omega]; rfl)
    | (rw [show mayI k i n = decide (n ≤ 16777216) by unfold mayI; rw [Bool.eq_iff_iff]; simp only [Bool.and_eq_true, decide_eq_true_eq]; omega]; rfl)
    | (rw [show mayI k i n = false by unfold mayI; rw [Bool.eq_false_iff]; simp only [ne_eq, Bool.and_eq_true, decide_eq_true_eq]; omega]; rfl)
theorem mayI_iff (k i n : Int) : mayI k i n = true ↔ 0 ≤ k ∧ k ≤ 2 ∧ 0 ≤ i ∧ i ≤ 1073741823 ∧ 0 ≤ n ∧ n ≤ 16777216 := by
  unfold mayI; simp only [Bool.and_eq_true, decide_eq_true_eq]; omega
theorem bits_cases (pack kind : Int) : bitsI pack kind = 0 ∨ ∃ b p : Nat, bitsI pack kind = (b : Int) ∧ 1 ≤ b ∧ b ≤ 64 ∧ 1 ≤ p ∧ p ≤ 8 ∧ p * b = 64 := by
  unfold bitsI
  split
  · exact .inr ⟨8, 8, rfl, by omega, by omega, by omega, by omega, rfl⟩
  split
  · exact .inr ⟨16, 4, rfl, by omega, by omega, by omega, by omega, rfl⟩
  split
  · split
    · exact .inr ⟨32, 2, rfl, by omega, by omega, by omega, by omega, rfl⟩
    split
    · exact .inr ⟨64, 1, rfl, by omega, by omega, by omega, by omega, rfl⟩
    split
    · exact .inr ⟨64, 1, rfl, by omega, by omega, by omega, by omega, rfl⟩
    · exact .inl rfl
  · exact .inl rfl
def wordsN (p k n : Nat) : Nat := if k = 1 then 1 + (n + p - 1) / p else 1 + n
def wordsI (pack kind k i n : Int) : Int := if mayI k i n = true then (if k = 1 then (if bitsI pack kind = 0 then 0 else (wordsN (64 / bitsI pack kind).toNat 1 n.toNat : Nat)) else 1 + n) else 0
set_option maxHeartbeats 1000000 in
theorem words_at (pack kind : Int) (b : Bool) (hk hn : Int) (k i n : Int) (w : World) :
    Calls Tryz.prog 48 #[thingV k i n, storeV pack kind b hk hn] w fun e w' => e = .returned (.int .i64 (wordsI pack kind k i n)) ∧ Below w.heap.size w w' := by
  obtain ⟨W1, hW1⟩ : ∃ W1, W1 = (w.alloc (.cells #[.int .i64 k, .int .i64 i, .int .i64 n] 54)).alloc (.cells #[.int .i64 pack, .int .i64 kind, .bool b, .int .i64 hk, .int .i64 hn] 37) := ⟨_, rfl⟩
  have hb1 : Below w.heap.size w W1 := by rw [hW1]; exact ((Below.refl _ _).alloc (Nat.le_refl _) _).alloc (by simp) _
  have c0 := Ext.cells (w0 := W1) (p := ⟨w.heap.size, 0, none⟩) (v := .int .i64 k) (by rw [hW1]; simp)
  have c2 := Ext.cells (w0 := W1) (p := ⟨w.heap.size, 2, none⟩) (v := .int .i64 n) (by rw [hW1]; simp)
  have s0 := Ext.cells (w0 := W1) (p := ⟨w.heap.size + 1, 0, none⟩) (v := .int .i64 pack) (by rw [hW1]; simp)
  have s1 := Ext.cells (w0 := W1) (p := ⟨w.heap.size + 1, 1, none⟩) (v := .int .i64 kind) (by rw [hW1]; simp)
  have s2 := Ext.cells (w0 := W1) (p := ⟨w.heap.size + 1, 2, none⟩) (v := .bool b) (by rw [hW1]; simp)
  have s3 := Ext.cells (w0 := W1) (p := ⟨w.heap.size + 1, 3, none⟩) (v := .int .i64 hk) (by rw [hW1]; simp)
  have s4 := Ext.cells (w0 := W1) (p := ⟨w.heap.size + 1, 4, none⟩) (v := .int .i64 hn) (by rw [hW1]; simp)
  have HB1 := hid hb1
  have HC := hid (And.intro c0 (And.intro c2 (And.intro s0 (And.intro s1 (And.intro s2 (And.intro s3 s4))))))
  clear hb1 c0 c2 s0 s1 s2 s3 s4
  have HW := hid hW1
  clear hW1
  go_enter Tryz.func48, Tryz.ntmps48
  go_wp2_with fail
  rw [← HW.out]
  refine (may_at k i n W1).mono ?_
  rintro e w1 ⟨rfl, hb2⟩
  obtain ⟨c0, c2, s0, s1, s2, s3, s4⟩ := HC.out
  have d0 := c0 ⟨w1, hb2⟩
  have d2 := c2 ⟨w1, hb2⟩
  have t0 := s0 ⟨w1, hb2⟩
  have t1 := s1 ⟨w1, hb2⟩
  have t2 := s2 ⟨w1, hb2⟩
  have t3 := s3 ⟨w1, hb2⟩
  have t4 := s4 ⟨w1, hb2⟩
  dsimp only at d0 d2 t0 t1 t2 t3 t4
  have HB2 := hid hb2
  clear c0 c2 s0 s1 s2 s3 s4 hb2
  cases hm : mayI k i n
  · have hr : wordsI pack kind k i n = 0 := by unfold wordsI; rw [hm, if_neg (by simp)]
    have HR := hid hr
    clear hm hr d0 d2 t0 t1 t2 t3 t4
    go_wp2
    go_ret
    exact ⟨by rw [HR.out]; rfl, HB1.out.trans (HB2.out.mono HB1.out.size)⟩
  have hmm := (mayI_iff _ _ _).1 hm
  obtain ⟨m, rfl⟩ : ∃ m : Nat, n = (m : Int) := ⟨n.toNat, by omega⟩
  have e1 : IntKind.i64.wrap (1 + (m : Int)) = 1 + (m : Int) := IntWalk.i64_in _ ⟨by omega, by omega⟩
  by_cases hk1 : k = 1
  · subst hk1
    have hr : wordsI pack kind 1 i (m : Int) = (if bitsI pack kind = 0 then (0 : Int) else ((wordsN (64 / bitsI pack kind).toNat 1 ((m : Int)).toNat : Nat) : Int)) := by unfold wordsI; rw [hm, if_pos rfl, if_pos rfl]
    clear e1 hm
    go_wp2_with fail
    refine (bits_at pack kind b hk hn w1).mono ?_
    rintro e w2 ⟨rfl, hb3⟩
    have d2' := below_cell hb3 d2
    have HB3 := hid hb3
    clear hb3 d0 d2 t0 t1 t2 t3 t4
    rcases bits_cases pack kind with h0 | ⟨bb, pp, hbb, hb1', hb64, hp1, hp8, hpb⟩
    · rw [h0, if_pos rfl] at hr
      rw [h0]
      have HR := hid hr
      clear hr
      go_wp2
      go_ret
      exact ⟨by rw [HR.out]; rfl, HB1.out.trans ((HB2.out.trans (HB3.out.mono HB2.out.size)).mono HB1.out.size)⟩
    · rw [hbb, if_neg (by omega)] at hr
      rw [hbb]
      have hne : ¬ (bb : Int) = 0 := by omega
      have hne2 : ¬ bb = 0 := by omega
      have ep : (64 : Int).tdiv (bb : Int) = (pp : Int) := by
        rw [Int.tdiv_eq_ediv_of_nonneg (by omega), show (64 : Int) = (pp : Int) * bb by rw [← Int.natCast_mul, hpb]; rfl]
        exact Int.mul_ediv_cancel _ hne
      have ep2 : (64 : Int) / (bb : Int) = (pp : Int) := by rw [← Int.tdiv_eq_ediv_of_nonneg (by omega)]; exact ep
      have epw : IntKind.i64.wrap (pp : Int) = (pp : Int) := IntWalk.i64_in _ ⟨by omega, by omega⟩
      have hpe : ¬ (pp : Int) = 0 := by omega
      have hpe2 : ¬ pp = 0 := by omega
      obtain ⟨s, hs⟩ : ∃ s, m + pp = s := ⟨_, rfl⟩
      obtain ⟨s', hs'⟩ : ∃ s', s - 1 = s' := ⟨_, rfl⟩
      obtain ⟨qq, hqq⟩ : ∃ qq, s' / pp = qq := ⟨_, rfl⟩
      have hql : qq ≤ s' := by rw [← hqq]; exact Nat.div_le_self _ _
      have f1 : IntKind.i64.wrap ((m : Int) + pp) = (s : Int) := by rw [IntWalk.i64_in _ ⟨by omega, by omega⟩]; omega
      have f2 : IntKind.i64.wrap ((s : Int) - 1) = (s' : Int) := by rw [IntWalk.i64_in _ ⟨by omega, by omega⟩]; omega
      have f3 : (s' : Int).tdiv (pp : Int) = (qq : Int) := by rw [Int.tdiv_eq_ediv_of_nonneg (by omega), ← hqq]; simp
      have f4 : IntKind.i64.wrap (qq : Int) = (qq : Int) := IntWalk.i64_in _ ⟨by omega, by omega⟩
      have f5 : IntKind.i64.wrap (1 + (qq : Int)) = 1 + (qq : Int) := IntWalk.i64_in _ ⟨by omega, by omega⟩
      have HE := hid (show ((wordsN ((64 : Int) / (bb : Int)).toNat 1 ((m : Int)).toNat : Nat) : Int) = 1 + (qq : Int) by
        rw [ep2]; unfold wordsN; rw [if_pos rfl]; simp only [Int.toNat_natCast]; rw [hs, hs', hqq]; omega)
      rw [HE.out] at hr
      have HR := hid hr
      clear ep2 hpb hs hs' hqq hql hmm hbb hb1' hb64 hp1 hp8 hr
      go_wp2
      go_ret
      exact ⟨by rw [HR.out]; rfl, HB1.out.trans ((HB2.out.trans (HB3.out.mono HB2.out.size)).mono HB1.out.size)⟩
  · have hr : wordsI pack kind k i (m : Int) = 1 + (m : Int) := by unfold wordsI; rw [hm, if_pos rfl, if_neg hk1]
    have HR := hid hr
    clear hmm hm hr
    go_wp2
    go_ret
    exact ⟨by rw [HR.out]; rfl, HB1.out.trans (HB2.out.mono HB1.out.size)⟩
end
section
open Go.RowKit
def headN (k i n : Nat) : Nat := k * 4611686018427387904 + i * 4294967296 + n
theorem headN_or (k i n : Nat) (hi : i < 1073741824) (hn : n < 4294967296) : (k * 4611686018427387904 ||| i * 4294967296) ||| n = headN k i n := by
  have h1 : k * 4611686018427387904 ||| i * 4294967296 = k * 4611686018427387904 + i * 4294967296 := by
    have := Nat.two_pow_add_eq_or_of_lt (i := 62) (b := i * 4294967296) (by omega) k
    rw [show (2 : Nat) ^ 62 = 4611686018427387904 by decide, Nat.mul_comm] at this
    exact this.symm
  rw [h1]
  have := Nat.two_pow_add_eq_or_of_lt (i := 32) (b := n) (by omega) (k * 1073741824 + i)
  rw [show (2 : Nat) ^ 32 = 4294967296 by decide] at this
  rw [show k * 4611686018427387904 + i * 4294967296 = 4294967296 * (k * 1073741824 + i) by omega, ← this]
  unfold headN; omega
theorem and_id (y : Nat) (hy : y < 18446744073709551616) : bits .and .u64 (y : Int) 1073741823 = ((y % 1073741824 : Nat) : Int) := by
  have := bits_and64 y 1073741823 hy (by omega)
  rw [show ((1073741823 : Nat) : Int) = 1073741823 from rfl] at this
  rw [this, show (1073741823 : Nat) = 2 ^ 30 - 1 by decide, Nat.and_two_pow_sub_one_eq_mod]
variable {R : Nat → Prop} {w0 w : World} {p m : Nat} {bs bs1 bs2 : List Blk}
set_option maxHeartbeats 2000000 in
theorem make_r (A : ArR R w0 w p m bs) (hR : ∀ b, R b → b < w.heap.size) (pack kind : Int) (b : Bool) (hk hn : Int) (k i n : Nat) (hmay : mayI k i n = true) (nw : Nat) (hnw : wordsI pack kind k i n = (nw : Int)) (h1 : 1 ≤ nw) (h2 : nw ≤ 1048576) (x : Nat) (hx : x ≤ 1048576)
    (ht : takeF bs nw = (x, 0, bs1)) (hs : setF bs1 x 0 (headN k i n) = (0, bs2)) :
    Calls Tryz.prog 24 #[.pointer (some ⟨p, 0, none⟩), thingV k i n, storeV pack kind b hk hn] w fun e w' => e = .returned (.tuple #[.int .i64 (x : Nat), .int .i64 0]) ∧ ArR R w0 w' p m bs2 ∧ Kept R w w' := by
  obtain ⟨hk0, hk2, hi0, hi1, hn0, hn1⟩ := (mayI_iff _ _ _).1 hmay
  obtain ⟨W1, hW1⟩ : ∃ W1, W1 = (w.alloc (.cells #[.int .i64 (k : Nat), .int .i64 (i : Nat), .int .i64 (n : Nat)] 54)).alloc (.cells #[.int .i64 pack, .int .i64 kind, .bool b, .int .i64 hk, .int .i64 hn] 37) := ⟨_, rfl⟩
  have hb1 : Below w.heap.size w W1 := by rw [hW1]; exact ((Below.refl _ _).alloc (Nat.le_refl _) _).alloc (by simp) _
  have hsz : W1.heap.size = w.heap.size + 2 := by rw [hW1]; simp
  have A1 := A.grow hb1
  have hR1 := grow_lt hR hb1
  have K1 := Kept.of_below hR hb1
  have c0 := Ext.cells (w0 := W1) (p := ⟨w.heap.size, 0, none⟩) (v := .int .i64 (k : Nat)) (by rw [hW1]; simp)
  have c1 := Ext.cells (w0 := W1) (p := ⟨w.heap.size, 1, none⟩) (v := .int .i64 (i : Nat)) (by rw [hW1]; simp)
  have c2 := Ext.cells (w0 := W1) (p := ⟨w.heap.size, 2, none⟩) (v := .int .i64 (n : Nat)) (by rw [hW1]; simp)
  have hin : w.heap.size ≤ w.heap.size ∧ w.heap.size < W1.heap.size := by omega
  have HIN := hid hin
  have HA := hid A1; have HR := hid hR1; have HK := hid K1; have HW := hid hW1; have HC := hid (And.intro c0 (And.intro c1 c2))
  have HT := hid ht; have HS := hid hs; have HN := hid hnw
  have HNW := hid (show -9223372036854775808 ≤ (nw : Int) ∧ (nw : Int) < 9223372036854775808 by omega)
  have HXW := hid (show -9223372036854775808 ≤ (x : Int) ∧ (x : Int) < 9223372036854775808 by omega)
  have hnw0 : ¬ (nw : Int) = 0 := by omega
  have hnw1 : ¬ nw = 0 := by omega
  have e1 : IntKind.u64.wrap (k : Int) = (k : Int) := wrap_u64_in (by omega) (by omega)
  have e2 : IntKind.u64.wrap (i : Int) = (i : Int) := wrap_u64_in (by omega) (by omega)
  have e3 : IntKind.u64.wrap (n : Int) = (n : Int) := wrap_u64_in (by omega) (by omega)
  have e4 : IntKind.u64.wrap ((k : Int) * 4611686018427387904) = (k : Int) * 4611686018427387904 := wrap_u64_in (by omega) (by omega)
  have e5 : IntKind.u64.wrap ((i : Int) * 4294967296) = (i : Int) * 4294967296 := wrap_u64_in (by omega) (by omega)
  obtain ⟨ki, hki⟩ : ∃ ki, k * 4611686018427387904 ||| i * 4294967296 = ki := ⟨_, rfl⟩
  obtain ⟨hd, hhd⟩ : ∃ hd, headN k i n = hd := ⟨_, rfl⟩
  have hor := headN_or k i n (by omega) (by omega)
  rw [hki, hhd] at hor
  have hkil : ki < 18446744073709551616 := by
    rw [← hki]
    have := Nat.or_lt_two_pow (n := 64) (x := k * 4611686018427387904) (y := i * 4294967296) (by omega) (by omega)
    simpa using this
  have e6 : bits .or .u64 ((k : Int) * 4611686018427387904) ((i : Int) * 4294967296) = (ki : Int) := by
    have := bits_or64 (k * 4611686018427387904) (i * 4294967296) (by omega) (by omega)
    rw [hki] at this
    simpa using this
  have e7 : bits .or .u64 (ki : Int) (n : Int) = (hd : Int) := by
    have := bits_or64 ki n hkil (by omega)
    rw [hor] at this
    exact this
  have HHD := hid (show hd < 18446744073709551616 by rw [← hhd]; unfold headN; omega)
  rw [hhd] at hs
  have HS := hid hs
  have hmf : ∀ (fn : Fn) (first cap : Array Value) (w : World), (Instr.makeFunc fn first cap).run Tryz.prog w = .ok (.func fn first cap) w := fun _ _ _ _ => rfl
  clear A A1 hR hR1 K1 hW1 hb1 c0 c1 c2 ht hs hnw hmay hin hki hhd hor hkil hk0 hk2 hi0 hi1 hn0 hn1 h1 h2 hx
  go_enter Tryz.func24, Tryz.ntmps24
  go_wp2_with fail
  rw [← HW.out]
  refine (words_at pack kind b hk hn k i n W1).mono ?_
  rintro e w1 ⟨rfl, hb2⟩
  rw [HN.out]
  obtain ⟨c0, c1, c2⟩ := HC.out
  have HX1 := hid (show w1.cell? ⟨w.heap.size, 0, none⟩ = some (.int .i64 (k : Nat)) ∧ w1.cell? ⟨w.heap.size, 1, none⟩ = some (.int .i64 (i : Nat)) ∧ w1.cell? ⟨w.heap.size, 2, none⟩ = some (.int .i64 (n : Nat)) from ⟨c0 ⟨w1, hb2⟩, c1 ⟨w1, hb2⟩, c2 ⟨w1, hb2⟩⟩)
  have HA1 := hid (HA.out.stay hb2)
  have HK1 := hid (HK.out.trans ((Kept.of_below HR.out hb2).less (fun _ h => .inl h)))
  have HR1 := hid (fun b hb => Nat.lt_of_lt_of_le (HR.out b hb) hb2.size)
  clear c0 c1 c2 hb2
  go_wp2_with fail
  refine (Take_r HA1.out HR1.out HT.out x rfl HNW.out.1 HNW.out.2).mono ?_
  rintro e w2 ⟨rfl, A2, K2⟩
  have d0 := K2.cell HX1.out.1 (.inr HIN.out)
  have d1 := K2.cell HX1.out.2.1 (.inr HIN.out)
  have d2 := K2.cell HX1.out.2.2 (.inr HIN.out)
  have HA2 := hid A2
  have HK2 := hid (HK1.out.trans (K2.less (fun _ h => .inl h)))
  have HR2 := hid (fun b hb => Nat.lt_of_lt_of_le (HR1.out b hb) K2.size)
  clear A2 K2
  go_wp2_with fail
  refine (Set_r HA2.out HR2.out HS.out hd rfl HXW.out.1 HXW.out.2 HHD.out).mono ?_
  rintro e w3 ⟨rfl, A3, K3⟩
  have HA3 := hid (A3.less (fun _ h => .inl h))
  have HK3 := hid (HK2.out.trans (K3.less (fun _ h => .inl h)))
  clear A3 K3 d0 d1 d2
  go_wp2
  go_ret2
  exact ⟨rfl, HA3.out, HK3.out⟩
set_option maxHeartbeats 2000000 in
theorem head_r (A : ArR R w0 w p m bs) (k i n : Nat) (hmay : mayI k i n = true) (q : Int) (hg : getF bs q 0 = (headN k i n, 0)) (h1 : -9223372036854775808 ≤ q) (h2 : q < 9223372036854775808) :
    Calls Tryz.prog 34 #[.pointer (some ⟨p, 0, none⟩), .int .i64 q] w fun e w' => e = .returned (.tuple #[thingV k i n, .int .i64 0]) ∧ Below w.heap.size w w' := by
  obtain ⟨hk0, hk2, hi0, hi1, hn0, hn1⟩ := (mayI_iff _ _ _).1 hmay
  obtain ⟨W1, hW1⟩ : ∃ W1, W1 = w.alloc (.cells #[.int .i64 0, .int .i64 0, .int .i64 0] 54) := ⟨_, rfl⟩
  have hb1 : Below w.heap.size w W1 := by rw [hW1]; exact (Below.refl _ _).alloc (Nat.le_refl _) _
  obtain ⟨hd, hhd⟩ : ∃ hd, headN k i n = hd := ⟨_, rfl⟩
  rw [hhd] at hg
  unfold headN at hhd
  have f1 : (hd : Int) / 4611686018427387904 = (k : Int) := by omega
  have f1' : IntKind.i64.wrap (k : Int) = (k : Int) := IntWalk.i64_in _ ⟨by omega, by omega⟩
  have f2 : bits .and .u64 ((hd : Int) / 4294967296) 1073741823 = (i : Int) := by
    have := and_id (hd / 4294967296) (by omega)
    rw [show ((hd / 4294967296 : Nat) : Int) = (hd : Int) / 4294967296 by omega] at this
    rw [this]; omega
  have f2' : IntKind.i64.wrap (i : Int) = (i : Int) := IntWalk.i64_in _ ⟨by omega, by omega⟩
  have f3 : bits .and .u64 (hd : Int) 4294967295 = (n : Int) := by
    rw [and_low hd (by omega)]; omega
  have f3' : IntKind.i64.wrap (n : Int) = (n : Int) := IntWalk.i64_in _ ⟨by omega, by omega⟩
  have HA := hid A; have HG := hid hg; have HM := hid hmay; have HW := hid hW1; have HB1 := hid hb1; have HQ := hid (And.intro h1 h2)
  clear A hg hmay hW1 hb1 hhd hk0 hk2 hi0 hi1 hn0 hn1 h1 h2
  go_enter Tryz.func34, Tryz.ntmps34
  go_wp2_with fail
  rw [← HW.out]
  refine (Get_r (HA.out.stay HB1.out) HG.out hd rfl HQ.out.1 HQ.out.2).mono ?_
  rintro e w1 ⟨rfl, rfl⟩
  go_wp2_with fail
  obtain ⟨t8, ht8⟩ : ∃ t8, W1.heap.size = t8 := ⟨_, rfl⟩
  obtain ⟨W2, hW2⟩ : ∃ W2, W2 = W1.alloc (.cells #[.int .i64 (k : Nat), .int .i64 (i : Nat), .int .i64 (n : Nat)] 54) := ⟨_, rfl⟩
  have hb2 : Below W1.heap.size W1 W2 := by rw [hW2]; exact (Below.refl _ _).alloc (Nat.le_refl _) _
  rw [← hW2, ht8]
  have b8 := heap_alloc_at W1 (.cells #[.int .i64 (k : Nat), .int .i64 (i : Nat), .int .i64 (n : Nat)] 54) (b := t8) ht8.symm
  rw [← hW2] at b8
  have b4 := heap_alloc_at w (.cells #[.int .i64 0, .int .i64 0, .int .i64 0] 54) (b := w.heap.size) rfl
  rw [← HW.out] at b4
  have hlt4 := heap_lt b4
  have b4' : W2.heap[w.heap.size]? = _ := (hb2.block _ hlt4).trans b4
  have HB2 := hid hb2; have B8 := hid b8; have B4 := hid b4'
  have hne : ¬ w.heap.size = t8 := by omega
  clear hW2 hb2 b8 b4 b4' ht8 hlt4
  refine (may_at k i n W2).mono ?_
  rintro e w3 ⟨rfl, hb3⟩
  rw [HM.out]
  have b8 : w3.heap[t8]? = _ := (hb3.block _ (heap_lt B8.out)).trans B8.out
  have b4 : w3.heap[w.heap.size]? = _ := (hb3.block _ (heap_lt B4.out)).trans B4.out
  have d0 := heap_cell b8 0
  have d1 := heap_cell b8 1
  have d2 := heap_cell b8 2
  have r0 := heap_cell b4 0
  have r1 := heap_cell b4 1
  have r2 := heap_cell b4 2
  have z0 := heap_frozen b4 0
  have z1 := heap_frozen b4 1
  have z2 := heap_frozen b4 2
  simp at d0 d1 d2 r0 r1 r2
  have HB3 := hid hb3
  have B43 := hid b4
  clear hb3 b8 b4
  go_wp2
  have s1 := heap_set_at B43.out 0 (.int .i64 (k : Nat))
  simp at s1
  have s2 := heap_set_at s1 1 (.int .i64 (i : Nat))
  simp at s2
  have s3 := heap_set_at s2 2 (.int .i64 (n : Nat))
  simp at s3
  have q0 := heap_cell s3 0
  have q1 := heap_cell s3 1
  have q2 := heap_cell s3 2
  simp at q0 q1 q2
  refine bodyPost_ret (v := .tuple #[thingV k i n, .int .i64 0]) ?_ rfl ⟨rfl, ?_⟩
  · simp [results, Tryz.results34, go_sem, q0, q1, q2]
  · exact ((((HB1.out.trans (HB2.out.mono HB1.out.size)).trans (HB3.out.mono (Nat.le_trans HB1.out.size HB2.out.size))).setCell (Nat.le_refl _) _).setCell (Nat.le_refl _) _).setCell (Nat.le_refl _) _
end
section
open Go.RowKit
theorem cell_of2 {w : World} {o1 o2 : Obj} {v : Value} : (((w.alloc o1).alloc o2).alloc (.cells #[v] 3)).cell? ⟨w.heap.size + 2, 0, none⟩ = some v := by
  have q := heap_cell (heap_alloc_at ((w.alloc o1).alloc o2) (.cells #[v] 3) (b := w.heap.size + 2) (by simp)) 0
  simpa using q
theorem cell_of1 {w : World} {o1 o3 : Obj} {v : Value} : (((w.alloc o1).alloc (.cells #[v] 3)).alloc o3).cell? ⟨w.heap.size + 1, 0, none⟩ = some v := by
  have q := heap_cell (heap_alloc_at (w.alloc o1) (.cells #[v] 3) (b := w.heap.size + 1) (by simp)) 0
  have hb : Below ((w.alloc o1).alloc (.cells #[v] 3)).heap.size ((w.alloc o1).alloc (.cells #[v] 3)) (((w.alloc o1).alloc (.cells #[v] 3)).alloc o3) := (Below.refl _ _).alloc (Nat.le_refl _) _
  exact below_cell hb (by simp at q ⊢)
theorem below3 {w : World} {o1 o2 o3 : Obj} : Below w.heap.size w (((w.alloc o1).alloc o2).alloc o3) :=
  (((Below.refl _ _).alloc (Nat.le_refl _) _).alloc (by simp) _).alloc (by simp; omega) _
theorem places_at (k i n : Int) (b pl : Nat) (hb1 : 1 ≤ b) (hb2 : b ≤ 64) (hpl : pl = if k = 1 then 64 / b else 1) (w : World) :
    Calls Tryz.prog 102 #[thingV k i n, .int .i64 (b : Nat)] w fun e w' => e = .returned (.func (.func 129) #[] #[.pointer (some ⟨w.heap.size + 2, 0, none⟩), .pointer (some ⟨w.heap.size + 1, 0, none⟩)]) ∧ w'.cell? ⟨w.heap.size + 2, 0, none⟩ = some (.int .i64 (pl : Nat)) ∧ w'.cell? ⟨w.heap.size + 1, 0, none⟩ = some (.int .i64 (b : Nat)) ∧ Below w.heap.size w w' := by
  have hbe : ¬ (b : Int) = 0 := by omega
  have hbe2 : ¬ b = 0 := by omega
  have hmf : ∀ (fn : Fn) (first cap : Array Value) (w : World), (Instr.makeFunc fn first cap).run Tryz.prog w = .ok (.func fn first cap) w := fun _ _ _ _ => rfl
  by_cases hk : k = 1
  · subst hk
    rw [if_pos rfl] at hpl
    have hple : pl ≤ 64 := by rw [hpl]; exact Nat.div_le_self _ _
    have e1 : (64 : Int).tdiv (b : Int) = (pl : Int) := by rw [Int.tdiv_eq_ediv_of_nonneg (by omega), hpl]; simp
    have e2 : IntKind.i64.wrap (pl : Int) = (pl : Int) := IntWalk.i64_in _ ⟨by omega, by omega⟩
    clear hpl hple hb1 hb2
    go_enter Tryz.func102, Tryz.ntmps102
    go_wp2
    go_ret
    exact ⟨rfl, cell_of2, cell_of1, below3⟩
  · rw [if_neg hk] at hpl
    subst hpl
    clear hb1 hb2 hbe hbe2
    go_enter Tryz.func102, Tryz.ntmps102
    go_wp2
    go_ret
    exact ⟨rfl, cell_of2, cell_of1, below3⟩
set_option maxHeartbeats 1000000 in
theorem places1_at (j b pl : Nat) (hb2 : b ≤ 64) (hp1 : 1 ≤ pl) (hp2 : pl ≤ 64) (hj : j ≤ 16777216) (E B : Nat) (w : World) (hE : w.cell? ⟨E, 0, none⟩ = some (.int .i64 (pl : Nat))) (hB : w.cell? ⟨B, 0, none⟩ = some (.int .i64 (b : Nat))) :
    Calls Tryz.prog 129 (#[.int .i64 (j : Nat)] ++ #[.pointer (some ⟨E, 0, none⟩), .pointer (some ⟨B, 0, none⟩)]) w fun e w' => e = .returned (.agg #[.int .i64 ((1 + j / pl : Nat) : Int), .int .i64 ((j % pl * b : Nat) : Int)]) ∧ Below w.heap.size w w' := by
  obtain ⟨W1, hW1⟩ : ∃ W1, W1 = w.alloc (.cells #[.int .i64 0, .int .i64 0] 130) := ⟨_, rfl⟩
  have hb1 : Below w.heap.size w W1 := by rw [hW1]; exact (Below.refl _ _).alloc (Nat.le_refl _) _
  have b4 := heap_alloc_at w (.cells #[.int .i64 0, .int .i64 0] 130) (b := w.heap.size) rfl
  rw [← hW1] at b4
  have d0 := Ext.cells (w0 := W1) (below_cell hb1 hE)
  have d1 := Ext.cells (w0 := W1) (below_cell hb1 hB)
  obtain ⟨jd, hjd⟩ : ∃ jd, j / pl = jd := ⟨_, rfl⟩
  obtain ⟨jm, hjm⟩ : ∃ jm, j % pl = jm := ⟨_, rfl⟩
  obtain ⟨wd, hwd⟩ : ∃ wd, 1 + jd = wd := ⟨_, rfl⟩
  obtain ⟨sh, hsh⟩ : ∃ sh, jm * b = sh := ⟨_, rfl⟩
  have l1 : jd ≤ j := by rw [← hjd]; exact Nat.div_le_self _ _
  have l2 : jm < pl := by rw [← hjm]; exact Nat.mod_lt _ (by omega)
  have l3 : sh ≤ 4096 := by rw [← hsh]; exact Nat.le_trans (Nat.mul_le_mul (by omega : jm ≤ 64) hb2) (by omega)
  rw [hjd, hjm, hwd, hsh]
  have hpe : ¬ (pl : Int) = 0 := by omega
  have hpe2 : ¬ pl = 0 := by omega
  have e1 : (j : Int).tdiv (pl : Int) = (jd : Int) := by rw [Int.tdiv_eq_ediv_of_nonneg (by omega), ← hjd]; simp
  have e2 : IntKind.i64.wrap (jd : Int) = (jd : Int) := IntWalk.i64_in _ ⟨by omega, by omega⟩
  have e3 : IntKind.i64.wrap (1 + (jd : Int)) = (wd : Int) := by rw [IntWalk.i64_in _ ⟨by omega, by omega⟩]; omega
  have e4 : (j : Int).tmod (pl : Int) = (jm : Int) := by rw [Int.tmod_eq_emod_of_nonneg (by omega), ← hjm]; simp
  have e5 : IntKind.i64.wrap (jm : Int) = (jm : Int) := IntWalk.i64_in _ ⟨by omega, by omega⟩
  have e6 : IntKind.i64.wrap ((jm : Int) * b) = (sh : Int) := by
    rw [show (jm : Int) * b = (sh : Int) by rw [← hsh]; simp, IntWalk.i64_in _ ⟨by omega, by omega⟩]
  have HW := hid hW1; have HB1 := hid hb1; have B4 := hid b4
  clear hW1 hb1 b4 hE hB hjd hjm hwd hsh l1 l2 l3 hb2 hp1 hp2 hj
  go_enter Tryz.func129, Tryz.ntmps129
  go_wp2
  rw [← HW.out]
  refine wp_region_calm_tail 10 (by kernel_rfl) (by kernel_rfl) ?_
  simp only [List.take_succ_cons, List.take_zero, List.drop_succ_cons, List.drop_zero]
  repeat (go_big_quiet_step (fail))
  refine wpQuiet_nil ?_
  intro w2 hb2
  have b2 : w2.heap[w.heap.size]? = _ := (hb2.block _ (heap_lt B4.out)).trans B4.out
  have r0 := heap_cell b2 0
  have r1 := heap_cell b2 1
  have z0 := heap_frozen b2 0
  have z1 := heap_frozen b2 1
  simp at r0 r1
  have HB2 := hid hb2; have B2 := hid b2
  clear hb2 b2 d0 d1
  go_wp2
  have s1 := heap_set_at B2.out 0 (.int .i64 (wd : Nat))
  simp at s1
  have s2 := heap_set_at s1 1 (.int .i64 (sh : Nat))
  simp at s2
  have q0 := heap_cell s2 0
  have q1 := heap_cell s2 1
  simp at q0 q1
  refine bodyPost_ret (v := .agg #[.int .i64 (wd : Nat), .int .i64 (sh : Nat)]) ?_ rfl ⟨rfl, ?_⟩
  · simp [results, Tryz.results129, go_sem, q0, q1]
  · exact ((HB1.out.trans (HB2.out.mono HB1.out.size)).setCell (Nat.le_refl _) _).setCell (Nat.le_refl _) _
variable {R : Nat → Prop} {w0 w : World} {p m : Nat} {bs bs1 bs2 : List Blk}
def foundV (wd sh b : Nat) : Value := .tuple #[.agg #[.int .i64 (wd : Nat), .int .i64 (sh : Nat)], .int .i64 (b : Nat), .int .i64 0]
set_option maxRecDepth 100000 in
set_option maxHeartbeats 2000000 in
theorem find_r (A : ArR R w0 w p m bs) (pack kind : Int) (bo : Bool) (hk hn : Int) (k i n : Nat) (hmay : mayI k i n = true) (q : Int) (hg : getF bs q 0 = (headN k i n, 0)) (h1 : -9223372036854775808 ≤ q) (h2 : q < 9223372036854775808)
    (b pl : Nat) (hbb : bitsI pack kind = (b : Int)) (hb1 : 1 ≤ b) (hb2 : b ≤ 64) (hpl : pl = if (k : Int) = 1 then 64 / b else 1) (j : Nat) (hj : j < n) :
    Calls Tryz.prog 55 #[.pointer (some ⟨p, 0, none⟩), .int .i64 q, storeV pack kind bo hk hn, .int .i64 (j : Nat)] w fun e w' => e = .returned (foundV (1 + j / pl) (j % pl * b) b) ∧ Below w.heap.size w w' := by
  obtain ⟨_, _, _, _, hn0, hn1⟩ := (mayI_iff _ _ _).1 hmay
  have hp1 : 1 ≤ pl := by
    rw [hpl]; split
    · exact (Nat.le_div_iff_mul_le (by omega)).2 (by omega)
    · omega
  have hp2 : pl ≤ 64 := by
    rw [hpl]; split
    · exact Nat.div_le_self _ _
    · omega
  obtain ⟨W1, hW1⟩ : ∃ W1, W1 = (w.alloc (.cells #[.int .i64 pack, .int .i64 kind, .bool bo, .int .i64 hk, .int .i64 hn] 37)).alloc (.cells #[.int .i64 0, .int .i64 0] 130) := ⟨_, rfl⟩
  have hb1' : Below w.heap.size w W1 := by rw [hW1]; exact ((Below.refl _ _).alloc (Nat.le_refl _) _).alloc (by simp) _
  have b6 := heap_alloc_keep (heap_alloc_at w (.cells #[.int .i64 pack, .int .i64 kind, .bool bo, .int .i64 hk, .int .i64 hn] 37) (b := w.heap.size) rfl) (.cells #[.int .i64 0, .int .i64 0] 130)
  have b8 := heap_alloc_at (w.alloc (.cells #[.int .i64 pack, .int .i64 kind, .bool bo, .int .i64 hk, .int .i64 hn] 37)) (.cells #[.int .i64 0, .int .i64 0] 130) (b := w.heap.size + 1) (by simp)
  rw [← hW1] at b6 b8
  have H1 := hid (head_r (A.stay hb1') k i n hmay q hg h1 h2)
  have HW := hid hW1; have HB1 := hid hb1'; have B6 := hid b6; have B8 := hid b8
  have HP := hid (And.intro hp1 (And.intro hp2 (And.intro hb1 (And.intro hb2 hpl))))
  have HJ := hid (show j ≤ 16777216 by omega)
  have HBB := hid hbb
  have t1 : ¬ (b : Int) = 0 := by omega
  have t1' : ¬ b = 0 := by omega
  have t2 : ¬ (j : Int) < 0 := by omega
  have t3 : ¬ n ≤ j := by omega
  have t4 : ¬ (n : Int) ≤ j := by omega
  have t5 : decide (n ≤ j) = false := decide_eq_false t3
  have t6 : decide ((j : Int) < 0) = false := decide_eq_false t2
  clear A hmay hg h1 h2 hW1 b6 b8 hp1 hp2 hb1 hb2 hpl hbb hn0 hn1
  go_enter Tryz.func55, Tryz.ntmps55
  go_wp2_with fail
  rw [← HW.out]
  refine H1.out.mono ?_
  rintro e w1 ⟨rfl, hbw⟩
  have b6 : w1.heap[w.heap.size]? = _ := (hbw.block _ (heap_lt B6.out)).trans B6.out
  have b8 : w1.heap[w.heap.size + 1]? = _ := (hbw.block _ (heap_lt B8.out)).trans B8.out
  have c0 := heap_cell b6 0
  have c1 := heap_cell b6 1
  have c2 := heap_cell b6 2
  have c3 := heap_cell b6 3
  have c4 := heap_cell b6 4
  simp at c0 c1 c2 c3 c4
  have B81 := hid b8
  have BW1 := hid (HB1.out.trans (hbw.mono HB1.out.size))
  have hal : Below w1.heap.size w1 (w1.alloc (.cells #[.int .i64 (k : Nat), .int .i64 (i : Nat), .int .i64 (n : Nat)] 54)) := (Below.refl _ _).alloc (Nat.le_refl _) _
  replace c0 := below_cell hal c0
  replace c1 := below_cell hal c1
  replace c2 := below_cell hal c2
  replace c3 := below_cell hal c3
  replace c4 := below_cell hal c4
  clear hbw b6 b8 hal
  go_wp2_with fail
  obtain ⟨t11, ht11⟩ : ∃ t11, w1.heap.size = t11 := ⟨_, rfl⟩
  obtain ⟨W2, hW2⟩ : ∃ W2, W2 = w1.alloc (.cells #[.int .i64 (k : Nat), .int .i64 (i : Nat), .int .i64 (n : Nat)] 54) := ⟨_, rfl⟩
  have hb2' : Below w1.heap.size w1 W2 := by rw [hW2]; exact (Below.refl _ _).alloc (Nat.le_refl _) _
  have b11 := heap_alloc_at w1 (.cells #[.int .i64 (k : Nat), .int .i64 (i : Nat), .int .i64 (n : Nat)] 54) (b := t11) ht11.symm
  rw [← hW2] at b11
  rw [← hW2, ht11]
  have hlt8 : w.heap.size + 1 < w1.heap.size := heap_lt B81.out
  have b8 : W2.heap[w.heap.size + 1]? = _ := (hb2'.block _ hlt8).trans B81.out
  have B82 := hid b8; have B11 := hid b11
  have BW2 := hid (BW1.out.trans (hb2'.mono BW1.out.size))
  clear b8 b11 hb2' hW2 c0 c1 c2 c3 c4 ht11 hlt8
  refine (bits_at pack kind bo hk hn W2).mono ?_
  rintro e w3 ⟨rfl, hb3⟩
  rw [HBB.out]
  have b8 : w3.heap[w.heap.size + 1]? = _ := (hb3.block _ (heap_lt B82.out)).trans B82.out
  have b11 : w3.heap[t11]? = _ := (hb3.block _ (heap_lt B11.out)).trans B11.out
  have d0 := heap_cell b11 0
  have d1 := heap_cell b11 1
  have d2 := heap_cell b11 2
  simp at d0 d1 d2
  have B83 := hid b8
  have BW3 := hid (BW2.out.trans (hb3.mono BW2.out.size))
  clear hb3 b8 b11
  go_wp2_with fail
  refine (places_at k i n b pl HP.out.2.2.1 HP.out.2.2.2.1 HP.out.2.2.2.2 w3).mono ?_
  rintro e w4 ⟨rfl, hE, hB, hb4⟩
  have b8 : w4.heap[w.heap.size + 1]? = _ := (hb4.block _ (heap_lt B83.out)).trans B83.out
  have HEB := hid (And.intro hE hB)
  have B84 := hid b8
  have BW4 := hid (BW3.out.trans (hb4.mono BW3.out.size))
  clear hb4 b8 hE hB d0 d1 d2
  go_wp2_with fail
  refine (places1_at j b pl HP.out.2.2.2.1 HP.out.1 HP.out.2.1 HJ.out _ _ w4 HEB.out.1 HEB.out.2).mono ?_
  rintro e w5 ⟨rfl, hb5⟩
  have b8 : w5.heap[w.heap.size + 1]? = _ := (hb5.block _ (heap_lt B84.out)).trans B84.out
  have r0 := heap_cell b8 0
  have r1 := heap_cell b8 1
  have z0 := heap_frozen b8 0
  have z1 := heap_frozen b8 1
  simp at r0 r1
  have B85 := hid b8
  have BW5 := hid (BW4.out.trans (hb5.mono BW4.out.size))
  obtain ⟨wd, hwd⟩ : ∃ wd, 1 + j / pl = wd := ⟨_, rfl⟩
  obtain ⟨sh, hsh⟩ : ∃ sh, j % pl * b = sh := ⟨_, rfl⟩
  rw [hwd, hsh]
  have HWS := hid (And.intro hwd hsh)
  clear hb5 b8 hwd hsh
  go_wp2
  have s1 := heap_set_at B85.out 0 (.int .i64 (wd : Nat))
  simp at s1
  have s2 := heap_set_at s1 1 (.int .i64 (sh : Nat))
  simp at s2
  have q0 := heap_cell s2 0
  have q1 := heap_cell s2 1
  simp at q0 q1
  refine bodyPost_ret (v := foundV wd sh b) ?_ rfl ⟨?_, ?_⟩
  · simp [results, foundV, Tryz.results55, go_sem, q0, q1]
  · rw [HWS.out.1, HWS.out.2]
  · exact (BW5.out.setCell (by simp) _).setCell (by simp) _
end
section
def itemOf (v sh b : Nat) : Nat := v / 2 ^ sh % 2 ^ b
def newW (v sh b x : Nat) : Nat := (v &&& (((2 ^ b - 1) * 2 ^ sh) ^^^ (2 ^ 64 - 1))) ||| (x * 2 ^ sh)
theorem newW_bit (v sh b x t : Nat) (hv : v < 2 ^ 64) (hsb : sh + b ≤ 64) (hx : x < 2 ^ b) : (newW v sh b x).testBit t = if sh ≤ t ∧ t < sh + b then x.testBit (t - sh) else v.testBit t := by
  unfold newW
  rw [Nat.testBit_or, Nat.testBit_and, Nat.testBit_xor, Nat.testBit_mul_two_pow, Nat.testBit_mul_two_pow, Nat.testBit_two_pow_sub_one, Nat.testBit_two_pow_sub_one]
  by_cases h1 : sh ≤ t
  · by_cases h2 : t < sh + b
    · rw [if_pos ⟨h1, h2⟩]
      have e1 : decide (sh ≤ t) = true := decide_eq_true h1
      have e2 : decide (t - sh < b) = true := decide_eq_true (by omega)
      have e3 : decide (t < 64) = true := decide_eq_true (by omega)
      rw [e1, e2, e3]; simp
    · rw [if_neg (fun h => h2 h.2)]
      have e1 : decide (sh ≤ t) = true := decide_eq_true h1
      have e2 : decide (t - sh < b) = false := decide_eq_false (by omega)
      have e4 : x.testBit (t - sh) = false := Nat.testBit_lt_two_pow (Nat.lt_of_lt_of_le hx (Nat.pow_le_pow_right (by decide) (by omega)))
      rw [e1, e2, e4]
      by_cases h3 : t < 64
      · simp [h3]
      · have : v.testBit t = false := Nat.testBit_lt_two_pow (Nat.lt_of_lt_of_le hv (Nat.pow_le_pow_right (by decide) (by omega)))
        simp [this]
  · rw [if_neg (fun h => h1 h.1)]
    have e1 : decide (sh ≤ t) = false := decide_eq_false h1
    have e3 : decide (t < 64) = true := decide_eq_true (by omega)
    rw [e1, e3]; simp
theorem newW_lt (v sh b x : Nat) (hv : v < 2 ^ 64) (hsb : sh + b ≤ 64) (hx : x < 2 ^ b) : newW v sh b x < 2 ^ 64 := by
  unfold newW
  refine Nat.or_lt_two_pow (Nat.lt_of_le_of_lt Nat.and_le_left hv) ?_
  have h1 : x * 2 ^ sh < 2 ^ b * 2 ^ sh := Nat.mul_lt_mul_of_pos_right hx (Nat.two_pow_pos _)
  rw [← Nat.pow_add] at h1
  exact Nat.lt_of_lt_of_le h1 (Nat.pow_le_pow_right (by decide) (by omega))
theorem andNot_eq (v M r : Nat) (hv : v < 2 ^ 64) (h : ∀ i, r.testBit i = (v.testBit i && !M.testBit i)) : r = v &&& (M ^^^ (2 ^ 64 - 1)) := by
  refine Nat.eq_of_testBit_eq fun t => ?_
  rw [h, Nat.testBit_and, Nat.testBit_xor, Nat.testBit_two_pow_sub_one]
  by_cases ht : t < 64
  · simp [ht]
  · have : v.testBit t = false := Nat.testBit_lt_two_pow (Nat.lt_of_lt_of_le hv (Nat.pow_le_pow_right (by decide) (by omega)))
    simp [this]
end
end Go.Proofs.YtlcfkfijomnmnaaGreatDoor
