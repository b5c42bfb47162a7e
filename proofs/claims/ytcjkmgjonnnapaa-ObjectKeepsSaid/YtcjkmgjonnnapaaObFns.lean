/- package object: Bits, may, Words, mask. -/
import Derived.Test.YtcjkmgjonnnapaaArKnown
namespace Go.Proofs.Ytcjkmgjonnnapaa
open Go.RowKit

/-- Of how many bits a store is. -/
def bitsI (pack kind : Int) : Int := if pack = 8 then 8 else if pack = 16 then 16 else if pack = 0 then (if kind = 1 then 32 else if kind = 2 then 64 else if kind = 3 then 64 else 0) else 0
/-- A store, as it is handed in. -/
abbrev storeV (pack kind : Int) (b : Bool) (hk hn : Int) : Value := .agg #[.int .i64 pack, .int .i64 kind, .bool b, .int .i64 hk, .int .i64 hn]
abbrev thingV (k i n : Int) : Value := .agg #[.int .i64 k, .int .i64 i, .int .i64 n]
theorem bits_at (pack kind : Int) (b : Bool) (hk hn : Int) (w : World) :
    Calls Try.prog 21 #[storeV pack kind b hk hn] w fun e w' => e = .returned (.int .i64 (bitsI pack kind)) ∧ Below w.heap.size w w' := by
  unfold bitsI
  by_cases h1 : pack = 8
  · subst h1
    go_enter Try.func21, Try.ntmps21
    go_wp2
    go_ret
    exact ⟨rfl, (Below.refl _ _).alloc (Nat.le_refl _) _⟩
  by_cases h2 : pack = 16
  · subst h2
    go_enter Try.func21, Try.ntmps21
    go_wp2
    go_ret
    exact ⟨rfl, (Below.refl _ _).alloc (Nat.le_refl _) _⟩
  by_cases h3 : pack = 0
  · subst h3
    by_cases k1 : kind = 1
    · subst k1
      go_enter Try.func21, Try.ntmps21
      go_wp2
      go_ret
      exact ⟨rfl, (Below.refl _ _).alloc (Nat.le_refl _) _⟩
    by_cases k2 : kind = 2
    · subst k2
      go_enter Try.func21, Try.ntmps21
      go_wp2
      go_ret
      exact ⟨rfl, (Below.refl _ _).alloc (Nat.le_refl _) _⟩
    by_cases k3 : kind = 3
    · subst k3
      go_enter Try.func21, Try.ntmps21
      go_wp2
      go_ret
      exact ⟨rfl, (Below.refl _ _).alloc (Nat.le_refl _) _⟩
    rw [if_neg h1, if_neg h2, if_pos rfl, if_neg k1, if_neg k2, if_neg k3]
    go_enter Try.func21, Try.ntmps21
    go_wp2
    go_ret
    exact ⟨rfl, (Below.refl _ _).alloc (Nat.le_refl _) _⟩
  rw [if_neg h1, if_neg h2, if_neg h3]
  go_enter Try.func21, Try.ntmps21
  go_wp2
  go_ret
  exact ⟨rfl, (Below.refl _ _).alloc (Nat.le_refl _) _⟩
theorem mask_div : ∀ b, b < 65 → 18446744073709551615 / 2 ^ (64 - b) = 2 ^ b - 1 := by decide +kernel
theorem mask_at (b : Nat) (h1 : 1 ≤ b) (h2 : b ≤ 64) (w : World) :
    Calls Try.prog 42 #[.int .i64 (b : Nat)] w fun e w' => e = .returned (.int .u64 ((2 ^ b - 1 : Nat) : Int)) ∧ w = w' := by
  have hm := mask_div b (by omega)
  have hi : (18446744073709551615 : Int) / 2 ^ (64 - b) = ((2 ^ b - 1 : Nat) : Int) := by rw [← hm]; simp
  have HI := Lib.hid hi
  clear hm hi
  go_enter Try.func42, Try.ntmps42
  go_wp2
  go_ret
  refine ⟨?_, rfl⟩
  show Ending.returned (Value.int .u64 ((18446744073709551615 : Int) / 2 ^ (64 - b))) = _
  rw [HI.out]
/-- May a head say this? -/
def mayI (k i n : Int) : Bool := decide (0 ≤ k) && decide (k ≤ 2) && decide (0 ≤ i) && decide (i ≤ 1073741823) && decide (0 ≤ n) && decide (n ≤ 16777216)
theorem may_at (k i n : Int) (w : World) :
    Calls Try.prog 40 #[thingV k i n] w fun e w' => e = .returned (.bool (mayI k i n)) ∧ Below w.heap.size w w' := by
  go_enter Try.func40, Try.ntmps40
  go_wp2
  all_goals go_ret
  all_goals refine ⟨?_, (Below.refl _ _).alloc (Nat.le_refl _) _⟩
  all_goals first
    | (rw [show mayI k i n = true by unfold mayI; simp only [Bool.and_eq_true, decide_eq_true_eq]; omega]; rfl)
    | (rw [show mayI k i n = decide (n ≤ 16777216) by unfold mayI; rw [Bool.eq_iff_iff]; simp only [Bool.and_eq_true, decide_eq_true_eq]; omega]; rfl)
    | (rw [show mayI k i n = false by unfold mayI; rw [Bool.eq_false_iff]; simp only [ne_eq, Bool.and_eq_true, decide_eq_true_eq]; omega]; rfl)
theorem mayI_iff (k i n : Int) : mayI k i n = true ↔ 0 ≤ k ∧ k ≤ 2 ∧ 0 ≤ i ∧ i ≤ 1073741823 ∧ 0 ≤ n ∧ n ≤ 16777216 := by
  unfold mayI; simp only [Bool.and_eq_true, decide_eq_true_eq]; omega
theorem bits_cases (pack kind : Int) : bitsI pack kind = 0 ∨ ∃ b p : Nat, bitsI pack kind = (b : Int) ∧ 1 ≤ b ∧ b ≤ 64 ∧ 1 ≤ p ∧ p ≤ 8 ∧ p * b = 64 := by
  unfold bitsI
  split
  · exact .inr ⟨8, 8, rfl, by omega, by omega, by omega, by omega, rfl⟩
  split
  · exact .inr ⟨16, 4, rfl, by omega, by omega, by omega, by omega, rfl⟩
  split
  · split
    · exact .inr ⟨32, 2, rfl, by omega, by omega, by omega, by omega, rfl⟩
    split
    · exact .inr ⟨64, 1, rfl, by omega, by omega, by omega, by omega, rfl⟩
    split
    · exact .inr ⟨64, 1, rfl, by omega, by omega, by omega, by omega, rfl⟩
    · exact .inl rfl
  · exact .inl rfl
/-- How many words a thing has; p items stand in one. -/
def wordsN (p k n : Nat) : Nat := if k = 1 then 1 + (n + p - 1) / p else 1 + n
def wordsI (pack kind k i n : Int) : Int := if mayI k i n = true then (if k = 1 then (if bitsI pack kind = 0 then 0 else (wordsN (64 / bitsI pack kind).toNat 1 n.toNat : Nat)) else 1 + n) else 0
set_option maxHeartbeats 1000000 in
theorem words_at (pack kind : Int) (b : Bool) (hk hn : Int) (k i n : Int) (w : World) :
    Calls Try.prog 22 #[thingV k i n, storeV pack kind b hk hn] w fun e w' => e = .returned (.int .i64 (wordsI pack kind k i n)) ∧ Below w.heap.size w w' := by
  obtain ⟨W1, hW1⟩ : ∃ W1, W1 = (w.alloc (.cells #[.int .i64 k, .int .i64 i, .int .i64 n] 50)).alloc (.cells #[.int .i64 pack, .int .i64 kind, .bool b, .int .i64 hk, .int .i64 hn] 47) := ⟨_, rfl⟩
  have hb1 : Below w.heap.size w W1 := by rw [hW1]; exact ((Below.refl _ _).alloc (Nat.le_refl _) _).alloc (by simp) _
  have c0 := Ext.cells (w0 := W1) (p := ⟨w.heap.size, 0, none⟩) (v := .int .i64 k) (by rw [hW1]; simp)
  have c2 := Ext.cells (w0 := W1) (p := ⟨w.heap.size, 2, none⟩) (v := .int .i64 n) (by rw [hW1]; simp)
  have s0 := Ext.cells (w0 := W1) (p := ⟨w.heap.size + 1, 0, none⟩) (v := .int .i64 pack) (by rw [hW1]; simp)
  have s1 := Ext.cells (w0 := W1) (p := ⟨w.heap.size + 1, 1, none⟩) (v := .int .i64 kind) (by rw [hW1]; simp)
  have s2 := Ext.cells (w0 := W1) (p := ⟨w.heap.size + 1, 2, none⟩) (v := .bool b) (by rw [hW1]; simp)
  have s3 := Ext.cells (w0 := W1) (p := ⟨w.heap.size + 1, 3, none⟩) (v := .int .i64 hk) (by rw [hW1]; simp)
  have s4 := Ext.cells (w0 := W1) (p := ⟨w.heap.size + 1, 4, none⟩) (v := .int .i64 hn) (by rw [hW1]; simp)
  have HB1 := Lib.hid hb1
  have HC := Lib.hid (And.intro c0 (And.intro c2 (And.intro s0 (And.intro s1 (And.intro s2 (And.intro s3 s4))))))
  clear hb1 c0 c2 s0 s1 s2 s3 s4
  have HW := Lib.hid hW1
  clear hW1
  go_enter Try.func22, Try.ntmps22
  go_wp2_with fail
  rw [← HW.out]
  refine (may_at k i n W1).mono ?_
  rintro e w1 ⟨rfl, hb2⟩
  obtain ⟨c0, c2, s0, s1, s2, s3, s4⟩ := HC.out
  have d0 := c0 ⟨w1, hb2⟩
  have d2 := c2 ⟨w1, hb2⟩
  have t0 := s0 ⟨w1, hb2⟩
  have t1 := s1 ⟨w1, hb2⟩
  have t2 := s2 ⟨w1, hb2⟩
  have t3 := s3 ⟨w1, hb2⟩
  have t4 := s4 ⟨w1, hb2⟩
  dsimp only at d0 d2 t0 t1 t2 t3 t4
  have HB2 := Lib.hid hb2
  clear c0 c2 s0 s1 s2 s3 s4 hb2
  cases hm : mayI k i n
  · have hr : wordsI pack kind k i n = 0 := by unfold wordsI; rw [hm, if_neg (by simp)]
    have HR := Lib.hid hr
    clear hm hr d0 d2 t0 t1 t2 t3 t4
    go_wp2
    go_ret
    exact ⟨by rw [HR.out]; rfl, HB1.out.trans (HB2.out.mono HB1.out.size)⟩
  have hmm := (mayI_iff _ _ _).1 hm
  obtain ⟨m, rfl⟩ : ∃ m : Nat, n = (m : Int) := ⟨n.toNat, by omega⟩
  have e1 : IntKind.i64.wrap (1 + (m : Int)) = 1 + (m : Int) := IntWalk.i64_in _ ⟨by omega, by omega⟩
  by_cases hk1 : k = 1
  · subst hk1
    have hr : wordsI pack kind 1 i (m : Int) = (if bitsI pack kind = 0 then (0 : Int) else ((wordsN (64 / bitsI pack kind).toNat 1 ((m : Int)).toNat : Nat) : Int)) := by unfold wordsI; rw [hm, if_pos rfl, if_pos rfl]
    clear e1 hm
    go_wp2_with fail
    refine (bits_at pack kind b hk hn w1).mono ?_
    rintro e w2 ⟨rfl, hb3⟩
    have d2' := below_cell hb3 d2
    have HB3 := Lib.hid hb3
    clear hb3 d0 d2 t0 t1 t2 t3 t4
    rcases bits_cases pack kind with h0 | ⟨bb, pp, hbb, hb1', hb64, hp1, hp8, hpb⟩
    · rw [h0, if_pos rfl] at hr
      rw [h0]
      have HR := Lib.hid hr
      clear hr
      go_wp2
      go_ret
      exact ⟨by rw [HR.out]; rfl, HB1.out.trans ((HB2.out.trans (HB3.out.mono HB2.out.size)).mono HB1.out.size)⟩
    · rw [hbb, if_neg (by omega)] at hr
      rw [hbb]
      have hne : ¬ (bb : Int) = 0 := by omega
      have hne2 : ¬ bb = 0 := by omega
      have ep : (64 : Int).tdiv (bb : Int) = (pp : Int) := by
        rw [Int.tdiv_eq_ediv_of_nonneg (by omega), show (64 : Int) = (pp : Int) * bb by rw [← Int.natCast_mul, hpb]; rfl]
        exact Int.mul_ediv_cancel _ hne
      have ep2 : (64 : Int) / (bb : Int) = (pp : Int) := by rw [← Int.tdiv_eq_ediv_of_nonneg (by omega)]; exact ep
      have epw : IntKind.i64.wrap (pp : Int) = (pp : Int) := IntWalk.i64_in _ ⟨by omega, by omega⟩
      have hpe : ¬ (pp : Int) = 0 := by omega
      have hpe2 : ¬ pp = 0 := by omega
      obtain ⟨s, hs⟩ : ∃ s, m + pp = s := ⟨_, rfl⟩
      obtain ⟨s', hs'⟩ : ∃ s', s - 1 = s' := ⟨_, rfl⟩
      obtain ⟨qq, hqq⟩ : ∃ qq, s' / pp = qq := ⟨_, rfl⟩
      have hql : qq ≤ s' := by rw [← hqq]; exact Nat.div_le_self _ _
      have f1 : IntKind.i64.wrap ((m : Int) + pp) = (s : Int) := by rw [IntWalk.i64_in _ ⟨by omega, by omega⟩]; omega
      have f2 : IntKind.i64.wrap ((s : Int) - 1) = (s' : Int) := by rw [IntWalk.i64_in _ ⟨by omega, by omega⟩]; omega
      have f3 : (s' : Int).tdiv (pp : Int) = (qq : Int) := by rw [Int.tdiv_eq_ediv_of_nonneg (by omega), ← hqq]; simp
      have f4 : IntKind.i64.wrap (qq : Int) = (qq : Int) := IntWalk.i64_in _ ⟨by omega, by omega⟩
      have f5 : IntKind.i64.wrap (1 + (qq : Int)) = 1 + (qq : Int) := IntWalk.i64_in _ ⟨by omega, by omega⟩
      have HE := Lib.hid (show ((wordsN ((64 : Int) / (bb : Int)).toNat 1 ((m : Int)).toNat : Nat) : Int) = 1 + (qq : Int) by
        rw [ep2]; unfold wordsN; rw [if_pos rfl]; simp only [Int.toNat_natCast]; rw [hs, hs', hqq]; omega)
      rw [HE.out] at hr
      have HR := Lib.hid hr
      clear ep2 hpb hs hs' hqq hql hmm hbb hb1' hb64 hp1 hp8 hr
      go_wp2
      go_ret
      exact ⟨by rw [HR.out]; rfl, HB1.out.trans ((HB2.out.trans (HB3.out.mono HB2.out.size)).mono HB1.out.size)⟩
  · have hr : wordsI pack kind k i (m : Int) = 1 + (m : Int) := by unfold wordsI; rw [hm, if_pos rfl, if_neg hk1]
    have HR := Lib.hid hr
    clear hmm hm hr
    go_wp2
    go_ret
    exact ⟨by rw [HR.out]; rfl, HB1.out.trans (HB2.out.mono HB1.out.size)⟩
end Go.Proofs.Ytcjkmgjonnnapaa
