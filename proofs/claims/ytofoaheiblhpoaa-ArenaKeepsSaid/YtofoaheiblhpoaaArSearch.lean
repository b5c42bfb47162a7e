/- math/bits.Len at small numbers; sort.Search with a closure that only reads; the number of the list for a size. -/
import Derived.Test.YtofoaheiblhpoaaArMem
import Derived.BigQuiet
import Derived.Shelf.Abstract
import Derived.Lib.Strings
import Derived.Lib.Slices
import Derived.Lib.Small
import Derived.Lib.Walk
import Derived.Lib.BitFns
namespace Go.Proofs.Ytofoaheiblhpoaa
open Go.RowKit

def blen (x : Nat) : Nat := if x = 0 then 0 else Nat.log2 x + 1
theorem blenAux (f : Nat) : ∀ x, x < 2 ^ f → Lib.bitLenAux f x = blen x := by
  induction f with
  | zero => intro x h; obtain rfl : x = 0 := by simpa using h
            rfl
  | succ f ih =>
    intro x h
    unfold Lib.bitLenAux blen
    split
    · rfl
    · rename_i h0
      rw [ih (x / 2) (by rw [Nat.pow_succ] at h; omega)]
      unfold blen
      rw [Nat.log2_def x]
      by_cases h2 : 2 ≤ x
      · rw [if_pos h2, if_neg (by omega)]; omega
      · rw [if_neg h2, if_pos (by omega)]
theorem blen_eq (x : Nat) (h : x < 16777216) : Lib.bitLen x = blen x := by
  unfold Lib.bitLen
  exact blenAux 64 x (Nat.lt_trans h (by decide))
set_option maxRecDepth 100000 in
theorem fold_tree : ({ data := (([0, 1, 2, 2, 3, 3, 3, 3, 4, 4, 4, 4, 4, 4, 4, 4, 5, 5, 5, 5, 5, 5, 5, 5, 5, 5, 5, 5, 5, 5, 5, 5, 6, 6, 6, 6, 6, 6, 6, 6, 6, 6, 6, 6, 6, 6, 6, 6, 6, 6, 6, 6, 6, 6, 6, 6, 6, 6, 6, 6, 6, 6, 6, 6].append [7, 7, 7, 7, 7, 7, 7, 7, 7, 7, 7, 7, 7, 7, 7, 7, 7, 7, 7, 7, 7, 7, 7, 7, 7, 7, 7, 7, 7, 7, 7, 7, 7, 7, 7, 7, 7, 7, 7, 7, 7, 7, 7, 7, 7, 7, 7, 7, 7, 7, 7, 7, 7, 7, 7, 7, 7, 7, 7, 7, 7, 7, 7, 7]).append ([8, 8, 8, 8, 8, 8, 8, 8, 8, 8, 8, 8, 8, 8, 8, 8, 8, 8, 8, 8, 8, 8, 8, 8, 8, 8, 8, 8, 8, 8, 8, 8, 8, 8, 8, 8, 8, 8, 8, 8, 8, 8, 8, 8, 8, 8, 8, 8, 8, 8, 8, 8, 8, 8, 8, 8, 8, 8, 8, 8, 8, 8, 8, 8].append [8, 8, 8, 8, 8, 8, 8, 8, 8, 8, 8, 8, 8, 8, 8, 8, 8, 8, 8, 8, 8, 8, 8, 8, 8, 8, 8, 8, 8, 8, 8, 8, 8, 8, 8, 8, 8, 8, 8, 8, 8, 8, 8, 8, 8, 8, 8, 8, 8, 8, 8, 8, 8, 8, 8, 8, 8, 8, 8, 8, 8, 8, 8, 8])).toArray } : ByteArray) = Lib.len8tab := by kernel_rfl
set_option maxHeartbeats 4000000 in
set_option maxRecDepth 100000 in
theorem len64_int (x : Int) (w : World) (h0 : 0 ≤ x) (h1 : x < 16777216) :
    Calls Try.prog 29 #[.int .u64 x] w fun e w' => e = .returned (.int .i64 (Lib.bitLen x.toNat)) ∧ w = w' := by
  have n1 : ¬ 4294967296 ≤ x := by omega
  go_enter Try.func29, Try.ntmps29
  rw [fold_tree]
  by_cases h2 : 65536 ≤ x
  · have n2 : ¬ 256 ≤ x / 65536 := by omega
    have hI : ∀ w, (Instr.index 9 (.string Lib.len8tab) (.int .u8 (x / 65536))).run Try.prog w = .ok (.int .u8 (Lib.len8 (x / 65536))) w := fun w => Lib.run_index_len8tab w _ _ _ Try.underlying9 (by omega) (by omega)
    rw [Lib.len8_of (x / 65536) (by omega) (by omega), show (x / 65536).toNat = x.toNat / 65536 by omega] at hI
    have l := Lib.bitLen_le8' (x / 65536) (by omega) (by omega)
    rw [show (x / 65536).toNat = x.toNat / 65536 by omega] at l
    have s := Lib.bitLen_shift16 x.toNat (by omega) (by omega)
    go_wp2
    go_ret
    refine ⟨congrArg Ending.returned (congrArg (Value.int IntKind.i64) ?_), rfl⟩
    try rw [s]
    simp only [IntKind.wrap_i64, wrap64]
    try omega
  by_cases h3 : 256 ≤ x
  · have n2 : ¬ 65536 ≤ x := by omega
    have hI : ∀ w, (Instr.index 9 (.string Lib.len8tab) (.int .u8 (x / 256))).run Try.prog w = .ok (.int .u8 (Lib.len8 (x / 256))) w := fun w => Lib.run_index_len8tab w _ _ _ Try.underlying9 (by omega) (by omega)
    rw [Lib.len8_of (x / 256) (by omega) (by omega), show (x / 256).toNat = x.toNat / 256 by omega] at hI
    have l := Lib.bitLen_le8' (x / 256) (by omega) (by omega)
    rw [show (x / 256).toNat = x.toNat / 256 by omega] at l
    have s := Lib.bitLen_shift8 x.toNat (by omega) (by omega)
    go_wp2
    go_ret
    refine ⟨congrArg Ending.returned (congrArg (Value.int IntKind.i64) ?_), rfl⟩
    try rw [s]
    simp only [IntKind.wrap_i64, wrap64]
    try omega
  · have n2 : ¬ 65536 ≤ x := by omega
    have hI : ∀ w, (Instr.index 9 (.string Lib.len8tab) (.int .u8 (x))).run Try.prog w = .ok (.int .u8 (Lib.len8 (x))) w := fun w => Lib.run_index_len8tab w _ _ _ Try.underlying9 (by omega) (by omega)
    rw [Lib.len8_of (x) (by omega) (by omega), show (x).toNat = x.toNat by omega] at hI
    have l := Lib.bitLen_le8' (x) (by omega) (by omega)
    rw [show (x).toNat = x.toNat by omega] at l
    go_wp2
    go_ret
    refine ⟨congrArg Ending.returned (congrArg (Value.int IntKind.i64) ?_), rfl⟩
    try rw [s]
    simp only [IntKind.wrap_i64, wrap64]
    try omega
theorem len64_at (x : Nat) (w : World) (h : x < 16777216) :
    Calls Try.prog 29 #[.int .u64 x] w fun e w' => e = .returned (.int .i64 (blen x)) ∧ w = w' := by
  rw [← blen_eq x h]
  have := len64_int x w (by omega) (by omega)
  simpa using this
theorem len_at (x : Nat) (w : World) (h : x < 16777216) :
    Calls Try.prog 15 #[.int .u64 x] w fun e w' => e = .returned (.int .i64 (blen x)) ∧ w = w' := by
  go_enter Try.func15, Try.ntmps15
  go_wp2_with fail
  refine (len64_at x _ h).mono ?_
  rintro e w' ⟨rfl, rfl⟩
  go_wp2
  go_ret
  exact ⟨rfl, rfl⟩
theorem list_at (x : Nat) (w : World) (h0 : 0 < x) (h : x < 16777216) :
    Calls Try.prog 35 #[.int .i64 x] w fun e w' => e = .returned (.int .i64 (Nat.log2 x)) ∧ w = w' := by
  have hb : blen x = Nat.log2 x + 1 := if_neg (by omega)
  have hl : Nat.log2 x < 24 := (Nat.log2_lt (by omega)).2 h
  obtain ⟨l, hl2⟩ : ∃ l, Nat.log2 x = l := ⟨_, rfl⟩
  rw [hl2] at hb hl ⊢
  clear hl2
  go_enter Try.func35, Try.ntmps35
  go_wp2_with fail
  refine (len_at x _ h).mono ?_
  rw [hb]
  rintro e w' ⟨rfl, rfl⟩
  go_wp2
  go_ret
  exact ⟨rfl, rfl⟩
set_option maxHeartbeats 2000000 in
theorem search_at (g : FuncId) (cb : Array Value) (n k : Nat) (w : World) (eg : ∀ args w, (callFunc g args).run Try.prog w = .ok (.enter g args) w) (hk : k ≤ n) (hn : n ≤ 1048576)
    (hf : ∀ (x : Ext w) (i : Nat), i < n → Calls Try.prog g (#[.int .i64 i] ++ cb) x.val fun e w' => e = .returned (.bool (decide (k ≤ i))) ∧ Below x.val.heap.size x.val w') :
    Calls Try.prog 33 #[.int .i64 n, .func (.func g) #[] cb] w fun e w' => e = .returned (.int .i64 k) ∧ Below w.heap.size w w' := by
  have HF := Lib.hid hf
  clear hf
  go_enter Try.func33, Try.ntmps33
  go_wp2
  go_loopw [5, 6] (fun s5 s6 wr => ∃ (lo hi : Nat) (x : Ext w), s5 = .int .i64 lo ∧ s6 = .int .i64 hi ∧ lo ≤ k ∧ k ≤ hi ∧ hi ≤ n ∧ wr = x.val) (fun s5 s6 _ => (intOf s6).toNat - (intOf s5).toNat)
  case atStart => exact ⟨0, n, ⟨w, Below.refl _ _⟩, rfl, rfl, Nat.zero_le _, hk, Nat.le_refl _, rfl⟩
  case round =>
    obtain ⟨lo, hi, x, rfl, rfl, h1, h2, h3, rfl⟩ := hrel
    by_cases hlt : lo < hi
    · have hc := HF.out x ((lo + hi) / 2) (by omega)
      rw [show (((lo + hi) / 2 : Nat) : Int) = ((lo : Int) + (hi : Int)) / 2 by omega] at hc
      by_cases hp : k ≤ (lo + hi) / 2
      · rw [decide_eq_true hp] at hc
        go_wp2_with (go_at_fn g; refine hc.mono ?_; rintro e w' ⟨rfl, hb⟩)
        have HB := Lib.hid (x.2.trans (hb.mono x.2.size))
        clear hb hc
        go_wp2
        go_roundw
        case rel => exact ⟨lo, (lo + hi) / 2, ⟨_, HB.out⟩, rfl, by rw [show ((lo : Int) + (hi : Int)) / 2 = (((lo + hi) / 2 : Nat) : Int) by omega], h1, hp, by omega, rfl⟩
        case measure => simp [intOf]; omega
      · rw [decide_eq_false hp] at hc
        go_wp2_with (go_at_fn g; refine hc.mono ?_; rintro e w' ⟨rfl, hb⟩)
        have HB := Lib.hid (x.2.trans (hb.mono x.2.size))
        clear hb hc
        go_wp2
        go_roundw
        case rel => exact ⟨(lo + hi) / 2 + 1, hi, ⟨_, HB.out⟩, by rw [show ((lo : Int) + (hi : Int)) / 2 + 1 = (((lo + hi) / 2 + 1 : Nat) : Int) by omega], rfl, by omega, h2, h3, rfl⟩
        case measure => simp [intOf]; omega
    · obtain rfl : hi = lo := by omega
      obtain rfl : k = hi := by omega
      go_wp2
      go_ret
      exact ⟨rfl, x.2⟩
end Go.Proofs.Ytofoaheiblhpoaa
