/- package arena: rows of bits. -/
import Derived.Test.YtofoaheiblhpoaaArMem
import Derived.BigQuiet
namespace Go.Proofs.Ytofoaheiblhpoaa
open Go.RowKit

/-- A row of bits: f tells which are 1. -/
structure BRow (w : World) (g n cap : Nat) (f : Nat → Bool) (bs : List Nat) : Prop where
  row : w.ownsRow 0 30 1 (.slice (some ⟨g, 0, none⟩) n cap) n (u64s bs)
  w64 : ∀ k, bs.getD k 0 < 18446744073709551616
  bit : ∀ i, i < 64 * n → (bs.getD (i / 64) 0).testBit (i % 64) = f i
theorem BRow.len {w : World} {g n cap : Nat} {f : Nat → Bool} {bs : List Nat} (k : BRow w g n cap f bs) : bs.length = n := by
  have a := k.row.1
  rw [u64s_len] at a; omega
theorem bhas_at (w : World) (g n cap : Nat) (f : Nat → Bool) (bs : List Nat) (k : BRow w g n cap f bs) (i : Nat) (hi : i < 64 * n) (hn : n ≤ 1048576) :
    Calls Try.prog 27 #[.slice (some ⟨g, 0, none⟩) n cap, .int .i64 i] w fun e w' => e = .returned (.bool (f i)) ∧ w = w' := by
  obtain ⟨y, hy⟩ : ∃ y, bs.getD (i / 64) 0 = y := ⟨_, rfl⟩
  have c0 := k.row.cellAt (i / 64) (by omega)
  rw [u64s_at (by rw [k.len]; omega), hy] at c0
  have h64 := k.w64 (i / 64)
  have hb := k.bit i hi
  rw [hy] at h64 hb
  obtain ⟨b, hfb⟩ : ∃ b, f i = b := ⟨_, rfl⟩
  rw [hfb] at hb ⊢
  have HB := Lib.hid hb
  clear hb hy k hfb
  go_enter Try.func27, Try.ntmps27
  go_wp2
  go_ret
  refine ⟨?_, rfl⟩
  have e : (y : Int) / 2 ^ (i % 64) = ((y / 2 ^ (i % 64) : Nat) : Int) := by
    rw [Int.natCast_ediv]; simp
  rw [e, and_one _ (Nat.lt_of_le_of_lt (Nat.div_le_self _ _) h64)]
  have h := HB.out
  rw [Nat.testBit_eq_decide_div_mod_eq] at h
  rw [← h]
  show Ending.returned (Value.bool (((y / 2 ^ (i % 64) % 2 : Nat) : Int) == 1)) = _
  congr 2
  rw [Bool.eq_iff_iff]
  simp
  omega
def turned (f : Nat → Bool) (i : Nat) (b : Bool) : Nat → Bool := fun j => if j = i then b else f j
theorem BRow.turn {w w' : World} {g n cap : Nat} {f : Nat → Bool} {bs : List Nat} (k : BRow w g n cap f bs) (i r : Nat) (b : Bool) (hi : i < 64 * n) (hr : r < 18446744073709551616)
    (hb : ∀ j, j < 64 → r.testBit j = if j = i % 64 then b else (bs.getD (i / 64) 0).testBit j)
    (row : w'.ownsRow 0 30 1 (.slice (some ⟨g, 0, none⟩) n cap) n ((u64s bs).set (i / 64) (.int .u64 (r : Int)))) : BRow w' g n cap (turned f i b) (bs.set (i / 64) r) := by
  have hl := k.len
  refine ⟨by rw [u64s_set]; exact row, fun j => ?_, fun j hj => ?_⟩
  · rw [getD_set _ _ _ _ (by omega)]
    split
    · exact hr
    · exact k.w64 j
  · rw [getD_set _ _ _ _ (by omega)]
    unfold turned
    split
    · rename_i e
      rw [hb _ (Nat.mod_lt _ (by decide)), ← k.bit j hj, e]
      by_cases e2 : j % 64 = i % 64
      · rw [if_pos e2, if_pos (by omega)]
      · rw [if_neg e2, if_neg (fun q => e2 (by rw [q]))]
    · rename_i e
      rw [if_neg (fun q => e (by rw [q]))]
      exact k.bit j hj
theorem below_cell {w w' : World} (h : Below w.heap.size w w') {p : Addr} {v : Value} (hc : w.cell? p = some v) : w'.cell? p = some v := by
  rw [h.cell (World.block_lt_of_cell? _ _ hc)]; exact hc
theorem pow_wrap (j : Nat) (hj : j < 64) : IntKind.u64.wrap ((2 : Int) ^ j) = ((2 ^ j : Nat) : Int) ∧ 2 ^ j < 18446744073709551616 := by
  have h : 2 ^ j < 2 ^ 64 := Nat.pow_lt_pow_right (by decide) hj
  have h2 : (2 : Int) ^ j = ((2 ^ j : Nat) : Int) := by simp
  refine ⟨?_, by simpa using h⟩
  rw [h2]
  exact wrap_u64_in (Int.natCast_nonneg _) (by have : 2 ^ j < 18446744073709551616 := by simpa using h
                                               omega)
theorem bset_at (w : World) (g n cap : Nat) (f : Nat → Bool) (bs : List Nat) (k : BRow w g n cap f bs) (i : Nat) (hi : i < 64 * n) (hn : n ≤ 1048576) :
    Calls Try.prog 23 #[.slice (some ⟨g, 0, none⟩) n cap, .int .i64 i] w fun e w' => e = .returned (.tuple #[]) ∧ (∃ bs', BRow w' g n cap (turned f i true) bs') ∧ Upd (fun b => b = g) w w' := by
  obtain ⟨y, hy⟩ : ∃ y, bs.getD (i / 64) 0 = y := ⟨_, rfl⟩
  have c0 := k.row.cellAt (i / 64) (by omega)
  rw [u64s_at (by rw [k.len]; omega), hy] at c0
  have h64 := k.w64 (i / 64)
  rw [hy] at h64
  have d0 := Ext.cells (w0 := w) c0
  have HY := Lib.hid hy; have K := Lib.hid k; have C0 := Lib.hid c0
  clear hy k c0
  go_enter Try.func23, Try.ntmps23
  refine wp_region_calm_tail 10 (by kernel_rfl) (by kernel_rfl) ?_
  simp only [List.take_succ_cons, List.take_zero, List.drop_succ_cons, List.drop_zero]
  repeat (go_big_quiet_step (fail))
  refine wpQuiet_nil ?_
  rintro w1 hb1
  have r1 := ownsRow_upd (S := fun _ => False) K.out.row (Upd.of_below hb1) (fun _ _ h => h)
  have f1 := r1.frozenAt (i / 64)
  have c1 := below_cell hb1 C0.out
  have R1 := Lib.hid r1; have HB1 := Lib.hid hb1
  clear d0 r1 hb1
  go_wp2
  have hp := pow_wrap (i % 64) (Nat.mod_lt _ (by decide))
  rw [hp.1, bits_or64 y _ h64 hp.2]
  refine bodyPost_end (v := .tuple #[]) (results_none rfl _ _ _) rfl ⟨rfl, ⟨_, K.out.turn i (y ||| 2 ^ (i % 64)) true hi (by have := Nat.or_lt_two_pow (n := 64) (by simpa using h64) (by simpa using hp.2) (x := y) (y := 2 ^ (i % 64)); simpa using this) (fun j hj => ?_) (R1.out.stored _ _).1⟩, (Upd.of_below HB1.out).trans' (upd_set _ _ _ _)⟩
  rw [Nat.testBit_or, Nat.testBit_two_pow, HY.out]
  by_cases e : i % 64 = j
  · rw [if_pos e.symm]; simp [e]
  · rw [if_neg (fun q => e q.symm)]; simp [e]
theorem bunset_at (w : World) (g n cap : Nat) (f : Nat → Bool) (bs : List Nat) (k : BRow w g n cap f bs) (i : Nat) (hi : i < 64 * n) (hn : n ≤ 1048576) :
    Calls Try.prog 26 #[.slice (some ⟨g, 0, none⟩) n cap, .int .i64 i] w fun e w' => e = .returned (.tuple #[]) ∧ (∃ bs', BRow w' g n cap (turned f i false) bs') ∧ Upd (fun b => b = g) w w' := by
  obtain ⟨y, hy⟩ : ∃ y, bs.getD (i / 64) 0 = y := ⟨_, rfl⟩
  have c0 := k.row.cellAt (i / 64) (by omega)
  rw [u64s_at (by rw [k.len]; omega), hy] at c0
  have h64 := k.w64 (i / 64)
  rw [hy] at h64
  have d0 := Ext.cells (w0 := w) c0
  have HY := Lib.hid hy; have K := Lib.hid k; have C0 := Lib.hid c0
  clear hy k c0
  go_enter Try.func26, Try.ntmps26
  refine wp_region_calm_tail 10 (by kernel_rfl) (by kernel_rfl) ?_
  simp only [List.take_succ_cons, List.take_zero, List.drop_succ_cons, List.drop_zero]
  repeat (go_big_quiet_step (fail))
  refine wpQuiet_nil ?_
  rintro w1 hb1
  have r1 := ownsRow_upd (S := fun _ => False) K.out.row (Upd.of_below hb1) (fun _ _ h => h)
  have f1 := r1.frozenAt (i / 64)
  have c1 := below_cell hb1 C0.out
  have R1 := Lib.hid r1; have HB1 := Lib.hid hb1
  clear d0 r1 hb1
  go_wp2
  have hp := pow_wrap (i % 64) (Nat.mod_lt _ (by decide))
  obtain ⟨r, r0, r2, r3⟩ := bits_andNot64 y _ h64 hp.2
  rw [hp.1, r2]
  refine bodyPost_end (v := .tuple #[]) (results_none rfl _ _ _) rfl ⟨rfl, ⟨_, K.out.turn i r false hi r0 (fun j hj => ?_) (R1.out.stored _ _).1⟩, (Upd.of_below HB1.out).trans' (upd_set _ _ _ _)⟩
  rw [r3, Nat.testBit_two_pow, HY.out]
  by_cases e : i % 64 = j
  · rw [if_pos e.symm]; simp [e]
  · rw [if_neg (fun q => e q.symm)]; simp [e]
end Go.Proofs.Ytofoaheiblhpoaa
