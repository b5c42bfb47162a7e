/- package arena: what ArenaFresh asks, plain. -/
import Derived.Test.YtfpfpopfnbcblaaDoorQArSweepP
namespace Go.Proofs.YtfpfpopfnbcblaaDoor

theorem glue_mem {x b : Blk} {l : List Blk} (hx : x.u = true) : x ∈ glue b l ↔ x = b ∨ x ∈ l := by
  cases l with
  | nil => simp [glue]
  | cons c r =>
    rw [glue_cons]
    split
    · rename_i h
      constructor
      · intro hm
        rcases List.mem_cons.1 hm with h1 | h1
        · rw [h1] at hx; cases hx
        · exact .inr (by simp [h1])
      · rintro (h1 | h1)
        · rw [h1, h.1] at hx; cases hx
        · rcases List.mem_cons.1 h1 with h2 | h2
          · rw [h2, h.2] at hx; cases hx
          · simp [h2]
    · simp
theorem normB_mem {x : Blk} (hx : x.u = true) : ∀ l : List Blk, x ∈ normB l ↔ x ∈ l
  | [] => by simp [normB]
  | b :: l => by rw [normB_cons, glue_mem hx, normB_mem hx l]; simp
/-- Where the used blocks are, behind a Free. -/
theorem freeF_used {bs : List Blk} {q : Nat} (x : Blk) (hx : x.u = true) : x ∈ freeF bs q ↔ x ∈ bs ∧ x.a ≠ q := by
  unfold freeF
  rw [normB_mem hx, List.mem_map]
  constructor
  · rintro ⟨c, hc, h⟩
    split at h
    · rw [← h] at hx; cases hx
    · rename_i hne
      rw [← h]; exact ⟨hc, hne⟩
  · rintro ⟨hm, hne⟩
    exact ⟨x, hm, if_neg hne⟩
theorem span_two {m : Nat} {bs : List Blk} (hs : Span 1 bs (m + 1)) (hn : noTwo bs) (hu : ∀ b ∈ bs, b.u = false) (h2 : 2 ≤ m) : ∃ b, bs = [b] ∧ b.a = 1 ∧ b.n = m - 1 ∧ b.u = false := by
  match bs, hs with
  | [], h => have h : 1 = m + 1 := h; omega
  | [b], ⟨h1, h2, h3⟩ => have h3 : 1 + b.n + 1 = m + 1 := h3; exact ⟨b, rfl, h1, by omega, hu b (by simp)⟩
  | b :: c :: r, ⟨h1, h2, h3, _⟩ => exact absurd (by rw [h3, h1]) (hn b (by simp) c (by simp) (hu b (by simp)) (hu c (by simp)))
theorem all_free {m : Nat} {bs : List Blk} (hs : Span 1 bs (m + 1)) (hn : noTwo bs) (hu : ∀ b ∈ bs, b.u = false) (h2 : 2 ≤ m) : usedSum bs = 0 ∧ roomOf bs = m - 1 := by
  obtain ⟨b, rfl, h1, h3, h4⟩ := span_two hs hn hu h2
  constructor
  · simp [usedSum, h4]
  · simp [roomOf, h4, h3]
/-- Blocks of one size, one behind the other. -/
def frB (n many : Nat) : List Blk := (List.range many).map fun i => ⟨1 + i * (n + 1), zeros n, true, false⟩
theorem frB_succ (n many : Nat) : frB n (many + 1) = frB n many ++ [⟨1 + many * (n + 1), zeros n, true, false⟩] := by simp [frB, List.range_succ]
theorem frB_mem {n many : Nat} {b : Blk} (h : b ∈ frB n many) : ∃ i, i < many ∧ b = ⟨1 + i * (n + 1), zeros n, true, false⟩ := by
  unfold frB at h
  obtain ⟨i, hi, rfl⟩ := List.mem_map.1 h
  exact ⟨i, List.mem_range.1 hi, rfl⟩
theorem mem_frB {n many i : Nat} (h : i < many) : (⟨1 + i * (n + 1), zeros n, true, false⟩ : Blk) ∈ frB n many :=
  List.mem_map.2 ⟨i, List.mem_range.2 h, rfl⟩
theorem frB_sum (n : Nat) : ∀ many, usedSum (frB n many) = many * (n + 1)
  | 0 => by simp [frB, usedSum]
  | k + 1 => by
    rw [frB_succ, usedSum_append, frB_sum n k, usedSum_cons]
    simp only [if_true]
    have : (⟨1 + k * (n + 1), zeros n, true, false⟩ : Blk).n = n := zeros_len _
    rw [this, Nat.succ_mul]; simp [usedSum]
/-- So many blocks have been taken; there is a rest, or the last block has taken it. -/
def FrS (m n many : Nat) (bs : List Blk) : Prop :=
  (∃ r, 1 ≤ r ∧ many * (n + 1) + r + 1 = m ∧ bs = frB n many ++ [⟨1 + many * (n + 1), zeros r, false, false⟩]) ∨
  (∃ k e, many = k + 1 ∧ e ≤ 1 ∧ k * (n + 1) + n + e + 1 = m ∧ bs = frB n k ++ [⟨1 + k * (n + 1), zeros (n + e), true, false⟩])
theorem FrS.start {m n : Nat} (h : 2 ≤ m) : FrS m n 0 (newBs m) := by
  refine .inl ⟨m - 1, by omega, by omega, ?_⟩
  rw [newBs, if_pos h]
  simp [frB]
theorem takeF_of {bs : List Blk} {n : Int} {x : Nat} {e : Int} {bs' : List Blk} {s t : Nat} (hs : Span s bs t) (h : TakeR bs n x e bs') : takeF bs n = (x, e, bs') := (takeR_fun h hs).symm
theorem FrS.step {m n many : Nat} {bs : List Blk} (h : FrS m n many bs) (h1 : 1 ≤ n) (hs : Span 1 bs (m + 1)) :
    (takeF bs n = (0, 5, bs) ∧ many = m / (n + 1) ∧ usedSum bs ≤ m ∧ m ≤ usedSum bs + (n + 1)) ∨
    (∃ bs' b, takeF bs n = (1 + many * (n + 1), 0, bs') ∧ FrS m n (many + 1) bs' ∧ b ∈ bs' ∧ b.u = true ∧ b.a = 1 + many * (n + 1) ∧ (b.n = n ∨ b.n = n + 1)) := by
  rcases h with ⟨r, hr1, hr2, rfl⟩ | ⟨k, e, rfl, he, hk, rfl⟩
  · have z : (⟨1 + many * (n + 1), zeros r, false, false⟩ : Blk).n = r := zeros_len _
    by_cases hn : n ≤ r
    · right
      have hT := TakeR (frB n many ++ [⟨1 + many * (n + 1), zeros r, false, false⟩]) n
      have hlst : ∀ c ∈ frB n many ++ [(⟨1 + many * (n + 1), zeros r, false, false⟩ : Blk)], c.u = false → c = ⟨1 + many * (n + 1), zeros r, false, false⟩ := fun c hc hcu => by
        rcases List.mem_append.1 hc with h | h
        · obtain ⟨i, _, rfl⟩ := frB_mem h; cases hcu
        · exact List.mem_singleton.1 h
      by_cases hb : n + 2 ≤ r
      · refine ⟨frB n (many + 1) ++ [⟨1 + (many + 1) * (n + 1), zeros (r - n - 1), false, false⟩], ⟨1 + many * (n + 1), zeros n, true, false⟩, takeF_of hs (.inr (.inr ⟨by omega, frB n many, ⟨1 + many * (n + 1), zeros r, false, false⟩, [], by simp, rfl, by rw [z]; omega, fun c hc hcu _ => by rw [hlst c hc hcu]; exact .inr ⟨rfl, Nat.le_refl _⟩, rfl, rfl, ?_⟩)), .inl ⟨r - n - 1, by omega, by rw [Nat.succ_mul]; omega, rfl⟩, by rw [frB_succ]; simp, rfl, rfl, .inl (zeros_len _)⟩
        rw [if_pos (by rw [z]; omega), frB_succ, z]
        simp only [Int.toNat_natCast, List.append_assoc, List.cons_append, List.nil_append, List.append_nil]
        rw [show 1 + many * (n + 1) + n + 1 = 1 + (many + 1) * (n + 1) by rw [Nat.succ_mul]; omega]
      · refine ⟨frB n many ++ [⟨1 + many * (n + 1), zeros r, true, false⟩], ⟨1 + many * (n + 1), zeros r, true, false⟩, takeF_of hs (.inr (.inr ⟨by omega, frB n many, ⟨1 + many * (n + 1), zeros r, false, false⟩, [], by simp, rfl, by rw [z]; omega, fun c hc hcu _ => by rw [hlst c hc hcu]; exact .inr ⟨rfl, Nat.le_refl _⟩, rfl, rfl, ?_⟩)), .inr ⟨many, r - n, rfl, by omega, by omega, by rw [show n + (r - n) = r by omega]⟩, by simp, rfl, rfl, ?_⟩
        · rw [if_neg (by rw [z]; omega), z]; simp
        · have : (⟨1 + many * (n + 1), zeros r, true, false⟩ : Blk).n = r := zeros_len _
          rw [this]; omega
    · left
      have hu : usedSum (frB n many ++ [(⟨1 + many * (n + 1), zeros r, false, false⟩ : Blk)]) = many * (n + 1) := by rw [usedSum_append, frB_sum]; simp [usedSum]
      refine ⟨takeF_of hs (.inr (.inl ⟨by omega, fun c hc hcu => ?_, rfl, rfl, rfl⟩)), ?_, by omega, by omega⟩
      · rcases List.mem_append.1 hc with h | h
        · obtain ⟨i, _, rfl⟩ := frB_mem h; cases hcu
        · rw [List.mem_singleton.1 h, z]; omega
      · symm
        rw [Nat.div_eq_iff (by omega)]
        omega
  · left
    have z : (⟨1 + k * (n + 1), zeros (n + e), true, false⟩ : Blk).n = n + e := zeros_len _
    have hu : usedSum (frB n k ++ [(⟨1 + k * (n + 1), zeros (n + e), true, false⟩ : Blk)]) = m := by rw [usedSum_append, frB_sum, usedSum_cons, if_pos rfl, z]; simp [usedSum]; omega
    refine ⟨takeF_of hs (.inr (.inl ⟨by omega, fun c hc hcu => ?_, rfl, rfl, rfl⟩)), ?_, by omega, by omega⟩
    · rcases List.mem_append.1 hc with h | h
      · obtain ⟨i, _, rfl⟩ := frB_mem h; cases hcu
      · rw [List.mem_singleton.1 h] at hcu; cases hcu
    · symm
      rw [Nat.div_eq_iff (by omega), Nat.succ_mul]
      omega
/-- The used blocks are those of a set. -/
def UsedIs (n many : Nat) (P : Nat → Bool) (bs : List Blk) : Prop := ∀ x : Nat, usedAt bs (x : Int) = true ↔ ∃ i, i < many ∧ P i = false ∧ x = 1 + i * (n + 1)
theorem usedAt_nat {bs : List Blk} {x : Nat} : usedAt bs (x : Int) = true ↔ ∃ b ∈ bs, b.u = true ∧ b.a = x := by
  rw [usedAt_iff]
  constructor
  · rintro ⟨b, h1, h2, h3⟩; exact ⟨b, h1, h2, by omega⟩
  · rintro ⟨b, h1, h2, h3⟩; exact ⟨b, h1, h2, by omega⟩
theorem FrS.used {m n many : Nat} {bs : List Blk} (h : FrS m n many bs) : UsedIs n many (fun _ => false) bs := by
  intro x
  rw [usedAt_nat]
  rcases h with ⟨r, hr1, hr2, rfl⟩ | ⟨k, e, rfl, he, hk, rfl⟩
  · constructor
    · rintro ⟨b, hb, hu, rfl⟩
      rcases List.mem_append.1 hb with h | h
      · obtain ⟨i, hi, rfl⟩ := frB_mem h; exact ⟨i, hi, rfl, rfl⟩
      · rw [List.mem_singleton.1 h] at hu; cases hu
    · rintro ⟨i, hi, _, rfl⟩
      exact ⟨_, List.mem_append_left _ (mem_frB hi), rfl, rfl⟩
  · constructor
    · rintro ⟨b, hb, hu, rfl⟩
      rcases List.mem_append.1 hb with h | h
      · obtain ⟨i, hi, rfl⟩ := frB_mem h; exact ⟨i, by omega, rfl, rfl⟩
      · rw [List.mem_singleton.1 h]; exact ⟨k, by omega, rfl, rfl⟩
    · rintro ⟨i, hi, _, rfl⟩
      by_cases hk : i = k
      · subst hk; exact ⟨_, List.mem_append_right _ (List.mem_singleton.2 rfl), rfl, rfl⟩
      · exact ⟨_, List.mem_append_left _ (mem_frB (by omega)), rfl, rfl⟩
theorem UsedIs.free {n many : Nat} {P : Nat → Bool} {bs : List Blk} (h : UsedIs n many P bs) {j : Nat} : UsedIs n many (fun i => P i || i == j) (freeF bs (1 + j * (n + 1))) := by
  intro x
  rw [usedAt_nat]
  constructor
  · rintro ⟨b, hb, hu, rfl⟩
    obtain ⟨h1, h2⟩ := (freeF_used b hu).1 hb
    obtain ⟨i, hi, hP, he⟩ := (h b.a).1 (usedAt_nat.2 ⟨b, h1, hu, rfl⟩)
    refine ⟨i, hi, ?_, he⟩
    have : i ≠ j := fun e => h2 (by rw [he, e])
    simp [hP, this]
  · rintro ⟨i, hi, hP, rfl⟩
    simp at hP
    obtain ⟨b, hb, hu, he⟩ := usedAt_nat.1 ((h (1 + i * (n + 1))).2 ⟨i, hi, hP.1, rfl⟩)
    refine ⟨b, (freeF_used b hu).2 ⟨hb, ?_⟩, hu, he⟩
    rw [he]
    intro e
    have : i * (n + 1) = j * (n + 1) := by omega
    exact hP.2 (Nat.eq_of_mul_eq_mul_right (by omega) this)
theorem UsedIs.congr {n many : Nat} {P Q : Nat → Bool} {bs : List Blk} (h : UsedIs n many P bs) (e : ∀ i, i < many → P i = Q i) : UsedIs n many Q bs := fun x => by
  rw [h x]
  constructor
  · rintro ⟨i, hi, hP, rfl⟩; exact ⟨i, hi, by rw [← e i hi]; exact hP, rfl⟩
  · rintro ⟨i, hi, hP, rfl⟩; exact ⟨i, hi, by rw [e i hi]; exact hP, rfl⟩
theorem UsedIs.none {n many : Nat} {P : Nat → Bool} {bs : List Blk} (h : UsedIs n many P bs) (e : ∀ i, i < many → P i = true) : ∀ b ∈ bs, b.u = false := fun b hb => by
  cases hu : b.u
  · rfl
  · obtain ⟨i, hi, hP, _⟩ := (h b.a).1 (usedAt_nat.2 ⟨b, hb, hu, rfl⟩)
    rw [e i hi] at hP; cases hP
/-- What has been freed in the round k of two, ahead of the block i0. -/
def frP (odd : Bool) (k i0 : Nat) : Nat → Bool := fun i => (k == 1 && ((i % 2 == 0) == odd)) || (k == 2) || (((i % 2 == k) == odd) && decide (i < i0))
theorem frP_zero (odd : Bool) (i : Nat) : frP odd 0 0 i = false := by simp [frP]
theorem frP_next (odd : Bool) {k i0 many i : Nat} (hk : k < 2) (h : many ≤ i0) (hi : i < many) : frP odd k i0 i = frP odd (k + 1) 0 i := by
  have hi0 : i < i0 := by omega
  have h2 := Nat.mod_two_eq_zero_or_one i
  have hk2 : k = 0 ∨ k = 1 := by omega
  rcases hk2 with rfl | rfl <;> rcases h2 with h | h <;> cases odd <;> simp [frP, hi0, h]
theorem frP_step (odd : Bool) {k i0 i : Nat} : frP odd k (i0 + 1) i = (frP odd k i0 i || (((i0 % 2 == k) == odd) && i == i0)) := by
  unfold frP
  by_cases h : i = i0
  · subst h; simp
  · have e1 : decide (i < i0 + 1) = decide (i < i0) := by
      rw [Bool.eq_iff_iff]; simp; omega
    have e2 : (i == i0) = false := by simp [h]
    rw [e1, e2]; simp
theorem frP_not (odd : Bool) {k i0 : Nat} (hk : k < 2) (h : ((i0 % 2 == k) == odd) = true) : frP odd k i0 i0 = false := by
  have h2 := Nat.mod_two_eq_zero_or_one i0
  have hk2 : k = 0 ∨ k = 1 := by omega
  rcases hk2 with rfl | rfl <;> rcases h2 with h3 | h3 <;> cases odd <;> simp_all [frP]
theorem frP_all (odd : Bool) (i : Nat) : frP odd 2 0 i = true := by simp [frP]
end Go.Proofs.YtfpfpopfnbcblaaDoor
