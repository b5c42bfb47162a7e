/- package arena: Take as a function on lists of blocks. -/
import Derived.Test.YtofoaheiblhpoaaArRoomP
namespace Go.Proofs.Ytofoaheiblhpoaa

/-- Is b a free block with room for n, and better than c? -/
def fits (n : Int) (b : Blk) : Bool := !b.u && decide (n ≤ (b.n : Int))
def pickB (n : Int) : List Blk → Option Blk
  | [] => none
  | b :: l => match pickB n l with
    | none => if fits n b then some b else none
    | some c => if fits n b && (decide (b.n < c.n) || (decide (b.n = c.n) && decide (b.a ≤ c.a))) then some b else some c
theorem fits_iff (n : Int) (b : Blk) : fits n b = true ↔ b.u = false ∧ n ≤ b.n := by simp [fits]
theorem pickB_spec (n : Int) : ∀ l : List Blk, (pickB n l = none ∧ ∀ b ∈ l, b.u = false → (b.n : Int) < n) ∨
    ∃ c ∈ l, pickB n l = some c ∧ c.u = false ∧ n ≤ c.n ∧ ∀ d ∈ l, d.u = false → n ≤ d.n → c.n < d.n ∨ (c.n = d.n ∧ c.a ≤ d.a)
  | [] => .inl ⟨rfl, by simp⟩
  | b :: l => by
    rcases pickB_spec n l with ⟨h1, h2⟩ | ⟨c, hc, h1, h2, h3, h4⟩
    · cases hf : fits n b
      · refine .inl ⟨by simp [pickB, h1, hf], fun d hd hu => ?_⟩
        rcases List.mem_cons.1 hd with rfl | hd
        · have : ¬ (d.u = false ∧ n ≤ d.n) := fun h => by rw [(fits_iff n d).2 h] at hf; cases hf
          have : ¬ n ≤ d.n := fun h => this ⟨hu, h⟩
          omega
        · exact h2 d hd hu
      · have hb := (fits_iff n b).1 hf
        refine .inr ⟨b, by simp, by simp [pickB, h1, hf], hb.1, hb.2, fun d hd hu hn => ?_⟩
        rcases List.mem_cons.1 hd with rfl | hd
        · exact .inr ⟨rfl, Nat.le_refl _⟩
        · have := h2 d hd hu; omega
    · by_cases hf : (fits n b && (decide (b.n < c.n) || (decide (b.n = c.n) && decide (b.a ≤ c.a)))) = true
      · have hf2 := hf
        simp only [Bool.and_eq_true, Bool.or_eq_true, decide_eq_true_eq] at hf2
        have hb := (fits_iff n b).1 hf2.1
        refine .inr ⟨b, by simp, by simp only [pickB, h1]; rw [if_pos hf], hb.1, hb.2, fun d hd hu hn => ?_⟩
        rcases List.mem_cons.1 hd with rfl | hd
        · exact .inr ⟨rfl, Nat.le_refl _⟩
        · have := h4 d hd hu hn; omega
      · refine .inr ⟨c, by simp [hc], by simp only [pickB, h1]; rw [if_neg hf], h2, h3, fun d hd hu hn => ?_⟩
        rcases List.mem_cons.1 hd with rfl | hd
        · have hfd := (fits_iff n d).2 ⟨hu, hn⟩
          simp only [hfd, Bool.true_and, Bool.or_eq_true, Bool.and_eq_true, decide_eq_true_eq] at hf
          omega
        · exact h4 d hd hu hn
def takeB (n : Int) (b : Blk) : List Blk :=
  if n + 2 ≤ b.n then [⟨b.a, zeros n.toNat, true, false⟩, ⟨b.a + n.toNat + 1, zeros (b.n - n.toNat - 1), false, false⟩] else [⟨b.a, zeros b.n, true, false⟩]
def takeF (bs : List Blk) (n : Int) : Nat × Int × List Blk :=
  if n < 1 then (0, 2, bs) else match pickB n bs with
    | none => (0, 5, bs)
    | some b => (b.a, 0, bs.flatMap fun c => if c.a = b.a then takeB n b else [c])
theorem flat_at {s t : Nat} {pre post : List Blk} {b : Blk} (h : Span s (pre ++ [b] ++ post) t) (r : List Blk) : (pre ++ [b] ++ post).flatMap (fun c => if c.a = b.a then r else [c]) = pre ++ r ++ post := by
  have h0 := h
  rw [Span.append] at h0
  obtain ⟨t2, h1, h3⟩ := h0
  rw [Span.append] at h1
  obtain ⟨s2, h1, h2⟩ := h1
  obtain ⟨e1, e2, e3⟩ := h2
  have e3 : s2 + b.n + 1 = t2 := e3
  have one : ∀ l : List Blk, (∀ c ∈ l, c.a ≠ b.a) → l.flatMap (fun c => if c.a = b.a then r else [c]) = l := fun l => by
    induction l with
    | nil => intro _; rfl
    | cons c l ih =>
      intro hl
      rw [List.flatMap_cons, if_neg (hl c (by simp)), ih (fun d hd => hl d (by simp [hd]))]; rfl
  rw [List.flatMap_append, List.flatMap_append, one pre (fun c hc => by have := h1.mem c hc; omega), one post (fun c hc => by have := h3.mem c hc; omega)]
  simp
theorem takeR_fun {bs : List Blk} {n : Int} {x : Nat} {e : Int} {bs' : List Blk} {s t : Nat} (h : TakeR bs n x e bs') (hs : Span s bs t) : (x, e, bs') = takeF bs n := by
  unfold takeF
  rcases h with ⟨h1, rfl, rfl, rfl⟩ | ⟨h1, h2, rfl, rfl, rfl⟩ | ⟨h1, pre, b, post, rfl, hu, hn, hl, rfl, rfl, rfl⟩
  · rw [if_pos h1]
  · rw [if_neg (show ¬ n < 1 by omega)]
    rcases pickB_spec n bs' with ⟨h3, _⟩ | ⟨c, hc, _, h4, h5, _⟩
    · rw [h3]
    · have := h2 c hc h4; omega
  · rw [if_neg (show ¬ n < 1 by omega)]
    rcases pickB_spec n (pre ++ [b] ++ post) with ⟨_, h4⟩ | ⟨c, hc, h3, h4, h5, h6⟩
    · have := h4 b (by simp) hu; omega
    · have a1 := hl c hc h4 h5
      have a2 := h6 b (by simp) hu hn
      have e : c = b := hs.inj hc (by simp : b ∈ pre ++ [b] ++ post) (by omega : c.a = b.a)
      rw [h3, e]
      dsimp only
      rw [flat_at hs]
      unfold takeB
      split <;> rfl
end Go.Proofs.Ytofoaheiblhpoaa
