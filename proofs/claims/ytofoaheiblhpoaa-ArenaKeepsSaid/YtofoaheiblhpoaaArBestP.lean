/- package arena: what ArenaBest asks, plain. -/
import Derived.Test.YtofoaheiblhpoaaArFreshP
import Derived.Test.YtofoaheiblhpoaaArAll
namespace Go.Proofs.Ytofoaheiblhpoaa

abbrev Ub (a n : Nat) : Blk := ⟨a, zeros n, true, false⟩
abbrev Fb (a n : Nat) : Blk := ⟨a, zeros n, false, false⟩
theorem Ub_n (a n : Nat) : (Ub a n).n = n := zeros_len _
theorem Fb_n (a n : Nat) : (Fb a n).n = n := zeros_len _
theorem tk_whole {pre post : List Blk} {b : Blk} {s t : Nat} (hs : Span s (pre ++ [b] ++ post) t) (hu : b.u = false) {n : Nat} (h1 : 1 ≤ n) (hn : b.n = n ∨ b.n = n + 1)
    (hbest : ∀ c ∈ pre ++ post, c.u = false → n ≤ c.n → b.n < c.n ∨ (b.n = c.n ∧ b.a ≤ c.a)) : takeF (pre ++ [b] ++ post) n = (b.a, 0, pre ++ [Ub b.a b.n] ++ post) := by
  refine takeF_of hs (.inr (.inr ⟨by omega, pre, b, post, rfl, hu, by omega, fun c hc hcu hcn => ?_, rfl, rfl, ?_⟩))
  · have : c = b ∨ c ∈ pre ++ post := by simp at hc ⊢; grind
    rcases this with h | h
    · rw [h]; exact .inr ⟨rfl, Nat.le_refl _⟩
    · exact hbest c h hcu (by omega)
  · rw [if_neg (by omega)]
theorem tk_split {pre post : List Blk} {b : Blk} {s t : Nat} (hs : Span s (pre ++ [b] ++ post) t) (hu : b.u = false) {n : Nat} (h1 : 1 ≤ n) (hn : n + 2 ≤ b.n)
    (hbest : ∀ c ∈ pre ++ post, c.u = false → n ≤ c.n → b.n < c.n ∨ (b.n = c.n ∧ b.a ≤ c.a)) : takeF (pre ++ [b] ++ post) n = (b.a, 0, pre ++ [Ub b.a n, Fb (b.a + n + 1) (b.n - n - 1)] ++ post) := by
  refine takeF_of hs (.inr (.inr ⟨by omega, pre, b, post, rfl, hu, by omega, fun c hc hcu hcn => ?_, rfl, rfl, ?_⟩))
  · have : c = b ∨ c ∈ pre ++ post := by simp at hc ⊢; grind
    rcases this with h | h
    · rw [h]; exact .inr ⟨rfl, Nat.le_refl _⟩
    · exact hbest c h hcu (by omega)
  · rw [if_pos (by omega)]; simp
/-- A used block between used ones (or the arena's ends) is freed. -/
theorem fr_alone {pre post : List Blk} {b : Blk} {s t : Nat} (hs : Span s (pre ++ [b] ++ post) t) (hn : noTwo (pre ++ [b] ++ post)) (hu : b.u = true)
    (hpre : ∀ c ∈ pre, c.u = false → c.a + c.n + 1 ≠ b.a) (hpost : ∀ c ∈ post, c.u = false → c.a ≠ b.a + b.n + 1) : freeG (pre ++ [b] ++ post) (b.a : Int) = (0, pre ++ [Fb b.a b.n] ++ post) := by
  have h0 := hs
  rw [Span.append] at h0
  obtain ⟨t2, h1, h3⟩ := h0
  rw [Span.append] at h1
  obtain ⟨s2, h1, h2⟩ := h1
  have hs2 : s2 = b.a := h2.1.symm
  have hfr : FreeR (pre ++ [b] ++ post) (b.a : Int) 0 (pre ++ [Fb b.a b.n] ++ post) :=
    .inr ⟨pre, [b], post, b, b.a, b.n, rfl, by simp, hu, rfl, rfl, fun c hc _ => List.mem_singleton.1 hc, ⟨rfl, h2.2.1, rfl⟩, hpre, hpost, rfl⟩
  unfold freeG
  rcases freeR_fun hfr hs hn with ⟨_, h, _⟩ | ⟨h, _, h5⟩
  · omega
  · rw [if_pos h, h5]
section
variable {x y z : Nat}
def bb1 (x : Nat) : List Blk := [Ub 1 x, Fb (x + 2) (98 - x)]
def bb2 (x y : Nat) : List Blk := [Ub 1 x, Ub (x + 2) y, Fb (x + y + 3) (97 - x - y)]
def bb3 (x y z : Nat) : List Blk := [Ub 1 x, Ub (x + 2) y, Ub (x + y + 3) z, Fb (x + y + z + 4) (96 - x - y - z)]
/-- All four are taken. -/
def bb4 (x y z : Nat) : List Blk := [Ub 1 x, Ub (x + 2) y, Ub (x + y + 3) z, Ub (x + y + z + 4) 1, Fb (x + y + z + 6) (94 - x - y - z)]
/-- Some of the first three are free. -/
def bbF (p q r : Bool) (x y z : Nat) : List Blk := [⟨1, zeros x, p, false⟩, ⟨x + 2, zeros y, q, false⟩, ⟨x + y + 3, zeros z, r, false⟩, Ub (x + y + z + 4) 1, Fb (x + y + z + 6) (94 - x - y - z)]
variable (hx : 1 ≤ x ∧ x ≤ 20) (hy : 1 ≤ y ∧ y ≤ 20) (hz : 1 ≤ z ∧ z ≤ 20)
include hx hy hz
theorem bt1 (hs : Span 1 (newBs 100) 101) : takeF (newBs 100) x = (1, 0, bb1 x) := by
  have _hh := And.intro hx (And.intro hy hz)
  have h := tk_split (pre := []) (b := Fb 1 99) (post := []) (s := 1) (t := 101) hs rfl hx.1 (by rw [Fb_n]; omega) (by simp)
  rw [Fb_n] at h
  refine h.trans ?_
  show (1, 0, [Ub 1 x, Fb (1 + x + 1) (99 - x - 1)]) = _
  rw [show 1 + x + 1 = x + 2 by omega, show 99 - x - 1 = 98 - x by omega]; rfl
theorem bt2 (hs : Span 1 (bb1 x) 101) : takeF (bb1 x) y = (x + 2, 0, bb2 x y) := by
  have _hh := And.intro hx (And.intro hy hz)
  have h := tk_split (pre := [Ub 1 x]) (b := Fb (x + 2) (98 - x)) (post := []) (s := 1) (t := 101) hs rfl hy.1 (by rw [Fb_n]; omega) (fun c hc hu => by
    have : c = Ub 1 x := by simpa using hc
    rw [this] at hu; cases hu)
  rw [Fb_n] at h
  refine h.trans ?_
  show (x + 2, 0, [Ub 1 x, Ub (x + 2) y, Fb (x + 2 + y + 1) (98 - x - y - 1)]) = _
  rw [show x + 2 + y + 1 = x + y + 3 by omega, show 98 - x - y - 1 = 97 - x - y by omega]; rfl
theorem bt3 (hs : Span 1 (bb2 x y) 101) : takeF (bb2 x y) z = (x + y + 3, 0, bb3 x y z) := by
  have _hh := And.intro hx (And.intro hy hz)
  have h := tk_split (pre := [Ub 1 x, Ub (x + 2) y]) (b := Fb (x + y + 3) (97 - x - y)) (post := []) (s := 1) (t := 101) hs rfl hz.1 (by rw [Fb_n]; omega) (fun c hc hu => by
    have : c = Ub 1 x ∨ c = Ub (x + 2) y := by simpa using hc
    rcases this with h | h <;> rw [h] at hu <;> cases hu)
  rw [Fb_n] at h
  refine h.trans ?_
  show (x + y + 3, 0, [Ub 1 x, Ub (x + 2) y, Ub (x + y + 3) z, Fb (x + y + 3 + z + 1) (97 - x - y - z - 1)]) = _
  rw [show x + y + 3 + z + 1 = x + y + z + 4 by omega, show 97 - x - y - z - 1 = 96 - x - y - z by omega]; rfl
theorem bt4 (hs : Span 1 (bb3 x y z) 101) : takeF (bb3 x y z) 1 = (x + y + z + 4, 0, bbF true true true x y z) := by
  have _hh := And.intro hx (And.intro hy hz)
  have h := tk_split (pre := [Ub 1 x, Ub (x + 2) y, Ub (x + y + 3) z]) (b := Fb (x + y + z + 4) (96 - x - y - z)) (post := []) (s := 1) (t := 101) (n := 1) hs rfl (Nat.le_refl _) (by rw [Fb_n]; omega) (fun c hc hu => by
    have : c = Ub 1 x ∨ c = Ub (x + 2) y ∨ c = Ub (x + y + 3) z := by simpa using hc
    rcases this with h | h | h <;> rw [h] at hu <;> cases hu)
  rw [Fb_n] at h
  refine h.trans ?_
  show (x + y + z + 4, 0, [Ub 1 x, Ub (x + 2) y, Ub (x + y + 3) z, Ub (x + y + z + 4) 1, Fb (x + y + z + 4 + 1 + 1) (96 - x - y - z - 1 - 1)]) = _
  rw [show 96 - x - y - z - 1 - 1 = 94 - x - y - z by omega]; rfl
theorem bf1 (hs : Span 1 (bbF true true true x y z) 101) (hn : noTwo (bbF true true true x y z)) : freeG (bbF true true true x y z) ((x + 2 : Nat) : Int) = (0, bbF true false true x y z) := by
  have _hh := And.intro hx (And.intro hy hz)
  have h := fr_alone (pre := [Ub 1 x]) (b := Ub (x + 2) y) (post := [Ub (x + y + 3) z, Ub (x + y + z + 4) 1, Fb (x + y + z + 6) (94 - x - y - z)]) (s := 1) (t := 101) hs hn rfl (fun c hc hu => by
    have : c = Ub 1 x := by simpa using hc
    rw [this] at hu; cases hu) (fun c hc hu => by
    have : c = Ub (x + y + 3) z ∨ c = Ub (x + y + z + 4) 1 ∨ c = Fb (x + y + z + 6) (94 - x - y - z) := by simpa using hc
    rcases this with h | h | h
    · rw [h] at hu; cases hu
    · rw [h] at hu; cases hu
    · rw [h, Ub_n]; show x + y + z + 6 ≠ x + 2 + y + 1; omega)
  rw [Ub_n] at h
  exact h
theorem bt5 (hs : Span 1 (bbF true false true x y z) 101) : takeF (bbF true false true x y z) y = (x + 2, 0, bbF true true true x y z) := by
  have _hh := And.intro hx (And.intro hy hz)
  have h := tk_whole (pre := [Ub 1 x]) (b := Fb (x + 2) y) (post := [Ub (x + y + 3) z, Ub (x + y + z + 4) 1, Fb (x + y + z + 6) (94 - x - y - z)]) (s := 1) (t := 101) hs rfl hy.1 (.inl (Fb_n _ _)) (fun c hc hu _ => by
    have : c = Ub 1 x ∨ c = Ub (x + y + 3) z ∨ c = Ub (x + y + z + 4) 1 ∨ c = Fb (x + y + z + 6) (94 - x - y - z) := by simpa using hc
    rcases this with h | h | h | h
    · rw [h] at hu; cases hu
    · rw [h] at hu; cases hu
    · rw [h] at hu; cases hu
    · rw [h, Fb_n, Fb_n]; left; omega)
  rw [Fb_n] at h
  exact h
theorem bf2 (hs : Span 1 (bbF true true true x y z) 101) (hn : noTwo (bbF true true true x y z)) : freeG (bbF true true true x y z) 1 = (0, bbF false true true x y z) := by
  have _hh := And.intro hx (And.intro hy hz)
  have h := fr_alone (pre := []) (b := Ub 1 x) (post := [Ub (x + 2) y, Ub (x + y + 3) z, Ub (x + y + z + 4) 1, Fb (x + y + z + 6) (94 - x - y - z)]) (s := 1) (t := 101) hs hn rfl (by simp) (fun c hc hu => by
    have : c = Ub (x + 2) y ∨ c = Ub (x + y + 3) z ∨ c = Ub (x + y + z + 4) 1 ∨ c = Fb (x + y + z + 6) (94 - x - y - z) := by simpa using hc
    rcases this with h | h | h | h
    · rw [h] at hu; cases hu
    · rw [h] at hu; cases hu
    · rw [h] at hu; cases hu
    · rw [h, Ub_n]; show x + y + z + 6 ≠ 1 + x + 1; omega)
  rw [Ub_n] at h
  exact h
theorem bf3 (hs : Span 1 (bbF false true true x y z) 101) (hn : noTwo (bbF false true true x y z)) : freeG (bbF false true true x y z) ((x + y + 3 : Nat) : Int) = (0, bbF false true false x y z) := by
  have _hh := And.intro hx (And.intro hy hz)
  have h := fr_alone (pre := [Fb 1 x, Ub (x + 2) y]) (b := Ub (x + y + 3) z) (post := [Ub (x + y + z + 4) 1, Fb (x + y + z + 6) (94 - x - y - z)]) (s := 1) (t := 101) hs hn rfl (fun c hc hu => by
    have : c = Fb 1 x ∨ c = Ub (x + 2) y := by simpa using hc
    rcases this with h | h
    · rw [h, Fb_n]; show 1 + x + 1 ≠ x + y + 3; omega
    · rw [h] at hu; cases hu) (fun c hc hu => by
    have : c = Ub (x + y + z + 4) 1 ∨ c = Fb (x + y + z + 6) (94 - x - y - z) := by simpa using hc
    rcases this with h | h
    · rw [h] at hu; cases hu
    · rw [h, Ub_n]; show x + y + z + 6 ≠ x + y + 3 + z + 1; omega)
  rw [Ub_n] at h
  exact h
/-- The third one is the less. -/
theorem bt6 (hzx : z < x) (hs : Span 1 (bbF false true false x y z) 101) : takeF (bbF false true false x y z) z = (x + y + 3, 0, bbF false true true x y z) := by
  have _hh := And.intro hx (And.intro hy hz)
  have h := tk_whole (pre := [Fb 1 x, Ub (x + 2) y]) (b := Fb (x + y + 3) z) (post := [Ub (x + y + z + 4) 1, Fb (x + y + z + 6) (94 - x - y - z)]) (s := 1) (t := 101) hs rfl hz.1 (.inl (Fb_n _ _)) (fun c hc hu _ => by
    have : c = Fb 1 x ∨ c = Ub (x + 2) y ∨ c = Ub (x + y + z + 4) 1 ∨ c = Fb (x + y + z + 6) (94 - x - y - z) := by simpa using hc
    rcases this with h | h | h | h
    · rw [h, Fb_n, Fb_n]; left; omega
    · rw [h] at hu; cases hu
    · rw [h] at hu; cases hu
    · rw [h, Fb_n, Fb_n]; left; omega)
  rw [Fb_n] at h
  exact h
theorem bt7 (hs : Span 1 (bbF false true true x y z) 101) : takeF (bbF false true true x y z) x = (1, 0, bbF true true true x y z) := by
  have _hh := And.intro hx (And.intro hy hz)
  have h := tk_whole (pre := []) (b := Fb 1 x) (post := [Ub (x + 2) y, Ub (x + y + 3) z, Ub (x + y + z + 4) 1, Fb (x + y + z + 6) (94 - x - y - z)]) (s := 1) (t := 101) hs rfl hx.1 (.inl (Fb_n _ _)) (fun c hc hu _ => by
    have : c = Ub (x + 2) y ∨ c = Ub (x + y + 3) z ∨ c = Ub (x + y + z + 4) 1 ∨ c = Fb (x + y + z + 6) (94 - x - y - z) := by simpa using hc
    rcases this with h | h | h | h
    · rw [h] at hu; cases hu
    · rw [h] at hu; cases hu
    · rw [h] at hu; cases hu
    · rw [h, Fb_n, Fb_n]; left; omega)
  rw [Fb_n] at h
  exact h
/-- The first one is not the greater. -/
theorem bt8 (hxz : x ≤ z) (hs : Span 1 (bbF false true false x y z) 101) : takeF (bbF false true false x y z) x = (1, 0, bbF true true false x y z) := by
  have _hh := And.intro hx (And.intro hy hz)
  have h := tk_whole (pre := []) (b := Fb 1 x) (post := [Ub (x + 2) y, Fb (x + y + 3) z, Ub (x + y + z + 4) 1, Fb (x + y + z + 6) (94 - x - y - z)]) (s := 1) (t := 101) hs rfl hx.1 (.inl (Fb_n _ _)) (fun c hc hu _ => by
    have : c = Ub (x + 2) y ∨ c = Fb (x + y + 3) z ∨ c = Ub (x + y + z + 4) 1 ∨ c = Fb (x + y + z + 6) (94 - x - y - z) := by simpa using hc
    rcases this with h | h | h | h
    · rw [h] at hu; cases hu
    · rw [h, Fb_n, Fb_n]
      by_cases e : x = z
      · right; exact ⟨e, by show 1 ≤ x + y + 3; omega⟩
      · left; omega
    · rw [h] at hu; cases hu
    · rw [h, Fb_n, Fb_n]; left; omega)
  rw [Fb_n] at h
  exact h
theorem bt9 (hs : Span 1 (bbF true true false x y z) 101) : takeF (bbF true true false x y z) z = (x + y + 3, 0, bbF true true true x y z) := by
  have _hh := And.intro hx (And.intro hy hz)
  have h := tk_whole (pre := [Ub 1 x, Ub (x + 2) y]) (b := Fb (x + y + 3) z) (post := [Ub (x + y + z + 4) 1, Fb (x + y + z + 6) (94 - x - y - z)]) (s := 1) (t := 101) hs rfl hz.1 (.inl (Fb_n _ _)) (fun c hc hu _ => by
    have : c = Ub 1 x ∨ c = Ub (x + 2) y ∨ c = Ub (x + y + z + 4) 1 ∨ c = Fb (x + y + z + 6) (94 - x - y - z) := by simpa using hc
    rcases this with h | h | h | h
    · rw [h] at hu; cases hu
    · rw [h] at hu; cases hu
    · rw [h] at hu; cases hu
    · rw [h, Fb_n, Fb_n]; left; omega)
  rw [Fb_n] at h
  exact h
end
/-- An arena whose one free block has one word more than is asked for. -/
theorem bnew {n : Nat} (h1 : 1 ≤ n) (hs : Span 1 (newBs (n + 2)) (n + 3)) : takeF (newBs (n + 2)) n = (1, 0, [Ub 1 (n + 1)]) := by
  have e : newBs (n + 2) = [] ++ [Fb 1 (n + 1)] ++ [] := by rw [newBs, if_pos (by omega)]; rfl
  rw [e] at hs ⊢
  have h := tk_whole (pre := []) (b := Fb 1 (n + 1)) (post := []) hs rfl h1 (.inr (Fb_n _ _)) (by simp)
  rw [Fb_n] at h
  exact h
theorem size_at_of {bs : List Blk} {s t : Nat} (hs : Span s bs t) {b : Blk} (hb : b ∈ bs) (hu : b.u = true) {n : Nat} (hn : b.n = n) : sizeF bs (b.a : Int) = n := by
  unfold sizeF; rw [blkAt_some hs hb hu]; exact hn
end Go.Proofs.Ytofoaheiblhpoaa
