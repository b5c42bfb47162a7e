/- Of no program: blocks, and how words, bits and lists tell them. -/
import Derived.Test.YtelohkppbmahnaaDoorQArLists
namespace Go.Proofs.YtelohkppbmahnaaDoor
variable {V : Type}
/-- A block: its address, its words, whether it is used, and marked. -/
structure Blk where
  a : Nat
  ws : List Nat
  u : Bool
  m : Bool
deriving DecidableEq
def Blk.n (b : Blk) : Nat := b.ws.length
/-- Blocks one behind the other, from a place to a place. -/
def Span : Nat → List Blk → Nat → Prop
  | s, [], t => s = t
  | s, b :: r, t => b.a = s ∧ 0 < b.n ∧ Span (s + b.n + 1) r t
theorem Span.append {s t : Nat} : ∀ {l r : List Blk}, Span s (l ++ r) t ↔ ∃ m, Span s l m ∧ Span m r t
  | [], r => ⟨fun h => ⟨s, rfl, h⟩, fun ⟨m, h1, h2⟩ => by have h1 : s = m := h1; subst h1; exact h2⟩
  | b :: l, r => by
    show (b.a = s ∧ 0 < b.n ∧ Span _ (l ++ r) t) ↔ _
    rw [Span.append]
    exact ⟨fun ⟨h1, h2, m, h3, h4⟩ => ⟨m, ⟨h1, h2, h3⟩, h4⟩, fun ⟨m, ⟨h1, h2, h3⟩, h4⟩ => ⟨h1, h2, m, h3, h4⟩⟩
theorem Span.le : ∀ {l : List Blk} {s t : Nat}, Span s l t → s ≤ t
  | [], _, _, h => Nat.le_of_eq h
  | b :: l, s, t, ⟨_, _, h⟩ => by have := Span.le h; omega
theorem Span.mem : ∀ {l : List Blk} {s t : Nat}, Span s l t → ∀ b ∈ l, s ≤ b.a ∧ 0 < b.n ∧ b.a + b.n + 1 ≤ t
  | [], _, _, _, b, hb => by simp at hb
  | c :: l, s, t, ⟨h1, h2, h3⟩, b, hb => by
    rcases List.mem_cons.1 hb with rfl | hb
    · have := Span.le h3; omega
    · have := Span.mem h3 b hb; omega
theorem Span.sep : ∀ {l : List Blk} {s t : Nat}, Span s l t → ∀ b ∈ l, ∀ c ∈ l, b = c ∨ b.a + b.n + 1 ≤ c.a ∨ c.a + c.n + 1 ≤ b.a
  | [], _, _, _, b, hb, _, _ => by simp at hb
  | d :: l, s, t, ⟨h1, h2, h3⟩, b, hb, c, hc => by
    rcases List.mem_cons.1 hb with h4 | h4
    · rcases List.mem_cons.1 hc with h5 | h5
      · exact .inl (by rw [h4, h5])
      · have := Span.mem h3 c h5; subst h4; exact .inr (.inl (by omega))
    · rcases List.mem_cons.1 hc with h5 | h5
      · have := Span.mem h3 b h4; subst h5; exact .inr (.inr (by omega))
      · exact Span.sep h3 b h4 c h5
theorem Span.inj {l : List Blk} {s t : Nat} (h : Span s l t) {b c : Blk} (hb : b ∈ l) (hc : c ∈ l) (e : b.a = c.a) : b = c := by
  rcases h.sep b hb c hc with h1 | h1 | h1
  · exact h1
  · omega
  · omega
/-- At x is a free block of the size s. -/
def frF (bs : List Blk) (x s : Nat) : Prop := ∃ b ∈ bs, b.u = false ∧ b.a = x ∧ b.n = s
def usedSum (bs : List Blk) : Nat := (bs.map fun b => if b.u then b.n + 1 else 0).sum
theorem usedSum_append (l r : List Blk) : usedSum (l ++ r) = usedSum l + usedSum r := by simp [usedSum, List.sum_append]
theorem usedSum_cons (b : Blk) (r : List Blk) : usedSum (b :: r) = (if b.u then b.n + 1 else 0) + usedSum r := by simp [usedSum]
/-- Where the blocks of so many words end. -/
def endOf (n : Nat) : Nat := if 2 ≤ n then n + 1 else 1
/-- The words, bits and lists of an arena tell its blocks. -/
structure Inv (ws : List Nat) (tk mk : Nat → Bool) (used : Nat) (L : List (List (Ent V))) (bs : List Blk) : Prop where
  small : ws.length ≤ 1048576
  span : Span 1 bs (endOf ws.length)
  head : ∀ b ∈ bs, ws.getD (b.a - 1) 0 / 2 = b.n
  bit : ∀ b ∈ bs, (ws.getD (b.a - 1) 0 % 2 = 1 ↔ ∃ c ∈ bs, c.u = false ∧ c.a + c.n + 1 = b.a)
  tail : ∀ b ∈ bs, b.u = false → ws.getD (b.a + b.n - 1) 0 / 4294967296 = b.n
  cont : ∀ b ∈ bs, b.u = true → ∀ i, i < b.n → ws.getD (b.a + i) 0 = b.ws.getD i 0
  unm : ∀ b ∈ bs, b.u = false → b.m = false
  taken : ∀ x, tk x = true ↔ ∃ b ∈ bs, b.u = true ∧ b.a = x
  marked : ∀ x, mk x = true ↔ ∃ b ∈ bs, b.m = true ∧ b.a = x
  sum : used = usedSum bs
  adj : ∀ b ∈ bs, ∀ c ∈ bs, b.u = false → c.u = false → c.a ≠ b.a + b.n + 1
  lists : ListsOk L ws (frF bs)
  lens : L.length = (if ws.length = 0 then 0 else Nat.log2 ws.length + 1) + 1
theorem Inv.end_le {ws : List Nat} {tk mk : Nat → Bool} {used : Nat} {L : List (List (Ent V))} {bs : List Blk} (I : Inv ws tk mk used L bs) : ∀ b ∈ bs, 1 ≤ b.a ∧ 0 < b.n ∧ b.a + b.n ≤ ws.length := by
  intro b hb
  have := I.span.mem b hb
  unfold endOf at this
  split at this <;> omega
theorem Inv.replace {ws ws' : List Nat} {tk tk' mk mk' : Nat → Bool} {used used' : Nat} {L L' : List (List (Ent V))} {pre mid mid' post : List Blk} {s t : Nat}
    (I : Inv ws tk mk used L (pre ++ mid ++ post)) (h2 : 2 ≤ ws.length)
    (hs : Span 1 pre s) (hm : Span s mid t) (hm' : Span s mid' t) (hp : Span t post (ws.length + 1)) (hst : s < t)
    (len : ws'.length = ws.length)
    (out : ∀ k, k < s - 1 ∨ t - 1 < k → ws'.getD k 0 / 4294967296 = ws.getD k 0 / 4294967296 ∧ ((∀ c ∈ pre ++ post, c.u = false → c.a ≠ k) → ws'.getD k 0 = ws.getD k 0))
    (nxt : t ≤ ws.length → ws'.getD (t - 1) 0 / 2 = ws.getD (t - 1) 0 / 2 ∧ (ws'.getD (t - 1) 0 % 2 = 1 ↔ ∃ c ∈ mid', c.u = false ∧ c.a + c.n + 1 = t))
    (hd : ∀ b ∈ mid', ws'.getD (b.a - 1) 0 / 2 = b.n)
    (bt : ∀ b ∈ mid', (ws'.getD (b.a - 1) 0 % 2 = 1 ↔ ∃ c ∈ pre ++ mid', c.u = false ∧ c.a + c.n + 1 = b.a))
    (tl : ∀ b ∈ mid', b.u = false → ws'.getD (b.a + b.n - 1) 0 / 4294967296 = b.n)
    (ct : ∀ b ∈ mid', b.u = true → ∀ i, i < b.n → ws'.getD (b.a + i) 0 = b.ws.getD i 0)
    (um : ∀ b ∈ mid', b.u = false → b.m = false)
    (tk1 : ∀ x, tk' x = true ↔ (tk x = true ∧ (x < s ∨ t ≤ x)) ∨ ∃ b ∈ mid', b.u = true ∧ b.a = x)
    (mk1 : ∀ x, mk' x = true ↔ (mk x = true ∧ (x < s ∨ t ≤ x)) ∨ ∃ b ∈ mid', b.m = true ∧ b.a = x)
    (sum1 : used' + usedSum mid = used + usedSum mid')
    (adj1 : ∀ b ∈ pre ++ mid', ∀ c ∈ mid' ++ post, b.u = false → c.u = false → (b ∈ mid' ∨ c ∈ mid') → c.a ≠ b.a + b.n + 1)
    (lists1 : ListsOk L' ws' (frF (pre ++ mid' ++ post))) (lens1 : L'.length = L.length) :
    Inv ws' tk' mk' used' L' (pre ++ mid' ++ post) := by
  have pm := hs.mem
  have mm := hm.mem
  have mm' := hm'.mem
  have qm := hp.mem
  have s1 := hs.le
  have old : ∀ d ∈ pre ++ post, d ∈ pre ++ mid ++ post := fun d hd => by simp at hd ⊢; grind
  have cases3 : ∀ {d : Blk} {l : List Blk}, d ∈ pre ++ l ++ post → d ∈ pre ++ post ∨ d ∈ l := fun hd => by simp at hd ⊢; grind
  have esp : endOf ws.length = ws.length + 1 := if_pos h2
  have sepo := I.span.sep
  -- what lies outside
  have same : ∀ d ∈ pre ++ post, ∀ k, (k < s - 1 ∨ t - 1 < k) → (k = d.a - 1 ∨ (d.u = true ∧ d.a ≤ k ∧ k < d.a + d.n)) → ws'.getD k 0 = ws.getD k 0 := by
    intro d hd k hk hkd
    refine (out k hk).2 (fun c hc hcu e => ?_)
    have hdp := I.end_le d (old d hd)
    have hcp := I.end_le c (old c hc)
    rcases sepo c (old c hc) d (old d hd) with rfl | h | h
    · rcases hkd with h | ⟨h, _⟩
      · omega
      · rw [hcu] at h; cases h
    · rcases hkd with h | ⟨_, h, _⟩ <;> omega
    · rcases hkd with h | ⟨_, h, h'⟩ <;> omega
  have place : ∀ d ∈ pre ++ post, (d ∈ pre ∧ d.a + d.n + 1 ≤ s ∧ 1 ≤ d.a ∧ 0 < d.n) ∨ (d ∈ post ∧ t ≤ d.a ∧ 0 < d.n ∧ d.a + d.n ≤ ws.length) := fun d hd => by
    rcases List.mem_append.1 hd with h | h
    · have := pm d h; exact .inl ⟨h, by omega, by omega, by omega⟩
    · have := qm d h; exact .inr ⟨h, by omega, by omega, by omega⟩
  refine ⟨by rw [len]; exact I.small, ?_, fun b hb => ?_, fun b hb => ?_, fun b hb hu => ?_, fun b hb hu i hi => ?_, fun b hb hu => ?_, fun x => ?_, fun x => ?_, ?_, fun b hb c hc hbu hcu => ?_, lists1, by rw [lens1, len]; exact I.lens⟩
  · rw [len, esp]
    rw [Span.append]
    refine ⟨t, ?_, hp⟩
    rw [Span.append]
    exact ⟨s, hs, hm'⟩
  · rcases cases3 hb with hb | hb
    · rw [← I.head b (old b hb)]
      rcases place b hb with ⟨_, p1, p2, p3⟩ | ⟨_, p1, p2, p3⟩
      · rw [same b hb _ (.inl (by omega)) (.inl rfl)]
      · by_cases e : b.a = t
        · rw [e]; exact (nxt (by omega)).1
        · rw [same b hb _ (.inr (by omega)) (.inl rfl)]
    · exact hd b hb
  · rcases cases3 hb with hb | hb
    · have hold := I.bit b (old b hb)
      rcases place b hb with ⟨p0, p1, p2, p3⟩ | ⟨p0, p1, p2, p3⟩
      · rw [same b hb _ (.inl (by omega)) (.inl rfl), hold]
        constructor
        · rintro ⟨c, hc, hcu, e⟩
          refine ⟨c, ?_, hcu, e⟩
          rcases cases3 hc with hc | hc
          · simp at hc ⊢; grind
          · have := mm c hc; omega
        · rintro ⟨c, hc, hcu, e⟩
          refine ⟨c, ?_, hcu, e⟩
          rcases cases3 hc with hc | hc
          · exact old c hc
          · have := mm' c hc; omega
      · by_cases e : b.a = t
        · rw [e, (nxt (by omega)).2]
          constructor
          · rintro ⟨c, hc, hcu, e'⟩
            exact ⟨c, by simp [hc], hcu, e'⟩
          · rintro ⟨c, hc, hcu, e'⟩
            refine ⟨c, ?_, hcu, e'⟩
            rcases cases3 hc with hc | hc
            · rcases place c hc with ⟨_, q1, q2, q3⟩ | ⟨_, q1, q2, q3⟩ <;> omega
            · exact hc
        · rw [same b hb _ (.inr (by omega)) (.inl rfl), hold]
          constructor
          · rintro ⟨c, hc, hcu, e'⟩
            refine ⟨c, ?_, hcu, e'⟩
            rcases cases3 hc with hc | hc
            · simp at hc ⊢; grind
            · have := mm c hc; omega
          · rintro ⟨c, hc, hcu, e'⟩
            refine ⟨c, ?_, hcu, e'⟩
            rcases cases3 hc with hc | hc
            · exact old c hc
            · have := mm' c hc; omega
    · rw [bt b hb]
      constructor
      · rintro ⟨c, hc, hcu, e⟩
        exact ⟨c, by simp at hc ⊢; grind, hcu, e⟩
      · rintro ⟨c, hc, hcu, e⟩
        refine ⟨c, ?_, hcu, e⟩
        have := mm' b hb
        rcases cases3 hc with hc | hc
        · rcases place c hc with ⟨q0, q1, q2, q3⟩ | ⟨_, q1, q2, q3⟩
          · simp [q0]
          · omega
        · simp [hc]
  · rcases cases3 hb with hb | hb
    · have htl := I.tail b (old b hb) hu
      refine Eq.trans ?_ htl
      rcases place b hb with ⟨_, p1, p2, p3⟩ | ⟨_, p1, p2, p3⟩
      · exact (out (b.a + b.n - 1) (.inl (by omega))).1
      · exact (out (b.a + b.n - 1) (.inr (by omega))).1
    · exact tl b hb hu
  · rcases cases3 hb with hb | hb
    · rw [← I.cont b (old b hb) hu i hi]
      rcases place b hb with ⟨_, p1, p2, p3⟩ | ⟨_, p1, p2, p3⟩
      · exact same b hb _ (.inl (by omega)) (.inr ⟨hu, by omega, by omega⟩)
      · exact same b hb _ (.inr (by omega)) (.inr ⟨hu, by omega, by omega⟩)
    · exact ct b hb hu i hi
  · rcases cases3 hb with hb | hb
    · exact I.unm b (old b hb) hu
    · exact um b hb hu
  · rw [tk1, I.taken]
    constructor
    · rintro (⟨⟨b, hb, hu, e⟩, h⟩ | ⟨b, hb, hu, e⟩)
      · refine ⟨b, ?_, hu, e⟩
        rcases cases3 hb with hb | hb
        · simp at hb ⊢; grind
        · have := mm b hb; omega
      · exact ⟨b, by simp [hb], hu, e⟩
    · rintro ⟨b, hb, hu, e⟩
      rcases cases3 hb with hb | hb
      · exact .inl ⟨⟨b, old b hb, hu, e⟩, by rcases place b hb with ⟨_, p1, p2, p3⟩ | ⟨_, p1, p2, p3⟩ <;> omega⟩
      · exact .inr ⟨b, hb, hu, e⟩
  · rw [mk1, I.marked]
    constructor
    · rintro (⟨⟨b, hb, hu, e⟩, h⟩ | ⟨b, hb, hu, e⟩)
      · refine ⟨b, ?_, hu, e⟩
        rcases cases3 hb with hb | hb
        · simp at hb ⊢; grind
        · have := mm b hb; omega
      · exact ⟨b, by simp [hb], hu, e⟩
    · rintro ⟨b, hb, hu, e⟩
      rcases cases3 hb with hb | hb
      · exact .inl ⟨⟨b, old b hb, hu, e⟩, by rcases place b hb with ⟨_, p1, p2, p3⟩ | ⟨_, p1, p2, p3⟩ <;> omega⟩
      · exact .inr ⟨b, hb, hu, e⟩
  · have := I.sum
    rw [usedSum_append, usedSum_append] at this ⊢
    omega
  · by_cases hbm : b ∈ mid' ∨ c ∈ mid'
    · have hbb : b ∈ pre ++ mid' ∨ b ∈ post := by simp at hb ⊢; grind
      have hcc : c ∈ mid' ++ post ∨ c ∈ pre := by simp at hc ⊢; grind
      rcases hbb with hb1 | hb1
      · rcases hcc with hc1 | hc1
        · exact adj1 b hb1 c hc1 hbu hcu hbm
        · have a1 := pm c hc1
          rcases List.mem_append.1 hb1 with hb2 | hb2
          · have a2 := pm b hb2
            rcases hbm with h | h
            · have := mm' b h; omega
            · have := mm' c h; omega
          · have := mm' b hb2; omega
      · have a1 := qm b hb1
        rcases hcc with hc1 | hc1
        · rcases List.mem_append.1 hc1 with hc2 | hc2
          · have := mm' c hc2; omega
          · rcases hbm with h | h
            · have := mm' b h; omega
            · have := mm' c h; omega
        · have := pm c hc1; omega
    · have hb1 : b ∈ pre ++ post := by rcases cases3 hb with h | h; exact h; exact absurd (.inl h) hbm
      have hc1 : c ∈ pre ++ post := by rcases cases3 hc with h | h; exact h; exact absurd (.inr h) hbm
      exact I.adj b (old b hb1) c (old c hc1) hbu hcu
end Go.Proofs.YtelohkppbmahnaaDoor
