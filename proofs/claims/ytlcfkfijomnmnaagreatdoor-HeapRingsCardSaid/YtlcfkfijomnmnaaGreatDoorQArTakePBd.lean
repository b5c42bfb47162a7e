import Derived.Test.YtlcfkfijomnmnaaGreatDoorQArFindBd
namespace Go.Proofs.YtlcfkfijomnmnaaGreatDoor
section
variable {V : Type}
structure Blk where
  a : Nat
  ws : List Nat
  u : Bool
  m : Bool
deriving DecidableEq
def Blk.n (b : Blk) : Nat := b.ws.length
def Span : Nat → List Blk → Nat → Prop
  | s, [], t => s = t
  | s, b :: r, t => b.a = s ∧ 0 < b.n ∧ Span (s + b.n + 1) r t
theorem Span.append {s t : Nat} : ∀ {l r : List Blk}, Span s (l ++ r) t ↔ ∃ m, Span s l m ∧ Span m r t
  | [], r => ⟨fun h => ⟨s, rfl, h⟩, fun ⟨m, h1, h2⟩ => by have h1 : s = m := h1; subst h1; exact h2⟩
  | b :: l, r => by
    show (b.a = s ∧ 0 < b.n ∧ Span _ (l ++ r) t) ↔ _
    rw [Span.append]
    exact ⟨fun ⟨h1, h2, m, h3, h4⟩ => ⟨m, ⟨h1, h2, h3⟩, h4⟩, fun ⟨m, ⟨h1, h2, h3⟩, h4⟩ => ⟨h1, h2, m, h3, h4⟩⟩
theorem Span.le : ∀ {l : List Blk} {s t : Nat}, Span s l t → s ≤ t
  | [], _, _, h => Nat.le_of_eq h
  | b :: l, s, t, ⟨_, _, h⟩ => by have := Span.le h; omega
theorem Span.mem : ∀ {l : List Blk} {s t : Nat}, Span s l t → ∀ b ∈ l, s ≤ b.a ∧ 0 < b.n ∧ b.a + b.n + 1 ≤ t
  | [], _, _, _, b, hb => by simp at hb
  | c :: l, s, t, ⟨h1, h2, h3⟩, b, hb => by
    rcases List.mem_cons.1 hb with rfl | hb
    · have := Span.le h3; omega
    · have := Span.mem h3 b hb; omega
theorem Span.sep : ∀ {l : List Blk} {s t : Nat}, Span s l t → ∀ b ∈ l, ∀ c ∈ l, b = c ∨ b.a + b.n + 1 ≤ c.a ∨ c.a + c.n + 1 ≤ b.a
  | [], _, _, _, b, hb, _, _ => by simp at hb
  | d :: l, s, t, ⟨h1, h2, h3⟩, b, hb, c, hc => by
    rcases List.mem_cons.1 hb with h4 | h4
    · rcases List.mem_cons.1 hc with h5 | h5
      · exact .inl (by rw [h4, h5])
      · have := Span.mem h3 c h5; subst h4; exact .inr (.inl (by omega))
    · rcases List.mem_cons.1 hc with h5 | h5
      · have := Span.mem h3 b h4; subst h5; exact .inr (.inr (by omega))
      · exact Span.sep h3 b h4 c h5
theorem Span.inj {l : List Blk} {s t : Nat} (h : Span s l t) {b c : Blk} (hb : b ∈ l) (hc : c ∈ l) (e : b.a = c.a) : b = c := by
  rcases h.sep b hb c hc with h1 | h1 | h1
  · exact h1
  · omega
  · omega
def frF (bs : List Blk) (x s : Nat) : Prop := ∃ b ∈ bs, b.u = false ∧ b.a = x ∧ b.n = s
def usedSum (bs : List Blk) : Nat := (bs.map fun b => if b.u then b.n + 1 else 0).sum
theorem usedSum_append (l r : List Blk) : usedSum (l ++ r) = usedSum l + usedSum r := by simp [usedSum, List.sum_append]
theorem usedSum_cons (b : Blk) (r : List Blk) : usedSum (b :: r) = (if b.u then b.n + 1 else 0) + usedSum r := by simp [usedSum]
def endOf (n : Nat) : Nat := if 2 ≤ n then n + 1 else 1
structure Inv (ws : List Nat) (tk mk : Nat → Bool) (used : Nat) (L : List (List (Ent V))) (bs : List Blk) : Prop where
  small : ws.length ≤ 1048576
  span : Span 1 bs (endOf ws.length)
  head : ∀ b ∈ bs, ws.getD (b.a - 1) 0 / 2 = b.n
  bit : ∀ b ∈ bs, (ws.getD (b.a - 1) 0 % 2 = 1 ↔ ∃ c ∈ bs, c.u = false ∧ c.a + c.n + 1 = b.a)
  tail : ∀ b ∈ bs, b.u = false → ws.getD (b.a + b.n - 1) 0 / 4294967296 = b.n
  cont : ∀ b ∈ bs, b.u = true → ∀ i, i < b.n → ws.getD (b.a + i) 0 = b.ws.getD i 0
  unm : ∀ b ∈ bs, b.u = false → b.m = false
  taken : ∀ x, tk x = true ↔ ∃ b ∈ bs, b.u = true ∧ b.a = x
  marked : ∀ x, mk x = true ↔ ∃ b ∈ bs, b.m = true ∧ b.a = x
  sum : used = usedSum bs
  adj : ∀ b ∈ bs, ∀ c ∈ bs, b.u = false → c.u = false → c.a ≠ b.a + b.n + 1
  lists : ListsOk L ws (frF bs)
  lens : L.length = (if ws.length = 0 then 0 else Nat.log2 ws.length + 1) + 1
theorem Inv.end_le {ws : List Nat} {tk mk : Nat → Bool} {used : Nat} {L : List (List (Ent V))} {bs : List Blk} (I : Inv ws tk mk used L bs) : ∀ b ∈ bs, 1 ≤ b.a ∧ 0 < b.n ∧ b.a + b.n ≤ ws.length := by
  intro b hb
  have := I.span.mem b hb
  unfold endOf at this
  split at this <;> omega
theorem Inv.replace {ws ws' : List Nat} {tk tk' mk mk' : Nat → Bool} {used used' : Nat} {L L' : List (List (Ent V))} {pre mid mid' post : List Blk} {s t : Nat}
    (I : Inv ws tk mk used L (pre ++ mid ++ post)) (h2 : 2 ≤ ws.length)
    (hs : Span 1 pre s) (hm : Span s mid t) (hm' : Span s mid' t) (hp : Span t post (ws.length + 1)) (hst : s < t)
    (len : ws'.length = ws.length)
    (out : ∀ k, k < s - 1 ∨ t - 1 < k → ws'.getD k 0 / 4294967296 = ws.getD k 0 / 4294967296 ∧ ((∀ c ∈ pre ++ post, c.u = false → c.a ≠ k) → ws'.getD k 0 = ws.getD k 0))
    (nxt : t ≤ ws.length → ws'.getD (t - 1) 0 / 2 = ws.getD (t - 1) 0 / 2 ∧ (ws'.getD (t - 1) 0 % 2 = 1 ↔ ∃ c ∈ mid', c.u = false ∧ c.a + c.n + 1 = t))
    (hd : ∀ b ∈ mid', ws'.getD (b.a - 1) 0 / 2 = b.n)
    (bt : ∀ b ∈ mid', (ws'.getD (b.a - 1) 0 % 2 = 1 ↔ ∃ c ∈ pre ++ mid', c.u = false ∧ c.a + c.n + 1 = b.a))
    (tl : ∀ b ∈ mid', b.u = false → ws'.getD (b.a + b.n - 1) 0 / 4294967296 = b.n)
    (ct : ∀ b ∈ mid', b.u = true → ∀ i, i < b.n → ws'.getD (b.a + i) 0 = b.ws.getD i 0)
    (um : ∀ b ∈ mid', b.u = false → b.m = false)
    (tk1 : ∀ x, tk' x = true ↔ (tk x = true ∧ (x < s ∨ t ≤ x)) ∨ ∃ b ∈ mid', b.u = true ∧ b.a = x)
    (mk1 : ∀ x, mk' x = true ↔ (mk x = true ∧ (x < s ∨ t ≤ x)) ∨ ∃ b ∈ mid', b.m = true ∧ b.a = x)
    (sum1 : used' + usedSum mid = used + usedSum mid')
    (adj1 : ∀ b ∈ pre ++ mid', ∀ c ∈ mid' ++ post, b.u = false → c.u = false → (b ∈ mid' ∨ c ∈ mid') → c.a ≠ b.a + b.n + 1)
    (lists1 : ListsOk L' ws' (frF (pre ++ mid' ++ post))) (lens1 : L'.length = L.length) :
    Inv ws' tk' mk' used' L' (pre ++ mid' ++ post) := by
  have pm := hs.mem
  have mm := hm.mem
  have mm' := hm'.mem
  have qm := hp.mem
  have s1 := hs.le
  have old : ∀ d ∈ pre ++ post, d ∈ pre ++ mid ++ post := fun d hd => by simp at hd ⊢; grind
  have cases3 : ∀ {d : Blk} {l : List Blk}, d ∈ pre ++ l ++ post → d ∈ pre ++ post ∨ d ∈ l := fun hd => by simp at hd ⊢; grind
  have esp : endOf ws.length = ws.length + 1 := if_pos h2
  have sepo := I.span.sep
  -- what lies outside
  have same : ∀ d ∈ pre ++ post, ∀ k, (k < s - 1 ∨ t - 1 < k) → (k = d.a - 1 ∨ (d.u = true ∧ d.a ≤ k ∧ k < d.a + d.n)) → ws'.getD k 0 = ws.getD k 0 := by
    intro d hd k hk hkd
    refine (out k hk).2 (fun c hc hcu e => ?_)
    have hdp := I.end_le d (old d hd)
    have hcp := I.end_le c (old c hc)
    rcases sepo c (old c hc) d (old d hd) with rfl | h | h
    · rcases hkd with h | ⟨h, _⟩
      · omega
      · rw [hcu] at h; cases h
    · rcases hkd with h | ⟨_, h, _⟩ <;> omega
    · rcases hkd with h | ⟨_, h, h'⟩ <;> omega
  have place : ∀ d ∈ pre ++ post, (d ∈ pre ∧ d.a + d.n + 1 ≤ s ∧ 1 ≤ d.a ∧ 0 < d.n) ∨ (d ∈ post ∧ t ≤ d.a ∧ 0 < d.n ∧ d.a + d.n ≤ ws.length) := fun d hd => by
    rcases List.mem_append.1 hd with h | h
    · have := pm d h; exact .inl ⟨h, by omega, by omega, by omega⟩
    · have := qm d h; exact .inr ⟨h, by omega, by omega, by omega⟩
  refine ⟨by rw [len]; exact I.small, ?_, fun b hb => ?_, fun b hb => ?_, fun b hb hu => ?_, fun b hb hu i hi => ?_, fun b hb hu => ?_, fun x => ?_, fun x => ?_, ?_, fun b hb c hc hbu hcu => ?_, lists1, by rw [lens1, len]; exact I.lens⟩
  · rw [len, esp]
    rw [Span.append]
    refine ⟨t, ?_, hp⟩
    rw [Span.append]
    exact ⟨s, hs, hm'⟩
  · rcases cases3 hb with hb | hb
    · rw [← I.head b (old b hb)]
      rcases place b hb with ⟨_, p1, p2, p3⟩ | ⟨_, p1, p2, p3⟩
      · rw [same b hb _ (.inl (by omega)) (.inl rfl)]
      · by_cases e : b.a = t
        · rw [e]; exact (nxt (by omega)).1
        · rw [same b hb _ (.inr (by omega)) (.inl rfl)]
    · exact hd b hb
  · rcases cases3 hb with hb | hb
    · have hold := I.bit b (old b hb)
      rcases place b hb with ⟨p0, p1, p2, p3⟩ | ⟨p0, p1, p2, p3⟩
      · rw [same b hb _ (.inl (by omega)) (.inl rfl), hold]
        constructor
        · rintro ⟨c, hc, hcu, e⟩
          refine ⟨c, ?_, hcu, e⟩
          rcases cases3 hc with hc | hc
          · simp at hc ⊢; grind
          · have := mm c hc; omega
        · rintro ⟨c, hc, hcu, e⟩
          refine ⟨c, ?_, hcu, e⟩
          rcases cases3 hc with hc | hc
          · exact old c hc
          · have := mm' c hc; omega
      · by_cases e : b.a = t
        · rw [e, (nxt (by omega)).2]
          constructor
          · rintro ⟨c, hc, hcu, e'⟩
            exact ⟨c, by simp [hc], hcu, e'⟩
          · rintro ⟨c, hc, hcu, e'⟩
            refine ⟨c, ?_, hcu, e'⟩
            rcases cases3 hc with hc | hc
            · rcases place c hc with ⟨_, q1, q2, q3⟩ | ⟨_, q1, q2, q3⟩ <;> omega
            · exact hc
        · rw [same b hb _ (.inr (by omega)) (.inl rfl), hold]
          constructor
          · rintro ⟨c, hc, hcu, e'⟩
            refine ⟨c, ?_, hcu, e'⟩
            rcases cases3 hc with hc | hc
            · simp at hc ⊢; grind
            · have := mm c hc; omega
          · rintro ⟨c, hc, hcu, e'⟩
            refine ⟨c, ?_, hcu, e'⟩
            rcases cases3 hc with hc | hc
            · exact old c hc
            · have := mm' c hc; omega
    · rw [bt b hb]
      constructor
      · rintro ⟨c, hc, hcu, e⟩
        exact ⟨c, by simp at hc ⊢; grind, hcu, e⟩
      · rintro ⟨c, hc, hcu, e⟩
        refine ⟨c, ?_, hcu, e⟩
        have := mm' b hb
        rcases cases3 hc with hc | hc
        · rcases place c hc with ⟨q0, q1, q2, q3⟩ | ⟨_, q1, q2, q3⟩
          · simp [q0]
          · omega
        · simp [hc]
  · rcases cases3 hb with hb | hb
    · have htl := I.tail b (old b hb) hu
      refine Eq.trans ?_ htl
      rcases place b hb with ⟨_, p1, p2, p3⟩ | ⟨_, p1, p2, p3⟩
      · exact (out (b.a + b.n - 1) (.inl (by omega))).1
      · exact (out (b.a + b.n - 1) (.inr (by omega))).1
    · exact tl b hb hu
  · rcases cases3 hb with hb | hb
    · rw [← I.cont b (old b hb) hu i hi]
      rcases place b hb with ⟨_, p1, p2, p3⟩ | ⟨_, p1, p2, p3⟩
      · exact same b hb _ (.inl (by omega)) (.inr ⟨hu, by omega, by omega⟩)
      · exact same b hb _ (.inr (by omega)) (.inr ⟨hu, by omega, by omega⟩)
    · exact ct b hb hu i hi
  · rcases cases3 hb with hb | hb
    · exact I.unm b (old b hb) hu
    · exact um b hb hu
  · rw [tk1, I.taken]
    constructor
    · rintro (⟨⟨b, hb, hu, e⟩, h⟩ | ⟨b, hb, hu, e⟩)
      · refine ⟨b, ?_, hu, e⟩
        rcases cases3 hb with hb | hb
        · simp at hb ⊢; grind
        · have := mm b hb; omega
      · exact ⟨b, by simp [hb], hu, e⟩
    · rintro ⟨b, hb, hu, e⟩
      rcases cases3 hb with hb | hb
      · exact .inl ⟨⟨b, old b hb, hu, e⟩, by rcases place b hb with ⟨_, p1, p2, p3⟩ | ⟨_, p1, p2, p3⟩ <;> omega⟩
      · exact .inr ⟨b, hb, hu, e⟩
  · rw [mk1, I.marked]
    constructor
    · rintro (⟨⟨b, hb, hu, e⟩, h⟩ | ⟨b, hb, hu, e⟩)
      · refine ⟨b, ?_, hu, e⟩
        rcases cases3 hb with hb | hb
        · simp at hb ⊢; grind
        · have := mm b hb; omega
      · exact ⟨b, by simp [hb], hu, e⟩
    · rintro ⟨b, hb, hu, e⟩
      rcases cases3 hb with hb | hb
      · exact .inl ⟨⟨b, old b hb, hu, e⟩, by rcases place b hb with ⟨_, p1, p2, p3⟩ | ⟨_, p1, p2, p3⟩ <;> omega⟩
      · exact .inr ⟨b, hb, hu, e⟩
  · have := I.sum
    rw [usedSum_append, usedSum_append] at this ⊢
    omega
  · by_cases hbm : b ∈ mid' ∨ c ∈ mid'
    · have hbb : b ∈ pre ++ mid' ∨ b ∈ post := by simp at hb ⊢; grind
      have hcc : c ∈ mid' ++ post ∨ c ∈ pre := by simp at hc ⊢; grind
      rcases hbb with hb1 | hb1
      · rcases hcc with hc1 | hc1
        · exact adj1 b hb1 c hc1 hbu hcu hbm
        · have a1 := pm c hc1
          rcases List.mem_append.1 hb1 with hb2 | hb2
          · have a2 := pm b hb2
            rcases hbm with h | h
            · have := mm' b h; omega
            · have := mm' c h; omega
          · have := mm' b hb2; omega
      · have a1 := qm b hb1
        rcases hcc with hc1 | hc1
        · rcases List.mem_append.1 hc1 with hc2 | hc2
          · have := mm' c hc2; omega
          · rcases hbm with h | h
            · have := mm' b h; omega
            · have := mm' c h; omega
        · have := pm c hc1; omega
    · have hb1 : b ∈ pre ++ post := by rcases cases3 hb with h | h; exact h; exact absurd (.inl h) hbm
      have hc1 : c ∈ pre ++ post := by rcases cases3 hc with h | h; exact h; exact absurd (.inr h) hbm
      exact I.adj b (old b hb1) c (old c hc1) hbu hcu
end
section
theorem getD_splice (l zs : List Nat) (x k : Nat) (h : x + zs.length ≤ l.length) : (splice l x zs).getD k 0 = if x ≤ k ∧ k < x + zs.length then zs.getD (k - x) 0 else l.getD k 0 := by
  unfold splice
  have hl : (l.take x).length = x := by rw [List.length_take]; omega
  simp only [List.getD_eq_getElem?_getD]
  by_cases h1 : k < x
  · rw [List.getElem?_append_left (by omega), List.getElem?_take, if_pos h1, if_neg (by omega)]
  · rw [List.getElem?_append_right (by omega), hl]
    by_cases h2 : k - x < zs.length
    · rw [List.getElem?_append_left h2, if_pos (by omega)]
    · rw [List.getElem?_append_right (by omega), List.getElem?_drop, if_neg (by omega)]
      congr 2
      omega
theorem ListsOk.congr {V : Type} {L : List (List (Ent V))} {ws : List Nat} {F G : Nat → Nat → Prop} (k : ListsOk L ws F) (h : ∀ x s, F x s ↔ G x s) : ListsOk L ws G := by
  have : F = G := by funext x s; exact propext (h x s)
  rw [← this]; exact k
def zeros (n : Nat) : List Nat := List.replicate n 0
theorem zeros_len (n : Nat) : (zeros n).length = n := by simp [zeros]
theorem zeros_getD (n i : Nat) : (zeros n).getD i 0 = 0 := by
  simp only [zeros, List.getD_eq_getElem?_getD, List.getElem?_replicate]
  split <;> rfl
theorem relP_len (ws : List Nat) (x s : Nat) : (relP ws x s).length = ws.length := by simp [relP, tellP]
theorem relP_off (ws : List Nat) (x s k : Nat) (h1 : k ≠ x - 1) (h2 : k ≠ x + s - 1) (h3 : k ≠ x + s) : (relP ws x s).getD k 0 = ws.getD k 0 := by
  unfold relP tellP
  rw [getD_set', if_neg (fun h => h3 h.1), getD_set', if_neg (fun h => h2 h.1), getD_set', if_neg (fun h => h1 h.1)]
theorem relP_head (ws : List Nat) (x s : Nat) (hx : 1 ≤ x) (hs : 0 < s) (hl : x + s ≤ ws.length) : (relP ws x s).getD (x - 1) 0 = 2 * s := by
  unfold relP tellP
  rw [getD_set', if_neg (fun h => by omega), getD_set', if_neg (fun h => by omega), getD_set', if_pos ⟨rfl, by omega⟩]
theorem relP_tail (ws : List Nat) (x s : Nat) (hx : 1 ≤ x) (hs : 0 < s) (hl : x + s ≤ ws.length) : (relP ws x s).getD (x + s - 1) 0 = s * 4294967296 + ws.getD (x + s - 1) 0 % 4294967296 := by
  unfold relP tellP
  rw [getD_set', if_neg (fun h => by omega), getD_set', if_pos ⟨rfl, by simp; omega⟩]
theorem relP_next (ws : List Nat) (x s : Nat) (hx : 1 ≤ x) (hs : 0 < s) (hl : x + s < ws.length) : (relP ws x s).getD (x + s) 0 = ws.getD (x + s) 0 / 2 * 2 + 1 := by
  unfold relP tellP
  rw [getD_set', if_pos ⟨rfl, by simp; omega⟩]
  rw [getD_set', if_neg (fun h => by omega), getD_set', if_neg (fun h => by omega)]
  rfl
theorem tellP_at (ws : List Nat) (e : Nat) (b : Bool) (he : e < ws.length) : (tellP ws e b).getD e 0 = ws.getD e 0 / 2 * 2 + (if b then 1 else 0) := by
  unfold tellP; rw [getD_set', if_pos ⟨rfl, he⟩]
theorem tellP_off (ws : List Nat) (e k : Nat) (b : Bool) (h : k ≠ e) : (tellP ws e b).getD k 0 = ws.getD k 0 := by
  unfold tellP; rw [getD_set', if_neg (fun q => h q.1)]
section
variable {V : Type} {ws : List Nat} {tk mk : Nat → Bool} {used : Nat} {L : List (List (Ent V))} {pre post : List Blk} {b : Blk}
theorem Inv.two (I : Inv ws tk mk used L (pre ++ [b] ++ post)) : 2 ≤ ws.length := by
  have := I.end_le b (by simp); omega
theorem Inv.parts (I : Inv ws tk mk used L (pre ++ [b] ++ post)) : Span 1 pre b.a ∧ 0 < b.n ∧ Span (b.a + b.n + 1) post (ws.length + 1) ∧ 1 ≤ b.a ∧ b.a + b.n ≤ ws.length := by
  have h := I.span
  rw [show endOf ws.length = ws.length + 1 from if_pos I.two, Span.append] at h
  obtain ⟨t, h1, h2⟩ := h
  rw [Span.append] at h1
  obtain ⟨s, h3, h4⟩ := h1
  obtain ⟨h5, h6, h7⟩ := h4
  have h7 : s + b.n + 1 = t := h7
  subst h5
  subst h7
  have := I.end_le b (by simp)
  exact ⟨h3, h6, h2, this.1, this.2.2⟩
theorem Inv.outside (I : Inv ws tk mk used L (pre ++ [b] ++ post)) {c : Blk} (hc : c ∈ pre ++ [b] ++ post) (hne : c.a ≠ b.a) : c.a + c.n + 1 ≤ b.a ∨ b.a + b.n + 1 ≤ c.a := by
  rcases I.span.sep c hc b (by simp) with h | h | h
  · exact absurd (by rw [h]) hne
  · exact .inl h
  · exact .inr h
theorem Inv.noF (I : Inv ws tk mk used L (pre ++ [b] ++ post)) : (∀ t, ¬ frF (pre ++ [b] ++ post) (b.a - 1) t) ∧ (∀ t, ¬ frF (pre ++ [b] ++ post) (b.a + b.n) t) ∧ ∀ k, b.a < k → k ≤ b.a + b.n → ∀ t, ¬ frF (pre ++ [b] ++ post) k t := by
  have hp := I.parts
  have gen : ∀ k, b.a - 1 ≤ k → k ≤ b.a + b.n → k ≠ b.a → ∀ t, ¬ frF (pre ++ [b] ++ post) k t := by
    rintro k h1 h2 h3 t ⟨c, hc, _, rfl, _⟩
    have h4 := I.end_le c hc
    rcases I.outside hc h3 with h | h <;> omega
  exact ⟨gen _ (Nat.le_refl _) (by omega) (by omega), gen _ (by omega) (Nat.le_refl _) (by omega), fun k h1 h2 => gen k (by omega) h2 (by omega)⟩
theorem Inv.lessF (I : Inv ws tk mk used L (pre ++ [b] ++ post)) (y t : Nat) : less (frF (pre ++ [b] ++ post)) b.a y t ↔ ∃ c ∈ pre ++ post, c.u = false ∧ c.a = y ∧ c.n = t := by
  constructor
  · rintro ⟨h1, c, hc, h2, rfl, rfl⟩
    refine ⟨c, ?_, h2, rfl, rfl⟩
    simp at hc ⊢
    rcases hc with h | h | h
    · exact .inl h
    · subst h; exact absurd rfl h1
    · exact .inr h
  · rintro ⟨c, hc, h2, rfl, rfl⟩
    have hc2 : c ∈ pre ++ [b] ++ post := by simp at hc ⊢; rcases hc with h | h; exact .inl h; exact .inr (.inr h)
    refine ⟨fun e => ?_, c, hc2, h2, rfl, rfl⟩
    have hp := I.parts
    rcases List.mem_append.1 hc with h | h
    · have := hp.1.mem c h; omega
    · have := hp.2.2.1.mem c h; omega
theorem take_whole (I : Inv ws tk mk used L (pre ++ [b] ++ post)) (hu : b.u = false) {ws1 : List Nat} {L1 : List (List (Ent V))}
    (ok1 : ListsOk L1 ws1 (less (frF (pre ++ [b] ++ post)) b.a)) (hL1 : L1.length = L.length) (lo1 : LowOnly (fun y => y ≠ b.a ∧ frF (pre ++ [b] ++ post) y b.n) ws ws1) :
    Inv (splice ((tellP ws1 (b.a + b.n) false).set (b.a - 1) (2 * b.n)) b.a (zeros b.n)) (turned tk b.a true) mk (used + b.n + 1) L1 (pre ++ [⟨b.a, zeros b.n, true, false⟩] ++ post) := by
  obtain ⟨p1, p2, p3, p4, p5⟩ := I.parts
  obtain ⟨f1, f2, f3⟩ := I.noF
  have hl1 := lo1.len
  have two := I.two
  have hl2 : ((tellP ws1 (b.a + b.n) false).set (b.a - 1) (2 * b.n)).length = ws.length := by simp [tellP, hl1]
  have sl := fun k => getD_splice ((tellP ws1 (b.a + b.n) false).set (b.a - 1) (2 * b.n)) (zeros b.n) b.a k (by rw [hl2, zeros_len]; exact p5)
  simp only [zeros_len] at sl
  have sl2 : ∀ k, k < b.a - 1 ∨ b.a + b.n < k → (splice ((tellP ws1 (b.a + b.n) false).set (b.a - 1) (2 * b.n)) b.a (zeros b.n)).getD k 0 = ws1.getD k 0 := fun k hk => by
    rw [sl, if_neg (by omega), getD_set', if_neg (by omega), tellP_off _ _ _ _ (by omega)]
  have lx : ∀ y, (y ≠ b.a ∧ frF (pre ++ [b] ++ post) y b.n) → ∃ c ∈ pre ++ post, c.u = false ∧ c.a = y := fun y hy => by
    obtain ⟨c, h1, h2, h3, _⟩ := (I.lessF y b.n).1 hy
    exact ⟨c, h1, h2, h3⟩
  have hn' : (⟨b.a, zeros b.n, true, false⟩ : Blk).n = b.n := zeros_len _
  have hpos : b.a - 1 < ws1.length := by omega
  have head' : (splice ((tellP ws1 (b.a + b.n) false).set (b.a - 1) (2 * b.n)) b.a (zeros b.n)).getD (b.a - 1) 0 = 2 * b.n := by
    rw [sl, if_neg (by omega), getD_set', if_pos ⟨rfl, by simp [tellP, hl1]; omega⟩]
  have sm' : Span b.a [(⟨b.a, zeros b.n, true, false⟩ : Blk)] (b.a + b.n + 1) := ⟨rfl, by rw [hn']; exact p2, by rw [hn']; rfl⟩
  refine I.replace (mid := [b]) (mid' := [⟨b.a, zeros b.n, true, false⟩]) (s := b.a) (t := b.a + b.n + 1) two p1 ⟨rfl, p2, rfl⟩ sm' p3 (by omega) (by rw [length_splice _ _ _ (by rw [hl2, zeros_len]; exact p5), hl2]) (fun k hk => ?_) (fun ht => ?_) (fun c hc => ?_) (fun c hc => ?_) (fun c hc hcu => ?_) (fun c hc _ i hi => ?_) (fun c hc hcu => ?_) (fun y => ?_) (fun y => ?_) ?_ (fun c hc d hd hcu hdu hm => ?_) ?_ hL1
  · rw [sl2 k (by omega)]
    exact ⟨lo1.up k, fun h => lo1.off k (fun hx => by obtain ⟨c, h1, h2, h3⟩ := lx k hx; exact h c h1 h2 h3)⟩
  · have e : b.a + b.n + 1 - 1 = b.a + b.n := by omega
    rw [e, sl, if_neg (by omega), getD_set', if_neg (by omega), tellP_at _ _ _ (by omega)]
    rw [lo1.off (b.a + b.n) (fun hx => f2 _ hx.2)]
    refine ⟨by simp, ?_⟩
    constructor
    · intro h; simp at h
    · rintro ⟨c, hc, hcu, _⟩; rw [List.mem_singleton.1 hc] at hcu; cases hcu
  · rw [List.mem_singleton.1 hc, hn']; dsimp only; rw [head']; omega
  · rw [List.mem_singleton.1 hc]; dsimp only; rw [head']
    constructor
    · intro h; omega
    · rintro ⟨d, hd, hdu, he⟩
      rcases List.mem_append.1 hd with h | h
      · exact absurd he.symm (I.adj d (by simp [h]) b (by simp) hdu hu)
      · rw [List.mem_singleton.1 h] at hdu; cases hdu
  · rw [List.mem_singleton.1 hc] at hcu; cases hcu
  · rw [List.mem_singleton.1 hc] at hi ⊢
    rw [hn'] at hi
    dsimp only
    rw [sl, if_pos (by omega), zeros_getD, zeros_getD]
  · rw [List.mem_singleton.1 hc] at hcu; cases hcu
  · unfold turned
    by_cases e : y = b.a
    · rw [if_pos e]; exact ⟨fun _ => .inr ⟨_, List.mem_singleton.2 rfl, rfl, e.symm⟩, fun _ => rfl⟩
    · rw [if_neg e]
      constructor
      · intro h
        obtain ⟨c, hc, hcu, rfl⟩ := (I.taken y).1 h
        exact .inl ⟨h, by have := I.outside hc e; omega⟩
      · rintro (h | ⟨c, hc, _, hy⟩)
        · exact h.1
        · rw [List.mem_singleton.1 hc] at hy; exact absurd hy.symm e
  · constructor
    · intro h
      obtain ⟨c, hc, hcm, rfl⟩ := (I.marked y).1 h
      refine .inl ⟨h, ?_⟩
      by_cases e : c.a = b.a
      · have := I.span.inj hc (by simp : b ∈ pre ++ [b] ++ post) e
        rw [this, I.unm b (by simp) hu] at hcm; cases hcm
      · have := I.outside hc e; omega
    · rintro (h | ⟨c, hc, hcm, _⟩)
      · exact h.1
      · rw [List.mem_singleton.1 hc] at hcm; cases hcm
  · simp [usedSum, hu, Blk.n, zeros_len]
    omega
  · exfalso
    rcases hm with h | h
    · rw [List.mem_singleton.1 h] at hcu; cases hcu
    · rw [List.mem_singleton.1 h] at hdu; cases hdu
  · refine (ok1.same (by rw [length_splice _ _ _ (by rw [hl2, zeros_len]; exact p5), hl2, hl1]) (fun y t hy => ?_)).congr (fun y t => ?_)
    · obtain ⟨h1, hf⟩ := hy
      have g1 : y ≠ b.a - 1 := fun e => f1 t (e ▸ hf)
      have g2 : ¬ (b.a ≤ y ∧ y < b.a + b.n) := fun e => f3 y (by omega) (by omega) t hf
      have g3 : y ≠ b.a + b.n := fun e => f2 t (e ▸ hf)
      rw [sl, if_neg g2, getD_set', if_neg (fun e => g1 e.1), tellP_off _ _ _ _ g3]
    · rw [I.lessF]
      constructor
      · rintro ⟨c, hc, h2, h3, h4⟩
        exact ⟨c, by simp at hc ⊢; rcases hc with h | h; exact .inl h; exact .inr (.inr h), h2, h3, h4⟩
      · rintro ⟨c, hc, h2, h3, h4⟩
        refine ⟨c, ?_, h2, h3, h4⟩
        simp at hc ⊢
        rcases hc with h | h | h
        · exact .inl h
        · rw [h] at h2; cases h2
        · exact .inr h
theorem take_split (I : Inv ws tk mk used L (pre ++ [b] ++ post)) (hu : b.u = false) {n : Nat} (hn : 1 ≤ n) (hnb : n + 2 ≤ b.n) {ws1 ws2 : List Nat} {L2 : List (List (Ent V))}
    (lo1 : LowOnly (fun y => y ≠ b.a ∧ frF (pre ++ [b] ++ post) y b.n) ws ws1) (hL2 : L2.length = L.length)
    (ok2 : ListsOk L2 ws2 (more (less (frF (pre ++ [b] ++ post)) b.a) (b.a + n + 1) (b.n - n - 1)))
    (lo2 : LowOnly (fun y => y = b.a + n + 1 ∨ less (frF (pre ++ [b] ++ post)) b.a y (b.n - n - 1)) (relP ws1 (b.a + n + 1) (b.n - n - 1)) ws2) :
    Inv (splice (ws2.set (b.a - 1) (2 * n)) b.a (zeros n)) (turned tk b.a true) mk (used + n + 1) L2 (pre ++ [⟨b.a, zeros n, true, false⟩, ⟨b.a + n + 1, zeros (b.n - n - 1), false, false⟩] ++ post) := by
  obtain ⟨p1, p2, p3, p4, p5⟩ := I.parts
  obtain ⟨f1, f2, f3⟩ := I.noF
  have two := I.two
  have hl1 := lo1.len
  have hl2 : ws2.length = ws.length := by rw [lo2.len, relP_len, hl1]
  have hl3 : (ws2.set (b.a - 1) (2 * n)).length = ws.length := by simp [hl2]
  obtain ⟨s', hs'⟩ : ∃ s', b.n - n - 1 = s' := ⟨_, rfl⟩
  rw [hs'] at ok2 lo2 ⊢
  obtain ⟨G, hG⟩ : ∃ G, G = splice (ws2.set (b.a - 1) (2 * n)) b.a (zeros n) := ⟨_, rfl⟩
  have sl : ∀ k, G.getD k 0 = if b.a ≤ k ∧ k < b.a + n then 0 else if k = b.a - 1 then 2 * n else ws2.getD k 0 := fun k => by
    have := getD_splice (ws2.set (b.a - 1) (2 * n)) (zeros n) b.a k (by rw [hl3, zeros_len]; omega)
    rw [zeros_len] at this
    rw [hG, this]
    split
    · exact zeros_getD _ _
    · rw [getD_set']
      by_cases e : k = b.a - 1
      · rw [if_pos ⟨e, by omega⟩, if_pos e]
      · rw [if_neg (fun h => e h.1), if_neg e]
  have hGl : G.length = ws.length := by rw [hG, length_splice _ _ _ (by rw [hl3, zeros_len]; omega), hl3]
  rw [← hG]
  have lx1 : ∀ k, (∀ c ∈ pre ++ post, c.u = false → c.a ≠ k) → ws1.getD k 0 = ws.getD k 0 := fun k h => lo1.off k (fun hx => by
    obtain ⟨c, h1, h2, h3, _⟩ := (I.lessF k b.n).1 hx
    exact h c h1 h2 h3)
  have lx2 : ∀ k, (∀ c ∈ pre ++ post, c.u = false → c.a ≠ k) → k ≠ b.a + n + 1 → ws2.getD k 0 = (relP ws1 (b.a + n + 1) s').getD k 0 := fun k h h' => lo2.off k (fun hx => by
    rcases hx with hx | hx
    · exact h' hx
    · obtain ⟨c, h1, h2, h3, _⟩ := (I.lessF k s').1 hx
      exact h c h1 h2 h3)
  have inn : ∀ k, b.a - 1 ≤ k → k ≤ b.a + b.n → ∀ c ∈ pre ++ post, c.u = false → c.a ≠ k := fun k h1 h2 c hc _ e => by
    rcases List.mem_append.1 hc with h | h
    · have := p1.mem c h; omega
    · have := p3.mem c h; omega
  have z1 : (⟨b.a, zeros n, true, false⟩ : Blk).n = n := zeros_len _
  have z2 : (⟨b.a + n + 1, zeros s', false, false⟩ : Blk).n = s' := zeros_len _
  have two2 : ∀ {c : Blk}, c ∈ [(⟨b.a, zeros n, true, false⟩ : Blk), ⟨b.a + n + 1, zeros s', false, false⟩] → c = ⟨b.a, zeros n, true, false⟩ ∨ c = ⟨b.a + n + 1, zeros s', false, false⟩ := fun h => by simpa using h
  have m2 : (⟨b.a + n + 1, zeros s', false, false⟩ : Blk) ∈ [(⟨b.a, zeros n, true, false⟩ : Blk), ⟨b.a + n + 1, zeros s', false, false⟩] := by simp
  have m1 : (⟨b.a, zeros n, true, false⟩ : Blk) ∈ [(⟨b.a, zeros n, true, false⟩ : Blk), ⟨b.a + n + 1, zeros s', false, false⟩] := by simp
  have sm' : Span b.a [(⟨b.a, zeros n, true, false⟩ : Blk), ⟨b.a + n + 1, zeros s', false, false⟩] (b.a + b.n + 1) := by
    refine ⟨rfl, by rw [z1]; exact hn, by dsimp only; rw [z1], by rw [z2]; omega, ?_⟩
    rw [z1, z2]; show _ = _; omega
  have g1 : G.getD (b.a - 1) 0 = 2 * n := by rw [sl, if_neg (by omega), if_pos rfl]
  have g2 : G.getD (b.a + n) 0 = 2 * s' := by
    rw [sl, if_neg (by omega), if_neg (by omega), lx2 _ (inn _ (by omega) (by omega)) (by omega)]
    have := relP_head ws1 (b.a + n + 1) s' (by omega) (by omega) (by omega)
    rw [show b.a + n + 1 - 1 = b.a + n by omega] at this
    exact this
  refine I.replace (mid := [b]) (mid' := [⟨b.a, zeros n, true, false⟩, ⟨b.a + n + 1, zeros s', false, false⟩]) (s := b.a) (t := b.a + b.n + 1) two p1 ⟨rfl, p2, rfl⟩ sm' p3 (by omega) hGl (fun k hk => ?_) (fun ht => ?_) (fun c hc => ?_) (fun c hc => ?_) (fun c hc hcu => ?_) (fun c hc hcu i hi => ?_) (fun c hc hcu => ?_) (fun y => ?_) (fun y => ?_) ?_ (fun c hc d hd hcu hdu hm => ?_) ?_ hL2
  · rw [sl k, if_neg (by omega), if_neg (by omega), lo2.up k, relP_off _ _ _ _ (by omega) (by omega) (by omega)]
    refine ⟨lo1.up k, fun h => ?_⟩
    rw [lx2 k h (by omega), relP_off _ _ _ _ (by omega) (by omega) (by omega)]
    exact lx1 k h
  · have e : b.a + b.n + 1 - 1 = b.a + b.n := by omega
    have e2 : b.a + b.n = b.a + n + 1 + s' := by omega
    have hr := relP_next ws1 (b.a + n + 1) s' (by omega) (by omega) (by omega)
    rw [← e2] at hr
    rw [e, sl, if_neg (by omega), if_neg (by omega), lx2 _ (inn _ (by omega) (by omega)) (by omega), hr, lx1 _ (inn _ (by omega) (by omega))]
    refine ⟨by omega, ?_⟩
    constructor
    · intro _; exact ⟨_, m2, rfl, by rw [z2]; dsimp only; omega⟩
    · intro _; omega
  · rcases two2 hc with h | h
    · rw [h, z1]; dsimp only; rw [g1]; omega
    · rw [h, z2]; dsimp only; rw [show b.a + n + 1 - 1 = b.a + n by omega, g2]; omega
  · rcases two2 hc with h | h
    · rw [h]; dsimp only; rw [g1]
      constructor
      · intro h; omega
      · rintro ⟨d, hd, hdu, he⟩
        rcases List.mem_append.1 hd with h | h
        · exact absurd he.symm (I.adj d (by simp [h]) b (by simp) hdu hu)
        · rcases two2 h with h | h
          · rw [h] at hdu; cases hdu
          · rw [h] at he; dsimp only at he; omega
    · rw [h]; dsimp only; rw [show b.a + n + 1 - 1 = b.a + n by omega, g2]
      constructor
      · intro h; omega
      · rintro ⟨d, hd, hdu, he⟩
        rcases List.mem_append.1 hd with h | h
        · have := p1.mem d h; omega
        · rcases two2 h with h | h
          · rw [h] at hdu; cases hdu
          · rw [h, z2] at he; dsimp only at he; omega
  · rcases two2 hc with h | h
    · rw [h] at hcu; cases hcu
    · rw [h, z2]; dsimp only
      rw [sl, if_neg (by omega), if_neg (by omega), lo2.up, relP_tail ws1 (b.a + n + 1) s' (by omega) (by omega) (by omega)]
      omega
  · rcases two2 hc with h | h
    · rw [h] at hi ⊢
      rw [z1] at hi
      dsimp only
      rw [sl, if_pos (by omega), zeros_getD]
    · rw [h] at hcu; cases hcu
  · rcases two2 hc with h | h
    · rw [h]
    · rw [h]
  · unfold turned
    by_cases e : y = b.a
    · rw [if_pos e]; exact ⟨fun _ => .inr ⟨_, m1, rfl, e.symm⟩, fun _ => rfl⟩
    · rw [if_neg e]
      constructor
      · intro h
        obtain ⟨c, hc, hcu, rfl⟩ := (I.taken y).1 h
        exact .inl ⟨h, by have := I.outside hc e; omega⟩
      · rintro (h | ⟨c, hc, hcu, hy⟩)
        · exact h.1
        · rcases two2 hc with h | h
          · rw [h] at hy; exact absurd hy.symm e
          · rw [h] at hcu; cases hcu
  · constructor
    · intro h
      obtain ⟨c, hc, hcm, rfl⟩ := (I.marked y).1 h
      refine .inl ⟨h, ?_⟩
      by_cases e : c.a = b.a
      · have := I.span.inj hc (by simp : b ∈ pre ++ [b] ++ post) e
        rw [this, I.unm b (by simp) hu] at hcm; cases hcm
      · have := I.outside hc e; omega
    · rintro (h | ⟨c, hc, hcm, _⟩)
      · exact h.1
      · rcases two2 hc with h | h <;> (rw [h] at hcm; cases hcm)
  · simp [usedSum, hu, Blk.n, zeros_len]
    omega
  · have hc2 : c ∈ pre ++ [(⟨b.a, zeros n, true, false⟩ : Blk), ⟨b.a + n + 1, zeros s', false, false⟩] := hc
    rcases List.mem_append.1 hc with h1 | h1
    · have q1 := p1.mem c h1
      rcases List.mem_append.1 hd with h2 | h2
      · rcases two2 h2 with h | h
        · rw [h] at hdu; cases hdu
        · rw [h]; dsimp only; omega
      · have := p3.mem d h2; omega
    · rcases two2 h1 with h | h
      · rw [h] at hcu; cases hcu
      · rw [h, z2]; dsimp only
        rcases List.mem_append.1 hd with h2 | h2
        · rcases two2 h2 with h3 | h3
          · rw [h3] at hdu; cases hdu
          · rw [h3]; dsimp only; omega
        · have := I.adj b (by simp) d (by simp [h2]) hu hdu
          omega
  · refine (ok2.same (by rw [hGl, hl2]) (fun y t hy => ?_)).congr (fun y t => ?_)
    · rw [sl]
      rcases hy with ⟨rfl, _⟩ | ⟨h1, hf⟩
      · rw [if_neg (by omega), if_neg (by omega)]
      · have g1 : y ≠ b.a - 1 := fun e => f1 t (e ▸ hf)
        have g2 : ¬ (b.a ≤ y ∧ y < b.a + n) := fun e => f3 y (by omega) (by omega) t hf
        rw [if_neg g2, if_neg g1]
    · unfold more
      rw [I.lessF]
      constructor
      · rintro (⟨rfl, rfl⟩ | ⟨c, hc, h2, h3, h4⟩)
        · exact ⟨_, List.mem_append.2 (.inl (List.mem_append.2 (.inr m2))), rfl, rfl, z2⟩
        · exact ⟨c, by simp at hc ⊢; rcases hc with h | h; exact .inl h; exact .inr (.inr (.inr h)), h2, h3, h4⟩
      · rintro ⟨c, hc, h2, h3, h4⟩
        rcases List.mem_append.1 hc with hc | hc
        · rcases List.mem_append.1 hc with hc | hc
          · exact .inr ⟨c, by simp [hc], h2, h3, h4⟩
          · rcases two2 hc with h | h
            · rw [h] at h2; cases h2
            · rw [h, z2] at h4; rw [h] at h3; exact .inl ⟨h3.symm, h4.symm⟩
        · exact .inr ⟨c, by simp [hc], h2, h3, h4⟩
end
section
variable {V : Type} {ws : List Nat} {tk mk : Nat → Bool} {used : Nat} {L : List (List (Ent V))} {pre mid post : List Blk} {b : Blk}
end
end
end Go.Proofs.YtlcfkfijomnmnaaGreatDoor
