/- package arena, plain: what Take and Free do to the words, said of the blocks. -/
import Derived.Test.YtelohkppbmahnaaDoorQArFindBd
import Derived.Test.YtelohkppbmahnaaDoorQArInv
namespace Go.Proofs.YtelohkppbmahnaaDoor

theorem getD_splice (l zs : List Nat) (x k : Nat) (h : x + zs.length ≤ l.length) : (splice l x zs).getD k 0 = if x ≤ k ∧ k < x + zs.length then zs.getD (k - x) 0 else l.getD k 0 := by
  unfold splice
  have hl : (l.take x).length = x := by rw [List.length_take]; omega
  simp only [List.getD_eq_getElem?_getD]
  by_cases h1 : k < x
  · rw [List.getElem?_append_left (by omega), List.getElem?_take, if_pos h1, if_neg (by omega)]
  · rw [List.getElem?_append_right (by omega), hl]
    by_cases h2 : k - x < zs.length
    · rw [List.getElem?_append_left h2, if_pos (by omega)]
    · rw [List.getElem?_append_right (by omega), List.getElem?_drop, if_neg (by omega)]
      congr 2
      omega
theorem ListsOk.congr {V : Type} {L : List (List (Ent V))} {ws : List Nat} {F G : Nat → Nat → Prop} (k : ListsOk L ws F) (h : ∀ x s, F x s ↔ G x s) : ListsOk L ws G := by
  have : F = G := by funext x s; exact propext (h x s)
  rw [← this]; exact k
def zeros (n : Nat) : List Nat := List.replicate n 0
theorem zeros_len (n : Nat) : (zeros n).length = n := by simp [zeros]
theorem zeros_getD (n i : Nat) : (zeros n).getD i 0 = 0 := by
  simp only [zeros, List.getD_eq_getElem?_getD, List.getElem?_replicate]
  split <;> rfl
theorem relP_len (ws : List Nat) (x s : Nat) : (relP ws x s).length = ws.length := by simp [relP, tellP]
theorem relP_off (ws : List Nat) (x s k : Nat) (h1 : k ≠ x - 1) (h2 : k ≠ x + s - 1) (h3 : k ≠ x + s) : (relP ws x s).getD k 0 = ws.getD k 0 := by
  unfold relP tellP
  rw [getD_set', if_neg (fun h => h3 h.1), getD_set', if_neg (fun h => h2 h.1), getD_set', if_neg (fun h => h1 h.1)]
theorem relP_head (ws : List Nat) (x s : Nat) (hx : 1 ≤ x) (hs : 0 < s) (hl : x + s ≤ ws.length) : (relP ws x s).getD (x - 1) 0 = 2 * s := by
  unfold relP tellP
  rw [getD_set', if_neg (fun h => by omega), getD_set', if_neg (fun h => by omega), getD_set', if_pos ⟨rfl, by omega⟩]
theorem relP_tail (ws : List Nat) (x s : Nat) (hx : 1 ≤ x) (hs : 0 < s) (hl : x + s ≤ ws.length) : (relP ws x s).getD (x + s - 1) 0 = s * 4294967296 + ws.getD (x + s - 1) 0 % 4294967296 := by
  unfold relP tellP
  rw [getD_set', if_neg (fun h => by omega), getD_set', if_pos ⟨rfl, by simp; omega⟩]
theorem relP_next (ws : List Nat) (x s : Nat) (hx : 1 ≤ x) (hs : 0 < s) (hl : x + s < ws.length) : (relP ws x s).getD (x + s) 0 = ws.getD (x + s) 0 / 2 * 2 + 1 := by
  unfold relP tellP
  rw [getD_set', if_pos ⟨rfl, by simp; omega⟩]
  rw [getD_set', if_neg (fun h => by omega), getD_set', if_neg (fun h => by omega)]
  rfl
theorem tellP_at (ws : List Nat) (e : Nat) (b : Bool) (he : e < ws.length) : (tellP ws e b).getD e 0 = ws.getD e 0 / 2 * 2 + (if b then 1 else 0) := by
  unfold tellP; rw [getD_set', if_pos ⟨rfl, he⟩]
theorem tellP_off (ws : List Nat) (e k : Nat) (b : Bool) (h : k ≠ e) : (tellP ws e b).getD k 0 = ws.getD k 0 := by
  unfold tellP; rw [getD_set', if_neg (fun q => h q.1)]
section
variable {V : Type} {ws : List Nat} {tk mk : Nat → Bool} {used : Nat} {L : List (List (Ent V))} {pre post : List Blk} {b : Blk}
theorem Inv.two (I : Inv ws tk mk used L (pre ++ [b] ++ post)) : 2 ≤ ws.length := by
  have := I.end_le b (by simp); omega
theorem Inv.parts (I : Inv ws tk mk used L (pre ++ [b] ++ post)) : Span 1 pre b.a ∧ 0 < b.n ∧ Span (b.a + b.n + 1) post (ws.length + 1) ∧ 1 ≤ b.a ∧ b.a + b.n ≤ ws.length := by
  have h := I.span
  rw [show endOf ws.length = ws.length + 1 from if_pos I.two, Span.append] at h
  obtain ⟨t, h1, h2⟩ := h
  rw [Span.append] at h1
  obtain ⟨s, h3, h4⟩ := h1
  obtain ⟨h5, h6, h7⟩ := h4
  have h7 : s + b.n + 1 = t := h7
  subst h5
  subst h7
  have := I.end_le b (by simp)
  exact ⟨h3, h6, h2, this.1, this.2.2⟩
/-- An address of another block lies outside. -/
theorem Inv.outside (I : Inv ws tk mk used L (pre ++ [b] ++ post)) {c : Blk} (hc : c ∈ pre ++ [b] ++ post) (hne : c.a ≠ b.a) : c.a + c.n + 1 ≤ b.a ∨ b.a + b.n + 1 ≤ c.a := by
  rcases I.span.sep c hc b (by simp) with h | h | h
  · exact absurd (by rw [h]) hne
  · exact .inl h
  · exact .inr h
/-- No head lies where a free block's address is. -/
theorem Inv.noF (I : Inv ws tk mk used L (pre ++ [b] ++ post)) : (∀ t, ¬ frF (pre ++ [b] ++ post) (b.a - 1) t) ∧ (∀ t, ¬ frF (pre ++ [b] ++ post) (b.a + b.n) t) ∧ ∀ k, b.a < k → k ≤ b.a + b.n → ∀ t, ¬ frF (pre ++ [b] ++ post) k t := by
  have hp := I.parts
  have gen : ∀ k, b.a - 1 ≤ k → k ≤ b.a + b.n → k ≠ b.a → ∀ t, ¬ frF (pre ++ [b] ++ post) k t := by
    rintro k h1 h2 h3 t ⟨c, hc, _, rfl, _⟩
    have h4 := I.end_le c hc
    rcases I.outside hc h3 with h | h <;> omega
  exact ⟨gen _ (Nat.le_refl _) (by omega) (by omega), gen _ (by omega) (Nat.le_refl _) (by omega), fun k h1 h2 => gen k (by omega) h2 (by omega)⟩
theorem Inv.lessF (I : Inv ws tk mk used L (pre ++ [b] ++ post)) (y t : Nat) : less (frF (pre ++ [b] ++ post)) b.a y t ↔ ∃ c ∈ pre ++ post, c.u = false ∧ c.a = y ∧ c.n = t := by
  constructor
  · rintro ⟨h1, c, hc, h2, rfl, rfl⟩
    refine ⟨c, ?_, h2, rfl, rfl⟩
    simp at hc ⊢
    rcases hc with h | h | h
    · exact .inl h
    · subst h; exact absurd rfl h1
    · exact .inr h
  · rintro ⟨c, hc, h2, rfl, rfl⟩
    have hc2 : c ∈ pre ++ [b] ++ post := by simp at hc ⊢; rcases hc with h | h; exact .inl h; exact .inr (.inr h)
    refine ⟨fun e => ?_, c, hc2, h2, rfl, rfl⟩
    have hp := I.parts
    rcases List.mem_append.1 hc with h | h
    · have := hp.1.mem c h; omega
    · have := hp.2.2.1.mem c h; omega
/-- Taken whole. -/
theorem take_whole (I : Inv ws tk mk used L (pre ++ [b] ++ post)) (hu : b.u = false) {ws1 : List Nat} {L1 : List (List (Ent V))}
    (ok1 : ListsOk L1 ws1 (less (frF (pre ++ [b] ++ post)) b.a)) (hL1 : L1.length = L.length) (lo1 : LowOnly (fun y => y ≠ b.a ∧ frF (pre ++ [b] ++ post) y b.n) ws ws1) :
    Inv (splice ((tellP ws1 (b.a + b.n) false).set (b.a - 1) (2 * b.n)) b.a (zeros b.n)) (turned tk b.a true) mk (used + b.n + 1) L1 (pre ++ [⟨b.a, zeros b.n, true, false⟩] ++ post) := by
  obtain ⟨p1, p2, p3, p4, p5⟩ := I.parts
  obtain ⟨f1, f2, f3⟩ := I.noF
  have hl1 := lo1.len
  have two := I.two
  have hl2 : ((tellP ws1 (b.a + b.n) false).set (b.a - 1) (2 * b.n)).length = ws.length := by simp [tellP, hl1]
  have sl := fun k => getD_splice ((tellP ws1 (b.a + b.n) false).set (b.a - 1) (2 * b.n)) (zeros b.n) b.a k (by rw [hl2, zeros_len]; exact p5)
  simp only [zeros_len] at sl
  have sl2 : ∀ k, k < b.a - 1 ∨ b.a + b.n < k → (splice ((tellP ws1 (b.a + b.n) false).set (b.a - 1) (2 * b.n)) b.a (zeros b.n)).getD k 0 = ws1.getD k 0 := fun k hk => by
    rw [sl, if_neg (by omega), getD_set', if_neg (by omega), tellP_off _ _ _ _ (by omega)]
  have lx : ∀ y, (y ≠ b.a ∧ frF (pre ++ [b] ++ post) y b.n) → ∃ c ∈ pre ++ post, c.u = false ∧ c.a = y := fun y hy => by
    obtain ⟨c, h1, h2, h3, _⟩ := (I.lessF y b.n).1 hy
    exact ⟨c, h1, h2, h3⟩
  have hn' : (⟨b.a, zeros b.n, true, false⟩ : Blk).n = b.n := zeros_len _
  have hpos : b.a - 1 < ws1.length := by omega
  have head' : (splice ((tellP ws1 (b.a + b.n) false).set (b.a - 1) (2 * b.n)) b.a (zeros b.n)).getD (b.a - 1) 0 = 2 * b.n := by
    rw [sl, if_neg (by omega), getD_set', if_pos ⟨rfl, by simp [tellP, hl1]; omega⟩]
  have sm' : Span b.a [(⟨b.a, zeros b.n, true, false⟩ : Blk)] (b.a + b.n + 1) := ⟨rfl, by rw [hn']; exact p2, by rw [hn']; rfl⟩
  refine I.replace (mid := [b]) (mid' := [⟨b.a, zeros b.n, true, false⟩]) (s := b.a) (t := b.a + b.n + 1) two p1 ⟨rfl, p2, rfl⟩ sm' p3 (by omega) (by rw [length_splice _ _ _ (by rw [hl2, zeros_len]; exact p5), hl2]) (fun k hk => ?_) (fun ht => ?_) (fun c hc => ?_) (fun c hc => ?_) (fun c hc hcu => ?_) (fun c hc _ i hi => ?_) (fun c hc hcu => ?_) (fun y => ?_) (fun y => ?_) ?_ (fun c hc d hd hcu hdu hm => ?_) ?_ hL1
  · rw [sl2 k (by omega)]
    exact ⟨lo1.up k, fun h => lo1.off k (fun hx => by obtain ⟨c, h1, h2, h3⟩ := lx k hx; exact h c h1 h2 h3)⟩
  · have e : b.a + b.n + 1 - 1 = b.a + b.n := by omega
    rw [e, sl, if_neg (by omega), getD_set', if_neg (by omega), tellP_at _ _ _ (by omega)]
    rw [lo1.off (b.a + b.n) (fun hx => f2 _ hx.2)]
    refine ⟨by simp, ?_⟩
    constructor
    · intro h; simp at h
    · rintro ⟨c, hc, hcu, _⟩; rw [List.mem_singleton.1 hc] at hcu; cases hcu
  · rw [List.mem_singleton.1 hc, hn']; dsimp only; rw [head']; omega
  · rw [List.mem_singleton.1 hc]; dsimp only; rw [head']
    constructor
    · intro h; omega
    · rintro ⟨d, hd, hdu, he⟩
      rcases List.mem_append.1 hd with h | h
      · exact absurd he.symm (I.adj d (by simp [h]) b (by simp) hdu hu)
      · rw [List.mem_singleton.1 h] at hdu; cases hdu
  · rw [List.mem_singleton.1 hc] at hcu; cases hcu
  · rw [List.mem_singleton.1 hc] at hi ⊢
    rw [hn'] at hi
    dsimp only
    rw [sl, if_pos (by omega), zeros_getD, zeros_getD]
  · rw [List.mem_singleton.1 hc] at hcu; cases hcu
  · unfold turned
    by_cases e : y = b.a
    · rw [if_pos e]; exact ⟨fun _ => .inr ⟨_, List.mem_singleton.2 rfl, rfl, e.symm⟩, fun _ => rfl⟩
    · rw [if_neg e]
      constructor
      · intro h
        obtain ⟨c, hc, hcu, rfl⟩ := (I.taken y).1 h
        exact .inl ⟨h, by have := I.outside hc e; omega⟩
      · rintro (h | ⟨c, hc, _, hy⟩)
        · exact h.1
        · rw [List.mem_singleton.1 hc] at hy; exact absurd hy.symm e
  · constructor
    · intro h
      obtain ⟨c, hc, hcm, rfl⟩ := (I.marked y).1 h
      refine .inl ⟨h, ?_⟩
      by_cases e : c.a = b.a
      · have := I.span.inj hc (by simp : b ∈ pre ++ [b] ++ post) e
        rw [this, I.unm b (by simp) hu] at hcm; cases hcm
      · have := I.outside hc e; omega
    · rintro (h | ⟨c, hc, hcm, _⟩)
      · exact h.1
      · rw [List.mem_singleton.1 hc] at hcm; cases hcm
  · simp [usedSum, hu, Blk.n, zeros_len]
    omega
  · exfalso
    rcases hm with h | h
    · rw [List.mem_singleton.1 h] at hcu; cases hcu
    · rw [List.mem_singleton.1 h] at hdu; cases hdu
  · refine (ok1.same (by rw [length_splice _ _ _ (by rw [hl2, zeros_len]; exact p5), hl2, hl1]) (fun y t hy => ?_)).congr (fun y t => ?_)
    · obtain ⟨h1, hf⟩ := hy
      have g1 : y ≠ b.a - 1 := fun e => f1 t (e ▸ hf)
      have g2 : ¬ (b.a ≤ y ∧ y < b.a + b.n) := fun e => f3 y (by omega) (by omega) t hf
      have g3 : y ≠ b.a + b.n := fun e => f2 t (e ▸ hf)
      rw [sl, if_neg g2, getD_set', if_neg (fun e => g1 e.1), tellP_off _ _ _ _ g3]
    · rw [I.lessF]
      constructor
      · rintro ⟨c, hc, h2, h3, h4⟩
        exact ⟨c, by simp at hc ⊢; rcases hc with h | h; exact .inl h; exact .inr (.inr h), h2, h3, h4⟩
      · rintro ⟨c, hc, h2, h3, h4⟩
        refine ⟨c, ?_, h2, h3, h4⟩
        simp at hc ⊢
        rcases hc with h | h | h
        · exact .inl h
        · rw [h] at h2; cases h2
        · exact .inr h
/-- Taken in part: what is left stands behind it. -/
theorem take_split (I : Inv ws tk mk used L (pre ++ [b] ++ post)) (hu : b.u = false) {n : Nat} (hn : 1 ≤ n) (hnb : n + 2 ≤ b.n) {ws1 ws2 : List Nat} {L2 : List (List (Ent V))}
    (lo1 : LowOnly (fun y => y ≠ b.a ∧ frF (pre ++ [b] ++ post) y b.n) ws ws1) (hL2 : L2.length = L.length)
    (ok2 : ListsOk L2 ws2 (more (less (frF (pre ++ [b] ++ post)) b.a) (b.a + n + 1) (b.n - n - 1)))
    (lo2 : LowOnly (fun y => y = b.a + n + 1 ∨ less (frF (pre ++ [b] ++ post)) b.a y (b.n - n - 1)) (relP ws1 (b.a + n + 1) (b.n - n - 1)) ws2) :
    Inv (splice (ws2.set (b.a - 1) (2 * n)) b.a (zeros n)) (turned tk b.a true) mk (used + n + 1) L2 (pre ++ [⟨b.a, zeros n, true, false⟩, ⟨b.a + n + 1, zeros (b.n - n - 1), false, false⟩] ++ post) := by
  obtain ⟨p1, p2, p3, p4, p5⟩ := I.parts
  obtain ⟨f1, f2, f3⟩ := I.noF
  have two := I.two
  have hl1 := lo1.len
  have hl2 : ws2.length = ws.length := by rw [lo2.len, relP_len, hl1]
  have hl3 : (ws2.set (b.a - 1) (2 * n)).length = ws.length := by simp [hl2]
  obtain ⟨s', hs'⟩ : ∃ s', b.n - n - 1 = s' := ⟨_, rfl⟩
  rw [hs'] at ok2 lo2 ⊢
  obtain ⟨G, hG⟩ : ∃ G, G = splice (ws2.set (b.a - 1) (2 * n)) b.a (zeros n) := ⟨_, rfl⟩
  have sl : ∀ k, G.getD k 0 = if b.a ≤ k ∧ k < b.a + n then 0 else if k = b.a - 1 then 2 * n else ws2.getD k 0 := fun k => by
    have := getD_splice (ws2.set (b.a - 1) (2 * n)) (zeros n) b.a k (by rw [hl3, zeros_len]; omega)
    rw [zeros_len] at this
    rw [hG, this]
    split
    · exact zeros_getD _ _
    · rw [getD_set']
      by_cases e : k = b.a - 1
      · rw [if_pos ⟨e, by omega⟩, if_pos e]
      · rw [if_neg (fun h => e h.1), if_neg e]
  have hGl : G.length = ws.length := by rw [hG, length_splice _ _ _ (by rw [hl3, zeros_len]; omega), hl3]
  rw [← hG]
  have lx1 : ∀ k, (∀ c ∈ pre ++ post, c.u = false → c.a ≠ k) → ws1.getD k 0 = ws.getD k 0 := fun k h => lo1.off k (fun hx => by
    obtain ⟨c, h1, h2, h3, _⟩ := (I.lessF k b.n).1 hx
    exact h c h1 h2 h3)
  have lx2 : ∀ k, (∀ c ∈ pre ++ post, c.u = false → c.a ≠ k) → k ≠ b.a + n + 1 → ws2.getD k 0 = (relP ws1 (b.a + n + 1) s').getD k 0 := fun k h h' => lo2.off k (fun hx => by
    rcases hx with hx | hx
    · exact h' hx
    · obtain ⟨c, h1, h2, h3, _⟩ := (I.lessF k s').1 hx
      exact h c h1 h2 h3)
  have inn : ∀ k, b.a - 1 ≤ k → k ≤ b.a + b.n → ∀ c ∈ pre ++ post, c.u = false → c.a ≠ k := fun k h1 h2 c hc _ e => by
    rcases List.mem_append.1 hc with h | h
    · have := p1.mem c h; omega
    · have := p3.mem c h; omega
  have z1 : (⟨b.a, zeros n, true, false⟩ : Blk).n = n := zeros_len _
  have z2 : (⟨b.a + n + 1, zeros s', false, false⟩ : Blk).n = s' := zeros_len _
  have two2 : ∀ {c : Blk}, c ∈ [(⟨b.a, zeros n, true, false⟩ : Blk), ⟨b.a + n + 1, zeros s', false, false⟩] → c = ⟨b.a, zeros n, true, false⟩ ∨ c = ⟨b.a + n + 1, zeros s', false, false⟩ := fun h => by simpa using h
  have m2 : (⟨b.a + n + 1, zeros s', false, false⟩ : Blk) ∈ [(⟨b.a, zeros n, true, false⟩ : Blk), ⟨b.a + n + 1, zeros s', false, false⟩] := by simp
  have m1 : (⟨b.a, zeros n, true, false⟩ : Blk) ∈ [(⟨b.a, zeros n, true, false⟩ : Blk), ⟨b.a + n + 1, zeros s', false, false⟩] := by simp
  have sm' : Span b.a [(⟨b.a, zeros n, true, false⟩ : Blk), ⟨b.a + n + 1, zeros s', false, false⟩] (b.a + b.n + 1) := by
    refine ⟨rfl, by rw [z1]; exact hn, by dsimp only; rw [z1], by rw [z2]; omega, ?_⟩
    rw [z1, z2]; show _ = _; omega
  have g1 : G.getD (b.a - 1) 0 = 2 * n := by rw [sl, if_neg (by omega), if_pos rfl]
  have g2 : G.getD (b.a + n) 0 = 2 * s' := by
    rw [sl, if_neg (by omega), if_neg (by omega), lx2 _ (inn _ (by omega) (by omega)) (by omega)]
    have := relP_head ws1 (b.a + n + 1) s' (by omega) (by omega) (by omega)
    rw [show b.a + n + 1 - 1 = b.a + n by omega] at this
    exact this
  refine I.replace (mid := [b]) (mid' := [⟨b.a, zeros n, true, false⟩, ⟨b.a + n + 1, zeros s', false, false⟩]) (s := b.a) (t := b.a + b.n + 1) two p1 ⟨rfl, p2, rfl⟩ sm' p3 (by omega) hGl (fun k hk => ?_) (fun ht => ?_) (fun c hc => ?_) (fun c hc => ?_) (fun c hc hcu => ?_) (fun c hc hcu i hi => ?_) (fun c hc hcu => ?_) (fun y => ?_) (fun y => ?_) ?_ (fun c hc d hd hcu hdu hm => ?_) ?_ hL2
  · rw [sl k, if_neg (by omega), if_neg (by omega), lo2.up k, relP_off _ _ _ _ (by omega) (by omega) (by omega)]
    refine ⟨lo1.up k, fun h => ?_⟩
    rw [lx2 k h (by omega), relP_off _ _ _ _ (by omega) (by omega) (by omega)]
    exact lx1 k h
  · have e : b.a + b.n + 1 - 1 = b.a + b.n := by omega
    have e2 : b.a + b.n = b.a + n + 1 + s' := by omega
    have hr := relP_next ws1 (b.a + n + 1) s' (by omega) (by omega) (by omega)
    rw [← e2] at hr
    rw [e, sl, if_neg (by omega), if_neg (by omega), lx2 _ (inn _ (by omega) (by omega)) (by omega), hr, lx1 _ (inn _ (by omega) (by omega))]
    refine ⟨by omega, ?_⟩
    constructor
    · intro _; exact ⟨_, m2, rfl, by rw [z2]; dsimp only; omega⟩
    · intro _; omega
  · rcases two2 hc with h | h
    · rw [h, z1]; dsimp only; rw [g1]; omega
    · rw [h, z2]; dsimp only; rw [show b.a + n + 1 - 1 = b.a + n by omega, g2]; omega
  · rcases two2 hc with h | h
    · rw [h]; dsimp only; rw [g1]
      constructor
      · intro h; omega
      · rintro ⟨d, hd, hdu, he⟩
        rcases List.mem_append.1 hd with h | h
        · exact absurd he.symm (I.adj d (by simp [h]) b (by simp) hdu hu)
        · rcases two2 h with h | h
          · rw [h] at hdu; cases hdu
          · rw [h] at he; dsimp only at he; omega
    · rw [h]; dsimp only; rw [show b.a + n + 1 - 1 = b.a + n by omega, g2]
      constructor
      · intro h; omega
      · rintro ⟨d, hd, hdu, he⟩
        rcases List.mem_append.1 hd with h | h
        · have := p1.mem d h; omega
        · rcases two2 h with h | h
          · rw [h] at hdu; cases hdu
          · rw [h, z2] at he; dsimp only at he; omega
  · rcases two2 hc with h | h
    · rw [h] at hcu; cases hcu
    · rw [h, z2]; dsimp only
      rw [sl, if_neg (by omega), if_neg (by omega), lo2.up, relP_tail ws1 (b.a + n + 1) s' (by omega) (by omega) (by omega)]
      omega
  · rcases two2 hc with h | h
    · rw [h] at hi ⊢
      rw [z1] at hi
      dsimp only
      rw [sl, if_pos (by omega), zeros_getD]
    · rw [h] at hcu; cases hcu
  · rcases two2 hc with h | h
    · rw [h]
    · rw [h]
  · unfold turned
    by_cases e : y = b.a
    · rw [if_pos e]; exact ⟨fun _ => .inr ⟨_, m1, rfl, e.symm⟩, fun _ => rfl⟩
    · rw [if_neg e]
      constructor
      · intro h
        obtain ⟨c, hc, hcu, rfl⟩ := (I.taken y).1 h
        exact .inl ⟨h, by have := I.outside hc e; omega⟩
      · rintro (h | ⟨c, hc, hcu, hy⟩)
        · exact h.1
        · rcases two2 hc with h | h
          · rw [h] at hy; exact absurd hy.symm e
          · rw [h] at hcu; cases hcu
  · constructor
    · intro h
      obtain ⟨c, hc, hcm, rfl⟩ := (I.marked y).1 h
      refine .inl ⟨h, ?_⟩
      by_cases e : c.a = b.a
      · have := I.span.inj hc (by simp : b ∈ pre ++ [b] ++ post) e
        rw [this, I.unm b (by simp) hu] at hcm; cases hcm
      · have := I.outside hc e; omega
    · rintro (h | ⟨c, hc, hcm, _⟩)
      · exact h.1
      · rcases two2 hc with h | h <;> (rw [h] at hcm; cases hcm)
  · simp [usedSum, hu, Blk.n, zeros_len]
    omega
  · have hc2 : c ∈ pre ++ [(⟨b.a, zeros n, true, false⟩ : Blk), ⟨b.a + n + 1, zeros s', false, false⟩] := hc
    rcases List.mem_append.1 hc with h1 | h1
    · have q1 := p1.mem c h1
      rcases List.mem_append.1 hd with h2 | h2
      · rcases two2 h2 with h | h
        · rw [h] at hdu; cases hdu
        · rw [h]; dsimp only; omega
      · have := p3.mem d h2; omega
    · rcases two2 h1 with h | h
      · rw [h] at hcu; cases hcu
      · rw [h, z2]; dsimp only
        rcases List.mem_append.1 hd with h2 | h2
        · rcases two2 h2 with h3 | h3
          · rw [h3] at hdu; cases hdu
          · rw [h3]; dsimp only; omega
        · have := I.adj b (by simp) d (by simp [h2]) hu hdu
          omega
  · refine (ok2.same (by rw [hGl, hl2]) (fun y t hy => ?_)).congr (fun y t => ?_)
    · rw [sl]
      rcases hy with ⟨rfl, _⟩ | ⟨h1, hf⟩
      · rw [if_neg (by omega), if_neg (by omega)]
      · have g1 : y ≠ b.a - 1 := fun e => f1 t (e ▸ hf)
        have g2 : ¬ (b.a ≤ y ∧ y < b.a + n) := fun e => f3 y (by omega) (by omega) t hf
        rw [if_neg g2, if_neg g1]
    · unfold more
      rw [I.lessF]
      constructor
      · rintro (⟨rfl, rfl⟩ | ⟨c, hc, h2, h3, h4⟩)
        · exact ⟨_, List.mem_append.2 (.inl (List.mem_append.2 (.inr m2))), rfl, rfl, z2⟩
        · exact ⟨c, by simp at hc ⊢; rcases hc with h | h; exact .inl h; exact .inr (.inr (.inr h)), h2, h3, h4⟩
      · rintro ⟨c, hc, h2, h3, h4⟩
        rcases List.mem_append.1 hc with hc | hc
        · rcases List.mem_append.1 hc with hc | hc
          · exact .inr ⟨c, by simp [hc], h2, h3, h4⟩
          · rcases two2 hc with h | h
            · rw [h] at h2; cases h2
            · rw [h, z2] at h4; rw [h] at h3; exact .inl ⟨h3.symm, h4.symm⟩
        · exact .inr ⟨c, by simp [hc], h2, h3, h4⟩
end
section
variable {V : Type} {ws : List Nat} {tk mk : Nat → Bool} {used : Nat} {L : List (List (Ent V))} {pre mid post : List Blk} {b : Blk}
/-- A used block, with the free ones beside it, is one free block. -/
theorem free_done (I : Inv ws tk mk used L (pre ++ mid ++ post)) {s t : Nat} (h2 : 2 ≤ ws.length) (hp : Span 1 pre s) (hm : Span s mid t) (hq : Span t post (ws.length + 1)) (hst : s + 2 ≤ t)
    (hb : b ∈ mid) (_ : b.u = true) (hone : ∀ c ∈ mid, c.u = true → c = b) (hsum : usedSum mid = b.n + 1)
    (hpre : ∀ c ∈ pre, c.u = false → c.a + c.n + 1 ≠ s) (hpost : ∀ c ∈ post, c.u = false → c.a ≠ t)
    {X : Nat → Prop} {F2 : Nat → Nat → Prop} {ws1 ws2 : List Nat} {L2 : List (List (Ent V))}
    (hX : ∀ y, X y → ∃ c ∈ pre ++ mid ++ post, c.u = false ∧ c.a = y) (lo1 : LowOnly X ws ws1)
    (hF2 : ∀ y u, F2 y u ↔ ∃ c ∈ pre ++ post, c.u = false ∧ c.a = y ∧ c.n = u)
    (ok2 : ListsOk L2 ws2 (more F2 s (t - s - 1))) (hL2 : L2.length = L.length)
    (lo2 : LowOnly (fun y => y = s ∨ F2 y (t - s - 1)) (relP ws1 s (t - s - 1)) ws2) :
    Inv ws2 (turned tk b.a false) (turned mk b.a false) (used - (b.n + 1)) L2 (pre ++ [⟨s, zeros (t - s - 1), false, false⟩] ++ post) := by
  have hl1 := lo1.len
  have hl2 : ws2.length = ws.length := by rw [lo2.len, relP_len, hl1]
  have s1 := hp.le
  have t1 := hq.le
  obtain ⟨u, hue⟩ : ∃ u, t - s - 1 = u := ⟨_, rfl⟩
  rw [hue] at ok2 lo2 ⊢
  have z : (⟨s, zeros u, false, false⟩ : Blk).n = u := zeros_len _
  have sm' : Span s [(⟨s, zeros u, false, false⟩ : Blk)] t := ⟨rfl, by rw [z]; omega, by rw [z]; show _ = _; omega⟩
  have lx1 : ∀ k, (k < s ∨ t - 2 < k) → (∀ c ∈ pre ++ post, c.u = false → c.a ≠ k) → ws1.getD k 0 = ws.getD k 0 := fun k hk h => lo1.off k (fun hx => by
    obtain ⟨c, hc, h2, h3⟩ := hX k hx
    have : c ∈ pre ++ post ∨ c ∈ mid := by simp at hc ⊢; grind
    rcases this with h4 | h4
    · exact h c h4 h2 h3
    · have := hm.mem c h4; omega)
  have lx2 : ∀ k, (∀ c ∈ pre ++ post, c.u = false → c.a ≠ k) → k ≠ s → ws2.getD k 0 = (relP ws1 s u).getD k 0 := fun k h h' => lo2.off k (fun hx => by
    rcases hx with hx | hx
    · exact h' hx
    · obtain ⟨c, h1, h2, h3, _⟩ := (hF2 k u).1 hx
      exact h c h1 h2 h3)
  have inn : ∀ k, s - 1 ≤ k → k ≤ t - 1 → ∀ c ∈ pre ++ post, c.u = false → c.a ≠ k := fun k h1 h2 c hc _ e => by
    rcases List.mem_append.1 hc with h | h
    · have := hp.mem c h; omega
    · have := hq.mem c h; omega
  have g1 : ws2.getD (s - 1) 0 = 2 * u := by
    rw [lx2 _ (inn _ (by omega) (by omega)) (by omega), relP_head ws1 s u (by omega) (by omega) (by omega)]
  have whole : ∀ {c : Blk}, c ∈ pre ++ mid ++ post → c ∈ mid ∨ (c.a < s ∨ t ≤ c.a) := fun {c} hc => by
    have : c ∈ mid ∨ c ∈ pre ∨ c ∈ post := by simp at hc; grind
    rcases this with h | h | h
    · exact .inl h
    · have := hp.mem c h; exact .inr (.inl (by omega))
    · have := hq.mem c h; exact .inr (.inr (by omega))
  have bm := hm.mem b hb
  refine I.replace (mid := mid) (mid' := [⟨s, zeros u, false, false⟩]) (s := s) (t := t) h2 hp hm sm' hq (by omega) hl2 (fun k hk => ?_) (fun ht => ?_) (fun c hc => ?_) (fun c hc => ?_) (fun c hc hcu => ?_) (fun c hc hcu i hi => ?_) (fun c hc hcu => ?_) (fun y => ?_) (fun y => ?_) ?_ (fun c hc d hd hcu hdu hmm => ?_) ?_ hL2
  · rw [lo2.up k, relP_off _ _ _ _ (by omega) (by omega) (by omega)]
    refine ⟨lo1.up k, fun h => ?_⟩
    rw [lx2 k h (by omega), relP_off _ _ _ _ (by omega) (by omega) (by omega)]
    exact lx1 k (by omega) h
  · have e2 : t - 1 = s + u := by omega
    have hr := relP_next ws1 s u (by omega) (by omega) (by omega)
    rw [← e2] at hr
    rw [lx2 _ (inn _ (by omega) (by omega)) (by omega), hr, lx1 _ (by omega) (inn _ (by omega) (by omega))]
    refine ⟨by omega, ?_⟩
    constructor
    · intro _; exact ⟨_, List.mem_singleton.2 rfl, rfl, by rw [z]; dsimp only; omega⟩
    · intro _; omega
  · rw [List.mem_singleton.1 hc, z]; dsimp only; rw [g1]; omega
  · rw [List.mem_singleton.1 hc]; dsimp only; rw [g1]
    constructor
    · intro h; omega
    · rintro ⟨d, hd, hdu, he⟩
      rcases List.mem_append.1 hd with h | h
      · exact absurd he (hpre d h hdu)
      · rw [List.mem_singleton.1 h, z] at he; dsimp only at he; omega
  · rw [List.mem_singleton.1 hc, z]; dsimp only
    rw [lo2.up, relP_tail ws1 s u (by omega) (by omega) (by omega)]
    omega
  · rw [List.mem_singleton.1 hc] at hcu; cases hcu
  · rw [List.mem_singleton.1 hc]
  · unfold turned
    by_cases e : y = b.a
    · rw [if_pos e]
      constructor
      · intro h; cases h
      · rintro (⟨_, h⟩ | ⟨c, hc, hcu, _⟩)
        · omega
        · rw [List.mem_singleton.1 hc] at hcu; cases hcu
    · rw [if_neg e]
      constructor
      · intro h
        obtain ⟨c, hc, hcu, rfl⟩ := (I.taken y).1 h
        rcases whole hc with h' | h'
        · exact absurd (by rw [hone c h' hcu]) e
        · exact .inl ⟨h, h'⟩
      · rintro (h | ⟨c, hc, hcu, _⟩)
        · exact h.1
        · rw [List.mem_singleton.1 hc] at hcu; cases hcu
  · unfold turned
    by_cases e : y = b.a
    · rw [if_pos e]
      constructor
      · intro h; cases h
      · rintro (⟨_, h⟩ | ⟨c, hc, hcm, _⟩)
        · omega
        · rw [List.mem_singleton.1 hc] at hcm; cases hcm
    · rw [if_neg e]
      constructor
      · intro h
        obtain ⟨c, hc, hcm, rfl⟩ := (I.marked y).1 h
        rcases whole hc with h' | h'
        · cases hcu : c.u
          · rw [I.unm c hc hcu] at hcm; cases hcm
          · exact absurd (by rw [hone c h' hcu]) e
        · exact .inl ⟨h, h'⟩
      · rintro (h | ⟨c, hc, hcm, _⟩)
        · exact h.1
        · rw [List.mem_singleton.1 hc] at hcm; cases hcm
  · have := I.sum
    rw [usedSum_append, usedSum_append] at this
    simp only [usedSum_cons, hsum] at this ⊢
    simp [usedSum]
    omega
  · rcases List.mem_append.1 hc with h1 | h1
    · rcases List.mem_append.1 hd with h3 | h3
      · rw [List.mem_singleton.1 h3]; dsimp only
        exact fun e => hpre c h1 hcu e.symm
      · exfalso
        rcases hmm with h | h
        · rw [List.mem_singleton.1 h] at h1
          have := hp.mem _ h1; dsimp only at this; omega
        · rw [List.mem_singleton.1 h] at h3
          have := hq.mem _ h3; dsimp only at this; omega
    · rw [List.mem_singleton.1 h1, z]; dsimp only
      rcases List.mem_append.1 hd with h3 | h3
      · rw [List.mem_singleton.1 h3]; dsimp only; omega
      · have := hpost d h3 hdu; omega
  · refine ok2.congr (fun y v => ?_)
    unfold more
    rw [hF2]
    constructor
    · rintro (⟨rfl, rfl⟩ | ⟨c, hc, h2, h3, h4⟩)
      · exact ⟨_, by simp, rfl, rfl, z⟩
      · exact ⟨c, by simp at hc ⊢; rcases hc with h | h; exact .inl h; exact .inr (.inr h), h2, h3, h4⟩
    · rintro ⟨c, hc, h2, h3, h4⟩
      simp at hc
      rcases hc with h | h | h
      · exact .inr ⟨c, by simp [h], h2, h3, h4⟩
      · rw [h, z] at h4; rw [h] at h3; exact .inl ⟨h3.symm, h4.symm⟩
      · exact .inr ⟨c, by simp [h], h2, h3, h4⟩
end
end Go.Proofs.YtelohkppbmahnaaDoor
