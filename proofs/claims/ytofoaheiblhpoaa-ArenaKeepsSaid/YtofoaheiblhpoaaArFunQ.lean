/- package arena: Free as a function on lists of blocks. -/
import Derived.Test.YtofoaheiblhpoaaArFunP
namespace Go.Proofs.Ytofoaheiblhpoaa

/-- A block ahead of others: glued to the first one, if both are free. -/
def glue (b : Blk) : List Blk → List Blk
  | [] => [b]
  | c :: l => if b.u = false ∧ c.u = false then ⟨b.a, zeros (b.n + c.n + 1), false, false⟩ :: l else b :: c :: l
theorem glue_cons (b c : Blk) (l : List Blk) : glue b (c :: l) = if b.u = false ∧ c.u = false then ⟨b.a, zeros (b.n + c.n + 1), false, false⟩ :: l else b :: c :: l := rfl
def normB (l : List Blk) : List Blk := l.foldr glue []
def freeF (bs : List Blk) (x : Nat) : List Blk := normB (bs.map fun c => if c.a = x then ⟨c.a, zeros c.n, false, false⟩ else c)
/-- No two neighbours are free. -/
def noTwo (l : List Blk) : Prop := ∀ b ∈ l, ∀ c ∈ l, b.u = false → c.u = false → c.a ≠ b.a + b.n + 1
theorem noTwo.tail {b : Blk} {l : List Blk} (h : noTwo (b :: l)) : noTwo l := fun c hc d hd => h c (by simp [hc]) d (by simp [hd])
theorem glue_apart {b : Blk} {l : List Blk} {s t : Nat} (hs : Span s (b :: l) t) (h : noTwo (b :: l)) : glue b l = b :: l := by
  cases l with
  | nil => rfl
  | cons c l =>
    rw [glue_cons, if_neg]
    rintro ⟨h1, h2⟩
    obtain ⟨e1, e2, e3, e4⟩ := hs
    exact h b (by simp) c (by simp) h1 h2 (by rw [e3, e1])
theorem foldr_apart : ∀ (pre X : List Blk) (s t : Nat), Span s (pre ++ X) t → noTwo (pre ++ X) → pre.foldr glue X = pre ++ X
  | [], X, _, _, _, _ => rfl
  | b :: pre, X, s, t, hs, h => by
    obtain ⟨e1, e2, e3⟩ := hs
    rw [List.foldr_cons, foldr_apart pre X _ t e3 h.tail]
    exact glue_apart (s := s) (t := t) ⟨e1, e2, e3⟩ h
theorem normB_apart {l : List Blk} {s t : Nat} (hs : Span s l t) (h : noTwo l) : normB l = l := by
  have := foldr_apart l [] s t (by simpa using hs) (by simpa using h)
  simpa [normB] using this
/-- Free blocks one behind the other are glued to one. -/
theorem foldr_glued (X : List Blk) (hX : ∀ c l, X = c :: l → c.u = true) : ∀ (M : List Blk) (s l : Nat), M ≠ [] → (∀ c ∈ M, c.u = false) → Span s M (s + l + 1) → (∃ c r, M.foldr glue X = c :: r ∧ r = X ∧ c.a = s ∧ c.n = l ∧ c.u = false ∧ (c = ⟨s, zeros l, false, false⟩ ∨ M = [c]))
  | [], _, _, h, _, _ => absurd rfl h
  | [b], s, l, _, hf, hs => by
    obtain ⟨e1, e2, e3⟩ := hs
    have e3 : s + b.n + 1 = s + l + 1 := e3
    refine ⟨b, X, ?_, rfl, e1, by omega, hf b (by simp), .inr rfl⟩
    show glue b X = b :: X
    cases X with
    | nil => rfl
    | cons c r =>
      have hu := hX c r rfl
      rw [glue_cons, if_neg (fun h => by rw [hu] at h; exact absurd h.2 (by simp))]
  | b :: d :: M, s, l, _, hf, hs => by
    obtain ⟨e1, e2, e3⟩ := hs
    have hle := e3.le
    have hd := e3.mem d (by simp)
    obtain ⟨k, hk⟩ : ∃ k, s + b.n + 1 + k + 1 = s + l + 1 := ⟨l - b.n - 1, by omega⟩
    rw [← hk] at e3
    obtain ⟨c, r, h1, h2, h3, h4, h5, _⟩ := foldr_glued X hX (d :: M) (s + b.n + 1) k (by simp) (fun c hc => hf c (by simp at hc ⊢; grind)) e3
    refine ⟨⟨s, zeros l, false, false⟩, X, ?_, rfl, rfl, zeros_len _, rfl, .inl rfl⟩
    rw [List.foldr_cons, h1, h2, glue_cons]
    rw [if_pos ⟨hf b (by simp), h5⟩, h4, e1, show b.n + k + 1 = l by omega]
theorem Span.det : ∀ {l : List Blk} {s t t' : Nat}, Span s l t → Span s l t' → t = t'
  | [], _, _, _, h, k => Eq.trans (Eq.symm h) k
  | _ :: _, _, _, _, ⟨_, _, h⟩, ⟨_, _, k⟩ => Span.det h k
theorem Span.map {g : Blk → Blk} (hg : ∀ c, (g c).a = c.a ∧ (g c).n = c.n) : ∀ {l : List Blk} {s t : Nat}, Span s l t → Span s (l.map g) t
  | [], _, _, h => h
  | c :: l, s, t, ⟨h1, h2, h3⟩ => ⟨by rw [(hg c).1, h1], by rw [(hg c).2]; exact h2, by rw [(hg c).2]; exact Span.map hg h3⟩
theorem freeR_fun {bs : List Blk} {q er : Int} {bs' : List Blk} {s0 t0 : Nat} (h : FreeR bs q er bs') (hs : Span s0 bs t0) (hn : noTwo bs) :
    (usedAt bs q = false ∧ er = 4 ∧ bs' = bs) ∨ (usedAt bs q = true ∧ er = 0 ∧ bs' = freeF bs q.toNat) := by
  rcases h with h | ⟨pre, mid, post, b, s, l, rfl, hb, hbu, rfl, rfl, hone, hm, hpre, hpost, rfl⟩
  · exact .inl h
  refine .inr ⟨(usedAt_iff _ _).2 ⟨b, by simp [hb], hbu, rfl⟩, rfl, ?_⟩
  have hsp := hs
  rw [Span.append] at hsp
  obtain ⟨t1, h1, h3⟩ := hsp
  rw [Span.append] at h1
  obtain ⟨s1, h1, h2⟩ := h1
  have es : s1 = s := by
    cases mid with
    | nil => cases hb
    | cons c r => rw [← h2.1, hm.1]
  subst es
  have et : t1 = s1 + l + 1 := h2.det hm
  subst et
  have bm := hm.mem b hb
  let g : Blk → Blk := fun c => if c.a = b.a then ⟨c.a, zeros c.n, false, false⟩ else c
  have hg : ∀ c, (g c).a = c.a ∧ (g c).n = c.n := fun c => by
    show (if c.a = b.a then (⟨c.a, zeros c.n, false, false⟩ : Blk) else c).a = c.a ∧ (if c.a = b.a then (⟨c.a, zeros c.n, false, false⟩ : Blk) else c).n = c.n
    split
    · exact ⟨rfl, zeros_len _⟩
    · exact ⟨rfl, rfl⟩
  have gid : ∀ r : List Blk, (∀ c ∈ r, c.a ≠ b.a) → r.map g = r := fun r hr => by
    have h : r.map g = r.map id := List.map_congr_left (fun c hc => if_neg (hr c hc))
    rw [h, List.map_id]
  have g1 := gid pre (fun c hc => by have := h1.mem c hc; omega)
  have g3 := gid post (fun c hc => by have := h3.mem c hc; omega)
  have hne : mid.map g ≠ [] := fun e => by rw [List.map_eq_nil_iff] at e; rw [e] at hb; cases hb
  have hfree : ∀ c ∈ mid.map g, c.u = false := fun c hc => by
    obtain ⟨d, hd, rfl⟩ := List.mem_map.1 hc
    show (if d.a = b.a then (⟨d.a, zeros d.n, false, false⟩ : Blk) else d).u = false
    split
    · rfl
    · rename_i hne
      cases hu : d.u
      · rfl
      · exact absurd (by rw [hone d hd hu]) hne
  have hX : ∀ c r, post = c :: r → c.u = true := fun c r e => by
    cases hu : c.u
    · subst e; exact absurd h3.1 (hpost c (by simp) hu)
    · rfl
  obtain ⟨c, r, f1, f2, f3, f4, f5, f6⟩ := foldr_glued post hX (mid.map g) s1 l hne hfree (hm.map hg)
  have hc : c = ⟨s1, zeros l, false, false⟩ := by
    rcases f6 with h | h
    · exact h
    · have hbm : g b ∈ mid.map g := List.mem_map_of_mem hb
      rw [h] at hbm
      have e : g b = c := List.mem_singleton.1 hbm
      have e2 : g b = ⟨b.a, zeros b.n, false, false⟩ := if_pos rfl
      have e3 : b.a = s1 := by rw [← f3, ← e, e2]
      have e4 : b.n = l := by rw [← f4, ← e, (hg b).2]
      rw [← e, e2, e3, e4]
  have z : (⟨s1, zeros l, false, false⟩ : Blk).n = l := zeros_len _
  have l0 : 0 < l := by
    cases mid with
    | nil => cases hb
    | cons c r => have := hm.2.1; have := hm.2.2.le; omega
  have hno : noTwo (pre ++ ⟨s1, zeros l, false, false⟩ :: post) := by
    intro d hd e he hdu heu
    have hd2 : d ∈ pre ∨ d = ⟨s1, zeros l, false, false⟩ ∨ d ∈ post := by simpa using hd
    have he2 : e ∈ pre ∨ e = ⟨s1, zeros l, false, false⟩ ∨ e ∈ post := by simpa using he
    have old : ∀ {x : Blk}, x ∈ pre ∨ x ∈ post → x ∈ pre ++ mid ++ post := fun h => by simp; grind
    rcases hd2 with k1 | k1 | k1
    · rcases he2 with k2 | k2 | k2
      · exact hn d (old (.inl k1)) e (old (.inl k2)) hdu heu
      · rw [k2]; exact fun h => hpre d k1 hdu h.symm
      · exact hn d (old (.inl k1)) e (old (.inr k2)) hdu heu
    · rw [k1, z]
      rcases he2 with k2 | k2 | k2
      · have := h1.mem e k2; dsimp only; omega
      · rw [k2]; dsimp only; omega
      · exact hpost e k2 heu
    · rcases he2 with k2 | k2 | k2
      · exact hn d (old (.inr k1)) e (old (.inl k2)) hdu heu
      · have := h3.mem d k1; rw [k2]; dsimp only; omega
      · exact hn d (old (.inr k1)) e (old (.inr k2)) hdu heu
  have hsp2 : Span s0 (pre ++ ⟨s1, zeros l, false, false⟩ :: post) t0 := by
    rw [Span.append]
    exact ⟨s1, h1, rfl, by rw [z]; exact l0, by rw [z]; exact h3⟩
  have hpp : post.foldr glue [] = post := normB_apart h3 (fun d hd e he => hn d (by simp [hd]) e (by simp [he]))
  show _ = normB ((pre ++ mid ++ post).map g)
  rw [List.map_append, List.map_append, g1, g3]
  unfold normB
  rw [List.foldr_append, List.foldr_append, hpp, f1, f2, hc, foldr_apart pre _ s0 t0 hsp2 hno]
  simp
end Go.Proofs.Ytofoaheiblhpoaa
