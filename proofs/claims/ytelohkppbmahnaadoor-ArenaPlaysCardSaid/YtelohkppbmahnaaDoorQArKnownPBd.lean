/- package arena: what Room answers, plain. -/
import Derived.Test.YtelohkppbmahnaaDoorQArNewPBd
namespace Go.Proofs.YtelohkppbmahnaaDoor

/-- The size of the greatest free block; 0, if there is none. -/
def RoomR (F : Nat → Nat → Prop) (r : Nat) : Prop := (r = 0 ∧ ∀ x s, ¬ F x s) ∨ ((∃ x, F x r) ∧ ∀ x s, F x s → s ≤ r)
theorem room_none {V : Type} {L : List (List (Ent V))} {ws : List Nat} {F : Nat → Nat → Prop} (ok : ListsOk L ws F) (h : ∀ (j : Nat) (l : List (Ent V)), L[j]? = some l → l = []) : RoomR F 0 :=
  .inl ⟨rfl, fun x s hx => by
    obtain ⟨l, hl, e, he, _⟩ := ok.all x s hx
    rw [h _ l hl] at he; cases he⟩
theorem room_last {V : Type} {L : List (List (Ent V))} {ws : List Nat} {F : Nat → Nat → Prop} (ok : ListsOk L ws F) {k : Nat} {l : List (Ent V)} {e : Ent V} (hk : L[k]? = some (l ++ [e])) (h : ∀ (j : Nat) (l : List (Ent V)), k < j → L[j]? = some l → l = []) : RoomR F e.s := by
  have hem : e ∈ l ++ [e] := by simp
  have hpos := ok.pos k _ hk e hem
  refine .inr ⟨?_, fun x s hx => ?_⟩
  · obtain ⟨y, hy⟩ := List.exists_mem_of_ne_nil _ hpos.2.2
    exact ⟨y, (ok.mem k _ hk e hem y).1 hy⟩
  · obtain ⟨l2, hl2, e2, he2, hs2⟩ := ok.all x s hx
    by_cases h1 : k < Nat.log2 s
    · rw [h _ l2 h1 hl2] at he2; cases he2
    · by_cases h2 : Nat.log2 s = k
      · rw [h2, hk] at hl2
        simp only [Option.some.injEq] at hl2
        subst hl2
        have hsorted := ok.sorted k _ hk
        rcases List.mem_append.1 he2 with h3 | h3
        · have := (List.pairwise_append.1 hsorted).2.2 e2 h3 e (by simp)
          omega
        · rw [List.mem_singleton.1 h3] at hs2; omega
      · have hlt : Nat.log2 s < Nat.log2 e.s := by have := hpos.2.1; omega
        by_cases hle : s ≤ e.s
        · exact hle
        · have := log2_mono hpos.1 (by omega : e.s ≤ s); omega
/-- The greatest size of the free blocks. -/
def roomOf (bs : List Blk) : Nat := bs.foldr (fun b r => if b.u then r else max b.n r) 0
theorem roomOf_ge (bs : List Blk) : ∀ b ∈ bs, b.u = false → b.n ≤ roomOf bs := by
  induction bs with
  | nil => simp
  | cons c l ih =>
    intro b hb hu
    show b.n ≤ (if c.u then roomOf l else max c.n (roomOf l))
    rcases List.mem_cons.1 hb with h | h
    · rw [← h, if_neg (by simp [hu])]; omega
    · have := ih b h hu
      split <;> omega
theorem roomOf_some (bs : List Blk) : roomOf bs = 0 ∨ ∃ b ∈ bs, b.u = false ∧ b.n = roomOf bs := by
  induction bs with
  | nil => exact .inl rfl
  | cons c l ih =>
    show (if c.u then roomOf l else max c.n (roomOf l)) = 0 ∨ ∃ b ∈ c :: l, b.u = false ∧ b.n = (if c.u then roomOf l else max c.n (roomOf l))
    cases hc : c.u
    · rw [if_neg (by simp)]
      by_cases hm : roomOf l ≤ c.n
      · exact .inr ⟨c, by simp, hc, by omega⟩
      · rcases ih with h | ⟨b, hb, h1, h2⟩
        · omega
        · exact .inr ⟨b, by simp [hb], h1, by omega⟩
    · rw [if_pos rfl]
      rcases ih with h | ⟨b, hb, h1, h2⟩
      · exact .inl h
      · exact .inr ⟨b, by simp [hb], h1, h2⟩
theorem roomR_eq {bs : List Blk} {r : Nat} (h : RoomR (frF bs) r) (hp : ∀ b ∈ bs, 0 < b.n) : r = roomOf bs := by
  rcases h with ⟨rfl, h⟩ | ⟨⟨x, b, hb, hu, _, hn⟩, h⟩
  · rcases roomOf_some bs with h1 | ⟨b, hb, hu, h1⟩
    · exact h1.symm
    · exact absurd ⟨b, hb, hu, rfl, rfl⟩ (h b.a b.n)
  · have h1 := roomOf_ge bs b hb hu
    rcases roomOf_some bs with h2 | ⟨c, hc, hcu, h2⟩
    · have := hp b hb; omega
    · have := h c.a c.n ⟨c, hc, hcu, rfl, rfl⟩
      omega
end Go.Proofs.YtelohkppbmahnaaDoor

/- package arena: Take as a function on lists of blocks. -/
namespace Go.Proofs.YtelohkppbmahnaaDoor

/-- Is b a free block with room for n, and better than c? -/
def fits (n : Int) (b : Blk) : Bool := !b.u && decide (n ≤ (b.n : Int))
def pickB (n : Int) : List Blk → Option Blk
  | [] => none
  | b :: l => match pickB n l with
    | none => if fits n b then some b else none
    | some c => if fits n b && (decide (b.n < c.n) || (decide (b.n = c.n) && decide (b.a ≤ c.a))) then some b else some c
theorem fits_iff (n : Int) (b : Blk) : fits n b = true ↔ b.u = false ∧ n ≤ b.n := by simp [fits]
theorem pickB_spec (n : Int) : ∀ l : List Blk, (pickB n l = none ∧ ∀ b ∈ l, b.u = false → (b.n : Int) < n) ∨
    ∃ c ∈ l, pickB n l = some c ∧ c.u = false ∧ n ≤ c.n ∧ ∀ d ∈ l, d.u = false → n ≤ d.n → c.n < d.n ∨ (c.n = d.n ∧ c.a ≤ d.a)
  | [] => .inl ⟨rfl, by simp⟩
  | b :: l => by
    rcases pickB_spec n l with ⟨h1, h2⟩ | ⟨c, hc, h1, h2, h3, h4⟩
    · cases hf : fits n b
      · refine .inl ⟨by simp [pickB, h1, hf], fun d hd hu => ?_⟩
        rcases List.mem_cons.1 hd with rfl | hd
        · have : ¬ (d.u = false ∧ n ≤ d.n) := fun h => by rw [(fits_iff n d).2 h] at hf; cases hf
          have : ¬ n ≤ d.n := fun h => this ⟨hu, h⟩
          omega
        · exact h2 d hd hu
      · have hb := (fits_iff n b).1 hf
        refine .inr ⟨b, by simp, by simp [pickB, h1, hf], hb.1, hb.2, fun d hd hu hn => ?_⟩
        rcases List.mem_cons.1 hd with rfl | hd
        · exact .inr ⟨rfl, Nat.le_refl _⟩
        · have := h2 d hd hu; omega
    · by_cases hf : (fits n b && (decide (b.n < c.n) || (decide (b.n = c.n) && decide (b.a ≤ c.a)))) = true
      · have hf2 := hf
        simp only [Bool.and_eq_true, Bool.or_eq_true, decide_eq_true_eq] at hf2
        have hb := (fits_iff n b).1 hf2.1
        refine .inr ⟨b, by simp, by simp only [pickB, h1]; rw [if_pos hf], hb.1, hb.2, fun d hd hu hn => ?_⟩
        rcases List.mem_cons.1 hd with rfl | hd
        · exact .inr ⟨rfl, Nat.le_refl _⟩
        · have := h4 d hd hu hn; omega
      · refine .inr ⟨c, by simp [hc], by simp only [pickB, h1]; rw [if_neg hf], h2, h3, fun d hd hu hn => ?_⟩
        rcases List.mem_cons.1 hd with rfl | hd
        · have hfd := (fits_iff n d).2 ⟨hu, hn⟩
          simp only [hfd, Bool.true_and, Bool.or_eq_true, Bool.and_eq_true, decide_eq_true_eq] at hf
          omega
        · exact h4 d hd hu hn
def takeB (n : Int) (b : Blk) : List Blk :=
  if n + 2 ≤ b.n then [⟨b.a, zeros n.toNat, true, false⟩, ⟨b.a + n.toNat + 1, zeros (b.n - n.toNat - 1), false, false⟩] else [⟨b.a, zeros b.n, true, false⟩]
def takeF (bs : List Blk) (n : Int) : Nat × Int × List Blk :=
  if n < 1 then (0, 2, bs) else match pickB n bs with
    | none => (0, 5, bs)
    | some b => (b.a, 0, bs.flatMap fun c => if c.a = b.a then takeB n b else [c])
theorem flat_at {s t : Nat} {pre post : List Blk} {b : Blk} (h : Span s (pre ++ [b] ++ post) t) (r : List Blk) : (pre ++ [b] ++ post).flatMap (fun c => if c.a = b.a then r else [c]) = pre ++ r ++ post := by
  have h0 := h
  rw [Span.append] at h0
  obtain ⟨t2, h1, h3⟩ := h0
  rw [Span.append] at h1
  obtain ⟨s2, h1, h2⟩ := h1
  obtain ⟨e1, e2, e3⟩ := h2
  have e3 : s2 + b.n + 1 = t2 := e3
  have one : ∀ l : List Blk, (∀ c ∈ l, c.a ≠ b.a) → l.flatMap (fun c => if c.a = b.a then r else [c]) = l := fun l => by
    induction l with
    | nil => intro _; rfl
    | cons c l ih =>
      intro hl
      rw [List.flatMap_cons, if_neg (hl c (by simp)), ih (fun d hd => hl d (by simp [hd]))]; rfl
  rw [List.flatMap_append, List.flatMap_append, one pre (fun c hc => by have := h1.mem c hc; omega), one post (fun c hc => by have := h3.mem c hc; omega)]
  simp
theorem takeR_fun {bs : List Blk} {n : Int} {x : Nat} {e : Int} {bs' : List Blk} {s t : Nat} (h : TakeR bs n x e bs') (hs : Span s bs t) : (x, e, bs') = takeF bs n := by
  unfold takeF
  rcases h with ⟨h1, rfl, rfl, rfl⟩ | ⟨h1, h2, rfl, rfl, rfl⟩ | ⟨h1, pre, b, post, rfl, hu, hn, hl, rfl, rfl, rfl⟩
  · rw [if_pos h1]
  · rw [if_neg (show ¬ n < 1 by omega)]
    rcases pickB_spec n bs' with ⟨h3, _⟩ | ⟨c, hc, _, h4, h5, _⟩
    · rw [h3]
    · have := h2 c hc h4; omega
  · rw [if_neg (show ¬ n < 1 by omega)]
    rcases pickB_spec n (pre ++ [b] ++ post) with ⟨_, h4⟩ | ⟨c, hc, h3, h4, h5, h6⟩
    · have := h4 b (by simp) hu; omega
    · have a1 := hl c hc h4 h5
      have a2 := h6 b (by simp) hu hn
      have e : c = b := hs.inj hc (by simp : b ∈ pre ++ [b] ++ post) (by omega : c.a = b.a)
      rw [h3, e]
      dsimp only
      rw [flat_at hs]
      unfold takeB
      split <;> rfl
end Go.Proofs.YtelohkppbmahnaaDoor

/- package arena: Free as a function on lists of blocks. -/
namespace Go.Proofs.YtelohkppbmahnaaDoor

/-- A block ahead of others: glued to the first one, if both are free. -/
def glue (b : Blk) : List Blk → List Blk
  | [] => [b]
  | c :: l => if b.u = false ∧ c.u = false then ⟨b.a, zeros (b.n + c.n + 1), false, false⟩ :: l else b :: c :: l
theorem glue_cons (b c : Blk) (l : List Blk) : glue b (c :: l) = if b.u = false ∧ c.u = false then ⟨b.a, zeros (b.n + c.n + 1), false, false⟩ :: l else b :: c :: l := rfl
def normB (l : List Blk) : List Blk := l.foldr glue []
def freeF (bs : List Blk) (x : Nat) : List Blk := normB (bs.map fun c => if c.a = x then ⟨c.a, zeros c.n, false, false⟩ else c)
/-- No two neighbours are free. -/
def noTwo (l : List Blk) : Prop := ∀ b ∈ l, ∀ c ∈ l, b.u = false → c.u = false → c.a ≠ b.a + b.n + 1
theorem noTwo.tail {b : Blk} {l : List Blk} (h : noTwo (b :: l)) : noTwo l := fun c hc d hd => h c (by simp [hc]) d (by simp [hd])
theorem glue_apart {b : Blk} {l : List Blk} {s t : Nat} (hs : Span s (b :: l) t) (h : noTwo (b :: l)) : glue b l = b :: l := by
  cases l with
  | nil => rfl
  | cons c l =>
    rw [glue_cons, if_neg]
    rintro ⟨h1, h2⟩
    obtain ⟨e1, e2, e3, e4⟩ := hs
    exact h b (by simp) c (by simp) h1 h2 (by rw [e3, e1])
theorem foldr_apart : ∀ (pre X : List Blk) (s t : Nat), Span s (pre ++ X) t → noTwo (pre ++ X) → pre.foldr glue X = pre ++ X
  | [], X, _, _, _, _ => rfl
  | b :: pre, X, s, t, hs, h => by
    obtain ⟨e1, e2, e3⟩ := hs
    rw [List.foldr_cons, foldr_apart pre X _ t e3 h.tail]
    exact glue_apart (s := s) (t := t) ⟨e1, e2, e3⟩ h
theorem normB_apart {l : List Blk} {s t : Nat} (hs : Span s l t) (h : noTwo l) : normB l = l := by
  have := foldr_apart l [] s t (by simpa using hs) (by simpa using h)
  simpa [normB] using this
/-- Free blocks one behind the other are glued to one. -/
theorem foldr_glued (X : List Blk) (hX : ∀ c l, X = c :: l → c.u = true) : ∀ (M : List Blk) (s l : Nat), M ≠ [] → (∀ c ∈ M, c.u = false) → Span s M (s + l + 1) → (∃ c r, M.foldr glue X = c :: r ∧ r = X ∧ c.a = s ∧ c.n = l ∧ c.u = false ∧ (c = ⟨s, zeros l, false, false⟩ ∨ M = [c]))
  | [], _, _, h, _, _ => absurd rfl h
  | [b], s, l, _, hf, hs => by
    obtain ⟨e1, e2, e3⟩ := hs
    have e3 : s + b.n + 1 = s + l + 1 := e3
    refine ⟨b, X, ?_, rfl, e1, by omega, hf b (by simp), .inr rfl⟩
    show glue b X = b :: X
    cases X with
    | nil => rfl
    | cons c r =>
      have hu := hX c r rfl
      rw [glue_cons, if_neg (fun h => by rw [hu] at h; exact absurd h.2 (by simp))]
  | b :: d :: M, s, l, _, hf, hs => by
    obtain ⟨e1, e2, e3⟩ := hs
    have hle := e3.le
    have hd := e3.mem d (by simp)
    obtain ⟨k, hk⟩ : ∃ k, s + b.n + 1 + k + 1 = s + l + 1 := ⟨l - b.n - 1, by omega⟩
    rw [← hk] at e3
    obtain ⟨c, r, h1, h2, h3, h4, h5, _⟩ := foldr_glued X hX (d :: M) (s + b.n + 1) k (by simp) (fun c hc => hf c (by simp at hc ⊢; grind)) e3
    refine ⟨⟨s, zeros l, false, false⟩, X, ?_, rfl, rfl, zeros_len _, rfl, .inl rfl⟩
    rw [List.foldr_cons, h1, h2, glue_cons]
    rw [if_pos ⟨hf b (by simp), h5⟩, h4, e1, show b.n + k + 1 = l by omega]
theorem Span.det : ∀ {l : List Blk} {s t t' : Nat}, Span s l t → Span s l t' → t = t'
  | [], _, _, _, h, k => Eq.trans (Eq.symm h) k
  | _ :: _, _, _, _, ⟨_, _, h⟩, ⟨_, _, k⟩ => Span.det h k
theorem Span.map {g : Blk → Blk} (hg : ∀ c, (g c).a = c.a ∧ (g c).n = c.n) : ∀ {l : List Blk} {s t : Nat}, Span s l t → Span s (l.map g) t
  | [], _, _, h => h
  | c :: l, s, t, ⟨h1, h2, h3⟩ => ⟨by rw [(hg c).1, h1], by rw [(hg c).2]; exact h2, by rw [(hg c).2]; exact Span.map hg h3⟩
theorem freeR_fun {bs : List Blk} {q er : Int} {bs' : List Blk} {s0 t0 : Nat} (h : FreeR bs q er bs') (hs : Span s0 bs t0) (hn : noTwo bs) :
    (usedAt bs q = false ∧ er = 4 ∧ bs' = bs) ∨ (usedAt bs q = true ∧ er = 0 ∧ bs' = freeF bs q.toNat) := by
  rcases h with h | ⟨pre, mid, post, b, s, l, rfl, hb, hbu, rfl, rfl, hone, hm, hpre, hpost, rfl⟩
  · exact .inl h
  refine .inr ⟨(usedAt_iff _ _).2 ⟨b, by simp [hb], hbu, rfl⟩, rfl, ?_⟩
  have hsp := hs
  rw [Span.append] at hsp
  obtain ⟨t1, h1, h3⟩ := hsp
  rw [Span.append] at h1
  obtain ⟨s1, h1, h2⟩ := h1
  have es : s1 = s := by
    cases mid with
    | nil => cases hb
    | cons c r => rw [← h2.1, hm.1]
  subst es
  have et : t1 = s1 + l + 1 := h2.det hm
  subst et
  have bm := hm.mem b hb
  let g : Blk → Blk := fun c => if c.a = b.a then ⟨c.a, zeros c.n, false, false⟩ else c
  have hg : ∀ c, (g c).a = c.a ∧ (g c).n = c.n := fun c => by
    show (if c.a = b.a then (⟨c.a, zeros c.n, false, false⟩ : Blk) else c).a = c.a ∧ (if c.a = b.a then (⟨c.a, zeros c.n, false, false⟩ : Blk) else c).n = c.n
    split
    · exact ⟨rfl, zeros_len _⟩
    · exact ⟨rfl, rfl⟩
  have gid : ∀ r : List Blk, (∀ c ∈ r, c.a ≠ b.a) → r.map g = r := fun r hr => by
    have h : r.map g = r.map id := List.map_congr_left (fun c hc => if_neg (hr c hc))
    rw [h, List.map_id]
  have g1 := gid pre (fun c hc => by have := h1.mem c hc; omega)
  have g3 := gid post (fun c hc => by have := h3.mem c hc; omega)
  have hne : mid.map g ≠ [] := fun e => by rw [List.map_eq_nil_iff] at e; rw [e] at hb; cases hb
  have hfree : ∀ c ∈ mid.map g, c.u = false := fun c hc => by
    obtain ⟨d, hd, rfl⟩ := List.mem_map.1 hc
    show (if d.a = b.a then (⟨d.a, zeros d.n, false, false⟩ : Blk) else d).u = false
    split
    · rfl
    · rename_i hne
      cases hu : d.u
      · rfl
      · exact absurd (by rw [hone d hd hu]) hne
  have hX : ∀ c r, post = c :: r → c.u = true := fun c r e => by
    cases hu : c.u
    · subst e; exact absurd h3.1 (hpost c (by simp) hu)
    · rfl
  obtain ⟨c, r, f1, f2, f3, f4, f5, f6⟩ := foldr_glued post hX (mid.map g) s1 l hne hfree (hm.map hg)
  have hc : c = ⟨s1, zeros l, false, false⟩ := by
    rcases f6 with h | h
    · exact h
    · have hbm : g b ∈ mid.map g := List.mem_map_of_mem hb
      rw [h] at hbm
      have e : g b = c := List.mem_singleton.1 hbm
      have e2 : g b = ⟨b.a, zeros b.n, false, false⟩ := if_pos rfl
      have e3 : b.a = s1 := by rw [← f3, ← e, e2]
      have e4 : b.n = l := by rw [← f4, ← e, (hg b).2]
      rw [← e, e2, e3, e4]
  have z : (⟨s1, zeros l, false, false⟩ : Blk).n = l := zeros_len _
  have l0 : 0 < l := by
    cases mid with
    | nil => cases hb
    | cons c r => have := hm.2.1; have := hm.2.2.le; omega
  have hno : noTwo (pre ++ ⟨s1, zeros l, false, false⟩ :: post) := by
    intro d hd e he hdu heu
    have hd2 : d ∈ pre ∨ d = ⟨s1, zeros l, false, false⟩ ∨ d ∈ post := by simpa using hd
    have he2 : e ∈ pre ∨ e = ⟨s1, zeros l, false, false⟩ ∨ e ∈ post := by simpa using he
    have old : ∀ {x : Blk}, x ∈ pre ∨ x ∈ post → x ∈ pre ++ mid ++ post := fun h => by simp; grind
    rcases hd2 with k1 | k1 | k1
    · rcases he2 with k2 | k2 | k2
      · exact hn d (old (.inl k1)) e (old (.inl k2)) hdu heu
      · rw [k2]; exact fun h => hpre d k1 hdu h.symm
      · exact hn d (old (.inl k1)) e (old (.inr k2)) hdu heu
    · rw [k1, z]
      rcases he2 with k2 | k2 | k2
      · have := h1.mem e k2; dsimp only; omega
      · rw [k2]; dsimp only; omega
      · exact hpost e k2 heu
    · rcases he2 with k2 | k2 | k2
      · exact hn d (old (.inr k1)) e (old (.inl k2)) hdu heu
      · have := h3.mem d k1; rw [k2]; dsimp only; omega
      · exact hn d (old (.inr k1)) e (old (.inr k2)) hdu heu
  have hsp2 : Span s0 (pre ++ ⟨s1, zeros l, false, false⟩ :: post) t0 := by
    rw [Span.append]
    exact ⟨s1, h1, rfl, by rw [z]; exact l0, by rw [z]; exact h3⟩
  have hpp : post.foldr glue [] = post := normB_apart h3 (fun d hd e he => hn d (by simp [hd]) e (by simp [he]))
  show _ = normB ((pre ++ mid ++ post).map g)
  rw [List.map_append, List.map_append, g1, g3]
  unfold normB
  rw [List.foldr_append, List.foldr_append, hpp, f1, f2, hc, foldr_apart pre _ s0 t0 hsp2 hno]
  simp
end Go.Proofs.YtelohkppbmahnaaDoor

/- package arena: what known asks, on lists of blocks. -/
namespace Go.Proofs.YtelohkppbmahnaaDoor

def markF (bs : List Blk) (x : Nat) : List Blk := bs.map fun c => if c.a = x then ⟨c.a, c.ws, c.u, true⟩ else c
/-- What is behind a Sweep. -/
def sweepF (bs : List Blk) : List Blk := normB (bs.map fun c => if c.m then ⟨c.a, c.ws, c.u, false⟩ else ⟨c.a, zeros c.n, false, false⟩)
def kb1 : List Blk := (takeF (newBs 10) 3).2.2
def kb2 : List Blk := (takeF kb1 2).2.2
def kb3 : List Blk := freeF kb2 1
def kb4 : List Blk := (takeF kb3 1).2.2
def kb5 : List Blk := (takeF kb4 2).2.2
def kb6 : List Blk := markF kb5 5
def kb7 : List Blk := sweepF kb6
theorem known1 : takeF (newBs 10) 3 = (1, 0, kb1) := by decide +kernel
theorem known2 : takeF kb1 2 = (5, 0, kb2) := by decide +kernel
theorem known3 : takeF kb2 3 = (0, 5, kb2) := by decide +kernel
theorem known4 : usedSum kb2 = 7 ∧ usedAt kb2 1 = true := by decide +kernel
theorem known5 : takeF kb3 1 = (8, 0, kb4) := by decide +kernel
theorem known6 : takeF kb4 2 = (1, 0, kb5) := by decide +kernel
theorem known7 : usedSum kb5 = 10 ∧ usedAt kb5 5 = true ∧ usedAt kb6 5 = true := by decide +kernel
theorem known8 : usedSum kb6 = 10 ∧ usedSum kb7 = 3 ∧ roomOf kb7 = 3 := by decide +kernel
end Go.Proofs.YtelohkppbmahnaaDoor
