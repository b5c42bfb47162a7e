/- package arena: what ArenaKeeps asks, plain. -/
import Derived.Test.YtofoaheiblhpoaaArBestP
namespace Go.Proofs.Ytofoaheiblhpoaa

/-- The used blocks are those of A (their addresses, and how many words were asked for), and hold what was set. -/
structure KeepA (bs : List Blk) (A : List (Nat × Nat)) : Prop where
  told : ∀ pr ∈ A, ∃ b ∈ bs, b.u = true ∧ b.a = pr.1 ∧ pr.2 ≤ b.n ∧ ∀ j, j < pr.2 → b.ws.getD j 0 = 1000 * pr.1 + j
  only : ∀ b ∈ bs, b.u = true → ∃ pr ∈ A, b.a = pr.1
  unm : ∀ b ∈ bs, b.m = false
  nodup : (A.map (·.1)).Nodup
theorem newBs_free {m : Nat} : ∀ b ∈ newBs m, b.u = false ∧ b.m = false := fun b hb => by
  unfold newBs at hb
  split at hb
  · rw [List.mem_singleton.1 hb]; exact ⟨rfl, rfl⟩
  · cases hb
theorem KeepA.start (m : Nat) : KeepA (newBs m) [] :=
  ⟨fun _ h => (by cases h), fun b hb hu => (by rw [(newBs_free b hb).1] at hu; cases hu), fun b hb => (newBs_free b hb).2, List.nodup_nil⟩
/-- While a new block is filled: k of its n words are set. -/
structure KeepB (bs : List Blk) (A : List (Nat × Nat)) (x n k : Nat) : Prop where
  told : ∀ pr ∈ A, ∃ b ∈ bs, b.u = true ∧ b.a = pr.1 ∧ pr.2 ≤ b.n ∧ ∀ j, j < pr.2 → b.ws.getD j 0 = 1000 * pr.1 + j
  only : ∀ b ∈ bs, b.u = true → b.a = x ∨ ∃ pr ∈ A, b.a = pr.1
  unm : ∀ b ∈ bs, b.m = false
  nodup : (A.map (·.1)).Nodup
  new : ∃ b ∈ bs, b.u = true ∧ b.a = x ∧ n ≤ b.n ∧ (∀ j, j < k → b.ws.getD j 0 = 1000 * x + j) ∧ ∀ j, k ≤ j → b.ws.getD j 0 = 0
  fresh : x ∉ A.map (·.1)
theorem KeepA.take {bs : List Blk} {A : List (Nat × Nat)} (K : KeepA bs A) {n : Nat} (h1 : 1 ≤ n) {t : Nat} (hs : Span 1 bs t) :
    (roomOf bs < n ∧ takeF bs n = (0, 5, bs)) ∨ (n ≤ roomOf bs ∧ ∃ x bs', takeF bs n = (x, 0, bs') ∧ KeepB bs' A x n 0) := by
  by_cases hr : n ≤ roomOf bs
  · right
    refine ⟨hr, ?_⟩
    rcases pickB_spec (n : Int) bs with ⟨hp, hno⟩ | ⟨b, hb, hp, hu, hn, hbest⟩
    · exfalso
      rcases roomOf_some bs with h0 | ⟨c, hc, hcu, hcn⟩
      · omega
      · have := hno c hc hcu; omega
    · obtain ⟨pre, post, hsplit⟩ := List.append_of_mem hb
      obtain ⟨rfl⟩ : bs = pre ++ [b] ++ post := by rw [hsplit]; simp
      have hT := takeF_of hs (n := (n : Int)) (x := b.a) (e := 0) (.inr (.inr ⟨by omega, pre, b, post, rfl, hu, hn, hbest, rfl, rfl, rfl⟩))
      refine ⟨b.a, _, hT, ?_⟩
      -- the new block, and what else there is
      have key : ∀ (bs' : List Blk) (w : Nat), (∀ c, c ∈ bs' → c ∈ pre ++ post ∨ c = ⟨b.a, zeros w, true, false⟩ ∨ (c.u = false ∧ c.m = false)) → (∀ c ∈ pre ++ post, c ∈ bs') → (⟨b.a, zeros w, true, false⟩ : Blk) ∈ bs' → n ≤ w → KeepB bs' A b.a n 0 := fun bs' w hc hin hnew hw => by
        have hold : ∀ c ∈ pre ++ post, c ∈ pre ++ [b] ++ post := fun c hc => by simp at hc ⊢; grind
        refine ⟨fun pr hpr => ?_, fun c hcm hcu => ?_, fun c hcm => ?_, K.nodup, ⟨_, hnew, rfl, rfl, by show n ≤ (zeros w).length; rw [zeros_len]; exact hw, fun j hj => by omega, fun j _ => zeros_getD _ _⟩, fun hmem => ?_⟩
        · obtain ⟨c, hc1, hc2, hc3⟩ := K.told pr hpr
          refine ⟨c, hin c ?_, hc2, hc3⟩
          have : c ∈ pre ++ post ∨ c = b := by simp at hc1 ⊢; grind
          rcases this with h | h
          · exact h
          · rw [h, hu] at hc2; cases hc2
        · rcases hc c hcm with h | h | h
          · exact .inr (K.only c (hold c h) hcu)
          · rw [h]; exact .inl rfl
          · rw [h.1] at hcu; cases hcu
        · rcases hc c hcm with h | h | h
          · exact K.unm c (hold c h)
          · rw [h]
          · exact h.2
        · obtain ⟨pr, hpr, he⟩ := List.mem_map.1 hmem
          obtain ⟨c, hc1, hc2, hc3, _⟩ := K.told pr hpr
          have := hs.inj hc1 hb (by rw [hc3]; exact he)
          rw [this, hu] at hc2; cases hc2
      split
      · refine key _ n (fun c hc => ?_) (fun c hc => ?_) (by simp) (Nat.le_refl _)
        · simp at hc ⊢
          rcases hc with h | h | h | h
          · exact .inl (.inl h)
          · exact .inr (.inl h)
          · rw [h]; exact .inr (.inr ⟨rfl, rfl⟩)
          · exact .inl (.inr h)
        · simp at hc ⊢; grind
      · refine key _ b.n (fun c hc => ?_) (fun c hc => ?_) (by simp) (by omega)
        · simp at hc ⊢; grind
        · simp at hc ⊢; grind
  · left
    refine ⟨by omega, takeF_of hs (.inr (.inl ⟨by omega, fun b hb hu => ?_, rfl, rfl, rfl⟩))⟩
    have := roomOf_ge bs b hb hu; omega
/-- A word of a used block is set. -/
theorem setF_used {bs : List Blk} {s t : Nat} (hs : Span s bs t) {b : Blk} (hb : b ∈ bs) (hu : b.u = true) {i v : Nat} (hi : i < b.n) : setF bs (b.a : Int) i v = (0, bs.map fun c => if c.a = b.a then ⟨c.a, c.ws.set i v, c.u, c.m⟩ else c) := by
  unfold setF
  rw [blkAt_some hs hb hu]
  dsimp only
  rw [if_pos ⟨by omega, by omega⟩]; simp
theorem getF_used {bs : List Blk} {s t : Nat} (hs : Span s bs t) {b : Blk} (hb : b ∈ bs) (hu : b.u = true) {i : Nat} (hi : i < b.n) : getF bs (b.a : Int) i = (b.ws.getD i 0, 0) := by
  unfold getF
  rw [blkAt_some hs hb hu]
  dsimp only
  rw [if_pos ⟨by omega, by omega⟩]; simp
theorem KeepB.step {bs : List Blk} {A : List (Nat × Nat)} {x n k t : Nat} (K : KeepB bs A x n k) (hs : Span 1 bs t) (hk : k < n) :
    getF bs (x : Int) k = (0, 0) ∧ ∃ bs', setF bs (x : Int) k (1000 * x + k) = (0, bs') ∧ KeepB bs' A x n (k + 1) := by
  obtain ⟨b, hb, hu, rfl, hn, h1, h2⟩ := K.new
  refine ⟨by rw [getF_used hs hb hu (by omega), h2 k (Nat.le_refl _)], _, setF_used hs hb hu (by omega), ?_⟩
  obtain ⟨f, hf⟩ : ∃ f : Blk → Blk, (fun c : Blk => if c.a = b.a then (⟨c.a, c.ws.set k (1000 * b.a + k), c.u, c.m⟩ : Blk) else c) = f := ⟨_, rfl⟩
  have f1 : ∀ c, c.a = b.a → f c = ⟨c.a, c.ws.set k (1000 * b.a + k), c.u, c.m⟩ := fun c h => by rw [← hf]; exact if_pos h
  have f2 : ∀ c, c.a ≠ b.a → f c = c := fun c h => by rw [← hf]; exact if_neg h
  have fa : ∀ c, (f c).a = c.a ∧ (f c).u = c.u ∧ (f c).m = c.m := fun c => by
    by_cases h : c.a = b.a
    · rw [f1 c h]; exact ⟨rfl, rfl, rfl⟩
    · rw [f2 c h]; exact ⟨rfl, rfl, rfl⟩
  rw [hf]
  refine ⟨fun pr hpr => ?_, fun c hc hcu => ?_, fun c hc => ?_, K.nodup, ⟨f b, List.mem_map_of_mem hb, by rw [(fa b).2.1]; exact hu, (fa b).1, ?_, fun j hj => ?_, fun j hj => ?_⟩, K.fresh⟩
  · obtain ⟨c, hc, h3, h4, h5⟩ := K.told pr hpr
    have hne : c.a ≠ b.a := fun e => K.fresh (List.mem_map.2 ⟨pr, hpr, by rw [← h4]; exact e⟩)
    exact ⟨c, by rw [← f2 c hne]; exact List.mem_map_of_mem hc, h3, h4, h5⟩
  · obtain ⟨d, hd, rfl⟩ := List.mem_map.1 hc
    rw [(fa d).2.1] at hcu
    rw [(fa d).1]
    exact K.only d hd hcu
  · obtain ⟨d, hd, rfl⟩ := List.mem_map.1 hc
    rw [(fa d).2.2]
    exact K.unm d hd
  · rw [f1 b rfl]; show n ≤ (b.ws.set _ _).length; rw [List.length_set]; exact hn
  · rw [f1 b rfl]; dsimp only
    rw [getD_set _ _ _ _ (show k < b.ws.length from by have : b.n = b.ws.length := rfl; omega)]
    by_cases e : j = k
    · rw [if_pos e, e]
    · rw [if_neg e]; exact h1 j (by omega)
  · rw [f1 b rfl]; dsimp only
    rw [getD_set _ _ _ _ (show k < b.ws.length from by have : b.n = b.ws.length := rfl; omega), if_neg (by omega)]
    exact h2 j (by omega)
theorem KeepB.done {bs : List Blk} {A : List (Nat × Nat)} {x n : Nat} (K : KeepB bs A x n n) : KeepA bs (A ++ [(x, n)]) := by
  refine ⟨fun pr hpr => ?_, fun b hb hu => ?_, K.unm, ?_⟩
  · rcases List.mem_append.1 hpr with h | h
    · exact K.told pr h
    · rw [List.mem_singleton.1 h]
      obtain ⟨b, hb, hu, ha, hn, h1, _⟩ := K.new
      exact ⟨b, hb, hu, ha, hn, h1⟩
  · rcases K.only b hb hu with h | ⟨pr, hpr, h⟩
    · exact ⟨(x, n), by simp, h⟩
    · exact ⟨pr, by simp [hpr], h⟩
  · rw [List.map_append, List.nodup_append]
    refine ⟨K.nodup, by simp, fun a ha b hb => ?_⟩
    simp at hb
    intro e
    rw [e, hb] at ha
    exact K.fresh ha
theorem KeepA.get {bs : List Blk} {A : List (Nat × Nat)} {t : Nat} (K : KeepA bs A) (hs : Span 1 bs t) {pr : Nat × Nat} (hpr : pr ∈ A) {j : Nat} (hj : j < pr.2) : getF bs (pr.1 : Int) j = (1000 * pr.1 + j, 0) := by
  obtain ⟨b, hb, hu, ha, hn, h⟩ := K.told pr hpr
  rw [← ha, getF_used hs hb hu (by omega), h j hj, ha]
/-- Blocks have no word in common. -/
theorem KeepA.apart {bs : List Blk} {A : List (Nat × Nat)} {t : Nat} (K : KeepA bs A) (hs : Span 1 bs t) {p q : Nat × Nat} (hp : p ∈ A) (hq : q ∈ A) (hne : p.1 ≠ q.1) : ¬ (p.1 ≤ q.1 + q.2 ∧ q.1 ≤ p.1 + p.2) := by
  obtain ⟨b, hb, hu, ha, hn, _⟩ := K.told p hp
  obtain ⟨c, hc, hcu, hca, hcn, _⟩ := K.told q hq
  rcases hs.sep b hb c hc with h | h | h
  · exact absurd (by rw [← ha, ← hca, h]) hne
  · omega
  · omega
theorem usedAt_used {bs : List Blk} {b : Blk} (hb : b ∈ bs) (hu : b.u = true) : usedAt bs (b.a : Int) = true := (usedAt_iff _ _).2 ⟨b, hb, hu, rfl⟩
theorem normB_unm : ∀ l : List Blk, (∀ b ∈ l, b.m = false) → ∀ b ∈ normB l, b.m = false
  | [], _, b, hb => by cases hb
  | c :: l, h, b, hb => by
    have ih := normB_unm l (fun d hd => h d (by simp [hd]))
    rw [normB_cons] at hb
    cases hX : normB l with
    | nil => rw [hX] at hb; rw [List.mem_singleton.1 hb]; exact h c (by simp)
    | cons d r =>
      rw [hX] at ih hb
      rw [glue_cons] at hb
      split at hb
      · rcases List.mem_cons.1 hb with e | e
        · rw [e]
        · exact ih b (by simp [e])
      · rcases List.mem_cons.1 hb with e | e
        · rw [e]; exact h c (by simp)
        · exact ih b e
/-- A block is freed; freed again it is none. -/
theorem KeepA.free {bs : List Blk} {A : List (Nat × Nat)} {t : Nat} (K : KeepA bs A) (hs : Span 1 bs t) {pre post : List (Nat × Nat)} {pr : Nat × Nat} (hA : A = pre ++ pr :: post) :
    freeG bs (pr.1 : Int) = (0, freeF bs pr.1) ∧ freeG (freeF bs pr.1) (pr.1 : Int) = (4, freeF bs pr.1) ∧ KeepA (freeF bs pr.1) (pre ++ post) := by
  subst hA
  obtain ⟨b, hb, hu, ha, hn, h⟩ := K.told pr (by simp)
  have hu1 : usedAt bs (pr.1 : Int) = true := by rw [← ha]; exact usedAt_used hb hu
  have hu2 : usedAt (freeF bs pr.1) (pr.1 : Int) = false := by
    cases hx : usedAt (freeF bs pr.1) (pr.1 : Int)
    · rfl
    · obtain ⟨c, hc, hcu, hca⟩ := usedAt_nat.1 hx
      exact absurd hca ((freeF_used c hcu).1 hc).2
  have hnd := K.nodup
  rw [List.map_append, List.map_cons, List.nodup_append, List.nodup_cons] at hnd
  have hne : ∀ q ∈ pre ++ post, q.1 ≠ pr.1 := fun q hq e => by
    rcases List.mem_append.1 hq with h | h
    · exact hnd.2.2 q.1 (List.mem_map_of_mem h) pr.1 (by simp) e
    · exact hnd.2.1.1 (List.mem_map.2 ⟨q, h, e⟩)
  refine ⟨by unfold freeG; rw [if_pos hu1]; simp, by unfold freeG; rw [if_neg (by rw [hu2]; simp)], fun q hq => ?_, fun c hc hcu => ?_, ?_, ?_⟩
  · obtain ⟨c, hc, hcu, hca, hcn, hcw⟩ := K.told q (by simp at hq ⊢; grind)
    exact ⟨c, (freeF_used c hcu).2 ⟨hc, by rw [hca]; exact hne q hq⟩, hcu, hca, hcn, hcw⟩
  · obtain ⟨h1, h2⟩ := (freeF_used c hcu).1 hc
    obtain ⟨q, hq, he⟩ := K.only c h1 hcu
    refine ⟨q, ?_, he⟩
    simp at hq ⊢
    rcases hq with h | h | h
    · exact .inl h
    · rw [h] at he; exact absurd he h2
    · exact .inr h
  · unfold freeF
    refine normB_unm _ (fun c hc => ?_)
    obtain ⟨d, hd, rfl⟩ := List.mem_map.1 hc
    split
    · rfl
    · exact K.unm d hd
  · rw [List.map_append, List.nodup_append]
    exact ⟨hnd.1, hnd.2.1.2, fun a ha b hb => hnd.2.2 a ha b (by simp [hb])⟩
/-- Some of the blocks are marked. -/
structure KeepM (bs : List Blk) (A : List (Nat × Nat)) (k : Nat) : Prop where
  told : ∀ pr ∈ A, ∃ b ∈ bs, b.u = true ∧ b.a = pr.1
  only : ∀ b ∈ bs, b.u = true → ∃ j, j < A.length ∧ (A.getD j (0, 0)).1 = b.a
  mark : ∀ b ∈ bs, b.u = true → ∀ j, j < A.length → (A.getD j (0, 0)).1 = b.a → (b.m = true ↔ j < k)
  unm : ∀ b ∈ bs, b.u = false → b.m = false
theorem getD_mem {A : List (Nat × Nat)} {j : Nat} (hj : j < A.length) : A.getD j (0, 0) ∈ A := by
  rw [List.getD_eq_getElem?_getD, List.getElem?_eq_getElem hj]; exact List.getElem_mem _
theorem KeepA.marks {bs : List Blk} {A : List (Nat × Nat)} (K : KeepA bs A) : KeepM bs A 0 :=
  ⟨fun pr hpr => by obtain ⟨b, hb, hu, ha, _⟩ := K.told pr hpr; exact ⟨b, hb, hu, ha⟩, fun b hb hu => by
    obtain ⟨pr, hpr, e⟩ := K.only b hb hu
    obtain ⟨j, hj, hje⟩ := List.getElem_of_mem hpr
    exact ⟨j, hj, by rw [List.getD_eq_getElem?_getD, List.getElem?_eq_getElem hj]; simp [hje, e]⟩, fun b hb _ j _ _ => by rw [K.unm b hb]; simp, fun b hb _ => K.unm b hb⟩
theorem nodup_getD {A : List (Nat × Nat)} (h : (A.map (·.1)).Nodup) {i j : Nat} (hi : i < A.length) (hj : j < A.length) (e : (A.getD i (0, 0)).1 = (A.getD j (0, 0)).1) : i = j := by
  rw [List.getD_eq_getElem?_getD, List.getD_eq_getElem?_getD, List.getElem?_eq_getElem hi, List.getElem?_eq_getElem hj] at e
  simp at e
  have e' : (A.map (·.1))[i]'(by simpa using hi) = (A.map (·.1))[j]'(by simpa using hj) := by simpa using e
  rcases Nat.lt_trichotomy i j with hlt | he | hgt
  · exact absurd e' (List.pairwise_iff_getElem.1 h i j _ _ hlt)
  · exact he
  · exact absurd e'.symm (List.pairwise_iff_getElem.1 h j i _ _ hgt)
theorem KeepM.step {bs : List Blk} {A : List (Nat × Nat)} {k t : Nat} (K : KeepM bs A k) (hn : (A.map (·.1)).Nodup) (hs : Span 1 bs t) (hk : k < A.length) :
    markG bs ((A.getD k (0, 0)).1 : Int) = (true, markF bs (A.getD k (0, 0)).1) ∧ KeepM (markF bs (A.getD k (0, 0)).1) A (k + 1) := by
  obtain ⟨b, hb, hu, ha⟩ := K.told _ (getD_mem hk)
  have hbm : b.m = false := by
    cases h : b.m
    · rfl
    · exact absurd ((K.mark b hb hu k hk ha.symm).1 h) (Nat.lt_irrefl _)
  obtain ⟨x, hx⟩ : ∃ x, (A.getD k (0, 0)).1 = x := ⟨_, rfl⟩
  rw [hx] at ha ⊢
  obtain ⟨f, hf⟩ : ∃ f : Blk → Blk, (fun c : Blk => if c.a = x then (⟨c.a, c.ws, c.u, true⟩ : Blk) else c) = f := ⟨_, rfl⟩
  have f1 : ∀ c, c.a = x → f c = ⟨c.a, c.ws, c.u, true⟩ := fun c h => by rw [← hf]; exact if_pos h
  have f2 : ∀ c, c.a ≠ x → f c = c := fun c h => by rw [← hf]; exact if_neg h
  have fa : ∀ c, (f c).a = c.a ∧ (f c).u = c.u := fun c => by
    by_cases h : c.a = x
    · rw [f1 c h]; exact ⟨rfl, rfl⟩
    · rw [f2 c h]; exact ⟨rfl, rfl⟩
  have hmf : markF bs x = bs.map f := by unfold markF; rw [hf]
  refine ⟨?_, fun pr hpr => ?_, fun c hc hcu => ?_, fun c hc hcu j hj he => ?_, fun c hc hcu => ?_⟩
  · unfold markG
    rw [← ha, blkAt_some hs hb hu]
    dsimp only
    rw [if_neg (by rw [hbm]; simp)]
  · obtain ⟨c, hc, hcu, hca⟩ := K.told pr hpr
    exact ⟨f c, by rw [hmf]; exact List.mem_map_of_mem hc, by rw [(fa c).2]; exact hcu, by rw [(fa c).1]; exact hca⟩
  · rw [hmf] at hc
    obtain ⟨d, hd, rfl⟩ := List.mem_map.1 hc
    rw [(fa d).2] at hcu
    rw [(fa d).1]
    exact K.only d hd hcu
  · rw [hmf] at hc
    obtain ⟨d, hd, rfl⟩ := List.mem_map.1 hc
    rw [(fa d).2] at hcu
    rw [(fa d).1] at he
    by_cases h : d.a = x
    · rw [f1 d h]
      have : j = k := nodup_getD hn hj hk (by rw [he, hx]; exact h)
      simp; omega
    · rw [f2 d h, K.mark d hd hcu j hj he]
      have : j ≠ k := fun e => h (by rw [← he, e, hx])
      omega
  · rw [hmf] at hc
    obtain ⟨d, hd, rfl⟩ := List.mem_map.1 hc
    rw [(fa d).2] at hcu
    have hne : d.a ≠ x := fun e => by
      have := hs.inj hd hb (by rw [e, ha])
      rw [this, hu] at hcu; cases hcu
    rw [f2 d hne]; exact K.unm d hd hcu
theorem usedSum_map {f : Blk → Blk} {l : List Blk} (h : ∀ c ∈ l, (f c).u = c.u ∧ (f c).n = c.n) : usedSum (l.map f) = usedSum l := by
  induction l with
  | nil => rfl
  | cons c l ih =>
    rw [List.map_cons, usedSum_cons, usedSum_cons, (h c (by simp)).1, (h c (by simp)).2, ih (fun d hd => h d (by simp [hd]))]
theorem roomOf_map {f : Blk → Blk} {l : List Blk} (h : ∀ c ∈ l, (f c).u = c.u ∧ (f c).n = c.n) : roomOf (l.map f) = roomOf l := by
  induction l with
  | nil => rfl
  | cons c l ih =>
    show (if (f c).u then roomOf (l.map f) else max (f c).n (roomOf (l.map f))) = (if c.u then roomOf l else max c.n (roomOf l))
    rw [(h c (by simp)).1, (h c (by simp)).2, ih (fun d hd => h d (by simp [hd]))]
/-- A Sweep of what is all marked. -/
theorem sweep_all {bs : List Blk} {t : Nat} (hs : Span 1 bs t) (hn : noTwo bs) (hm : ∀ b ∈ bs, b.u = true → b.m = true) (hf : ∀ b ∈ bs, b.u = false → b.m = false) :
    usedSum (sweepF bs) = usedSum bs ∧ roomOf (sweepF bs) = roomOf bs ∧ ∀ b ∈ sweepF bs, b.m = false := by
  have hb : ∀ c ∈ bs, (swB c).u = c.u ∧ (swB c).n = c.n := fun c hc => by
    refine ⟨?_, (swB_a c).2⟩
    unfold swB
    cases hu : c.u
    · rw [hf c hc hu]; simp
    · rw [hm c hc hu]; simp [hu]
  have e : normB (bs.map swB) = bs.map swB := by
    refine normB_apart (hs.map swB_a) (fun c hc d hd hcu hdu => ?_)
    obtain ⟨c', hc', rfl⟩ := List.mem_map.1 hc
    obtain ⟨d', hd', rfl⟩ := List.mem_map.1 hd
    rw [(hb c' hc').1] at hcu
    rw [(hb d' hd').1] at hdu
    rw [(swB_a c').1, (swB_a c').2, (swB_a d').1]
    exact hn c' hc' d' hd' hcu hdu
  rw [sweepF_def, e]
  refine ⟨usedSum_map hb, roomOf_map hb, fun c hc => ?_⟩
  obtain ⟨d, _, rfl⟩ := List.mem_map.1 hc
  unfold swB; split <;> rfl
/-- A Sweep of what is not marked at all. -/
theorem sweep_none {bs : List Blk} (h : ∀ b ∈ bs, b.m = false) : ∀ b ∈ sweepF bs, b.u = false := fun b hb => by
  cases hu : b.u
  · rfl
  · rw [sweepF_def, normB_mem hu] at hb
    obtain ⟨c, hc, rfl⟩ := List.mem_map.1 hb
    unfold swB at hu
    rw [h c hc] at hu
    simp at hu
end Go.Proofs.Ytofoaheiblhpoaa
