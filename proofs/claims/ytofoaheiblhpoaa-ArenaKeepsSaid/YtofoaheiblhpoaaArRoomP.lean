/- package arena: what Room answers, plain. -/
import Derived.Test.YtofoaheiblhpoaaArNewP
namespace Go.Proofs.Ytofoaheiblhpoaa

/-- The size of the greatest free block; 0, if there is none. -/
def RoomR (F : Nat → Nat → Prop) (r : Nat) : Prop := (r = 0 ∧ ∀ x s, ¬ F x s) ∨ ((∃ x, F x r) ∧ ∀ x s, F x s → s ≤ r)
theorem room_none {V : Type} {L : List (List (Ent V))} {ws : List Nat} {F : Nat → Nat → Prop} (ok : ListsOk L ws F) (h : ∀ (j : Nat) (l : List (Ent V)), L[j]? = some l → l = []) : RoomR F 0 :=
  .inl ⟨rfl, fun x s hx => by
    obtain ⟨l, hl, e, he, _⟩ := ok.all x s hx
    rw [h _ l hl] at he; cases he⟩
theorem room_last {V : Type} {L : List (List (Ent V))} {ws : List Nat} {F : Nat → Nat → Prop} (ok : ListsOk L ws F) {k : Nat} {l : List (Ent V)} {e : Ent V} (hk : L[k]? = some (l ++ [e])) (h : ∀ (j : Nat) (l : List (Ent V)), k < j → L[j]? = some l → l = []) : RoomR F e.s := by
  have hem : e ∈ l ++ [e] := by simp
  have hpos := ok.pos k _ hk e hem
  refine .inr ⟨?_, fun x s hx => ?_⟩
  · obtain ⟨y, hy⟩ := List.exists_mem_of_ne_nil _ hpos.2.2
    exact ⟨y, (ok.mem k _ hk e hem y).1 hy⟩
  · obtain ⟨l2, hl2, e2, he2, hs2⟩ := ok.all x s hx
    by_cases h1 : k < Nat.log2 s
    · rw [h _ l2 h1 hl2] at he2; cases he2
    · by_cases h2 : Nat.log2 s = k
      · rw [h2, hk] at hl2
        simp only [Option.some.injEq] at hl2
        subst hl2
        have hsorted := ok.sorted k _ hk
        rcases List.mem_append.1 he2 with h3 | h3
        · have := (List.pairwise_append.1 hsorted).2.2 e2 h3 e (by simp)
          omega
        · rw [List.mem_singleton.1 h3] at hs2; omega
      · have hlt : Nat.log2 s < Nat.log2 e.s := by have := hpos.2.1; omega
        by_cases hle : s ≤ e.s
        · exact hle
        · have := log2_mono hpos.1 (by omega : e.s ≤ s); omega
/-- The greatest size of the free blocks. -/
def roomOf (bs : List Blk) : Nat := bs.foldr (fun b r => if b.u then r else max b.n r) 0
theorem roomOf_ge (bs : List Blk) : ∀ b ∈ bs, b.u = false → b.n ≤ roomOf bs := by
  induction bs with
  | nil => simp
  | cons c l ih =>
    intro b hb hu
    show b.n ≤ (if c.u then roomOf l else max c.n (roomOf l))
    rcases List.mem_cons.1 hb with h | h
    · rw [← h, if_neg (by simp [hu])]; omega
    · have := ih b h hu
      split <;> omega
theorem roomOf_some (bs : List Blk) : roomOf bs = 0 ∨ ∃ b ∈ bs, b.u = false ∧ b.n = roomOf bs := by
  induction bs with
  | nil => exact .inl rfl
  | cons c l ih =>
    show (if c.u then roomOf l else max c.n (roomOf l)) = 0 ∨ ∃ b ∈ c :: l, b.u = false ∧ b.n = (if c.u then roomOf l else max c.n (roomOf l))
    cases hc : c.u
    · rw [if_neg (by simp)]
      by_cases hm : roomOf l ≤ c.n
      · exact .inr ⟨c, by simp, hc, by omega⟩
      · rcases ih with h | ⟨b, hb, h1, h2⟩
        · omega
        · exact .inr ⟨b, by simp [hb], h1, by omega⟩
    · rw [if_pos rfl]
      rcases ih with h | ⟨b, hb, h1, h2⟩
      · exact .inl h
      · exact .inr ⟨b, by simp [hb], h1, h2⟩
theorem roomR_eq {bs : List Blk} {r : Nat} (h : RoomR (frF bs) r) (hp : ∀ b ∈ bs, 0 < b.n) : r = roomOf bs := by
  rcases h with ⟨rfl, h⟩ | ⟨⟨x, b, hb, hu, _, hn⟩, h⟩
  · rcases roomOf_some bs with h1 | ⟨b, hb, hu, h1⟩
    · exact h1.symm
    · exact absurd ⟨b, hb, hu, rfl, rfl⟩ (h b.a b.n)
  · have h1 := roomOf_ge bs b hb hu
    rcases roomOf_some bs with h2 | ⟨c, hc, hcu, h2⟩
    · have := hp b hb; omega
    · have := h c.a c.n ⟨c, hc, hcu, rfl, rfl⟩
      omega
end Go.Proofs.Ytofoaheiblhpoaa
