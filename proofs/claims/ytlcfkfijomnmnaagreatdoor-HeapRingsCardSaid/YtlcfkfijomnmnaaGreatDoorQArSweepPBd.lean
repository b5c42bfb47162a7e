import Derived.Test.YtlcfkfijomnmnaaGreatDoorQArSetBd
import Derived.Deep.OwnRows
namespace Go.Proofs.YtlcfkfijomnmnaaGreatDoor
section
open Go.RowKit
section
variable {V : Type} {ws : List Nat} {tk mk : Nat → Bool} {used : Nat} {L : List (List (Ent V))} {pre mid post : List Blk} {s t : Nat}
end
end
section
open Go.RowKit
theorem own_fresh {SL SL' : Nat → Prop} {w : World} {p wb tb kb : Nat} (h : Fresh SL w SL') : Fresh (Own SL p wb tb kb) w (Own SL' p wb tb kb) := fun q hq => by
  rcases hq with e | e | e | e | e
  · exact .inl (.inl e)
  · exact .inl (.inr (.inl e))
  · exact .inl (.inr (.inr (.inl e)))
  · exact .inl (.inr (.inr (.inr (.inl e))))
  · exact (h q e).imp (fun e => .inr (.inr (.inr (.inr e)))) id
end
section
open Go.RowKit
structure NewAt (w wc : World) (p wb tb kb lb k k1 b2 : Nat) : Prop where
  blk : wc.heap[p]? = some (.cells #[.slice (some ⟨wb, 0, none⟩) k k, .slice (some ⟨tb, 0, none⟩) k1 k1, .slice (some ⟨kb, 0, none⟩) k1 k1, .int .i64 0, .slice (some ⟨lb, 0, none⟩) b2 b2] 116 (0, 0))
  wr : wc.heap[wb]? = some (.cells (madeCells #[.int .u64 0] k) 56 (0, 0))
  tr : wc.heap[tb]? = some (.cells (madeCells #[.int .u64 0] k1) 56 (0, 0))
  kr : wc.heap[kb]? = some (.cells (madeCells #[.int .u64 0] k1) 56 (0, 0))
  lr : wc.heap[lb]? = some (.cells (madeCells #[.slice none 0 0] b2) 182 (0, 0))
  d1 : tb ≠ wb
  d2 : kb ≠ wb
  d3 : tb ≠ kb
  g : w.heap.size ≤ p ∧ w.heap.size ≤ wb ∧ w.heap.size ≤ tb ∧ w.heap.size ≤ kb ∧ w.heap.size ≤ lb
  below : Below w.heap.size w wc
theorem made_list (z : Value) (n : Nat) : (madeCells #[z] n).toList = List.replicate n z := by
  refine List.ext_getElem (by simp [madeCells]) (fun i h1 h2 => ?_)
  simp [madeCells, Nat.mod_one]
theorem made_row {w : World} {b n : Nat} {e : TypeId} {z : Value} (h : w.heap[b]? = some (.cells (madeCells #[z] n) e (0, 0))) (hn : n ≤ maxLen) : w.ownsRow 0 e 1 (.slice (some ⟨b, 0, none⟩) n n) n (List.replicate n z) :=
  ⟨by simp, .inr ⟨b, n, _, rfl, Nat.zero_le _, h, Nat.le_refl _, hn, by simp [madeCells], by rw [made_list, Nat.mul_one, List.take_of_length_le (by simp)]⟩⟩
theorem u64s_zeros (n : Nat) : u64s (zeros n) = List.replicate n (.int .u64 0) := by simp [u64s, zeros]
def noLists (n : Nat) : List (Value × List (Ent Value)) := List.replicate n (.slice none 0 0, [])
theorem noLists_at {n k : Nat} {pr : Value × List (Ent Value)} (h : (noLists n)[k]? = some pr) : pr = (.slice none 0 0, []) := by
  simp [noLists, List.getElem?_replicate] at h; exact h.2.symm
theorem noLists_ok (n : Nat) (ws : List Nat) : ListsOk ((noLists n).map (·.2)) ws (fun _ _ => False) := by
  have e : ∀ (k : Nat) (l : List (Ent Value)), ((noLists n).map (·.2))[k]? = some l → l = [] := fun k l h => by
    rw [List.getElem?_map] at h
    obtain ⟨pr, h1, h2⟩ := Option.map_eq_some_iff.1 h
    rw [noLists_at h1] at h2; exact h2.symm
  refine ⟨fun k l h => ?_, fun k l h a ha => ?_, fun k l h a ha => ?_, fun k l h a ha => ?_, fun x s h => h.elim, fun x s s' h => h.elim⟩
  · rw [e k l h]; exact List.Pairwise.nil
  · rw [e k l h] at ha; cases ha
  · rw [e k l h] at ha; cases ha
  · rw [e k l h] at ha; cases ha
theorem zeros_brow {w : World} {g n : Nat} (h : w.heap[g]? = some (.cells (madeCells #[.int .u64 0] n) 56 (0, 0))) (hn : n ≤ maxLen) : BRow w g n n (fun _ => false) (zeros n) :=
  ⟨by rw [u64s_zeros]; exact made_row h hn, fun k => by rw [zeros_getD]; omega, fun i _ => by rw [zeros_getD]; exact Nat.zero_testBit _⟩
theorem NewAt.ar1 {w wc : World} {p wb tb kb lb k b2 : Nat} (N : NewAt w wc p wb tb kb lb k (k / 64 + 1) b2) (hk : k ≤ 1048576) (hb : b2 ≤ 64) :
    Ar1 (fun b => b = lb) wc p wb tb kb k ⟨k, k / 64 + 1, k / 64 + 1⟩ (.slice (some ⟨lb, 0, none⟩) b2 b2) (zeros k) (noLists b2) (fun _ => 0) (fun _ => 0) 0 (fun _ => false) (fun _ => false) (zeros (k / 64 + 1)) (zeros (k / 64 + 1)) := by
  have hL : (noLists b2).length = b2 := by simp [noLists]
  have hM : (noLists b2).map (·.1) = List.replicate b2 (.slice none 0 0) := by simp [noLists]
  refine ⟨⟨N.blk, by rw [u64s_zeros]; exact made_row N.wr (by unfold maxLen; omega), ⟨?_, ?_, fun j pr h => ?_, fun j pr h b hb => ?_, fun j pr h e he => ?_, fun j pr h e he => ?_⟩, fun b hb => by rw [hb]; exact heap_lt N.lr, ?_, ?_, by rw [zeros_len]; exact hk, fun j => by rw [zeros_getD]; omega⟩,
    zeros_brow N.tr (by unfold maxLen; omega), zeros_brow N.kr (by unfold maxLen; omega), ?_, ?_, N.d1, N.d2, N.d3⟩
  · rw [hL, hM]; exact made_row N.lr (by unfold maxLen; omega)
  · intro b hb; simp [Value.ownBlock] at hb; exact hb.symm
  · rw [noLists_at h]; exact ⟨rfl, .inl ⟨rfl, rfl⟩⟩
  · rw [noLists_at h] at hb; cases hb
  · rw [noLists_at h] at he; cases he
  · rw [noLists_at h] at he; cases he
  · exact ne_of_types N.blk N.lr (by decide)
  · exact ne_of_types N.wr N.lr (by decide)
  · exact ne_of_types N.tr N.lr (by decide)
  · exact ne_of_types N.kr N.lr (by decide)
theorem noLists_lens (k : Nat) : ((noLists (blen k + 1)).map (·.2)).length = (if (zeros k).length = 0 then 0 else Nat.log2 (zeros k).length + 1) + 1 := by
  rw [List.length_map, zeros_len]; simp [noLists, blen]
def newBs (k : Nat) : List Blk := if 2 ≤ k then [⟨1, zeros (k - 1), false, false⟩] else []
theorem Inv.none {k : Nat} (hk : k < 2) : Inv (zeros k) (fun _ => false) (fun _ => false) 0 ((noLists (blen k + 1)).map (·.2)) (newBs k) := by
  have e : newBs k = [] := if_neg (by omega)
  rw [e]
  refine ⟨by rw [zeros_len]; omega, ?_, by simp, by simp, by simp, by simp, by simp, by simp, by simp, rfl, by simp, (noLists_ok _ _).congr fun x s => ?_, noLists_lens k⟩
  · rw [zeros_len]; show 1 = endOf k; unfold endOf; rw [if_neg (by omega)]
  · constructor
    · intro h; exact h.elim
    · rintro ⟨b, hb, _⟩; cases hb
theorem Inv.one {k : Nat} (h2 : 2 ≤ k) (hk : k ≤ 1048576) {ws : List Nat} {L : List (Value × List (Ent Value))} (ok : ListsOk (L.map (·.2)) ws (more (fun _ _ => False) 1 (k - 1))) (hL : L.length = (noLists (blen k + 1)).length)
    (lo : LowOnly (fun y => y = 1 ∨ False) (relP (zeros k) 1 (k - 1)) ws) : Inv ws (fun _ => false) (fun _ => false) 0 (L.map (·.2)) (newBs k) := by
  have e : newBs k = [⟨1, zeros (k - 1), false, false⟩] := if_pos h2
  have hl : ws.length = k := by rw [lo.len, relP_len, zeros_len]
  have z : (⟨1, zeros (k - 1), false, false⟩ : Blk).n = k - 1 := zeros_len _
  have g0 : ws.getD 0 0 = 2 * (k - 1) := by
    rw [lo.off 0 (by simp)]
    exact relP_head (zeros k) 1 (k - 1) (Nat.le_refl _) (by omega) (by rw [zeros_len]; omega)
  have gt : ws.getD (1 + (k - 1) - 1) 0 / 4294967296 = k - 1 := by
    rw [lo.up, relP_tail (zeros k) 1 (k - 1) (Nat.le_refl _) (by omega) (by rw [zeros_len]; omega)]; omega
  have one : ∀ {c : Blk}, c ∈ [(⟨1, zeros (k - 1), false, false⟩ : Blk)] → c = ⟨1, zeros (k - 1), false, false⟩ := fun h => List.mem_singleton.1 h
  rw [e]
  refine ⟨by omega, ?_, fun b hb => ?_, fun b hb => ?_, fun b hb _ => ?_, fun b hb hu => ?_, fun b hb _ => ?_, fun x => ?_, fun x => ?_, ?_, fun b hb c hc _ _ => ?_, ok.congr fun x s => ?_, ?_⟩
  · exact ⟨rfl, by rw [z]; omega, by rw [z, hl]; unfold endOf; rw [if_pos h2]; show _ = _; omega⟩
  · rw [one hb, z]; dsimp only; rw [show 1 - 1 = 0 from rfl, g0]; omega
  · rw [one hb]; dsimp only; rw [show 1 - 1 = 0 from rfl, g0]
    constructor
    · intro h; omega
    · rintro ⟨c, hc, _, h⟩; rw [one hc, z] at h; dsimp only at h; omega
  · rw [one hb, z]; dsimp only; exact gt
  · rw [one hb] at hu; cases hu
  · rw [one hb]
  · constructor
    · intro h; cases h
    · rintro ⟨b, hb, hu, _⟩; rw [one hb] at hu; cases hu
  · constructor
    · intro h; cases h
    · rintro ⟨b, hb, hu, _⟩; rw [one hb] at hu; cases hu
  · simp [usedSum]
  · rw [one hb, one hc, z]; dsimp only; omega
  · unfold more
    constructor
    · rintro (⟨rfl, rfl⟩ | h)
      · exact ⟨_, List.mem_singleton.2 rfl, rfl, rfl, z⟩
      · exact h.elim
    · rintro ⟨b, hb, _, h1, h2⟩
      rw [one hb] at h1; rw [one hb, z] at h2
      exact .inl ⟨h1.symm, h2.symm⟩
  · rw [List.length_map, hL, hl]
    have := noLists_lens k
    rw [List.length_map, zeros_len] at this
    exact this
theorem blen_le {k : Nat} (hk : k ≤ 1048576) : blen k ≤ 21 := by
  unfold blen
  split
  · omega
  · have : Nat.log2 k ≤ Nat.log2 1048576 := log2_mono (by omega) hk
    have e : Nat.log2 1048576 = 20 := by decide +kernel
    omega
end
section
def fits (n : Int) (b : Blk) : Bool := !b.u && decide (n ≤ (b.n : Int))
def pickB (n : Int) : List Blk → Option Blk
  | [] => none
  | b :: l => match pickB n l with
    | none => if fits n b then some b else none
    | some c => if fits n b && (decide (b.n < c.n) || (decide (b.n = c.n) && decide (b.a ≤ c.a))) then some b else some c
theorem fits_iff (n : Int) (b : Blk) : fits n b = true ↔ b.u = false ∧ n ≤ b.n := by simp [fits]
theorem pickB_spec (n : Int) : ∀ l : List Blk, (pickB n l = none ∧ ∀ b ∈ l, b.u = false → (b.n : Int) < n) ∨
    ∃ c ∈ l, pickB n l = some c ∧ c.u = false ∧ n ≤ c.n ∧ ∀ d ∈ l, d.u = false → n ≤ d.n → c.n < d.n ∨ (c.n = d.n ∧ c.a ≤ d.a)
  | [] => .inl ⟨rfl, by simp⟩
  | b :: l => by
    rcases pickB_spec n l with ⟨h1, h2⟩ | ⟨c, hc, h1, h2, h3, h4⟩
    · cases hf : fits n b
      · refine .inl ⟨by simp [pickB, h1, hf], fun d hd hu => ?_⟩
        rcases List.mem_cons.1 hd with rfl | hd
        · have : ¬ (d.u = false ∧ n ≤ d.n) := fun h => by rw [(fits_iff n d).2 h] at hf; cases hf
          have : ¬ n ≤ d.n := fun h => this ⟨hu, h⟩
          omega
        · exact h2 d hd hu
      · have hb := (fits_iff n b).1 hf
        refine .inr ⟨b, by simp, by simp [pickB, h1, hf], hb.1, hb.2, fun d hd hu hn => ?_⟩
        rcases List.mem_cons.1 hd with rfl | hd
        · exact .inr ⟨rfl, Nat.le_refl _⟩
        · have := h2 d hd hu; omega
    · by_cases hf : (fits n b && (decide (b.n < c.n) || (decide (b.n = c.n) && decide (b.a ≤ c.a)))) = true
      · have hf2 := hf
        simp only [Bool.and_eq_true, Bool.or_eq_true, decide_eq_true_eq] at hf2
        have hb := (fits_iff n b).1 hf2.1
        refine .inr ⟨b, by simp, by simp only [pickB, h1]; rw [if_pos hf], hb.1, hb.2, fun d hd hu hn => ?_⟩
        rcases List.mem_cons.1 hd with rfl | hd
        · exact .inr ⟨rfl, Nat.le_refl _⟩
        · have := h4 d hd hu hn; omega
      · refine .inr ⟨c, by simp [hc], by simp only [pickB, h1]; rw [if_neg hf], h2, h3, fun d hd hu hn => ?_⟩
        rcases List.mem_cons.1 hd with rfl | hd
        · have hfd := (fits_iff n d).2 ⟨hu, hn⟩
          simp only [hfd, Bool.true_and, Bool.or_eq_true, Bool.and_eq_true, decide_eq_true_eq] at hf
          omega
        · exact h4 d hd hu hn
def takeB (n : Int) (b : Blk) : List Blk :=
  if n + 2 ≤ b.n then [⟨b.a, zeros n.toNat, true, false⟩, ⟨b.a + n.toNat + 1, zeros (b.n - n.toNat - 1), false, false⟩] else [⟨b.a, zeros b.n, true, false⟩]
def takeF (bs : List Blk) (n : Int) : Nat × Int × List Blk :=
  if n < 1 then (0, 2, bs) else match pickB n bs with
    | none => (0, 5, bs)
    | some b => (b.a, 0, bs.flatMap fun c => if c.a = b.a then takeB n b else [c])
theorem flat_atA {s t : Nat} {pre post : List Blk} {b : Blk} (h : Span s (pre ++ [b] ++ post) t) (r : List Blk) : (pre ++ [b] ++ post).flatMap (fun c => if c.a = b.a then r else [c]) = pre ++ r ++ post := by
  have h0 := h
  rw [Span.append] at h0
  obtain ⟨t2, h1, h3⟩ := h0
  rw [Span.append] at h1
  obtain ⟨s2, h1, h2⟩ := h1
  obtain ⟨e1, e2, e3⟩ := h2
  have e3 : s2 + b.n + 1 = t2 := e3
  have one : ∀ l : List Blk, (∀ c ∈ l, c.a ≠ b.a) → l.flatMap (fun c => if c.a = b.a then r else [c]) = l := fun l => by
    induction l with
    | nil => intro _; rfl
    | cons c l ih =>
      intro hl
      rw [List.flatMap_cons, if_neg (hl c (by simp)), ih (fun d hd => hl d (by simp [hd]))]; rfl
  rw [List.flatMap_append, List.flatMap_append, one pre (fun c hc => by have := h1.mem c hc; omega), one post (fun c hc => by have := h3.mem c hc; omega)]
  simp
theorem takeR_fun {bs : List Blk} {n : Int} {x : Nat} {e : Int} {bs' : List Blk} {s t : Nat} (h : TakeR bs n x e bs') (hs : Span s bs t) : (x, e, bs') = takeF bs n := by
  unfold takeF
  rcases h with ⟨h1, rfl, rfl, rfl⟩ | ⟨h1, h2, rfl, rfl, rfl⟩ | ⟨h1, pre, b, post, rfl, hu, hn, hl, rfl, rfl, rfl⟩
  · rw [if_pos h1]
  · rw [if_neg (show ¬ n < 1 by omega)]
    rcases pickB_spec n bs' with ⟨h3, _⟩ | ⟨c, hc, _, h4, h5, _⟩
    · rw [h3]
    · have := h2 c hc h4; omega
  · rw [if_neg (show ¬ n < 1 by omega)]
    rcases pickB_spec n (pre ++ [b] ++ post) with ⟨_, h4⟩ | ⟨c, hc, h3, h4, h5, h6⟩
    · have := h4 b (by simp) hu; omega
    · have a1 := hl c hc h4 h5
      have a2 := h6 b (by simp) hu hn
      have e : c = b := hs.inj hc (by simp : b ∈ pre ++ [b] ++ post) (by omega : c.a = b.a)
      rw [h3, e]
      dsimp only
      rw [flat_atA hs]
      unfold takeB
      split <;> rfl
end
section
def glue (b : Blk) : List Blk → List Blk
  | [] => [b]
  | c :: l => if b.u = false ∧ c.u = false then ⟨b.a, zeros (b.n + c.n + 1), false, false⟩ :: l else b :: c :: l
theorem glue_cons (b c : Blk) (l : List Blk) : glue b (c :: l) = if b.u = false ∧ c.u = false then ⟨b.a, zeros (b.n + c.n + 1), false, false⟩ :: l else b :: c :: l := rfl
def normB (l : List Blk) : List Blk := l.foldr glue []
def freeF (bs : List Blk) (x : Nat) : List Blk := normB (bs.map fun c => if c.a = x then ⟨c.a, zeros c.n, false, false⟩ else c)
def noTwo (l : List Blk) : Prop := ∀ b ∈ l, ∀ c ∈ l, b.u = false → c.u = false → c.a ≠ b.a + b.n + 1
theorem foldr_glued (X : List Blk) (hX : ∀ c l, X = c :: l → c.u = true) : ∀ (M : List Blk) (s l : Nat), M ≠ [] → (∀ c ∈ M, c.u = false) → Span s M (s + l + 1) → (∃ c r, M.foldr glue X = c :: r ∧ r = X ∧ c.a = s ∧ c.n = l ∧ c.u = false ∧ (c = ⟨s, zeros l, false, false⟩ ∨ M = [c]))
  | [], _, _, h, _, _ => absurd rfl h
  | [b], s, l, _, hf, hs => by
    obtain ⟨e1, e2, e3⟩ := hs
    have e3 : s + b.n + 1 = s + l + 1 := e3
    refine ⟨b, X, ?_, rfl, e1, by omega, hf b (by simp), .inr rfl⟩
    show glue b X = b :: X
    cases X with
    | nil => rfl
    | cons c r =>
      have hu := hX c r rfl
      rw [glue_cons, if_neg (fun h => by rw [hu] at h; exact absurd h.2 (by simp))]
  | b :: d :: M, s, l, _, hf, hs => by
    obtain ⟨e1, e2, e3⟩ := hs
    have hle := e3.le
    have hd := e3.mem d (by simp)
    obtain ⟨k, hk⟩ : ∃ k, s + b.n + 1 + k + 1 = s + l + 1 := ⟨l - b.n - 1, by omega⟩
    rw [← hk] at e3
    obtain ⟨c, r, h1, h2, h3, h4, h5, _⟩ := foldr_glued X hX (d :: M) (s + b.n + 1) k (by simp) (fun c hc => hf c (by simp at hc ⊢; grind)) e3
    refine ⟨⟨s, zeros l, false, false⟩, X, ?_, rfl, rfl, zeros_len _, rfl, .inl rfl⟩
    rw [List.foldr_cons, h1, h2, glue_cons]
    rw [if_pos ⟨hf b (by simp), h5⟩, h4, e1, show b.n + k + 1 = l by omega]
theorem Span.map {g : Blk → Blk} (hg : ∀ c, (g c).a = c.a ∧ (g c).n = c.n) : ∀ {l : List Blk} {s t : Nat}, Span s l t → Span s (l.map g) t
  | [], _, _, h => h
  | c :: l, s, t, ⟨h1, h2, h3⟩ => ⟨by rw [(hg c).1, h1], by rw [(hg c).2]; exact h2, by rw [(hg c).2]; exact Span.map hg h3⟩
end
section
def markF (bs : List Blk) (x : Nat) : List Blk := bs.map fun c => if c.a = x then ⟨c.a, c.ws, c.u, true⟩ else c
def sweepF (bs : List Blk) : List Blk := normB (bs.map fun c => if c.m then ⟨c.a, c.ws, c.u, false⟩ else ⟨c.a, zeros c.n, false, false⟩)
def kb1 : List Blk := (takeF (newBs 10) 3).2.2
def kb2 : List Blk := (takeF kb1 2).2.2
def kb3 : List Blk := freeF kb2 1
def kb4 : List Blk := (takeF kb3 1).2.2
def kb5 : List Blk := (takeF kb4 2).2.2
def kb6 : List Blk := markF kb5 5
end
section
def swB (c : Blk) : Blk := if c.m then ⟨c.a, c.ws, c.u, false⟩ else ⟨c.a, zeros c.n, false, false⟩
theorem sweepF_def (bs : List Blk) : sweepF bs = normB (bs.map swB) := rfl
theorem swB_a (c : Blk) : (swB c).a = c.a ∧ (swB c).n = c.n := by
  unfold swB; split
  · exact ⟨rfl, rfl⟩
  · exact ⟨rfl, zeros_len _⟩
theorem normB_cons (b : Blk) (l : List Blk) : normB (b :: l) = glue b (normB l) := rfl
theorem glue_used {b : Blk} (h : b.u = true) (l : List Blk) : glue b l = b :: l := by
  cases l with
  | nil => rfl
  | cons c r => rw [glue_cons, if_neg (fun q => by rw [h] at q; exact absurd q.1 (by simp))]
theorem norm_run {run X : List Blk} {s l : Nat} (hne : run ≠ []) (hr : ∀ b ∈ run, b.m = false) (hs : Span s run (s + l + 1)) (hX : ∀ c r, normB X = c :: r → c.u = true) : normB (run.map swB ++ X) = ⟨s, zeros l, false, false⟩ :: normB X := by
  have e : ∀ b ∈ run, swB b = ⟨b.a, zeros b.n, false, false⟩ := fun b hb => if_neg (by rw [hr b hb]; simp)
  obtain ⟨c, r, f1, f2, f3, f4, f5, f6⟩ := foldr_glued (normB X) hX (run.map swB) s l (by simpa using hne) (fun c hc => by
    obtain ⟨d, hd, rfl⟩ := List.mem_map.1 hc
    rw [e d hd]) (hs.map swB_a)
  have hc : c = ⟨s, zeros l, false, false⟩ := by
    rcases f6 with h | h
    · exact h
    · have hcm : c ∈ run.map swB := by rw [h]; simp
      obtain ⟨d, hd, rfl⟩ := List.mem_map.1 hcm
      rw [(swB_a d).1] at f3; rw [(swB_a d).2] at f4
      rw [e d hd, f3, f4]
  show (run.map swB ++ X).foldr glue [] = _
  rw [List.foldr_append]
  show (run.map swB).foldr glue (normB X) = _
  rw [f1, f2, hc]
variable {V : Type}
structure SwC (ws : List Nat) (tk : Nat → Bool) (used : Nat) (L : List (List (Ent V))) (done rest : List Blk) (s t : Nat) : Prop where
  small : ws.length ≤ 1048576
  two : 2 ≤ ws.length
  sd : Span 1 done s
  le : s ≤ t
  sq : Span t rest (ws.length + 1)
  head : ∀ b ∈ done ++ rest, ws.getD (b.a - 1) 0 / 2 = b.n
  bit : ∀ b ∈ done, (ws.getD (b.a - 1) 0 % 2 = 1 ↔ ∃ c ∈ done, c.u = false ∧ c.a + c.n + 1 = b.a)
  tail : ∀ b ∈ done, b.u = false → ws.getD (b.a + b.n - 1) 0 / 4294967296 = b.n
  cont : ∀ b ∈ done ++ rest, b.u = true → ∀ i, i < b.n → ws.getD (b.a + i) 0 = b.ws.getD i 0
  unm : ∀ b ∈ done, b.m = false
  taken : ∀ x, tk x = true ↔ ∃ b, (b ∈ done ∨ b ∈ rest ∨ False) ∧ b.u = true ∧ b.a = x
  sum : used = usedSum done + usedSum rest
  adj : noTwo done
  lists : ListsOk L ws (frF done)
  lens : L.length = Nat.log2 ws.length + 1 + 1
section
variable {ws : List Nat} {tk : Nat → Bool} {used : Nat} {L : List (List (Ent V))} {done rest : List Blk} {s t : Nat} {b : Blk}
theorem SwC.inv (C : SwC ws tk used L done [] s t) (hs : s = ws.length + 1) : Inv ws tk (fun _ => false) used L done := by
  have h2 := C.two
  subst hs
  refine ⟨C.small, by rw [show endOf ws.length = ws.length + 1 from if_pos h2]; exact C.sd, fun b hb => C.head b (by simp [hb]), C.bit, C.tail, fun b hb => C.cont b (by simp [hb]), fun b hb _ => C.unm b hb, fun x => ?_, fun x => ?_, by rw [C.sum]; simp [usedSum], C.adj, C.lists, by rw [C.lens, if_neg (by omega)]⟩
  · rw [C.taken]
    constructor
    · rintro ⟨b, h | h | h, h2, h3⟩
      · exact ⟨b, h, h2, h3⟩
      · cases h
      · exact h.elim
    · rintro ⟨b, h, h2, h3⟩; exact ⟨b, .inl h, h2, h3⟩
  · constructor
    · intro h; cases h
    · rintro ⟨b, h, h2, _⟩; rw [C.unm b h] at h2; cases h2
theorem SwC.keep (C : SwC ws tk used L done (b :: rest) t t) (hu : b.u = true) (hb : ws.getD (b.a - 1) 0 % 2 = 1 ↔ ∃ c ∈ done, c.u = false ∧ c.a + c.n + 1 = b.a) :
    SwC ws tk used L (done ++ [⟨b.a, b.ws, b.u, false⟩]) rest (b.a + b.n + 1) (b.a + b.n + 1) := by
  obtain ⟨q1, q2, q3⟩ := C.sq
  have q3' : Span (b.a + b.n + 1) rest (ws.length + 1) := by rw [q1]; exact q3
  obtain ⟨b', hb'⟩ : ∃ b', (⟨b.a, b.ws, b.u, false⟩ : Blk) = b' := ⟨_, rfl⟩
  have ea : b'.a = b.a := by rw [← hb']
  have en : b'.n = b.n := by rw [← hb']; rfl
  have eu : b'.u = true := by rw [← hb']; exact hu
  have ew : b'.ws = b.ws := by rw [← hb']
  have em : b'.m = false := by rw [← hb']
  rw [hb']
  have dm := C.sd.mem
  have rm := q3'.mem
  have two : ∀ {c : Blk}, c ∈ done ++ [b'] → c ∈ done ∨ c = b' := fun h => by simpa using h
  refine ⟨C.small, C.two, ?_, Nat.le_refl _, q3', fun c hc => ?_, fun c hc => ?_, fun c hc hcu => ?_, fun c hc hcu i hi => ?_, fun c hc => ?_, fun x => ?_, ?_, ?_, C.lists.congr fun x u => ?_, C.lens⟩
  · rw [Span.append]; exact ⟨t, C.sd, by rw [ea, q1], by rw [en]; exact q2, by rw [en]; show _ = _; rw [q1]⟩
  · have : (c ∈ done ∨ c ∈ rest) ∨ c = b' := by simp at hc; grind
    rcases this with h | h
    · exact C.head c (by simp; grind)
    · rw [h, ea, en]; exact C.head b (by simp)
  · rcases two hc with h | h
    · rw [C.bit c h]
      constructor
      · rintro ⟨d, hd, h1, h2⟩; exact ⟨d, by simp [hd], h1, h2⟩
      · rintro ⟨d, hd, h1, h2⟩
        rcases two hd with h3 | h3
        · exact ⟨d, h3, h1, h2⟩
        · rw [h3, eu] at h1; cases h1
    · rw [h, ea, hb]
      constructor
      · rintro ⟨d, hd, h1, h2⟩; exact ⟨d, by simp [hd], h1, h2⟩
      · rintro ⟨d, hd, h1, h2⟩
        rcases two hd with h3 | h3
        · exact ⟨d, h3, h1, h2⟩
        · rw [h3, eu] at h1; cases h1
  · rcases two hc with h | h
    · exact C.tail c h hcu
    · rw [h, eu] at hcu; cases hcu
  · have : (c ∈ done ∨ c ∈ rest) ∨ c = b' := by simp at hc; grind
    rcases this with h | h
    · exact C.cont c (by simp; grind) hcu i hi
    · rw [h, en] at hi; rw [h, ea, ew]; exact C.cont b (by simp) hu i hi
  · rcases two hc with h | h
    · exact C.unm c h
    · rw [h, em]
  · rw [C.taken]
    constructor
    · rintro ⟨c, hc, h2, h3⟩
      have : (c ∈ done ∨ c ∈ rest) ∨ c = b := by simp at hc; grind
      rcases this with (h | h) | h
      · exact ⟨c, .inl (by simp [h]), h2, h3⟩
      · exact ⟨c, .inr (.inl h), h2, h3⟩
      · exact ⟨b', .inl (by simp), eu, by rw [ea, ← h]; exact h3⟩
    · rintro ⟨c, hc, h2, h3⟩
      have : (c ∈ done ∨ c ∈ rest) ∨ c = b' := by simp at hc; grind
      rcases this with (h | h) | h
      · exact ⟨c, .inl h, h2, h3⟩
      · exact ⟨c, .inr (.inl (by simp [h])), h2, h3⟩
      · exact ⟨b, .inr (.inl (by simp)), hu, by rw [← ea, ← h]; exact h3⟩
  · rw [C.sum, usedSum_append, usedSum_cons, usedSum_cons, if_pos hu, if_pos eu, en]; simp [usedSum]; omega
  · intro c hc d hd hcu hdu
    rcases two hc with h | h
    · rcases two hd with h2 | h2
      · exact C.adj c h d h2 hcu hdu
      · rw [h2, eu] at hdu; cases hdu
    · rw [h, eu] at hcu; cases hcu
  · constructor
    · rintro ⟨c, hc, h⟩; exact ⟨c, by simp [hc], h⟩
    · rintro ⟨c, hc, h1, h⟩
      rcases two hc with h3 | h3
      · exact ⟨c, h3, h1, h⟩
      · rw [h3, eu] at h1; cases h1
theorem SwC.skip (C : SwC ws tk used L done (b :: rest) s t) {tk' : Nat → Bool} {used' : Nat} (htk : ∀ x, tk' x = if x = b.a then false else tk x) (hus : used' = used - (if b.u then b.n + 1 else 0)) :
    SwC ws tk' used' L done rest s (b.a + b.n + 1) := by
  obtain ⟨q1, q2, q3⟩ := C.sq
  have q3' : Span (b.a + b.n + 1) rest (ws.length + 1) := by rw [q1]; exact q3
  have dm := C.sd.mem
  have rm := q3'.mem
  have hle := C.le
  refine ⟨C.small, C.two, C.sd, by omega, q3', fun c hc => C.head c (by simp at hc ⊢; grind), C.bit, C.tail, fun c hc => C.cont c (by simp at hc ⊢; grind), C.unm, fun x => ?_, ?_, C.adj, C.lists, C.lens⟩
  · rw [htk]
    by_cases e : x = b.a
    · rw [if_pos e]
      constructor
      · intro h; cases h
      · rintro ⟨c, h | h | h, h2, h3⟩
        · have := dm c h; omega
        · have := rm c h; omega
        · exact h.elim
    · rw [if_neg e, C.taken]
      constructor
      · rintro ⟨c, h | h | h, h2, h3⟩
        · exact ⟨c, .inl h, h2, h3⟩
        · rcases List.mem_cons.1 h with h | h
          · rw [h] at h3; exact absurd h3.symm e
          · exact ⟨c, .inr (.inl h), h2, h3⟩
        · exact h.elim
      · rintro ⟨c, h | h | h, h2, h3⟩
        · exact ⟨c, .inl h, h2, h3⟩
        · exact ⟨c, .inr (.inl (by simp [h])), h2, h3⟩
        · exact h.elim
  · rw [hus, C.sum, usedSum_cons]; omega
theorem SwC.rel (C : SwC ws tk used L done rest s t) {l : Nat} (hl : s + l + 1 = t) (l0 : 0 < l) (last : ∀ c ∈ done, c.u = false → c.a + c.n + 1 ≠ s) {ws' : List Nat} {L' : List (List (Ent V))}
    (ok : ListsOk L' ws' (more (frF done) s l)) (hL : L'.length = L.length) (lo : LowOnly (fun y => y = s ∨ frF done y l) (relP ws s l) ws') :
    SwC ws' tk used L' (done ++ [⟨s, zeros l, false, false⟩]) rest t t ∧ (t ≤ ws.length → ws'.getD (t - 1) 0 % 2 = 1) ∧ ∀ b ∈ rest, b.a ≠ t → ws'.getD (b.a - 1) 0 = ws.getD (b.a - 1) 0 := by
  obtain ⟨f, hf⟩ : ∃ f, (⟨s, zeros l, false, false⟩ : Blk) = f := ⟨_, rfl⟩
  have ea : f.a = s := by rw [← hf]
  have en : f.n = l := by rw [← hf]; exact zeros_len _
  have eu : f.u = false := by rw [← hf]
  have em : f.m = false := by rw [← hf]
  rw [hf]
  have hlen : ws'.length = ws.length := by rw [lo.len, relP_len]
  have s1 := C.sd.le
  have tl := C.sq.le
  have dm := C.sd.mem
  have rm := C.sq.mem
  have two : ∀ {c : Blk}, c ∈ done ++ [f] → c ∈ done ∨ c = f := fun h => by simpa using h
  -- which words are others
  have off : ∀ k, k ≠ s - 1 → k ≠ s + l - 1 → k ≠ s + l → k ≠ s → (∀ c ∈ done, c.u = false → c.a ≠ k) → ws'.getD k 0 = ws.getD k 0 := fun k h1 h2 h3 h4 h5 => by
    rw [lo.off k (fun h => h.elim h4 (fun ⟨c, hc, hcu, e, _⟩ => h5 c hc hcu e)), relP_off _ _ _ _ h1 h2 h3]
  have ofr : ∀ k, s - 1 ≤ k → ∀ c ∈ done, c.u = false → c.a ≠ k := fun k hk c hc _ e => by have := dm c hc; omega
  have up : ∀ k, k ≠ s - 1 → k ≠ s + l - 1 → k ≠ s + l → ws'.getD k 0 / 4294967296 = ws.getD k 0 / 4294967296 := fun k h1 h2 h3 => by
    rw [lo.up, relP_off _ _ _ _ h1 h2 h3]
  have g1 : ws'.getD (s - 1) 0 = 2 * l := by
    rw [lo.off _ (fun h => h.elim (fun h => by omega) (fun ⟨c, hc, hcu, e, _⟩ => ofr _ (by omega) c hc hcu e)), relP_head ws s l s1 l0 (by omega)]
  have g2 : s + l < ws.length → ws'.getD (s + l) 0 = ws.getD (s + l) 0 / 2 * 2 + 1 := fun h => by
    rw [lo.off _ (fun h => h.elim (fun h => by omega) (fun ⟨c, hc, hcu, e, _⟩ => ofr _ (by omega) c hc hcu e)), relP_next ws s l s1 l0 h]
  have hdDone : ∀ c ∈ done, ws'.getD (c.a - 1) 0 = ws.getD (c.a - 1) 0 := fun c hc => by
    have h := dm c hc
    refine off _ (by omega) (by omega) (by omega) (by omega) (fun d hd hdu e => ?_)
    have h' := dm d hd
    rcases C.sd.sep c hc d hd with h3 | h3 | h3
    · rw [h3] at e; omega
    · omega
    · omega
  have hdRest : ∀ c ∈ rest, c.a ≠ t → ws'.getD (c.a - 1) 0 = ws.getD (c.a - 1) 0 := fun c hc hne => by
    have h := rm c hc
    exact off _ (by omega) (by omega) (by omega) (by omega) (ofr _ (by omega))
  have bt : t ≤ ws.length → ws'.getD (t - 1) 0 % 2 = 1 ∧ ws'.getD (t - 1) 0 / 2 = ws.getD (t - 1) 0 / 2 := fun h => by
    have := g2 (by omega)
    rw [show t - 1 = s + l by omega, this]; omega
  refine ⟨⟨by rw [hlen]; exact C.small, by rw [hlen]; exact C.two, ?_, Nat.le_refl _, by rw [hlen]; exact C.sq, fun c hc => ?_, fun c hc => ?_, fun c hc hcu => ?_, fun c hc hcu i hi => ?_, fun c hc => ?_, fun x => ?_, ?_, ?_, ok.congr fun x u => ?_, by rw [hL, hlen]; exact C.lens⟩, fun h => (bt h).1, hdRest⟩
  · rw [Span.append]; exact ⟨s, C.sd, ea, by rw [en]; exact l0, by rw [en]; exact hl⟩
  · have : c ∈ done ∨ c ∈ rest ∨ c = f := by simp at hc; grind
    rcases this with h | h | h
    · rw [hdDone c h]; exact C.head c (by simp [h])
    · rw [← C.head c (by simp [h])]
      by_cases e : c.a = t
      · have := rm c h; rw [e]; exact (bt (by omega)).2
      · rw [hdRest c h e]
    · rw [h, ea, en, g1]; omega
  · rcases two hc with h | h
    · rw [hdDone c h, C.bit c h]
      constructor
      · rintro ⟨d, hd, h1, h2⟩; exact ⟨d, by simp [hd], h1, h2⟩
      · rintro ⟨d, hd, h1, h2⟩
        rcases two hd with h3 | h3
        · exact ⟨d, h3, h1, h2⟩
        · have := dm c h; rw [h3, ea, en] at h2; omega
    · rw [h, ea, g1]
      constructor
      · intro h; omega
      · rintro ⟨d, hd, h1, h2⟩
        rcases two hd with h3 | h3
        · exact absurd h2 (last d h3 h1)
        · rw [h3, ea, en] at h2; omega
  · rcases two hc with h | h
    · have := dm c h
      rw [up _ (by omega) (by omega) (by omega)]; exact C.tail c h hcu
    · rw [h, ea, en, lo.up, relP_tail ws s l s1 l0 (by omega)]
      have := C.small; omega
  · have : c ∈ done ∨ c ∈ rest ∨ c = f := by simp at hc; grind
    rcases this with h | h | h
    · have hm := dm c h
      rw [← C.cont c (by simp [h]) hcu i hi]
      refine off _ (by omega) (by omega) (by omega) (by omega) (fun d hd hdu e => ?_)
      have hm' := dm d hd
      rcases C.sd.sep c h d hd with h3 | h3 | h3
      · rw [h3, hdu] at hcu; cases hcu
      · omega
      · omega
    · have hm := rm c h
      rw [← C.cont c (by simp [h]) hcu i hi]
      exact off _ (by omega) (by omega) (by omega) (by omega) (ofr _ (by omega))
    · rw [h, eu] at hcu; cases hcu
  · rcases two hc with h | h
    · exact C.unm c h
    · rw [h, em]
  · rw [C.taken]
    constructor
    · rintro ⟨c, h | h | h, h2, h3⟩
      · exact ⟨c, .inl (by simp [h]), h2, h3⟩
      · exact ⟨c, .inr (.inl h), h2, h3⟩
      · exact h.elim
    · rintro ⟨c, h | h | h, h2, h3⟩
      · rcases two h with h | h
        · exact ⟨c, .inl h, h2, h3⟩
        · rw [h, eu] at h2; cases h2
      · exact ⟨c, .inr (.inl h), h2, h3⟩
      · exact h.elim
  · rw [C.sum, usedSum_append, usedSum_cons, if_neg (by rw [eu]; simp)]; simp [usedSum]
  · intro c hc d hd hcu hdu
    rcases two hc with h | h
    · rcases two hd with h2 | h2
      · exact C.adj c h d h2 hcu hdu
      · rw [h2, ea]; exact fun e => last c h hcu e.symm
    · rw [h, ea, en]
      rcases two hd with h2 | h2
      · have := dm d h2; omega
      · rw [h2, ea]; omega
  · unfold more
    constructor
    · rintro (⟨rfl, rfl⟩ | ⟨c, hc, h⟩)
      · exact ⟨f, by simp, eu, ea, en⟩
      · exact ⟨c, by simp [hc], h⟩
    · rintro ⟨c, hc, h1, h2, h3⟩
      rcases two hc with h | h
      · exact .inr ⟨c, h, h1, h2, h3⟩
      · rw [h, ea] at h2; rw [h, en] at h3; exact .inl ⟨h2.symm, h3.symm⟩
end
structure SwI (bs : List Blk) (ws : List Nat) (tk mk : Nat → Bool) (used : Nat) (L : List (List (Ent V))) (done run rest : List Blk) (s t : Nat) : Prop where
  c : SwC ws tk used L done rest s t
  bspan : Span 1 bs (ws.length + 1)
  sr : Span s run t
  sub : ∀ b ∈ rest, b ∈ bs
  unmB : ∀ b ∈ bs, b.u = false → b.m = false
  runm : ∀ b ∈ run, b.m = false
  form : normB (bs.map swB) = done ++ normB (run.map swB ++ rest.map swB)
  rbit : ∀ b ∈ rest, (ws.getD (b.a - 1) 0 % 2 = 1 ↔ ∃ c ∈ bs, c.u = false ∧ c.a + c.n + 1 = b.a)
  marked : ∀ x, mk x = true ↔ ∃ b ∈ bs, b.m = true ∧ b.a = x
  last : ∀ c ∈ done, c.u = false → c.a + c.n + 1 ≠ s
  lastB : run = [] → ∀ c ∈ bs, c.u = false → c.a + c.n + 1 ≠ s
section
variable {bs : List Blk} {ws : List Nat} {tk mk : Nat → Bool} {used : Nat} {L : List (List (Ent V))} {done run rest : List Blk} {s t : Nat} {b : Blk}
theorem SwI.start {L0 : List (List (Ent V))} (I : Inv ws tk mk used L0 bs) (h2 : 2 ≤ ws.length) (hL : L.length = L0.length) (ok : ListsOk L ws (fun _ _ => False)) : SwI bs ws tk mk used L [] [] bs 1 1 := by
  have sp := I.span
  rw [show endOf ws.length = ws.length + 1 from if_pos h2] at sp
  refine ⟨⟨I.small, h2, rfl, Nat.le_refl _, sp, fun b hb => I.head b (by simpa using hb), fun b hb => (by cases hb), fun b hb => (by cases hb), fun b hb => I.cont b (by simpa using hb), fun b hb => (by cases hb), fun x => ?_, by rw [I.sum]; simp [usedSum], fun b hb => (by cases hb), ok.congr fun x u => ?_, by rw [hL, I.lens, if_neg (by omega)]⟩, sp, rfl, fun _ h => h, I.unm, fun b hb => (by cases hb), by simp, I.bit, I.marked, fun c hc => (by cases hc), fun _ c hc _ => ?_⟩
  · rw [I.taken]
    constructor
    · rintro ⟨b, h, h2, h3⟩; exact ⟨b, .inr (.inl h), h2, h3⟩
    · rintro ⟨b, h | h | h, h2, h3⟩
      · cases h
      · exact ⟨b, h, h2, h3⟩
      · exact h.elim
  · constructor
    · intro h; exact h.elim
    · rintro ⟨c, hc, _⟩; cases hc
  · have := sp.mem c hc; omega
theorem SwI.skip (I : SwI bs ws tk mk used L done run (b :: rest) s t) (hm : b.m = false) {tk' : Nat → Bool} {used' : Nat} (htk : ∀ x, tk' x = if x = b.a then false else tk x) (hus : used' = used - (if b.u then b.n + 1 else 0)) :
    SwI bs ws tk' mk used' L done (run ++ [b]) rest s (b.a + b.n + 1) := by
  obtain ⟨q1, q2, q3⟩ := I.c.sq
  refine ⟨I.c.skip htk hus, I.bspan, ?_, fun c hc => I.sub c (by simp [hc]), I.unmB, fun c hc => ?_, by rw [I.form]; simp, fun c hc => I.rbit c (by simp [hc]), I.marked, I.last, fun h => by simp at h⟩
  · rw [Span.append]; exact ⟨t, I.sr, q1, q2, by show _ = _; rw [q1]⟩
  · rcases List.mem_append.1 hc with h | h
    · exact I.runm c h
    · rw [List.mem_singleton.1 h]; exact hm
theorem SwI.stay (I : SwI bs ws tk mk used L done [] (b :: rest) s t) (hm : b.m = true) : SwI bs ws tk mk used L (done ++ [swB b]) [] rest (b.a + b.n + 1) (b.a + b.n + 1) := by
  obtain ⟨q1, q2, q3⟩ := I.c.sq
  have hst : s = t := I.sr
  subst hst
  have hbin := I.sub b (by simp)
  have hu : b.u = true := by
    cases h : b.u
    · rw [I.unmB b hbin h] at hm; cases hm
    · rfl
  have eb : swB b = ⟨b.a, b.ws, b.u, false⟩ := if_pos hm
  have hbit : ws.getD (b.a - 1) 0 % 2 = 1 ↔ ∃ c ∈ done, c.u = false ∧ c.a + c.n + 1 = b.a := by
    rw [I.rbit b (by simp)]
    constructor
    · rintro ⟨c, hc, h1, h2⟩; exact absurd (h2.trans q1) (I.lastB rfl c hc h1)
    · rintro ⟨c, hc, h1, h2⟩; exact absurd (h2.trans q1) (I.last c hc h1)
  have C := I.c.keep hu hbit
  rw [← eb] at C
  refine ⟨C, I.bspan, rfl, fun c hc => I.sub c (by simp [hc]), I.unmB, fun c hc => (by cases hc), ?_, fun c hc => I.rbit c (by simp [hc]), I.marked, fun c hc hcu e => ?_, fun _ c hc hcu e => ?_⟩
  · have := I.form
    simp only [List.map_nil, List.nil_append, List.map_cons] at this ⊢
    rw [this, normB_cons, glue_used (by rw [eb]; exact hu)]; simp
  · have hc2 : c ∈ done ∨ c = swB b := by simpa using hc
    rcases hc2 with h | h
    · have := I.c.sd.mem c h; omega
    · rw [h, eb] at hcu; dsimp only at hcu; rw [hu] at hcu; cases hcu
  · rcases I.bspan.sep c hc b hbin with h | h | h
    · rw [h, hu] at hcu; cases hcu
    · omega
    · have := I.bspan.mem c hc; omega
theorem SwI.relStay (I : SwI bs ws tk mk used L done run (b :: rest) s t) (hm : b.m = true) {l : Nat} (hl : s + l + 1 = t) (l0 : 0 < l) {ws' : List Nat} {L' : List (List (Ent V))}
    (ok : ListsOk L' ws' (more (frF done) s l)) (hL : L'.length = L.length) (lo : LowOnly (fun y => y = s ∨ frF done y l) (relP ws s l) ws') :
    SwI bs ws' tk mk used L' (done ++ [⟨s, zeros l, false, false⟩] ++ [swB b]) [] rest (b.a + b.n + 1) (b.a + b.n + 1) := by
  obtain ⟨q1, q2, q3⟩ := I.c.sq
  have hbin := I.sub b (by simp)
  have hu : b.u = true := by
    cases h : b.u
    · rw [I.unmB b hbin h] at hm; cases hm
    · rfl
  have eb : swB b = ⟨b.a, b.ws, b.u, false⟩ := if_pos hm
  obtain ⟨C1, hb1, hr1⟩ := I.c.rel hl l0 I.last ok hL lo
  have hwl : ws'.length = ws.length := by rw [lo.len, relP_len]
  have hbm := I.bspan.mem b hbin
  have z : (⟨s, zeros l, false, false⟩ : Blk).n = l := zeros_len _
  have hbit : ws'.getD (b.a - 1) 0 % 2 = 1 ↔ ∃ c ∈ done ++ [(⟨s, zeros l, false, false⟩ : Blk)], c.u = false ∧ c.a + c.n + 1 = b.a := by
    constructor
    · intro _; exact ⟨⟨s, zeros l, false, false⟩, by simp, rfl, by rw [z, q1]; exact hl⟩
    · intro _; rw [q1]; exact hb1 (by omega)
  have C := C1.keep hu hbit
  rw [← eb] at C
  have hne : run ≠ [] := fun h => by
    have := I.sr; rw [h] at this; have : s = t := this; omega
  refine ⟨C, by rw [hwl]; exact I.bspan, rfl, fun c hc => I.sub c (by simp [hc]), I.unmB, fun c hc => (by cases hc), ?_, fun c hc => ?_, I.marked, fun c hc hcu e => ?_, fun _ c hc hcu e => ?_⟩
  · have hX : normB ((b :: rest).map swB) = swB b :: normB (rest.map swB) := by
      rw [List.map_cons, normB_cons, glue_used (by rw [eb]; exact hu)]
    rw [I.form, norm_run hne I.runm (by rw [hl]; exact I.sr) (fun c r h => by rw [hX] at h; rw [← (List.cons.inj h).1, eb]; exact hu), hX]
    simp
  · have hcm := q3.mem c hc
    rw [hr1 c (by simp [hc]) (by omega)]; exact I.rbit c (by simp [hc])
  · have hc2 : c ∈ done ∨ c = ⟨s, zeros l, false, false⟩ ∨ c = swB b := by simpa using hc
    rcases hc2 with h | h | h
    · have := I.c.sd.mem c h; have := I.c.le; omega
    · rw [h, z] at e; dsimp only at e; omega
    · rw [h, eb] at hcu; dsimp only at hcu; rw [hu] at hcu; cases hcu
  · rcases I.bspan.sep c hc b hbin with h | h | h
    · rw [h, hu] at hcu; cases hcu
    · omega
    · have := I.bspan.mem c hc; omega
theorem SwI.done0 (I : SwI bs ws tk mk used L done [] [] s t) : Inv ws tk (fun _ => false) used L (sweepF bs) := by
  have hst : s = t := I.sr
  have e := I.form
  have n0 : normB (([] : List Blk).map swB ++ ([] : List Blk).map swB) = [] := rfl
  rw [n0, List.append_nil] at e
  rw [sweepF_def, e]
  exact I.c.inv (by rw [hst]; exact I.c.sq)
theorem SwI.done1 (I : SwI bs ws tk mk used L done run [] s t) {l : Nat} (hl : s + l + 1 = t) (l0 : 0 < l) {ws' : List Nat} {L' : List (List (Ent V))}
    (ok : ListsOk L' ws' (more (frF done) s l)) (hL : L'.length = L.length) (lo : LowOnly (fun y => y = s ∨ frF done y l) (relP ws s l) ws') : Inv ws' tk (fun _ => false) used L' (sweepF bs) := by
  obtain ⟨C1, hb1, hr1⟩ := I.c.rel hl l0 I.last ok hL lo
  have hne : run ≠ [] := fun h => by
    have := I.sr; rw [h] at this; have : s = t := this; omega
  rw [sweepF_def, I.form, norm_run hne I.runm (by rw [hl]; exact I.sr) (fun c r h => by cases h)]
  have hwl : ws'.length = ws.length := by rw [lo.len, relP_len]
  exact C1.inv (by rw [hwl]; exact I.c.sq)
end
end
end Go.Proofs.YtlcfkfijomnmnaaGreatDoor
