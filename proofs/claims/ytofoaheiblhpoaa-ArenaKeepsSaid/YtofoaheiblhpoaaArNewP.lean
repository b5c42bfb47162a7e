/- package arena: what a new arena is in memory, and what it tells. -/
import Derived.Test.YtofoaheiblhpoaaArFreeQ
import Derived.Deep.OwnRows
namespace Go.Proofs.Ytofoaheiblhpoaa
open Go.RowKit

/-- The memory that New makes. -/
structure NewAt (w wc : World) (p wb tb kb lb k k1 b2 : Nat) : Prop where
  blk : wc.heap[p]? = some (.cells #[.slice (some ⟨wb, 0, none⟩) k k, .slice (some ⟨tb, 0, none⟩) k1 k1, .slice (some ⟨kb, 0, none⟩) k1 k1, .int .i64 0, .slice (some ⟨lb, 0, none⟩) b2 b2] 43 (0, 0))
  wr : wc.heap[wb]? = some (.cells (madeCells #[.int .u64 0] k) 30 (0, 0))
  tr : wc.heap[tb]? = some (.cells (madeCells #[.int .u64 0] k1) 30 (0, 0))
  kr : wc.heap[kb]? = some (.cells (madeCells #[.int .u64 0] k1) 30 (0, 0))
  lr : wc.heap[lb]? = some (.cells (madeCells #[.slice none 0 0] b2) 48 (0, 0))
  d1 : tb ≠ wb
  d2 : kb ≠ wb
  d3 : tb ≠ kb
  g : w.heap.size ≤ p ∧ w.heap.size ≤ wb ∧ w.heap.size ≤ tb ∧ w.heap.size ≤ kb ∧ w.heap.size ≤ lb
  below : Below w.heap.size w wc
theorem made_list (z : Value) (n : Nat) : (madeCells #[z] n).toList = List.replicate n z := by
  refine List.ext_getElem (by simp [madeCells]) (fun i h1 h2 => ?_)
  simp [madeCells, Nat.mod_one]
theorem made_row {w : World} {b n : Nat} {e : TypeId} {z : Value} (h : w.heap[b]? = some (.cells (madeCells #[z] n) e (0, 0))) (hn : n ≤ maxLen) : w.ownsRow 0 e 1 (.slice (some ⟨b, 0, none⟩) n n) n (List.replicate n z) :=
  ⟨by simp, .inr ⟨b, n, _, rfl, Nat.zero_le _, h, Nat.le_refl _, hn, by simp [madeCells], by rw [made_list, Nat.mul_one, List.take_of_length_le (by simp)]⟩⟩
theorem u64s_zeros (n : Nat) : u64s (zeros n) = List.replicate n (.int .u64 0) := by simp [u64s, zeros]
/-- No list has a block. -/
def noLists (n : Nat) : List (Value × List (Ent Value)) := List.replicate n (.slice none 0 0, [])
theorem noLists_at {n k : Nat} {pr : Value × List (Ent Value)} (h : (noLists n)[k]? = some pr) : pr = (.slice none 0 0, []) := by
  simp [noLists, List.getElem?_replicate] at h; exact h.2.symm
theorem noLists_ok (n : Nat) (ws : List Nat) : ListsOk ((noLists n).map (·.2)) ws (fun _ _ => False) := by
  have e : ∀ (k : Nat) (l : List (Ent Value)), ((noLists n).map (·.2))[k]? = some l → l = [] := fun k l h => by
    rw [List.getElem?_map] at h
    obtain ⟨pr, h1, h2⟩ := Option.map_eq_some_iff.1 h
    rw [noLists_at h1] at h2; exact h2.symm
  refine ⟨fun k l h => ?_, fun k l h a ha => ?_, fun k l h a ha => ?_, fun k l h a ha => ?_, fun x s h => h.elim, fun x s s' h => h.elim⟩
  · rw [e k l h]; exact List.Pairwise.nil
  · rw [e k l h] at ha; cases ha
  · rw [e k l h] at ha; cases ha
  · rw [e k l h] at ha; cases ha
theorem zeros_brow {w : World} {g n : Nat} (h : w.heap[g]? = some (.cells (madeCells #[.int .u64 0] n) 30 (0, 0))) (hn : n ≤ maxLen) : BRow w g n n (fun _ => false) (zeros n) :=
  ⟨by rw [u64s_zeros]; exact made_row h hn, fun k => by rw [zeros_getD]; omega, fun i _ => by rw [zeros_getD]; exact Nat.zero_testBit _⟩
theorem NewAt.ar1 {w wc : World} {p wb tb kb lb k b2 : Nat} (N : NewAt w wc p wb tb kb lb k (k / 64 + 1) b2) (hk : k ≤ 1048576) (hb : b2 ≤ 64) :
    Ar1 (fun b => b = lb) wc p wb tb kb k k (.slice (some ⟨lb, 0, none⟩) b2 b2) (zeros k) (noLists b2) (fun _ => 0) (fun _ => 0) 0 (fun _ => false) (fun _ => false) (zeros (k / 64 + 1)) (zeros (k / 64 + 1)) := by
  have hL : (noLists b2).length = b2 := by simp [noLists]
  have hM : (noLists b2).map (·.1) = List.replicate b2 (.slice none 0 0) := by simp [noLists]
  refine ⟨⟨N.blk, by rw [u64s_zeros]; exact made_row N.wr (by unfold maxLen; omega), ⟨?_, ?_, fun j pr h => ?_, fun j pr h b hb => ?_, fun j pr h e he => ?_, fun j pr h e he => ?_⟩, fun b hb => by rw [hb]; exact heap_lt N.lr, ?_, ?_, by rw [zeros_len]; exact hk, fun j => by rw [zeros_getD]; omega⟩,
    zeros_brow N.tr (by unfold maxLen; omega), zeros_brow N.kr (by unfold maxLen; omega), ?_, ?_, N.d1, N.d2, N.d3⟩
  · rw [hL, hM]; exact made_row N.lr (by unfold maxLen; omega)
  · intro b hb; simp [Value.ownBlock] at hb; exact hb.symm
  · rw [noLists_at h]; exact ⟨rfl, .inl ⟨rfl, rfl⟩⟩
  · rw [noLists_at h] at hb; cases hb
  · rw [noLists_at h] at he; cases he
  · rw [noLists_at h] at he; cases he
  · exact ne_of_types N.blk N.lr (by decide)
  · exact ne_of_types N.wr N.lr (by decide)
  · exact ne_of_types N.tr N.lr (by decide)
  · exact ne_of_types N.kr N.lr (by decide)
theorem noLists_lens (k : Nat) : ((noLists (blen k + 1)).map (·.2)).length = (if (zeros k).length = 0 then 0 else Nat.log2 (zeros k).length + 1) + 1 := by
  rw [List.length_map, zeros_len]; simp [noLists, blen]
/-- The blocks of a new arena. -/
def newBs (k : Nat) : List Blk := if 2 ≤ k then [⟨1, zeros (k - 1), false, false⟩] else []
theorem Inv.none {k : Nat} (hk : k < 2) : Inv (zeros k) (fun _ => false) (fun _ => false) 0 ((noLists (blen k + 1)).map (·.2)) (newBs k) := by
  have e : newBs k = [] := if_neg (by omega)
  rw [e]
  refine ⟨by rw [zeros_len]; omega, ?_, by simp, by simp, by simp, by simp, by simp, by simp, by simp, rfl, by simp, (noLists_ok _ _).congr fun x s => ?_, noLists_lens k⟩
  · rw [zeros_len]; show 1 = endOf k; unfold endOf; rw [if_neg (by omega)]
  · constructor
    · intro h; exact h.elim
    · rintro ⟨b, hb, _⟩; cases hb
theorem Inv.one {k : Nat} (h2 : 2 ≤ k) (hk : k ≤ 1048576) {ws : List Nat} {L : List (Value × List (Ent Value))} (ok : ListsOk (L.map (·.2)) ws (more (fun _ _ => False) 1 (k - 1))) (hL : L.length = (noLists (blen k + 1)).length)
    (lo : LowOnly (fun y => y = 1 ∨ False) (relP (zeros k) 1 (k - 1)) ws) : Inv ws (fun _ => false) (fun _ => false) 0 (L.map (·.2)) (newBs k) := by
  have e : newBs k = [⟨1, zeros (k - 1), false, false⟩] := if_pos h2
  have hl : ws.length = k := by rw [lo.len, relP_len, zeros_len]
  have z : (⟨1, zeros (k - 1), false, false⟩ : Blk).n = k - 1 := zeros_len _
  have g0 : ws.getD 0 0 = 2 * (k - 1) := by
    rw [lo.off 0 (by simp)]
    exact relP_head (zeros k) 1 (k - 1) (Nat.le_refl _) (by omega) (by rw [zeros_len]; omega)
  have gt : ws.getD (1 + (k - 1) - 1) 0 / 4294967296 = k - 1 := by
    rw [lo.up, relP_tail (zeros k) 1 (k - 1) (Nat.le_refl _) (by omega) (by rw [zeros_len]; omega)]; omega
  have one : ∀ {c : Blk}, c ∈ [(⟨1, zeros (k - 1), false, false⟩ : Blk)] → c = ⟨1, zeros (k - 1), false, false⟩ := fun h => List.mem_singleton.1 h
  rw [e]
  refine ⟨by omega, ?_, fun b hb => ?_, fun b hb => ?_, fun b hb _ => ?_, fun b hb hu => ?_, fun b hb _ => ?_, fun x => ?_, fun x => ?_, ?_, fun b hb c hc _ _ => ?_, ok.congr fun x s => ?_, ?_⟩
  · exact ⟨rfl, by rw [z]; omega, by rw [z, hl]; unfold endOf; rw [if_pos h2]; show _ = _; omega⟩
  · rw [one hb, z]; dsimp only; rw [show 1 - 1 = 0 from rfl, g0]; omega
  · rw [one hb]; dsimp only; rw [show 1 - 1 = 0 from rfl, g0]
    constructor
    · intro h; omega
    · rintro ⟨c, hc, _, h⟩; rw [one hc, z] at h; dsimp only at h; omega
  · rw [one hb, z]; dsimp only; exact gt
  · rw [one hb] at hu; cases hu
  · rw [one hb]
  · constructor
    · intro h; cases h
    · rintro ⟨b, hb, hu, _⟩; rw [one hb] at hu; cases hu
  · constructor
    · intro h; cases h
    · rintro ⟨b, hb, hu, _⟩; rw [one hb] at hu; cases hu
  · simp [usedSum]
  · rw [one hb, one hc, z]; dsimp only; omega
  · unfold more
    constructor
    · rintro (⟨rfl, rfl⟩ | h)
      · exact ⟨_, List.mem_singleton.2 rfl, rfl, rfl, z⟩
      · exact h.elim
    · rintro ⟨b, hb, _, h1, h2⟩
      rw [one hb] at h1; rw [one hb, z] at h2
      exact .inl ⟨h1.symm, h2.symm⟩
  · rw [List.length_map, hL, hl]
    have := noLists_lens k
    rw [List.length_map, zeros_len] at this
    exact this
theorem blen_le {k : Nat} (hk : k ≤ 1048576) : blen k ≤ 21 := by
  unfold blen
  split
  · omega
  · have : Nat.log2 k ≤ Nat.log2 1048576 := log2_mono (by omega) hk
    have e : Nat.log2 1048576 = 20 := by decide +kernel
    omega
end Go.Proofs.Ytofoaheiblhpoaa
