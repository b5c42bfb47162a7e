/- package arena: Free, joined. -/
import Derived.Test.YtelohkppbmahnaaDoorQArFree
import Derived.Deep.OwnRows
namespace Go.Proofs.YtelohkppbmahnaaDoor
open Go.RowKit

/-- What Free answers, and which blocks there are behind it. -/
def FreeR (bs : List Blk) (q : Int) (er : Int) (bs' : List Blk) : Prop :=
  (usedAt bs q = false ∧ er = 4 ∧ bs' = bs) ∨ ∃ pre mid post b s l, bs = pre ++ mid ++ post ∧ b ∈ mid ∧ b.u = true ∧ q = (b.a : Int) ∧ er = 0 ∧ (∀ c ∈ mid, c.u = true → c = b) ∧ Span s mid (s + l + 1) ∧
    (∀ c ∈ pre, c.u = false → c.a + c.n + 1 ≠ s) ∧ (∀ c ∈ post, c.u = false → c.a ≠ s + l + 1) ∧ bs' = pre ++ [⟨s, zeros l, false, false⟩] ++ post
set_option maxHeartbeats 1000000 in
theorem free_miss {SL : Nat → Prop} {w : World} {p wb tb kb m : Nat} {mc : Caps} {lv : Value} {ws : List Nat} {L : List (Value × List (Ent Value))} {T K : Nat → Nat} {used : Nat} {tk mk : Nat → Bool} {tbs kbs : List Nat} {bs : List Blk}
    (A : Ar1 SL w p wb tb kb m mc lv ws L T K used tk mk tbs kbs) (I : Inv ws tk mk used (L.map (·.2)) bs) (q : Int) (hq1 : -9223372036854775808 ≤ q) (hq2 : q < 9223372036854775808) (hu : usedAt bs q = false) :
    Calls Tryd.prog 10 #[.pointer (some ⟨p, 0, none⟩), .int .i64 q] w fun e w' => e = .returned (.int .i64 4) ∧ w = w' := by
  have HH := Lib.hid (has_at A I q hq1 hq2); have HU := Lib.hid hu
  clear A I hq1 hq2 hu
  go_enter Tryd.func10, Tryd.ntmps10
  go_wp2_with fail
  refine (absent_at p w).mono ?_
  rintro e w1 ⟨rfl, rfl⟩
  go_wp2_with fail
  refine HH.out.mono ?_
  rintro e w1 ⟨rfl, rfl⟩
  rw [HU.out]
  go_wp2
  go_ret
  exact ⟨rfl, rfl⟩
theorem Free_at {S : Nat → Prop} {w : World} {p m : Nat} {bs : List Blk} (A0 : ArV S w p m bs) (q : Int) (hq1 : -9223372036854775808 ≤ q) (hq2 : q < 9223372036854775808) :
    Calls Tryd.prog 10 #[.pointer (some ⟨p, 0, none⟩), .int .i64 q] w fun e w' => ∃ er bs', FreeR bs q er bs' ∧ e = .returned (.int .i64 er) ∧ ArPost S w p m bs' w' := by
  have HA0 := A0
  obtain ⟨SL, wb, tb, kb, mc, lv, ws, L, T, K, used, tk, mk, tbs, kbs, A, I, O⟩ := A0
  have lift : ∀ {w' : World} {bs' : List Blk}, ArPost (Own SL p wb tb kb) w p m bs' w' → ArPost S w p m bs' w' := fun ⟨S', a, f, u⟩ =>
    ⟨S', a, fun q hq => (f q hq).imp (O q) id, u.mono fun q _ hq => O q hq⟩
  cases hu : usedAt bs q
  · exact (free_miss A I q hq1 hq2 hu).mono fun e w' ⟨h1, h2⟩ => ⟨4, bs, .inl ⟨hu, rfl, rfl⟩, h1, by subst h2; exact .same HA0 (Below.refl _ _)⟩
  obtain ⟨b, hb, hbu, rfl⟩ := usedAt_mem hu
  obtain ⟨pre, post, rfl⟩ := split_mem hb
  obtain ⟨p1, p2, p3, p4, p5⟩ := I.parts
  have hlen := A.core.len
  clear hu hb hq1 hq2
  -- what stands ahead
  have ahead : (∀ c ∈ pre, c.u = false → c.a + c.n + 1 ≠ b.a) ∨ ∃ pre' d, pre = pre' ++ [d] ∧ d.u = false ∧ d.a + d.n + 1 = b.a := by
    rcases p1.last with rfl | ⟨pre', d, rfl, hd⟩
    · exact .inl (by simp)
    · cases hdu : d.u
      · exact .inr ⟨pre', d, rfl, hdu, hd⟩
      · refine .inl (fun c hc hcu e => ?_)
        have hcm : c ∈ pre' ++ [d] ++ [b] ++ post := by simp at hc ⊢; grind
        rcases I.span.sep c hcm d (by simp) with h | h | h
        · rw [h, hdu] at hcu; cases hcu
        · have := (I.end_le d (by simp)).2.1; omega
        · have := (I.end_le c hcm).2.1; omega
  have behind : (post = [] ∧ m < b.a + b.n + 1) ∨ ∃ c post', post = c :: post' ∧ c.a = b.a + b.n + 1 := by
    cases post with
    | nil => have h : b.a + b.n + 1 = ws.length + 1 := p3; exact .inl ⟨rfl, by omega⟩
    | cons c post' => exact .inr ⟨c, post', rfl, p3.1⟩
  -- the ends of the ways
  have sep2 : ∀ c ∈ post, c.a = b.a + b.n + 1 → ∀ e ∈ post, e.a = b.a + b.n + 1 → e = c := fun c hc h1 e he h2 =>
    I.span.inj (by simp [he]) (by simp [hc]) (by omega)
  rcases ahead with hpre | ⟨pre', d, rfl, hdu, hd⟩
  · rcases behind with ⟨rfl, hye⟩ | ⟨c, post', rfl, hca⟩
    · refine (free_oe A (pre := pre) (b := b) (post := []) I hbu hpre (by simp) hye).mono fun e w' ⟨h1, h2⟩ => ⟨0, _, .inr ⟨pre, [b], [], b, b.a, b.n, rfl, by simp, hbu, rfl, rfl, by simp, ⟨rfl, p2, rfl⟩, hpre, by simp, rfl⟩, h1, lift h2⟩
    · cases hcu : c.u
      · refine (free_oc A (pre := pre) (b := b) (c := c) (post := post') (by simpa using I) hbu hpre hcu).mono fun e w' ⟨h1, h2⟩ => ⟨0, _, .inr ⟨pre, [b, c], post', b, b.a, b.n + c.n + 1, by simp, by simp, hbu, rfl, rfl, by simp [hcu], ⟨rfl, p2, hca, p3.2.1, by show _ = _; omega⟩, hpre, fun e he heu h => ?_, rfl⟩, h1, lift h2⟩
        exact I.adj c (by simp) e (by simp [he]) hcu heu (by omega)
      · have hpost : ∀ e ∈ c :: post', e.u = false → e.a ≠ b.a + b.n + 1 := fun e he heu h => by
          rw [sep2 c (by simp) hca e he h, hcu] at heu; cases heu
        refine (free_ou A (pre := pre) (b := b) (c := c) (post := c :: post') I hbu hpre hpost (by simp) hca hcu).mono fun e w' ⟨h1, h2⟩ => ⟨0, _, .inr ⟨pre, [b], c :: post', b, b.a, b.n, rfl, by simp, hbu, rfl, rfl, by simp, ⟨rfl, p2, rfl⟩, hpre, hpost, rfl⟩, h1, lift h2⟩
  · have hd0 := (I.end_le d (by simp)).2.1
    have hpre : ∀ c ∈ pre', c.u = false → c.a + c.n + 1 ≠ d.a := fun c hc hcu e => I.adj c (by simp [hc]) d (by simp) hcu hdu e.symm
    rcases behind with ⟨rfl, hye⟩ | ⟨c, post', rfl, hca⟩
    · refine (free_pe A (pre := pre') (b := b) (d := d) (post := []) (by simpa using I) hbu hdu (by simp) hye).mono fun e w' ⟨h1, h2⟩ => ⟨0, _, .inr ⟨pre', [d, b], [], b, d.a, b.n + d.n + 1, by simp, by simp, hbu, rfl, rfl, by simp [hdu], ⟨rfl, hd0, hd.symm, p2, by show _ = _; omega⟩, hpre, by simp, rfl⟩, h1, lift h2⟩
    · cases hcu : c.u
      · refine (free_pc A (pre := pre') (b := b) (c := c) (d := d) (post := post') (by simpa using I) hbu hdu hcu).mono fun e w' ⟨h1, h2⟩ => ⟨0, _, .inr ⟨pre', [d, b, c], post', b, d.a, b.n + c.n + 1 + d.n + 1, by simp, by simp, hbu, rfl, rfl, by simp [hcu, hdu], ⟨rfl, hd0, hd.symm, p2, by omega, p3.2.1, by show _ = _; omega⟩, hpre, fun e he heu h => ?_, rfl⟩, h1, lift h2⟩
        exact I.adj c (by simp) e (by simp [he]) hcu heu (by omega)
      · have hpost : ∀ e ∈ c :: post', e.u = false → e.a ≠ b.a + b.n + 1 := fun e he heu h => by
          rw [sep2 c (by simp) hca e he h, hcu] at heu; cases heu
        refine (free_pu A (pre := pre') (b := b) (c := c) (d := d) (post := c :: post') (by simpa using I) hbu hdu hpost (by simp) hca hcu).mono fun e w' ⟨h1, h2⟩ => ⟨0, _, .inr ⟨pre', [d, b], c :: post', b, d.a, b.n + d.n + 1, by simp, by simp, hbu, rfl, rfl, by simp [hdu], ⟨rfl, hd0, hd.symm, p2, by show _ = _; omega⟩, hpre, fun e he heu h => hpost e he heu (by omega), rfl⟩, h1, lift h2⟩
end Go.Proofs.YtelohkppbmahnaaDoor

/- package arena: what a new arena is in memory, and what it tells. -/
namespace Go.Proofs.YtelohkppbmahnaaDoor
open Go.RowKit

/-- The memory that New makes. -/
structure NewAt (w wc : World) (p wb tb kb lb k k1 b2 : Nat) : Prop where
  blk : wc.heap[p]? = some (.cells #[.slice (some ⟨wb, 0, none⟩) k k, .slice (some ⟨tb, 0, none⟩) k1 k1, .slice (some ⟨kb, 0, none⟩) k1 k1, .int .i64 0, .slice (some ⟨lb, 0, none⟩) b2 b2] 53 (0, 0))
  wr : wc.heap[wb]? = some (.cells (madeCells #[.int .u64 0] k) 28 (0, 0))
  tr : wc.heap[tb]? = some (.cells (madeCells #[.int .u64 0] k1) 28 (0, 0))
  kr : wc.heap[kb]? = some (.cells (madeCells #[.int .u64 0] k1) 28 (0, 0))
  lr : wc.heap[lb]? = some (.cells (madeCells #[.slice none 0 0] b2) 67 (0, 0))
  d1 : tb ≠ wb
  d2 : kb ≠ wb
  d3 : tb ≠ kb
  g : w.heap.size ≤ p ∧ w.heap.size ≤ wb ∧ w.heap.size ≤ tb ∧ w.heap.size ≤ kb ∧ w.heap.size ≤ lb
  below : Below w.heap.size w wc
theorem made_list (z : Value) (n : Nat) : (madeCells #[z] n).toList = List.replicate n z := by
  refine List.ext_getElem (by simp [madeCells]) (fun i h1 h2 => ?_)
  simp [madeCells, Nat.mod_one]
theorem made_row {w : World} {b n : Nat} {e : TypeId} {z : Value} (h : w.heap[b]? = some (.cells (madeCells #[z] n) e (0, 0))) (hn : n ≤ maxLen) : w.ownsRow 0 e 1 (.slice (some ⟨b, 0, none⟩) n n) n (List.replicate n z) :=
  ⟨by simp, .inr ⟨b, n, _, rfl, Nat.zero_le _, h, Nat.le_refl _, hn, by simp [madeCells], by rw [made_list, Nat.mul_one, List.take_of_length_le (by simp)]⟩⟩
theorem u64s_zeros (n : Nat) : u64s (zeros n) = List.replicate n (.int .u64 0) := by simp [u64s, zeros]
/-- No list has a block. -/
def noLists (n : Nat) : List (Value × List (Ent Value)) := List.replicate n (.slice none 0 0, [])
theorem noLists_at {n k : Nat} {pr : Value × List (Ent Value)} (h : (noLists n)[k]? = some pr) : pr = (.slice none 0 0, []) := by
  simp [noLists, List.getElem?_replicate] at h; exact h.2.symm
theorem noLists_ok (n : Nat) (ws : List Nat) : ListsOk ((noLists n).map (·.2)) ws (fun _ _ => False) := by
  have e : ∀ (k : Nat) (l : List (Ent Value)), ((noLists n).map (·.2))[k]? = some l → l = [] := fun k l h => by
    rw [List.getElem?_map] at h
    obtain ⟨pr, h1, h2⟩ := Option.map_eq_some_iff.1 h
    rw [noLists_at h1] at h2; exact h2.symm
  refine ⟨fun k l h => ?_, fun k l h a ha => ?_, fun k l h a ha => ?_, fun k l h a ha => ?_, fun x s h => h.elim, fun x s s' h => h.elim⟩
  · rw [e k l h]; exact List.Pairwise.nil
  · rw [e k l h] at ha; cases ha
  · rw [e k l h] at ha; cases ha
  · rw [e k l h] at ha; cases ha
theorem zeros_brow {w : World} {g n : Nat} (h : w.heap[g]? = some (.cells (madeCells #[.int .u64 0] n) 28 (0, 0))) (hn : n ≤ maxLen) : BRow w g n n (fun _ => false) (zeros n) :=
  ⟨by rw [u64s_zeros]; exact made_row h hn, fun k => by rw [zeros_getD]; omega, fun i _ => by rw [zeros_getD]; exact Nat.zero_testBit _⟩
theorem NewAt.ar1 {w wc : World} {p wb tb kb lb k b2 : Nat} (N : NewAt w wc p wb tb kb lb k (k / 64 + 1) b2) (hk : k ≤ 1048576) (hb : b2 ≤ 64) :
    Ar1 (fun b => b = lb) wc p wb tb kb k ⟨k, k / 64 + 1, k / 64 + 1⟩ (.slice (some ⟨lb, 0, none⟩) b2 b2) (zeros k) (noLists b2) (fun _ => 0) (fun _ => 0) 0 (fun _ => false) (fun _ => false) (zeros (k / 64 + 1)) (zeros (k / 64 + 1)) := by
  have hL : (noLists b2).length = b2 := by simp [noLists]
  have hM : (noLists b2).map (·.1) = List.replicate b2 (.slice none 0 0) := by simp [noLists]
  refine ⟨⟨N.blk, by rw [u64s_zeros]; exact made_row N.wr (by unfold maxLen; omega), ⟨?_, ?_, fun j pr h => ?_, fun j pr h b hb => ?_, fun j pr h e he => ?_, fun j pr h e he => ?_⟩, fun b hb => by rw [hb]; exact heap_lt N.lr, ?_, ?_, by rw [zeros_len]; exact hk, fun j => by rw [zeros_getD]; omega⟩,
    zeros_brow N.tr (by unfold maxLen; omega), zeros_brow N.kr (by unfold maxLen; omega), ?_, ?_, N.d1, N.d2, N.d3⟩
  · rw [hL, hM]; exact made_row N.lr (by unfold maxLen; omega)
  · intro b hb; simp [Value.ownBlock] at hb; exact hb.symm
  · rw [noLists_at h]; exact ⟨rfl, .inl ⟨rfl, rfl⟩⟩
  · rw [noLists_at h] at hb; cases hb
  · rw [noLists_at h] at he; cases he
  · rw [noLists_at h] at he; cases he
  · exact ne_of_types N.blk N.lr (by decide)
  · exact ne_of_types N.wr N.lr (by decide)
  · exact ne_of_types N.tr N.lr (by decide)
  · exact ne_of_types N.kr N.lr (by decide)
theorem noLists_lens (k : Nat) : ((noLists (blen k + 1)).map (·.2)).length = (if (zeros k).length = 0 then 0 else Nat.log2 (zeros k).length + 1) + 1 := by
  rw [List.length_map, zeros_len]; simp [noLists, blen]
/-- The blocks of a new arena. -/
def newBs (k : Nat) : List Blk := if 2 ≤ k then [⟨1, zeros (k - 1), false, false⟩] else []
theorem Inv.none {k : Nat} (hk : k < 2) : Inv (zeros k) (fun _ => false) (fun _ => false) 0 ((noLists (blen k + 1)).map (·.2)) (newBs k) := by
  have e : newBs k = [] := if_neg (by omega)
  rw [e]
  refine ⟨by rw [zeros_len]; omega, ?_, by simp, by simp, by simp, by simp, by simp, by simp, by simp, rfl, by simp, (noLists_ok _ _).congr fun x s => ?_, noLists_lens k⟩
  · rw [zeros_len]; show 1 = endOf k; unfold endOf; rw [if_neg (by omega)]
  · constructor
    · intro h; exact h.elim
    · rintro ⟨b, hb, _⟩; cases hb
theorem Inv.one {k : Nat} (h2 : 2 ≤ k) (hk : k ≤ 1048576) {ws : List Nat} {L : List (Value × List (Ent Value))} (ok : ListsOk (L.map (·.2)) ws (more (fun _ _ => False) 1 (k - 1))) (hL : L.length = (noLists (blen k + 1)).length)
    (lo : LowOnly (fun y => y = 1 ∨ False) (relP (zeros k) 1 (k - 1)) ws) : Inv ws (fun _ => false) (fun _ => false) 0 (L.map (·.2)) (newBs k) := by
  have e : newBs k = [⟨1, zeros (k - 1), false, false⟩] := if_pos h2
  have hl : ws.length = k := by rw [lo.len, relP_len, zeros_len]
  have z : (⟨1, zeros (k - 1), false, false⟩ : Blk).n = k - 1 := zeros_len _
  have g0 : ws.getD 0 0 = 2 * (k - 1) := by
    rw [lo.off 0 (by simp)]
    exact relP_head (zeros k) 1 (k - 1) (Nat.le_refl _) (by omega) (by rw [zeros_len]; omega)
  have gt : ws.getD (1 + (k - 1) - 1) 0 / 4294967296 = k - 1 := by
    rw [lo.up, relP_tail (zeros k) 1 (k - 1) (Nat.le_refl _) (by omega) (by rw [zeros_len]; omega)]; omega
  have one : ∀ {c : Blk}, c ∈ [(⟨1, zeros (k - 1), false, false⟩ : Blk)] → c = ⟨1, zeros (k - 1), false, false⟩ := fun h => List.mem_singleton.1 h
  rw [e]
  refine ⟨by omega, ?_, fun b hb => ?_, fun b hb => ?_, fun b hb _ => ?_, fun b hb hu => ?_, fun b hb _ => ?_, fun x => ?_, fun x => ?_, ?_, fun b hb c hc _ _ => ?_, ok.congr fun x s => ?_, ?_⟩
  · exact ⟨rfl, by rw [z]; omega, by rw [z, hl]; unfold endOf; rw [if_pos h2]; show _ = _; omega⟩
  · rw [one hb, z]; dsimp only; rw [show 1 - 1 = 0 from rfl, g0]; omega
  · rw [one hb]; dsimp only; rw [show 1 - 1 = 0 from rfl, g0]
    constructor
    · intro h; omega
    · rintro ⟨c, hc, _, h⟩; rw [one hc, z] at h; dsimp only at h; omega
  · rw [one hb, z]; dsimp only; exact gt
  · rw [one hb] at hu; cases hu
  · rw [one hb]
  · constructor
    · intro h; cases h
    · rintro ⟨b, hb, hu, _⟩; rw [one hb] at hu; cases hu
  · constructor
    · intro h; cases h
    · rintro ⟨b, hb, hu, _⟩; rw [one hb] at hu; cases hu
  · simp [usedSum]
  · rw [one hb, one hc, z]; dsimp only; omega
  · unfold more
    constructor
    · rintro (⟨rfl, rfl⟩ | h)
      · exact ⟨_, List.mem_singleton.2 rfl, rfl, rfl, z⟩
      · exact h.elim
    · rintro ⟨b, hb, _, h1, h2⟩
      rw [one hb] at h1; rw [one hb, z] at h2
      exact .inl ⟨h1.symm, h2.symm⟩
  · rw [List.length_map, hL, hl]
    have := noLists_lens k
    rw [List.length_map, zeros_len] at this
    exact this
theorem blen_le {k : Nat} (hk : k ≤ 1048576) : blen k ≤ 21 := by
  unfold blen
  split
  · omega
  · have : Nat.log2 k ≤ Nat.log2 1048576 := log2_mono (by omega) hk
    have e : Nat.log2 1048576 = 20 := by decide +kernel
    omega
end Go.Proofs.YtelohkppbmahnaaDoor
