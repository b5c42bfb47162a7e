/- package arena: the calls beside other memory that stays. -/
import Derived.Test.YtelohkppbmahnaaDoorQArAllBd
import Derived.Test.YtelohkppbmahnaaDoorQArSweepP
namespace Go.Proofs.YtelohkppbmahnaaDoor
open Go.RowKit

/-- An arena that was made since w0, beside the blocks R. -/
structure ArR (R : Nat → Prop) (w0 w : World) (p m : Nat) (bs : List Blk) : Prop where
  ex : ∃ S, ArV S w p m bs ∧ ∀ b, S b → w0.heap.size ≤ b ∧ b < w.heap.size ∧ ¬ R b
  below : Below w0.heap.size w0 w
/-- The blocks R are as they were. -/
structure Kept (R : Nat → Prop) (w w' : World) : Prop where
  size : w.heap.size ≤ w'.heap.size
  blk : ∀ b, R b → w'.heap[b]? = w.heap[b]?
theorem ArV.cut {S : Nat → Prop} {w : World} {p m : Nat} {bs : List Blk} (A0 : ArV S w p m bs) : ArV (fun b => S b ∧ b < w.heap.size) w p m bs := by
  obtain ⟨SL, wb, tb, kb, mc, lv, ws, L, T, K, used, tk, mk, tbs, kbs, A, I, O⟩ := A0
  exact ⟨SL, wb, tb, kb, mc, lv, ws, L, T, K, used, tk, mk, tbs, kbs, A, I, fun b hb => ⟨O b hb, A.lt b hb⟩⟩
variable {R : Nat → Prop} {w0 w : World} {p m : Nat} {bs : List Blk}
theorem ArR.post {S : Nat → Prop} {w' : World} {bs' : List Blk} (hS : ∀ b, S b → w0.heap.size ≤ b ∧ b < w.heap.size ∧ ¬ R b) (hR : ∀ b, R b → b < w.heap.size) (hb : Below w0.heap.size w0 w) (h : ArPost S w p m bs' w') : ArR R w0 w' p m bs' ∧ Kept R w w' := by
  obtain ⟨S', a, f, u⟩ := h
  refine ⟨⟨⟨_, a.cut, fun b ⟨hb', hl⟩ => ⟨?_, hl, fun hr => ?_⟩⟩, hb.trans (u.below (fun b h => (hS b h).1) hb.size)⟩, u.size, fun b hr => u.block b (hR b hr) (fun h => (hS b h).2.2 hr)⟩
  · exact (f b hb').elim (fun h => (hS b h).1) (fun h => Nat.le_trans hb.size h)
  · have := hR b hr
    rcases f b hb' with h | h
    · exact (hS b h).2.2 hr
    · omega
theorem ArN.beside (A : ArN w0 w p m bs) : ArR (fun b => w.heap.size ≤ b) w0 w p m bs := by
  obtain ⟨⟨S, a, hS⟩, hb⟩ := A
  exact ⟨⟨_, a.cut, fun b ⟨h1, h2⟩ => ⟨hS b h1, h2, by omega⟩⟩, hb⟩
theorem ArR.toN (A : ArR R w0 w p m bs) : ArN w0 w p m bs := by
  obtain ⟨⟨S, a, hS⟩, hb⟩ := A
  exact ⟨⟨S, a, fun b h => (hS b h).1⟩, hb⟩
theorem ArR.wf (A : ArR R w0 w p m bs) : Wf m bs := A.toN.wf
/-- Fewer blocks beside it. -/
theorem ArR.less {R' : Nat → Prop} (A : ArR R w0 w p m bs) (h : ∀ b, R' b → R b) : ArR R' w0 w p m bs := by
  obtain ⟨⟨S, a, hS⟩, hb⟩ := A
  exact ⟨⟨S, a, fun b h' => ⟨(hS b h').1, (hS b h').2.1, fun hr => (hS b h').2.2 (h b hr)⟩⟩, hb⟩
/-- Other blocks have been made, or turned. -/
theorem ArR.next {w' : World} (A : ArR R w0 w p m bs) {T : Nat → Prop} (u : Upd T w w') (hT : ∀ b, T b → b < w.heap.size → R b) (hT0 : ∀ b, T b → w0.heap.size ≤ b) : ArR (fun b => R b ∨ w.heap.size ≤ b) w0 w' p m bs := by
  obtain ⟨⟨S, a, hS⟩, hb⟩ := A
  refine ⟨⟨S, a.upd u (fun b h1 h2 h3 => (hS b h1).2.2 (hT b h3 h2)), fun b h => ⟨(hS b h).1, Nat.lt_of_lt_of_le (hS b h).2.1 u.size, ?_⟩⟩, hb.trans (u.below hT0 hb.size)⟩
  rintro (h1 | h1)
  · exact (hS b h).2.2 h1
  · have := (hS b h).2.1; omega
theorem ArR.then {w' : World} (A : ArR R w0 w p m bs) (hb : Below w.heap.size w w') : ArR (fun b => R b ∨ w.heap.size ≤ b) w0 w' p m bs :=
  A.next (T := fun _ => False) (Upd.of_below hb) (fun _ h => h.elim) (fun _ h => h.elim)
/-- New blocks are beside it. -/
theorem ArR.grow {w' : World} (A : ArR R w0 w p m bs) (hb : Below w.heap.size w w') : ArR (fun b => R b ∨ (w.heap.size ≤ b ∧ b < w'.heap.size)) w0 w' p m bs :=
  (A.then hb).less (fun _ h => h.imp id (fun h => h.1))
theorem grow_lt {w' : World} (hR : ∀ b, R b → b < w.heap.size) (hb : Below w.heap.size w w') : ∀ b, (R b ∨ (w.heap.size ≤ b ∧ b < w'.heap.size)) → b < w'.heap.size := fun b h => h.elim (fun h => Nat.lt_of_lt_of_le (hR b h) hb.size) (fun h => h.2)
theorem ArR.stay {w' : World} (A : ArR R w0 w p m bs) (hb : Below w.heap.size w w') : ArR R w0 w' p m bs := (A.then hb).less (fun _ h => .inl h)
theorem Kept.of_below {w' : World} (hR : ∀ b, R b → b < w.heap.size) (hb : Below w.heap.size w w') : Kept R w w' := ⟨hb.size, fun b h => hb.block b (hR b h)⟩
theorem Kept.trans {w' w'' : World} (h : Kept R w w') (k : Kept R w' w'') : Kept R w w'' := ⟨Nat.le_trans h.size k.size, fun b hb => (k.blk b hb).trans (h.blk b hb)⟩
theorem Kept.less {w' : World} {R' : Nat → Prop} (k : Kept R w w') (h : ∀ b, R' b → R b) : Kept R' w w' := ⟨k.size, fun b hb => k.blk b (h b hb)⟩
theorem Kept.cell {w' : World} (k : Kept R w w') {a : Addr} {v : Value} (h : w.cell? a = some v) (hr : R a.block) : w'.cell? a = some v := by
  have hb := k.blk _ hr
  unfold World.cell? at h ⊢
  rw [hb]; exact h
theorem Kept.refl : Kept R w w := ⟨Nat.le_refl _, fun _ _ => rfl⟩
theorem ArR.call {f : FuncId} {args : Array Value} {v : Value} {bs' : List Blk} (A : ArR R w0 w p m bs) (hR : ∀ b, R b → b < w.heap.size)
    (H : ∀ S, ArV S w p m bs → Calls Tryd.prog f args w fun e w' => e = .returned v ∧ ArPost S w p m bs' w') :
    Calls Tryd.prog f args w fun e w' => e = .returned v ∧ ArR R w0 w' p m bs' ∧ Kept R w w' := by
  obtain ⟨⟨S, a, hS⟩, hb⟩ := A
  exact (H S a).mono fun e w' ⟨he, hp⟩ => ⟨he, ArR.post hS hR hb hp⟩
theorem Take_r (A : ArR R w0 w p m bs) (hR : ∀ b, R b → b < w.heap.size) {n : Int} {x : Nat} {er : Int} {bs' : List Blk} (h : takeF bs n = (x, er, bs')) (X : Int) (hX : (x : Int) = X) (h1 : -9223372036854775808 ≤ n) (h2 : n < 9223372036854775808) :
    Calls Tryd.prog 8 #[.pointer (some ⟨p, 0, none⟩), .int .i64 n] w fun e w' => e = .returned (.tuple #[.int .i64 X, .int .i64 er]) ∧ ArR R w0 w' p m bs' ∧ Kept R w w' :=
  A.call hR fun S a => (take_at a n h1 h2).mono fun e w' ⟨x', er', bs'', hr, he, hp⟩ => by
    have := takeR_fun hr A.wf.span
    rw [h] at this
    obtain ⟨rfl, rfl, rfl⟩ : x' = x ∧ er' = er ∧ bs'' = bs' := by simpa using this
    subst hX
    exact ⟨he, hp⟩
theorem Set_r (A : ArR R w0 w p m bs) (hR : ∀ b, R b → b < w.heap.size) {q i : Int} {er : Int} {bs' : List Blk} {v : Nat} (h : setF bs q i v = (er, bs')) (V : Int) (hV : (v : Int) = V) (h1 : -9223372036854775808 ≤ q) (h2 : q < 9223372036854775808) (hv : v < 18446744073709551616) :
    Calls Tryd.prog 12 #[.pointer (some ⟨p, 0, none⟩), .int .i64 q, .int .i64 i, .int .u64 V] w fun e w' => e = .returned (.int .i64 er) ∧ ArR R w0 w' p m bs' ∧ Kept R w w' :=
  A.call hR fun S a => by
    subst hV
    refine (Set_at a q i h1 h2 v hv).mono fun e w' ⟨er', bs'', hr, he, hp⟩ => ?_
    have W := A.wf
    unfold setF at h
    rcases hr with ⟨hu, rfl, rfl⟩ | ⟨pre, b, post, rfl, hu, rfl, ⟨rfl, hh, rfl⟩ | ⟨rfl, h3, h4, rfl⟩⟩
    · rw [blkAt_none hu] at h
      simp only [Prod.mk.injEq] at h
      rw [← h.1, ← h.2]; exact ⟨he, hp⟩
    · rw [blkAt_some W.span (by simp) hu] at h
      dsimp only at h
      rw [if_neg (by omega)] at h
      simp only [Prod.mk.injEq] at h
      rw [← h.1, ← h.2]; exact ⟨he, hp⟩
    · rw [blkAt_some W.span (by simp) hu] at h
      dsimp only at h
      rw [if_pos ⟨h3, h4⟩, map_at W.span, hu] at h
      simp only [Prod.mk.injEq] at h
      rw [← h.1, ← h.2]; exact ⟨he, hp⟩
theorem Free_r (A : ArR R w0 w p m bs) (hR : ∀ b, R b → b < w.heap.size) {q : Int} {er : Int} {bs' : List Blk} (h : freeG bs q = (er, bs')) (h1 : -9223372036854775808 ≤ q) (h2 : q < 9223372036854775808) :
    Calls Tryd.prog 10 #[.pointer (some ⟨p, 0, none⟩), .int .i64 q] w fun e w' => e = .returned (.int .i64 er) ∧ ArR R w0 w' p m bs' ∧ Kept R w w' :=
  A.call hR fun S a => (Free_at a q h1 h2).mono fun e w' ⟨er', bs'', hr, he, hp⟩ => by
    unfold freeG at h
    rcases freeR_fun hr A.wf.span A.wf.two with ⟨hu, rfl, rfl⟩ | ⟨hu, rfl, rfl⟩
    · rw [hu] at h
      simp only [Prod.mk.injEq, Bool.false_eq_true, if_false] at h
      rw [← h.1, ← h.2]; exact ⟨he, hp⟩
    · rw [hu] at h
      simp only [Prod.mk.injEq, if_true] at h
      rw [← h.1, ← h.2]; exact ⟨he, hp⟩
theorem Room_r (A : ArR R w0 w p m bs) (hR : ∀ b, R b → b < w.heap.size) {u : Nat} (h : roomOf bs = u) (U : Int) (hU : (u : Int) = U) :
    Calls Tryd.prog 24 #[.pointer (some ⟨p, 0, none⟩)] w fun e w' => e = .returned (.int .i64 U) ∧ ArR R w0 w' p m bs ∧ Kept R w w' :=
  A.call hR fun S a => (Room_at a).mono fun e w' ⟨he, hb⟩ => by
    rw [h] at he
    subst hU
    exact ⟨he, .same a hb⟩
theorem Get_r (A : ArR R w0 w p m bs) {q i : Int} {er : Int} {v : Nat} (h : getF bs q i = (v, er)) (V : Int) (hV : (v : Int) = V) (h1 : -9223372036854775808 ≤ q) (h2 : q < 9223372036854775808) :
    Calls Tryd.prog 18 #[.pointer (some ⟨p, 0, none⟩), .int .i64 q, .int .i64 i] w fun e w' => e = .returned (.tuple #[.int .u64 V, .int .i64 er]) ∧ w = w' :=
  Get_k A.toN h V hV h1 h2
end Go.Proofs.YtelohkppbmahnaaDoor

/- package arena: what ArenaFresh asks, plain. -/
namespace Go.Proofs.YtelohkppbmahnaaDoor

theorem glue_mem {x b : Blk} {l : List Blk} (hx : x.u = true) : x ∈ glue b l ↔ x = b ∨ x ∈ l := by
  cases l with
  | nil => simp [glue]
  | cons c r =>
    rw [glue_cons]
    split
    · rename_i h
      constructor
      · intro hm
        rcases List.mem_cons.1 hm with h1 | h1
        · rw [h1] at hx; cases hx
        · exact .inr (by simp [h1])
      · rintro (h1 | h1)
        · rw [h1, h.1] at hx; cases hx
        · rcases List.mem_cons.1 h1 with h2 | h2
          · rw [h2, h.2] at hx; cases hx
          · simp [h2]
    · simp
theorem normB_mem {x : Blk} (hx : x.u = true) : ∀ l : List Blk, x ∈ normB l ↔ x ∈ l
  | [] => by simp [normB]
  | b :: l => by rw [normB_cons, glue_mem hx, normB_mem hx l]; simp
/-- Where the used blocks are, behind a Free. -/
theorem freeF_used {bs : List Blk} {q : Nat} (x : Blk) (hx : x.u = true) : x ∈ freeF bs q ↔ x ∈ bs ∧ x.a ≠ q := by
  unfold freeF
  rw [normB_mem hx, List.mem_map]
  constructor
  · rintro ⟨c, hc, h⟩
    split at h
    · rw [← h] at hx; cases hx
    · rename_i hne
      rw [← h]; exact ⟨hc, hne⟩
  · rintro ⟨hm, hne⟩
    exact ⟨x, hm, if_neg hne⟩
theorem span_two {m : Nat} {bs : List Blk} (hs : Span 1 bs (m + 1)) (hn : noTwo bs) (hu : ∀ b ∈ bs, b.u = false) (h2 : 2 ≤ m) : ∃ b, bs = [b] ∧ b.a = 1 ∧ b.n = m - 1 ∧ b.u = false := by
  match bs, hs with
  | [], h => have h : 1 = m + 1 := h; omega
  | [b], ⟨h1, h2, h3⟩ => have h3 : 1 + b.n + 1 = m + 1 := h3; exact ⟨b, rfl, h1, by omega, hu b (by simp)⟩
  | b :: c :: r, ⟨h1, h2, h3, _⟩ => exact absurd (by rw [h3, h1]) (hn b (by simp) c (by simp) (hu b (by simp)) (hu c (by simp)))
theorem all_free {m : Nat} {bs : List Blk} (hs : Span 1 bs (m + 1)) (hn : noTwo bs) (hu : ∀ b ∈ bs, b.u = false) (h2 : 2 ≤ m) : usedSum bs = 0 ∧ roomOf bs = m - 1 := by
  obtain ⟨b, rfl, h1, h3, h4⟩ := span_two hs hn hu h2
  constructor
  · simp [usedSum, h4]
  · simp [roomOf, h4, h3]
/-- Blocks of one size, one behind the other. -/
def frB (n many : Nat) : List Blk := (List.range many).map fun i => ⟨1 + i * (n + 1), zeros n, true, false⟩
theorem frB_succ (n many : Nat) : frB n (many + 1) = frB n many ++ [⟨1 + many * (n + 1), zeros n, true, false⟩] := by simp [frB, List.range_succ]
theorem frB_mem {n many : Nat} {b : Blk} (h : b ∈ frB n many) : ∃ i, i < many ∧ b = ⟨1 + i * (n + 1), zeros n, true, false⟩ := by
  unfold frB at h
  obtain ⟨i, hi, rfl⟩ := List.mem_map.1 h
  exact ⟨i, List.mem_range.1 hi, rfl⟩
theorem mem_frB {n many i : Nat} (h : i < many) : (⟨1 + i * (n + 1), zeros n, true, false⟩ : Blk) ∈ frB n many :=
  List.mem_map.2 ⟨i, List.mem_range.2 h, rfl⟩
theorem frB_sum (n : Nat) : ∀ many, usedSum (frB n many) = many * (n + 1)
  | 0 => by simp [frB, usedSum]
  | k + 1 => by
    rw [frB_succ, usedSum_append, frB_sum n k, usedSum_cons]
    simp only [if_true]
    have : (⟨1 + k * (n + 1), zeros n, true, false⟩ : Blk).n = n := zeros_len _
    rw [this, Nat.succ_mul]; simp [usedSum]
/-- So many blocks have been taken; there is a rest, or the last block has taken it. -/
def FrS (m n many : Nat) (bs : List Blk) : Prop :=
  (∃ r, 1 ≤ r ∧ many * (n + 1) + r + 1 = m ∧ bs = frB n many ++ [⟨1 + many * (n + 1), zeros r, false, false⟩]) ∨
  (∃ k e, many = k + 1 ∧ e ≤ 1 ∧ k * (n + 1) + n + e + 1 = m ∧ bs = frB n k ++ [⟨1 + k * (n + 1), zeros (n + e), true, false⟩])
theorem FrS.start {m n : Nat} (h : 2 ≤ m) : FrS m n 0 (newBs m) := by
  refine .inl ⟨m - 1, by omega, by omega, ?_⟩
  rw [newBs, if_pos h]
  simp [frB]
theorem takeF_of {bs : List Blk} {n : Int} {x : Nat} {e : Int} {bs' : List Blk} {s t : Nat} (hs : Span s bs t) (h : TakeR bs n x e bs') : takeF bs n = (x, e, bs') := (takeR_fun h hs).symm
theorem FrS.step {m n many : Nat} {bs : List Blk} (h : FrS m n many bs) (h1 : 1 ≤ n) (hs : Span 1 bs (m + 1)) :
    (takeF bs n = (0, 5, bs) ∧ many = m / (n + 1) ∧ usedSum bs ≤ m ∧ m ≤ usedSum bs + (n + 1)) ∨
    (∃ bs' b, takeF bs n = (1 + many * (n + 1), 0, bs') ∧ FrS m n (many + 1) bs' ∧ b ∈ bs' ∧ b.u = true ∧ b.a = 1 + many * (n + 1) ∧ (b.n = n ∨ b.n = n + 1)) := by
  rcases h with ⟨r, hr1, hr2, rfl⟩ | ⟨k, e, rfl, he, hk, rfl⟩
  · have z : (⟨1 + many * (n + 1), zeros r, false, false⟩ : Blk).n = r := zeros_len _
    by_cases hn : n ≤ r
    · right
      have hT := TakeR (frB n many ++ [⟨1 + many * (n + 1), zeros r, false, false⟩]) n
      have hlst : ∀ c ∈ frB n many ++ [(⟨1 + many * (n + 1), zeros r, false, false⟩ : Blk)], c.u = false → c = ⟨1 + many * (n + 1), zeros r, false, false⟩ := fun c hc hcu => by
        rcases List.mem_append.1 hc with h | h
        · obtain ⟨i, _, rfl⟩ := frB_mem h; cases hcu
        · exact List.mem_singleton.1 h
      by_cases hb : n + 2 ≤ r
      · refine ⟨frB n (many + 1) ++ [⟨1 + (many + 1) * (n + 1), zeros (r - n - 1), false, false⟩], ⟨1 + many * (n + 1), zeros n, true, false⟩, takeF_of hs (.inr (.inr ⟨by omega, frB n many, ⟨1 + many * (n + 1), zeros r, false, false⟩, [], by simp, rfl, by rw [z]; omega, fun c hc hcu _ => by rw [hlst c hc hcu]; exact .inr ⟨rfl, Nat.le_refl _⟩, rfl, rfl, ?_⟩)), .inl ⟨r - n - 1, by omega, by rw [Nat.succ_mul]; omega, rfl⟩, by rw [frB_succ]; simp, rfl, rfl, .inl (zeros_len _)⟩
        rw [if_pos (by rw [z]; omega), frB_succ, z]
        simp only [Int.toNat_natCast, List.append_assoc, List.cons_append, List.nil_append, List.append_nil]
        rw [show 1 + many * (n + 1) + n + 1 = 1 + (many + 1) * (n + 1) by rw [Nat.succ_mul]; omega]
      · refine ⟨frB n many ++ [⟨1 + many * (n + 1), zeros r, true, false⟩], ⟨1 + many * (n + 1), zeros r, true, false⟩, takeF_of hs (.inr (.inr ⟨by omega, frB n many, ⟨1 + many * (n + 1), zeros r, false, false⟩, [], by simp, rfl, by rw [z]; omega, fun c hc hcu _ => by rw [hlst c hc hcu]; exact .inr ⟨rfl, Nat.le_refl _⟩, rfl, rfl, ?_⟩)), .inr ⟨many, r - n, rfl, by omega, by omega, by rw [show n + (r - n) = r by omega]⟩, by simp, rfl, rfl, ?_⟩
        · rw [if_neg (by rw [z]; omega), z]; simp
        · have : (⟨1 + many * (n + 1), zeros r, true, false⟩ : Blk).n = r := zeros_len _
          rw [this]; omega
    · left
      have hu : usedSum (frB n many ++ [(⟨1 + many * (n + 1), zeros r, false, false⟩ : Blk)]) = many * (n + 1) := by rw [usedSum_append, frB_sum]; simp [usedSum]
      refine ⟨takeF_of hs (.inr (.inl ⟨by omega, fun c hc hcu => ?_, rfl, rfl, rfl⟩)), ?_, by omega, by omega⟩
      · rcases List.mem_append.1 hc with h | h
        · obtain ⟨i, _, rfl⟩ := frB_mem h; cases hcu
        · rw [List.mem_singleton.1 h, z]; omega
      · symm
        rw [Nat.div_eq_iff (by omega)]
        omega
  · left
    have z : (⟨1 + k * (n + 1), zeros (n + e), true, false⟩ : Blk).n = n + e := zeros_len _
    have hu : usedSum (frB n k ++ [(⟨1 + k * (n + 1), zeros (n + e), true, false⟩ : Blk)]) = m := by rw [usedSum_append, frB_sum, usedSum_cons, if_pos rfl, z]; simp [usedSum]; omega
    refine ⟨takeF_of hs (.inr (.inl ⟨by omega, fun c hc hcu => ?_, rfl, rfl, rfl⟩)), ?_, by omega, by omega⟩
    · rcases List.mem_append.1 hc with h | h
      · obtain ⟨i, _, rfl⟩ := frB_mem h; cases hcu
      · rw [List.mem_singleton.1 h] at hcu; cases hcu
    · symm
      rw [Nat.div_eq_iff (by omega), Nat.succ_mul]
      omega
/-- The used blocks are those of a set. -/
def UsedIs (n many : Nat) (P : Nat → Bool) (bs : List Blk) : Prop := ∀ x : Nat, usedAt bs (x : Int) = true ↔ ∃ i, i < many ∧ P i = false ∧ x = 1 + i * (n + 1)
theorem usedAt_nat {bs : List Blk} {x : Nat} : usedAt bs (x : Int) = true ↔ ∃ b ∈ bs, b.u = true ∧ b.a = x := by
  rw [usedAt_iff]
  constructor
  · rintro ⟨b, h1, h2, h3⟩; exact ⟨b, h1, h2, by omega⟩
  · rintro ⟨b, h1, h2, h3⟩; exact ⟨b, h1, h2, by omega⟩
theorem FrS.used {m n many : Nat} {bs : List Blk} (h : FrS m n many bs) : UsedIs n many (fun _ => false) bs := by
  intro x
  rw [usedAt_nat]
  rcases h with ⟨r, hr1, hr2, rfl⟩ | ⟨k, e, rfl, he, hk, rfl⟩
  · constructor
    · rintro ⟨b, hb, hu, rfl⟩
      rcases List.mem_append.1 hb with h | h
      · obtain ⟨i, hi, rfl⟩ := frB_mem h; exact ⟨i, hi, rfl, rfl⟩
      · rw [List.mem_singleton.1 h] at hu; cases hu
    · rintro ⟨i, hi, _, rfl⟩
      exact ⟨_, List.mem_append_left _ (mem_frB hi), rfl, rfl⟩
  · constructor
    · rintro ⟨b, hb, hu, rfl⟩
      rcases List.mem_append.1 hb with h | h
      · obtain ⟨i, hi, rfl⟩ := frB_mem h; exact ⟨i, by omega, rfl, rfl⟩
      · rw [List.mem_singleton.1 h]; exact ⟨k, by omega, rfl, rfl⟩
    · rintro ⟨i, hi, _, rfl⟩
      by_cases hk : i = k
      · subst hk; exact ⟨_, List.mem_append_right _ (List.mem_singleton.2 rfl), rfl, rfl⟩
      · exact ⟨_, List.mem_append_left _ (mem_frB (by omega)), rfl, rfl⟩
theorem UsedIs.free {n many : Nat} {P : Nat → Bool} {bs : List Blk} (h : UsedIs n many P bs) {j : Nat} : UsedIs n many (fun i => P i || i == j) (freeF bs (1 + j * (n + 1))) := by
  intro x
  rw [usedAt_nat]
  constructor
  · rintro ⟨b, hb, hu, rfl⟩
    obtain ⟨h1, h2⟩ := (freeF_used b hu).1 hb
    obtain ⟨i, hi, hP, he⟩ := (h b.a).1 (usedAt_nat.2 ⟨b, h1, hu, rfl⟩)
    refine ⟨i, hi, ?_, he⟩
    have : i ≠ j := fun e => h2 (by rw [he, e])
    simp [hP, this]
  · rintro ⟨i, hi, hP, rfl⟩
    simp at hP
    obtain ⟨b, hb, hu, he⟩ := usedAt_nat.1 ((h (1 + i * (n + 1))).2 ⟨i, hi, hP.1, rfl⟩)
    refine ⟨b, (freeF_used b hu).2 ⟨hb, ?_⟩, hu, he⟩
    rw [he]
    intro e
    have : i * (n + 1) = j * (n + 1) := by omega
    exact hP.2 (Nat.eq_of_mul_eq_mul_right (by omega) this)
theorem UsedIs.congr {n many : Nat} {P Q : Nat → Bool} {bs : List Blk} (h : UsedIs n many P bs) (e : ∀ i, i < many → P i = Q i) : UsedIs n many Q bs := fun x => by
  rw [h x]
  constructor
  · rintro ⟨i, hi, hP, rfl⟩; exact ⟨i, hi, by rw [← e i hi]; exact hP, rfl⟩
  · rintro ⟨i, hi, hP, rfl⟩; exact ⟨i, hi, by rw [e i hi]; exact hP, rfl⟩
theorem UsedIs.none {n many : Nat} {P : Nat → Bool} {bs : List Blk} (h : UsedIs n many P bs) (e : ∀ i, i < many → P i = true) : ∀ b ∈ bs, b.u = false := fun b hb => by
  cases hu : b.u
  · rfl
  · obtain ⟨i, hi, hP, _⟩ := (h b.a).1 (usedAt_nat.2 ⟨b, hb, hu, rfl⟩)
    rw [e i hi] at hP; cases hP
/-- What has been freed in the round k of two, ahead of the block i0. -/
def frP (odd : Bool) (k i0 : Nat) : Nat → Bool := fun i => (k == 1 && ((i % 2 == 0) == odd)) || (k == 2) || (((i % 2 == k) == odd) && decide (i < i0))
theorem frP_zero (odd : Bool) (i : Nat) : frP odd 0 0 i = false := by simp [frP]
theorem frP_next (odd : Bool) {k i0 many i : Nat} (hk : k < 2) (h : many ≤ i0) (hi : i < many) : frP odd k i0 i = frP odd (k + 1) 0 i := by
  have hi0 : i < i0 := by omega
  have h2 := Nat.mod_two_eq_zero_or_one i
  have hk2 : k = 0 ∨ k = 1 := by omega
  rcases hk2 with rfl | rfl <;> rcases h2 with h | h <;> cases odd <;> simp [frP, hi0, h]
theorem frP_step (odd : Bool) {k i0 i : Nat} : frP odd k (i0 + 1) i = (frP odd k i0 i || (((i0 % 2 == k) == odd) && i == i0)) := by
  unfold frP
  by_cases h : i = i0
  · subst h; simp
  · have e1 : decide (i < i0 + 1) = decide (i < i0) := by
      rw [Bool.eq_iff_iff]; simp; omega
    have e2 : (i == i0) = false := by simp [h]
    rw [e1, e2]; simp
theorem frP_not (odd : Bool) {k i0 : Nat} (hk : k < 2) (h : ((i0 % 2 == k) == odd) = true) : frP odd k i0 i0 = false := by
  have h2 := Nat.mod_two_eq_zero_or_one i0
  have hk2 : k = 0 ∨ k = 1 := by omega
  rcases hk2 with rfl | rfl <;> rcases h2 with h3 | h3 <;> cases odd <;> simp_all [frP]
theorem frP_all (odd : Bool) (i : Nat) : frP odd 2 0 i = true := by simp [frP]
end Go.Proofs.YtelohkppbmahnaaDoor
