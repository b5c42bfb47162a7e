/- package arena: the calls beside other memory that stays. -/
import Derived.Test.YtofoaheiblhpoaaArAll
namespace Go.Proofs.Ytofoaheiblhpoaa
open Go.RowKit

/-- An arena that was made since w0, beside the blocks R. -/
structure ArR (R : Nat → Prop) (w0 w : World) (p m : Nat) (bs : List Blk) : Prop where
  ex : ∃ S, ArV S w p m bs ∧ ∀ b, S b → w0.heap.size ≤ b ∧ b < w.heap.size ∧ ¬ R b
  below : Below w0.heap.size w0 w
/-- The blocks R are as they were. -/
structure Kept (R : Nat → Prop) (w w' : World) : Prop where
  size : w.heap.size ≤ w'.heap.size
  blk : ∀ b, R b → w'.heap[b]? = w.heap[b]?
theorem ArV.cut {S : Nat → Prop} {w : World} {p m : Nat} {bs : List Blk} (A0 : ArV S w p m bs) : ArV (fun b => S b ∧ b < w.heap.size) w p m bs := by
  obtain ⟨SL, wb, tb, kb, mc, lv, ws, L, T, K, used, tk, mk, tbs, kbs, A, I, O⟩ := A0
  exact ⟨SL, wb, tb, kb, mc, lv, ws, L, T, K, used, tk, mk, tbs, kbs, A, I, fun b hb => ⟨O b hb, A.lt b hb⟩⟩
variable {R : Nat → Prop} {w0 w : World} {p m : Nat} {bs : List Blk}
theorem ArR.post {S : Nat → Prop} {w' : World} {bs' : List Blk} (hS : ∀ b, S b → w0.heap.size ≤ b ∧ b < w.heap.size ∧ ¬ R b) (hR : ∀ b, R b → b < w.heap.size) (hb : Below w0.heap.size w0 w) (h : ArPost S w p m bs' w') : ArR R w0 w' p m bs' ∧ Kept R w w' := by
  obtain ⟨S', a, f, u⟩ := h
  refine ⟨⟨⟨_, a.cut, fun b ⟨hb', hl⟩ => ⟨?_, hl, fun hr => ?_⟩⟩, hb.trans (u.below (fun b h => (hS b h).1) hb.size)⟩, u.size, fun b hr => u.block b (hR b hr) (fun h => (hS b h).2.2 hr)⟩
  · exact (f b hb').elim (fun h => (hS b h).1) (fun h => Nat.le_trans hb.size h)
  · have := hR b hr
    rcases f b hb' with h | h
    · exact (hS b h).2.2 hr
    · omega
theorem ArN.beside (A : ArN w0 w p m bs) : ArR (fun b => w.heap.size ≤ b) w0 w p m bs := by
  obtain ⟨⟨S, a, hS⟩, hb⟩ := A
  exact ⟨⟨_, a.cut, fun b ⟨h1, h2⟩ => ⟨hS b h1, h2, by omega⟩⟩, hb⟩
theorem ArR.toN (A : ArR R w0 w p m bs) : ArN w0 w p m bs := by
  obtain ⟨⟨S, a, hS⟩, hb⟩ := A
  exact ⟨⟨S, a, fun b h => (hS b h).1⟩, hb⟩
theorem ArR.wf (A : ArR R w0 w p m bs) : Wf m bs := A.toN.wf
/-- Fewer blocks beside it. -/
theorem ArR.less {R' : Nat → Prop} (A : ArR R w0 w p m bs) (h : ∀ b, R' b → R b) : ArR R' w0 w p m bs := by
  obtain ⟨⟨S, a, hS⟩, hb⟩ := A
  exact ⟨⟨S, a, fun b h' => ⟨(hS b h').1, (hS b h').2.1, fun hr => (hS b h').2.2 (h b hr)⟩⟩, hb⟩
/-- Other blocks have been made, or turned. -/
theorem ArR.next {w' : World} (A : ArR R w0 w p m bs) {T : Nat → Prop} (u : Upd T w w') (hT : ∀ b, T b → b < w.heap.size → R b) (hT0 : ∀ b, T b → w0.heap.size ≤ b) : ArR (fun b => R b ∨ w.heap.size ≤ b) w0 w' p m bs := by
  obtain ⟨⟨S, a, hS⟩, hb⟩ := A
  refine ⟨⟨S, a.upd u (fun b h1 h2 h3 => (hS b h1).2.2 (hT b h3 h2)), fun b h => ⟨(hS b h).1, Nat.lt_of_lt_of_le (hS b h).2.1 u.size, ?_⟩⟩, hb.trans (u.below hT0 hb.size)⟩
  rintro (h1 | h1)
  · exact (hS b h).2.2 h1
  · have := (hS b h).2.1; omega
theorem ArR.then {w' : World} (A : ArR R w0 w p m bs) (hb : Below w.heap.size w w') : ArR (fun b => R b ∨ w.heap.size ≤ b) w0 w' p m bs :=
  A.next (T := fun _ => False) (Upd.of_below hb) (fun _ h => h.elim) (fun _ h => h.elim)
/-- New blocks are beside it. -/
theorem ArR.grow {w' : World} (A : ArR R w0 w p m bs) (hb : Below w.heap.size w w') : ArR (fun b => R b ∨ (w.heap.size ≤ b ∧ b < w'.heap.size)) w0 w' p m bs :=
  (A.then hb).less (fun _ h => h.imp id (fun h => h.1))
theorem grow_lt {w' : World} (hR : ∀ b, R b → b < w.heap.size) (hb : Below w.heap.size w w') : ∀ b, (R b ∨ (w.heap.size ≤ b ∧ b < w'.heap.size)) → b < w'.heap.size := fun b h => h.elim (fun h => Nat.lt_of_lt_of_le (hR b h) hb.size) (fun h => h.2)
theorem ArR.stay {w' : World} (A : ArR R w0 w p m bs) (hb : Below w.heap.size w w') : ArR R w0 w' p m bs := (A.then hb).less (fun _ h => .inl h)
theorem Kept.of_below {w' : World} (hR : ∀ b, R b → b < w.heap.size) (hb : Below w.heap.size w w') : Kept R w w' := ⟨hb.size, fun b h => hb.block b (hR b h)⟩
theorem Kept.trans {w' w'' : World} (h : Kept R w w') (k : Kept R w' w'') : Kept R w w'' := ⟨Nat.le_trans h.size k.size, fun b hb => (k.blk b hb).trans (h.blk b hb)⟩
theorem Kept.less {w' : World} {R' : Nat → Prop} (k : Kept R w w') (h : ∀ b, R' b → R b) : Kept R' w w' := ⟨k.size, fun b hb => k.blk b (h b hb)⟩
theorem Kept.cell {w' : World} (k : Kept R w w') {a : Addr} {v : Value} (h : w.cell? a = some v) (hr : R a.block) : w'.cell? a = some v := by
  have hb := k.blk _ hr
  unfold World.cell? at h ⊢
  rw [hb]; exact h
theorem Kept.refl : Kept R w w := ⟨Nat.le_refl _, fun _ _ => rfl⟩
theorem ArR.call {f : FuncId} {args : Array Value} {v : Value} {bs' : List Blk} (A : ArR R w0 w p m bs) (hR : ∀ b, R b → b < w.heap.size)
    (H : ∀ S, ArV S w p m bs → Calls Try.prog f args w fun e w' => e = .returned v ∧ ArPost S w p m bs' w') :
    Calls Try.prog f args w fun e w' => e = .returned v ∧ ArR R w0 w' p m bs' ∧ Kept R w w' := by
  obtain ⟨⟨S, a, hS⟩, hb⟩ := A
  exact (H S a).mono fun e w' ⟨he, hp⟩ => ⟨he, ArR.post hS hR hb hp⟩
theorem Take_r (A : ArR R w0 w p m bs) (hR : ∀ b, R b → b < w.heap.size) {n : Int} {x : Nat} {er : Int} {bs' : List Blk} (h : takeF bs n = (x, er, bs')) (X : Int) (hX : (x : Int) = X) (h1 : -9223372036854775808 ≤ n) (h2 : n < 9223372036854775808) :
    Calls Try.prog 7 #[.pointer (some ⟨p, 0, none⟩), .int .i64 n] w fun e w' => e = .returned (.tuple #[.int .i64 X, .int .i64 er]) ∧ ArR R w0 w' p m bs' ∧ Kept R w w' :=
  A.call hR fun S a => (take_at a n h1 h2).mono fun e w' ⟨x', er', bs'', hr, he, hp⟩ => by
    have := takeR_fun hr A.wf.span
    rw [h] at this
    obtain ⟨rfl, rfl, rfl⟩ : x' = x ∧ er' = er ∧ bs'' = bs' := by simpa using this
    subst hX
    exact ⟨he, hp⟩
theorem Set_r (A : ArR R w0 w p m bs) (hR : ∀ b, R b → b < w.heap.size) {q i : Int} {er : Int} {bs' : List Blk} {v : Nat} (h : setF bs q i v = (er, bs')) (V : Int) (hV : (v : Int) = V) (h1 : -9223372036854775808 ≤ q) (h2 : q < 9223372036854775808) (hv : v < 18446744073709551616) :
    Calls Try.prog 9 #[.pointer (some ⟨p, 0, none⟩), .int .i64 q, .int .i64 i, .int .u64 V] w fun e w' => e = .returned (.int .i64 er) ∧ ArR R w0 w' p m bs' ∧ Kept R w w' :=
  A.call hR fun S a => by
    subst hV
    refine (Set_at a q i h1 h2 v hv).mono fun e w' ⟨er', bs'', hr, he, hp⟩ => ?_
    have W := A.wf
    unfold setF at h
    rcases hr with ⟨hu, rfl, rfl⟩ | ⟨pre, b, post, rfl, hu, rfl, ⟨rfl, hh, rfl⟩ | ⟨rfl, h3, h4, rfl⟩⟩
    · rw [blkAt_none hu] at h
      simp only [Prod.mk.injEq] at h
      rw [← h.1, ← h.2]; exact ⟨he, hp⟩
    · rw [blkAt_some W.span (by simp) hu] at h
      dsimp only at h
      rw [if_neg (by omega)] at h
      simp only [Prod.mk.injEq] at h
      rw [← h.1, ← h.2]; exact ⟨he, hp⟩
    · rw [blkAt_some W.span (by simp) hu] at h
      dsimp only at h
      rw [if_pos ⟨h3, h4⟩, map_at W.span, hu] at h
      simp only [Prod.mk.injEq] at h
      rw [← h.1, ← h.2]; exact ⟨he, hp⟩
theorem Free_r (A : ArR R w0 w p m bs) (hR : ∀ b, R b → b < w.heap.size) {q : Int} {er : Int} {bs' : List Blk} (h : freeG bs q = (er, bs')) (h1 : -9223372036854775808 ≤ q) (h2 : q < 9223372036854775808) :
    Calls Try.prog 10 #[.pointer (some ⟨p, 0, none⟩), .int .i64 q] w fun e w' => e = .returned (.int .i64 er) ∧ ArR R w0 w' p m bs' ∧ Kept R w w' :=
  A.call hR fun S a => (Free_at a q h1 h2).mono fun e w' ⟨er', bs'', hr, he, hp⟩ => by
    unfold freeG at h
    rcases freeR_fun hr A.wf.span A.wf.two with ⟨hu, rfl, rfl⟩ | ⟨hu, rfl, rfl⟩
    · rw [hu] at h
      simp only [Prod.mk.injEq, Bool.false_eq_true, if_false] at h
      rw [← h.1, ← h.2]; exact ⟨he, hp⟩
    · rw [hu] at h
      simp only [Prod.mk.injEq, if_true] at h
      rw [← h.1, ← h.2]; exact ⟨he, hp⟩
theorem Room_r (A : ArR R w0 w p m bs) (hR : ∀ b, R b → b < w.heap.size) {u : Nat} (h : roomOf bs = u) (U : Int) (hU : (u : Int) = U) :
    Calls Try.prog 6 #[.pointer (some ⟨p, 0, none⟩)] w fun e w' => e = .returned (.int .i64 U) ∧ ArR R w0 w' p m bs ∧ Kept R w w' :=
  A.call hR fun S a => (Room_at a).mono fun e w' ⟨he, hb⟩ => by
    rw [h] at he
    subst hU
    exact ⟨he, .same a hb⟩
theorem Get_r (A : ArR R w0 w p m bs) {q i : Int} {er : Int} {v : Nat} (h : getF bs q i = (v, er)) (V : Int) (hV : (v : Int) = V) (h1 : -9223372036854775808 ≤ q) (h2 : q < 9223372036854775808) :
    Calls Try.prog 8 #[.pointer (some ⟨p, 0, none⟩), .int .i64 q, .int .i64 i] w fun e w' => e = .returned (.tuple #[.int .u64 V, .int .i64 er]) ∧ w = w' :=
  Get_k A.toN h V hV h1 h2
end Go.Proofs.Ytofoaheiblhpoaa
