/- package arena: the calls as functions on lists of blocks. -/
import Derived.Test.YtfpfpopfnbcblaaDoorQArNewBd
import Derived.RangeFuncKeeps
import Derived.RangeFuncWrites
import Derived.RangeFuncNested
import Derived.RangeFuncBound
import Derived.RangeFuncCalls
import Derived.RangeFuncLeaves
import Derived.Shelf.Abstract
import Derived.Shelf.RegionOpen
import Derived.WalkKit
import Derived.OwnWalkIn
import Derived.TacticsInMore
import Derived.LoopNIn
import Derived.LoopIn
import Derived.Test.YtfpfpopfnbcblaaDoorRows
namespace Go.Proofs.YtfpfpopfnbcblaaDoor
open Go.RowKit

/-- An arena that was made since w0. -/
structure ArN (w0 w : World) (p m : Nat) (bs : List Blk) : Prop where
  ex : ∃ S, ArV S w p m bs ∧ ∀ b, S b → w0.heap.size ≤ b
  below : Below w0.heap.size w0 w
theorem ArN.post {S : Nat → Prop} {w0 w w' : World} {p m : Nat} {bs' : List Blk} (hS : ∀ b, S b → w0.heap.size ≤ b) (hb : Below w0.heap.size w0 w) (h : ArPost S w p m bs' w') : ArN w0 w' p m bs' := by
  obtain ⟨S', a, f, u⟩ := h
  exact ⟨⟨S', a, fun b hb' => (f b hb').elim (hS b) (fun h => Nat.le_trans hb.size h)⟩, hb.trans (u.below hS hb.size)⟩
theorem ArN.then {w0 w w' : World} {p m : Nat} {bs : List Blk} (A : ArN w0 w p m bs) (hb : Below w.heap.size w w') : ArN w0 w' p m bs := by
  obtain ⟨⟨S, a, hS⟩, hb0⟩ := A
  exact ⟨⟨S, a.below hb, hS⟩, hb0.trans (hb.mono hb0.size)⟩
/-- What holds of the blocks of any arena. -/
structure Wf (m : Nat) (bs : List Blk) : Prop where
  small : m ≤ 1048576
  span : Span 1 bs (endOf m)
  two : noTwo bs
  unm : ∀ b ∈ bs, b.u = false → b.m = false
theorem ArV.wf {S : Nat → Prop} {w : World} {p m : Nat} {bs : List Blk} (A0 : ArV S w p m bs) : Wf m bs := by
  obtain ⟨SL, wb, tb, kb, mc, lv, ws, L, T, K, used, tk, mk, tbs, kbs, A, I, O⟩ := A0
  have hl := A.core.len
  exact ⟨by rw [← hl]; exact I.small, by rw [← hl]; exact I.span, I.adj, I.unm⟩
theorem ArN.wf {w0 w : World} {p m : Nat} {bs : List Blk} (A : ArN w0 w p m bs) : Wf m bs := by
  obtain ⟨⟨S, a, _⟩, _⟩ := A
  exact a.wf
theorem ArV.ne {S : Nat → Prop} {w : World} {p m : Nat} {bs : List Blk} (A0 : ArV S w p m bs) : p < w.heap.size := by
  obtain ⟨SL, wb, tb, kb, mc, lv, ws, L, T, K, used, tk, mk, tbs, kbs, A, I, O⟩ := A0
  exact heap_lt A.core.blk
section
variable {bs : List Blk} {s t : Nat}
def blkAt (bs : List Blk) (q : Int) : Option Blk := bs.find? fun b => b.u && ((b.a : Int) == q)
theorem blkAt_none {q : Int} (h : usedAt bs q = false) : blkAt bs q = none := by
  unfold blkAt usedAt at *
  rw [List.find?_eq_none]
  intro b hb
  rw [List.any_eq_false] at h
  exact h b hb
theorem blkAt_some (hs : Span s bs t) {b : Blk} (hb : b ∈ bs) (hu : b.u = true) : blkAt bs (b.a : Int) = some b := by
  unfold blkAt
  cases h : bs.find? fun c => c.u && ((c.a : Int) == (b.a : Int)) with
  | none =>
    rw [List.find?_eq_none] at h
    have := h b hb
    simp [hu] at this
  | some c =>
    have h1 := List.find?_some h
    have h2 := List.mem_of_find?_eq_some h
    simp at h1
    rw [hs.inj h2 hb (by omega)]
theorem map_at {pre post : List Blk} {b : Blk} (h : Span s (pre ++ [b] ++ post) t) (g : Blk → Blk) : (pre ++ [b] ++ post).map (fun c => if c.a = b.a then g c else c) = pre ++ [g b] ++ post := by
  have h0 := h
  rw [Span.append] at h0
  obtain ⟨t2, h1, h3⟩ := h0
  rw [Span.append] at h1
  obtain ⟨s2, h1, h2⟩ := h1
  obtain ⟨e1, e2, e3⟩ := h2
  have e3 : s2 + b.n + 1 = t2 := e3
  have one : ∀ l : List Blk, (∀ c ∈ l, c.a ≠ b.a) → l.map (fun c => if c.a = b.a then g c else c) = l := fun l => by
    induction l with
    | nil => intro _; rfl
    | cons c l ih =>
      intro hl
      rw [List.map_cons, if_neg (hl c (by simp)), ih (fun d hd => hl d (by simp [hd]))]
  rw [List.map_append, List.map_append, one pre (fun c hc => by have := h1.mem c hc; omega), one post (fun c hc => by have := h3.mem c hc; omega)]
  simp
end
def freeG (bs : List Blk) (q : Int) : Int × List Blk := if usedAt bs q then (0, freeF bs q.toNat) else (4, bs)
def sizeF (bs : List Blk) (q : Int) : Nat := match blkAt bs q with
  | some b => b.n
  | none => 0
def getF (bs : List Blk) (q i : Int) : Nat × Int := match blkAt bs q with
  | none => (0, 4)
  | some b => if 0 ≤ i ∧ i < b.n then (b.ws.getD i.toNat 0, 0) else (0, 2)
def setF (bs : List Blk) (q i : Int) (v : Nat) : Int × List Blk := match blkAt bs q with
  | none => (4, bs)
  | some b => if 0 ≤ i ∧ i < b.n then (0, bs.map fun c => if c.a = b.a then ⟨c.a, c.ws.set i.toNat v, c.u, c.m⟩ else c) else (2, bs)
def markG (bs : List Blk) (q : Int) : Bool × List Blk := match blkAt bs q with
  | none => (false, bs)
  | some b => if b.m then (false, bs) else (true, markF bs b.a)
variable {w0 w : World} {p m : Nat} {bs : List Blk}
theorem New_n (w : World) (q : Int) (k : Nat) (hk : k ≤ 1048576) (hq : max 0 (min q 1048576) = (k : Int)) :
    Calls Tryd.prog 17 #[.int .i64 q] w fun e w' => ∃ p, e = .returned (.pointer (some ⟨p, 0, none⟩)) ∧ ArN w w' p k (newBs k) :=
  (New_at w q k hk hq).mono fun _ _ ⟨p, S, he, a, hS, hb⟩ => ⟨p, he, ⟨S, a, hS⟩, hb⟩
theorem Take_n (A : ArN w0 w p m bs) (n : Int) (h1 : -9223372036854775808 ≤ n) (h2 : n < 9223372036854775808) :
    Calls Tryd.prog 18 #[.pointer (some ⟨p, 0, none⟩), .int .i64 n] w fun e w' => e = .returned (.tuple #[.int .i64 ((takeF bs n).1 : Nat), .int .i64 (takeF bs n).2.1]) ∧ ArN w0 w' p m (takeF bs n).2.2 := by
  have W := A.wf
  obtain ⟨⟨S, a, hS⟩, hb⟩ := A
  refine (take_at a n h1 h2).mono ?_
  rintro e w' ⟨x, er, bs', hr, rfl, hp⟩
  rw [← takeR_fun hr W.span]
  exact ⟨rfl, ArN.post hS hb hp⟩
theorem Size_n (A : ArN w0 w p m bs) (q : Int) (h1 : -9223372036854775808 ≤ q) (h2 : q < 9223372036854775808) :
    Calls Tryd.prog 26 #[.pointer (some ⟨p, 0, none⟩), .int .i64 q] w fun e w' => e = .returned (.int .i64 (sizeF bs q : Nat)) ∧ w = w' := by
  have W := A.wf
  obtain ⟨⟨S, a, hS⟩, hb⟩ := A
  refine (Size_at a q h1 h2).mono ?_
  rintro e w' ⟨r, hr, rfl, rfl⟩
  unfold sizeF
  rcases hr with ⟨hu, rfl⟩ | ⟨b, hb, hu, rfl, rfl⟩
  · rw [blkAt_none hu]; exact ⟨rfl, rfl⟩
  · rw [blkAt_some W.span hb hu]; exact ⟨rfl, rfl⟩
theorem Get_n (A : ArN w0 w p m bs) (q i : Int) (h1 : -9223372036854775808 ≤ q) (h2 : q < 9223372036854775808) :
    Calls Tryd.prog 13 #[.pointer (some ⟨p, 0, none⟩), .int .i64 q, .int .i64 i] w fun e w' => e = .returned (.tuple #[.int .u64 ((getF bs q i).1 : Nat), .int .i64 (getF bs q i).2]) ∧ w = w' := by
  have W := A.wf
  obtain ⟨⟨S, a, hS⟩, hb⟩ := A
  refine (Get_at a q i h1 h2).mono ?_
  rintro e w' ⟨v, er, hr, rfl, rfl⟩
  unfold getF
  rcases hr with ⟨hu, rfl, rfl⟩ | ⟨b, hb, hu, rfl, ⟨rfl, rfl, h⟩ | ⟨rfl, h3, h4, rfl⟩⟩
  · rw [blkAt_none hu]; exact ⟨rfl, rfl⟩
  · rw [blkAt_some W.span hb hu]; dsimp only; rw [if_neg (by omega)]; exact ⟨rfl, rfl⟩
  · rw [blkAt_some W.span hb hu]; dsimp only; rw [if_pos ⟨h3, h4⟩]; exact ⟨rfl, rfl⟩
theorem Set_n (A : ArN w0 w p m bs) (q i : Int) (h1 : -9223372036854775808 ≤ q) (h2 : q < 9223372036854775808) (v : Nat) (hv : v < 18446744073709551616) :
    Calls Tryd.prog 19 #[.pointer (some ⟨p, 0, none⟩), .int .i64 q, .int .i64 i, .int .u64 (v : Nat)] w fun e w' => e = .returned (.int .i64 (setF bs q i v).1) ∧ ArN w0 w' p m (setF bs q i v).2 := by
  have W := A.wf
  obtain ⟨⟨S, a, hS⟩, hb⟩ := A
  refine (Set_at a q i h1 h2 v hv).mono ?_
  rintro e w' ⟨er, bs', hr, rfl, hp⟩
  unfold setF
  rcases hr with ⟨hu, rfl, rfl⟩ | ⟨pre, b, post, rfl, hu, rfl, ⟨rfl, h, rfl⟩ | ⟨rfl, h3, h4, rfl⟩⟩
  · rw [blkAt_none hu]; exact ⟨rfl, ArN.post hS hb hp⟩
  · rw [blkAt_some W.span (by simp) hu]; dsimp only; rw [if_neg (by omega)]; exact ⟨rfl, ArN.post hS hb hp⟩
  · rw [blkAt_some W.span (by simp) hu]; dsimp only; rw [if_pos ⟨h3, h4⟩, map_at W.span, hu]; exact ⟨rfl, ArN.post hS hb hp⟩
theorem Mark_n (A : ArN w0 w p m bs) (q : Int) (h1 : -9223372036854775808 ≤ q) (h2 : q < 9223372036854775808) :
    Calls Tryd.prog 53 #[.pointer (some ⟨p, 0, none⟩), .int .i64 q] w fun e w' => e = .returned (.bool (markG bs q).1) ∧ ArN w0 w' p m (markG bs q).2 := by
  have W := A.wf
  obtain ⟨⟨S, a, hS⟩, hb⟩ := A
  refine (Mark_at a q h1 h2).mono ?_
  rintro e w' ⟨r, bs', hr, rfl, hp⟩
  unfold markG
  rcases hr with ⟨hu, rfl, rfl⟩ | ⟨pre, b, post, rfl, hu, rfl, ⟨hm, rfl, rfl⟩ | ⟨hm, rfl, rfl⟩⟩
  · rw [blkAt_none hu]; exact ⟨rfl, ArN.post hS hb hp⟩
  · rw [blkAt_some W.span (by simp) hu]; dsimp only; rw [if_pos hm]; exact ⟨rfl, ArN.post hS hb hp⟩
  · rw [blkAt_some W.span (by simp) hu]; dsimp only; rw [if_neg (by rw [hm]; simp)]; unfold markF; rw [map_at W.span, hu]; exact ⟨rfl, ArN.post hS hb hp⟩
theorem Sweep_n (A : ArN w0 w p m bs) :
    Calls Tryd.prog 15 #[.pointer (some ⟨p, 0, none⟩)] w fun e w' => e = .returned (.int .i64 ((usedSum bs : Int) - (usedSum (sweepF bs) : Int))) ∧ ArN w0 w' p m (sweepF bs) := by
  obtain ⟨⟨S, a, hS⟩, hb⟩ := A
  refine (Sweep_at a).mono ?_
  rintro e w' ⟨rfl, hp⟩
  exact ⟨rfl, ArN.post hS hb hp⟩
theorem Take_k (A : ArN w0 w p m bs) {n : Int} {x : Nat} {er : Int} {bs' : List Blk} (h : takeF bs n = (x, er, bs')) (X : Int) (hX : (x : Int) = X) (h1 : -9223372036854775808 ≤ n) (h2 : n < 9223372036854775808) :
    Calls Tryd.prog 18 #[.pointer (some ⟨p, 0, none⟩), .int .i64 n] w fun e w' => e = .returned (.tuple #[.int .i64 X, .int .i64 er]) ∧ ArN w0 w' p m bs' := by
  have := Take_n A n h1 h2
  rw [h] at this
  subst hX
  exact this
theorem Mark_k (A : ArN w0 w p m bs) {q : Int} {r : Bool} {bs' : List Blk} (h : markG bs q = (r, bs')) (h1 : -9223372036854775808 ≤ q) (h2 : q < 9223372036854775808) :
    Calls Tryd.prog 53 #[.pointer (some ⟨p, 0, none⟩), .int .i64 q] w fun e w' => e = .returned (.bool r) ∧ ArN w0 w' p m bs' := by
  have := Mark_n A q h1 h2
  rw [h] at this
  exact this
theorem Set_k (A : ArN w0 w p m bs) {q i : Int} {er : Int} {bs' : List Blk} {v : Nat} (h : setF bs q i v = (er, bs')) (V : Int) (hV : (v : Int) = V) (h1 : -9223372036854775808 ≤ q) (h2 : q < 9223372036854775808) (hv : v < 18446744073709551616) :
    Calls Tryd.prog 19 #[.pointer (some ⟨p, 0, none⟩), .int .i64 q, .int .i64 i, .int .u64 V] w fun e w' => e = .returned (.int .i64 er) ∧ ArN w0 w' p m bs' := by
  have := Set_n A q i h1 h2 v hv
  rw [h] at this
  subst hV
  exact this
theorem Get_k (A : ArN w0 w p m bs) {q i : Int} {er : Int} {v : Nat} (h : getF bs q i = (v, er)) (V : Int) (hV : (v : Int) = V) (h1 : -9223372036854775808 ≤ q) (h2 : q < 9223372036854775808) :
    Calls Tryd.prog 13 #[.pointer (some ⟨p, 0, none⟩), .int .i64 q, .int .i64 i] w fun e w' => e = .returned (.tuple #[.int .u64 V, .int .i64 er]) ∧ w = w' := by
  have := Get_n A q i h1 h2
  rw [h] at this
  subst hV
  exact this
theorem Sweep_k (A : ArN w0 w p m bs) {bs' : List Blk} (hs : sweepF bs = bs') (U : Int) (hU : (usedSum bs : Int) - (usedSum bs' : Int) = U) :
    Calls Tryd.prog 15 #[.pointer (some ⟨p, 0, none⟩)] w fun e w' => e = .returned (.int .i64 U) ∧ ArN w0 w' p m bs' := by
  have := Sweep_n A
  rw [hs] at this
  subst hU
  exact this
theorem New_k (w : World) (q : Int) (k : Nat) (hk : k ≤ 1048576) (hq : max 0 (min q 1048576) = (k : Int)) {bs : List Blk} (h : newBs k = bs) :
    Calls Tryd.prog 17 #[.int .i64 q] w fun e w' => ∃ p, e = .returned (.pointer (some ⟨p, 0, none⟩)) ∧ ArN w w' p k bs := by
  have := New_n w q k hk hq
  rw [h] at this
  exact this
end Go.Proofs.YtfpfpopfnbcblaaDoor

/- package arena: the calls beside other memory that stays. -/
namespace Go.Proofs.YtfpfpopfnbcblaaDoor
open Go.RowKit

/-- An arena that was made since w0, beside the blocks R. -/
structure ArR (R : Nat → Prop) (w0 w : World) (p m : Nat) (bs : List Blk) : Prop where
  ex : ∃ S, ArV S w p m bs ∧ ∀ b, S b → w0.heap.size ≤ b ∧ b < w.heap.size ∧ ¬ R b
  below : Below w0.heap.size w0 w
/-- The blocks R are as they were. -/
structure Kept (R : Nat → Prop) (w w' : World) : Prop where
  size : w.heap.size ≤ w'.heap.size
  blk : ∀ b, R b → w'.heap[b]? = w.heap[b]?
theorem ArV.cut {S : Nat → Prop} {w : World} {p m : Nat} {bs : List Blk} (A0 : ArV S w p m bs) : ArV (fun b => S b ∧ b < w.heap.size) w p m bs := by
  obtain ⟨SL, wb, tb, kb, mc, lv, ws, L, T, K, used, tk, mk, tbs, kbs, A, I, O⟩ := A0
  exact ⟨SL, wb, tb, kb, mc, lv, ws, L, T, K, used, tk, mk, tbs, kbs, A, I, fun b hb => ⟨O b hb, A.lt b hb⟩⟩
variable {R : Nat → Prop} {w0 w : World} {p m : Nat} {bs : List Blk}
theorem ArR.post {S : Nat → Prop} {w' : World} {bs' : List Blk} (hS : ∀ b, S b → w0.heap.size ≤ b ∧ b < w.heap.size ∧ ¬ R b) (hR : ∀ b, R b → b < w.heap.size) (hb : Below w0.heap.size w0 w) (h : ArPost S w p m bs' w') : ArR R w0 w' p m bs' ∧ Kept R w w' := by
  obtain ⟨S', a, f, u⟩ := h
  refine ⟨⟨⟨_, a.cut, fun b ⟨hb', hl⟩ => ⟨?_, hl, fun hr => ?_⟩⟩, hb.trans (u.below (fun b h => (hS b h).1) hb.size)⟩, u.size, fun b hr => u.block b (hR b hr) (fun h => (hS b h).2.2 hr)⟩
  · exact (f b hb').elim (fun h => (hS b h).1) (fun h => Nat.le_trans hb.size h)
  · have := hR b hr
    rcases f b hb' with h | h
    · exact (hS b h).2.2 hr
    · omega
theorem ArN.beside (A : ArN w0 w p m bs) : ArR (fun b => w.heap.size ≤ b) w0 w p m bs := by
  obtain ⟨⟨S, a, hS⟩, hb⟩ := A
  exact ⟨⟨_, a.cut, fun b ⟨h1, h2⟩ => ⟨hS b h1, h2, by omega⟩⟩, hb⟩
theorem ArR.toN (A : ArR R w0 w p m bs) : ArN w0 w p m bs := by
  obtain ⟨⟨S, a, hS⟩, hb⟩ := A
  exact ⟨⟨S, a, fun b h => (hS b h).1⟩, hb⟩
theorem ArR.wf (A : ArR R w0 w p m bs) : Wf m bs := A.toN.wf
/-- Fewer blocks beside it. -/
theorem ArR.less {R' : Nat → Prop} (A : ArR R w0 w p m bs) (h : ∀ b, R' b → R b) : ArR R' w0 w p m bs := by
  obtain ⟨⟨S, a, hS⟩, hb⟩ := A
  exact ⟨⟨S, a, fun b h' => ⟨(hS b h').1, (hS b h').2.1, fun hr => (hS b h').2.2 (h b hr)⟩⟩, hb⟩
/-- Other blocks have been made, or turned. -/
theorem ArR.next {w' : World} (A : ArR R w0 w p m bs) {T : Nat → Prop} (u : Upd T w w') (hT : ∀ b, T b → b < w.heap.size → R b) (hT0 : ∀ b, T b → w0.heap.size ≤ b) : ArR (fun b => R b ∨ w.heap.size ≤ b) w0 w' p m bs := by
  obtain ⟨⟨S, a, hS⟩, hb⟩ := A
  refine ⟨⟨S, a.upd u (fun b h1 h2 h3 => (hS b h1).2.2 (hT b h3 h2)), fun b h => ⟨(hS b h).1, Nat.lt_of_lt_of_le (hS b h).2.1 u.size, ?_⟩⟩, hb.trans (u.below hT0 hb.size)⟩
  rintro (h1 | h1)
  · exact (hS b h).2.2 h1
  · have := (hS b h).2.1; omega
theorem ArR.then {w' : World} (A : ArR R w0 w p m bs) (hb : Below w.heap.size w w') : ArR (fun b => R b ∨ w.heap.size ≤ b) w0 w' p m bs :=
  A.next (T := fun _ => False) (Upd.of_below hb) (fun _ h => h.elim) (fun _ h => h.elim)
/-- New blocks are beside it. -/
theorem ArR.grow {w' : World} (A : ArR R w0 w p m bs) (hb : Below w.heap.size w w') : ArR (fun b => R b ∨ (w.heap.size ≤ b ∧ b < w'.heap.size)) w0 w' p m bs :=
  (A.then hb).less (fun _ h => h.imp id (fun h => h.1))
theorem grow_lt {w' : World} (hR : ∀ b, R b → b < w.heap.size) (hb : Below w.heap.size w w') : ∀ b, (R b ∨ (w.heap.size ≤ b ∧ b < w'.heap.size)) → b < w'.heap.size := fun b h => h.elim (fun h => Nat.lt_of_lt_of_le (hR b h) hb.size) (fun h => h.2)
theorem ArR.stay {w' : World} (A : ArR R w0 w p m bs) (hb : Below w.heap.size w w') : ArR R w0 w' p m bs := (A.then hb).less (fun _ h => .inl h)
theorem Kept.of_below {w' : World} (hR : ∀ b, R b → b < w.heap.size) (hb : Below w.heap.size w w') : Kept R w w' := ⟨hb.size, fun b h => hb.block b (hR b h)⟩
theorem Kept.trans {w' w'' : World} (h : Kept R w w') (k : Kept R w' w'') : Kept R w w'' := ⟨Nat.le_trans h.size k.size, fun b hb => (k.blk b hb).trans (h.blk b hb)⟩
theorem Kept.less {w' : World} {R' : Nat → Prop} (k : Kept R w w') (h : ∀ b, R' b → R b) : Kept R' w w' := ⟨k.size, fun b hb => k.blk b (h b hb)⟩
theorem Kept.cell {w' : World} (k : Kept R w w') {a : Addr} {v : Value} (h : w.cell? a = some v) (hr : R a.block) : w'.cell? a = some v := by
  have hb := k.blk _ hr
  unfold World.cell? at h ⊢
  rw [hb]; exact h
theorem Kept.refl : Kept R w w := ⟨Nat.le_refl _, fun _ _ => rfl⟩
theorem ArR.call {f : FuncId} {args : Array Value} {v : Value} {bs' : List Blk} (A : ArR R w0 w p m bs) (hR : ∀ b, R b → b < w.heap.size)
    (H : ∀ S, ArV S w p m bs → Calls Tryd.prog f args w fun e w' => e = .returned v ∧ ArPost S w p m bs' w') :
    Calls Tryd.prog f args w fun e w' => e = .returned v ∧ ArR R w0 w' p m bs' ∧ Kept R w w' := by
  obtain ⟨⟨S, a, hS⟩, hb⟩ := A
  exact (H S a).mono fun e w' ⟨he, hp⟩ => ⟨he, ArR.post hS hR hb hp⟩
theorem Take_r (A : ArR R w0 w p m bs) (hR : ∀ b, R b → b < w.heap.size) {n : Int} {x : Nat} {er : Int} {bs' : List Blk} (h : takeF bs n = (x, er, bs')) (X : Int) (hX : (x : Int) = X) (h1 : -9223372036854775808 ≤ n) (h2 : n < 9223372036854775808) :
    Calls Tryd.prog 18 #[.pointer (some ⟨p, 0, none⟩), .int .i64 n] w fun e w' => e = .returned (.tuple #[.int .i64 X, .int .i64 er]) ∧ ArR R w0 w' p m bs' ∧ Kept R w w' :=
  A.call hR fun S a => (take_at a n h1 h2).mono fun e w' ⟨x', er', bs'', hr, he, hp⟩ => by
    have := takeR_fun hr A.wf.span
    rw [h] at this
    obtain ⟨rfl, rfl, rfl⟩ : x' = x ∧ er' = er ∧ bs'' = bs' := by simpa using this
    subst hX
    exact ⟨he, hp⟩
theorem Set_r (A : ArR R w0 w p m bs) (hR : ∀ b, R b → b < w.heap.size) {q i : Int} {er : Int} {bs' : List Blk} {v : Nat} (h : setF bs q i v = (er, bs')) (V : Int) (hV : (v : Int) = V) (h1 : -9223372036854775808 ≤ q) (h2 : q < 9223372036854775808) (hv : v < 18446744073709551616) :
    Calls Tryd.prog 19 #[.pointer (some ⟨p, 0, none⟩), .int .i64 q, .int .i64 i, .int .u64 V] w fun e w' => e = .returned (.int .i64 er) ∧ ArR R w0 w' p m bs' ∧ Kept R w w' :=
  A.call hR fun S a => by
    subst hV
    refine (Set_at a q i h1 h2 v hv).mono fun e w' ⟨er', bs'', hr, he, hp⟩ => ?_
    have W := A.wf
    unfold setF at h
    rcases hr with ⟨hu, rfl, rfl⟩ | ⟨pre, b, post, rfl, hu, rfl, ⟨rfl, hh, rfl⟩ | ⟨rfl, h3, h4, rfl⟩⟩
    · rw [blkAt_none hu] at h
      simp only [Prod.mk.injEq] at h
      rw [← h.1, ← h.2]; exact ⟨he, hp⟩
    · rw [blkAt_some W.span (by simp) hu] at h
      dsimp only at h
      rw [if_neg (by omega)] at h
      simp only [Prod.mk.injEq] at h
      rw [← h.1, ← h.2]; exact ⟨he, hp⟩
    · rw [blkAt_some W.span (by simp) hu] at h
      dsimp only at h
      rw [if_pos ⟨h3, h4⟩, map_at W.span, hu] at h
      simp only [Prod.mk.injEq] at h
      rw [← h.1, ← h.2]; exact ⟨he, hp⟩
theorem Get_r (A : ArR R w0 w p m bs) {q i : Int} {er : Int} {v : Nat} (h : getF bs q i = (v, er)) (V : Int) (hV : (v : Int) = V) (h1 : -9223372036854775808 ≤ q) (h2 : q < 9223372036854775808) :
    Calls Tryd.prog 13 #[.pointer (some ⟨p, 0, none⟩), .int .i64 q, .int .i64 i] w fun e w' => e = .returned (.tuple #[.int .u64 V, .int .i64 er]) ∧ w = w' :=
  Get_k A.toN h V hV h1 h2
end Go.Proofs.YtfpfpopfnbcblaaDoor

/- Of no program: XRangeG under other names, for seats that have RangeOwn too; the body keeps what is no cells from the loop's own blocks on. -/
namespace Go.Proofs.YtfpfpopfnbcblaaDoor
open Go.RowKit Go.Shelf

/-- How a round's body may be left: on it goes, or by a jump. -/
def roundWayG {α : Type} (B : Nat) (Kp : World → World → Prop) (I : List α → World → Prop) (Ix : Code → List α → World → Prop) (xs : List α) (W : World) : Exit → Act → World → Prop
  | .normal, _, W' => KeepsFrom B W W' ∧ Kp W W' ∧ I xs W'
  | .ret, _, W' => KeepsFrom B W W' ∧ Ix .ret xs W'
  | .exit id, _, W' => KeepsFrom B W W' ∧ Ix (.exit id) xs W'
  | .goto t, _, W' => KeepsFrom B W W' ∧ Ix (.goto t) xs W'
  | .panic _, _, _ => False
  | .outgrown, _, _ => False

/-- What is asked of the iterator, at the loop's own invariant; L and L' stand for the loop's record, which whatever turns cells alone keeps. -/
def IterAtG {α : Type} (F : Fence) (n : Nat) (P : Program) (gf : Nat) (lb : Array Value) (encs : α → Array Value) (w : World) (Kp : World → World → Prop) (I : List α → World → Prop) (Ix : Code → List α → World → Prop) (S Sp : List α → Prop) (G : List α → α → Prop) : Prop :=
  ∀ (l : Nat) (L : World → Prop) (L' : Code → World → Prop) (W1 : World), (∀ W W', KeepsOthers W W' → L W → L W') → (∀ c W W', KeepsOthers W W' → L' c W → L' c W') → Below w.heap.size w W1 →
    (∀ pre x W, I pre W → L W → G pre x → YieldAt F (n - 1) P l (encs x) W fun e W' =>
      (e = .returned (.bool true) ∧ I (pre ++ [x]) W' ∧ Kp W W' ∧ L W') ∨ (e = .returned (.bool false) ∧ ∃ c, Ix c (pre ++ [x]) W' ∧ L' c W')) →
    I [] W1 → L W1 →
    CallsIn F n P gf (#[.func (.yield l) #[] #[]] ++ lb) W1 fun e W' => (∃ v, e = .returned v) ∧ ((∃ xs, S xs ∧ I xs W' ∧ L W') ∨ (∃ pre c, Sp pre ∧ Ix c pre W' ∧ L' c W'))

variable {F : Fence} {n : Nat} {P : Program}

theorem wpIn_range_atG {α : Type} {g : Operand} {ps : Array Tmp} {assign body : Code} {Q : Exit → Act → World → Prop} {a : Act} {w : World}
    (hro : F.round = none) (h1 : 1 ≤ n) {gf : Nat} {lb : Array Value} (hg : a.eval g = .func (.func gf) #[] lb) (hFg : F.fn gf) (eg : ∀ args w, (callFunc gf args).run P w = .ok (.enter gf args) w)
    {encs : α → Array Value} (hps : ∀ x, (encs x).size = ps.size) {S Sp : List α → Prop} {G : List α → α → Prop} (Kp : World → World → Prop) (I : List α → World → Prop) (Ix : Code → List α → World → Prop)
    (hKt : ∀ {A B C : World}, Kp A B → Kp B C → Kp A C) (hKp : ∀ W l o o', w.heap.size ≤ l → W.heap[l]? = some o → o.isCells = false → Kp W (W.putObj l o'))
    (hIp : ∀ pre W l o o', w.heap.size ≤ l → W.heap[l]? = some o → o.isCells = false → I pre W → I pre (W.putObj l o'))
    (hIxp : ∀ c pre W l o o', w.heap.size ≤ l → W.heap[l]? = some o → o.isCells = false → Ix c pre W → Ix c pre (W.putObj l o'))
    (h0 : ∀ o o', I [] ((w.alloc o).alloc o')) (a₁ : α → Act)
    (hiter : IterAtG F (n - 1) P gf lb encs w Kp I Ix S Sp G)
    (hassign : ∀ (l : Nat) (x : α) (W : World) (K : Act → World → Prop), K (a₁ x) W →
      assign.wpIn (F.inRound l) (n - 1 - 1) P (Exit.then K (fun _ _ _ => False)) { tmps := (ps.zip (encs x)).foldl (fun t (p, v) => t.setIfInBounds p v) a.tmps, defers := [] } W)
    (hbody : ∀ (l : Nat) (pre : List α) (x : α) (W : World), I pre W → G pre x → body.wpIn (F.inRound l) (n - 1 - 1) P (roundWayG w.heap.size Kp I Ix (pre ++ [x]) W) (a₁ x) W)
    (hdone : ∀ (D : Nat) (xs : List α) (W : World), S xs → I xs W → W.heap[D]? = some (.deferred (some [])) → w.heap.size ≤ D → Q .normal { a with defers := { target := .collected D, args := #[] } :: a.defers } W)
    (hstop : ∀ (D : Nat) (c : Code) (pre : List α) (W : World), Sp pre → Ix c pre W → W.heap[D]? = some (.deferred (some [])) → w.heap.size ≤ D → c.wpIn F n P Q { a with defers := { target := .collected D, args := #[] } :: a.defers } W) :
    (Code.rangeFunc g ps assign body).wpIn F n P Q a w := by
  refine wpIn_rangeFunc fun fn hfn => ?_
  rw [hro]
  -- the loop's record in its states, its block and the block of the deferred calls
  let mk : LoopState → Option Code → Loop := fun st pe => { state := st, pending := pe, fn, tmps := a.tmps, params := ps, assign, body, defers := w.heap.size }
  let R : LoopState → Option Code → World → Prop := fun st pe W => W.heap[w.heap.size + 1]? = some (.loop (mk st pe)) ∧ W.heap[w.heap.size]? = some (.deferred (some []))
  have keep : ∀ st pe W W', KeepsOthers W W' → R st pe W → R st pe W' := fun st pe W W' hk h => ⟨hk.same _ _ h.1 rfl, hk.same _ _ h.2 rfl⟩
  have keep2 : ∀ st pe W W', KeepsFrom w.heap.size W W' → R st pe W → R st pe W' := fun st pe W W' hk h => ⟨hk.same _ _ (by omega) h.1 rfl, hk.same _ _ (Nat.le_refl _) h.2 rfl⟩
  have turn : ∀ st pe st' pe' W, R st pe W → R st' pe' (W.putObj (w.heap.size + 1) (.loop (mk st' pe'))) := fun st pe st' pe' W h =>
    ⟨World.putObj_heap_same (Array.getElem?_eq_some_iff.1 h.1).1, (World.putObj_heap_other (by omega)).trans h.2⟩
  have start : R .ready none ((w.alloc (.deferred (some []))).alloc (.loop (mk .ready none))) := by
    constructor
    · have := World.alloc_heap_new (w.alloc (.deferred (some []))) (.loop (mk .ready none))
      rwa [World.size_alloc] at this
    · exact (Below.heap_alloc _ _ _ (by simp)).trans (World.alloc_heap_new w _)
  refine ⟨w.heap.size + 1, [{ target := .collected w.heap.size, args := #[] }], (w.alloc (.deferred (some []))).alloc (.loop (mk .ready none)), { target := .fn (.func gf) lb, args := #[.func (.yield (w.heap.size + 1)) #[] #[]] }, (w.alloc (.deferred (some []))).alloc (.loop (mk .ready none)), gf,
    #[.func (.yield (w.heap.size + 1)) #[] #[]] ++ lb, (w.alloc (.deferred (some []))).alloc (.loop (mk .ready none)), run_enterLoop_outer _ _ _ _ _, ?_, ?_, ?_, fun _ => h1, ?_⟩
  · simp only [resolve, hg]
    simp [go_sem]
  · intro f' hf'
    simp [Target.leads] at hf'
    subst hf'
    exact hFg
  · simp [invoke, go_sem, eg]
  refine (hiter (w.heap.size + 1) (R .ready none) (fun c => R .done (some c)) _ (keep _ _) (fun c => keep _ _) (((Below.refl _ w).alloc (Nat.le_refl _) _).alloc (by simp) _) ?_ (h0 _ _) start).mono ?_
  · intro pre x W hi hl hlen
    refine ⟨fn, _, assign, body, run_yield hl.1 (hps x), roundIn_of_wpIn hfn (hassign _ x W _ ⟨_, run_beginRound hl.1 rfl, ?_⟩)⟩
    have hb := turn _ _ .busy none W hl
    refine wpIn_mono (hbody _ pre x _ (hIp _ _ _ _ _ (by omega) hl.1 rfl hi) hlen) ?_
    rintro e a3 W3 hp
    cases e with
    | normal =>
      have h3 := keep2 _ _ _ _ hp.1 hb
      exact ⟨_, _, run_endRound none h3.1, .inl ⟨rfl, hIp _ _ _ _ _ (by omega) h3.1 rfl hp.2.2, hKt (hKt (hKp _ _ _ _ (by omega) hl.1 rfl) hp.2.1) (hKp _ _ _ _ (by omega) h3.1 rfl), turn _ _ .ready none W3 h3⟩⟩
    | ret =>
      have h3 := keep2 _ _ _ _ hp.1 hb
      exact ⟨_, _, run_endRound (some .ret) h3.1, .inr ⟨rfl, .ret, hIxp _ _ _ _ _ _ (by omega) h3.1 rfl hp.2, turn _ _ .done (some .ret) W3 h3⟩⟩
    | exit id =>
      have h3 := keep2 _ _ _ _ hp.1 hb
      exact ⟨_, _, run_endRound (some (.exit id)) h3.1, .inr ⟨rfl, .exit id, hIxp _ _ _ _ _ _ (by omega) h3.1 rfl hp.2, turn _ _ .done (some (.exit id)) W3 h3⟩⟩
    | goto t =>
      have h3 := keep2 _ _ _ _ hp.1 hb
      exact ⟨_, _, run_endRound (some (.goto t)) h3.1, .inr ⟨rfl, .goto t, hIxp _ _ _ _ _ _ (by omega) h3.1 rfl hp.2, turn _ _ .done (some (.goto t)) W3 h3⟩⟩
    | panic ch => exact hp.elim
    | outgrown => exact hp.elim
  · rintro e W2 ⟨⟨v, rfl⟩, (⟨xs, hS, hi, hl⟩ | ⟨pre, c, hSp, hi, hl⟩)⟩
    · exact ⟨none, _, run_endLoop hl.1 (by simp [mk]), hdone _ xs _ hS (hIp _ _ _ _ _ (by omega) hl.1 rfl hi) ((World.putObj_heap_other (by omega)).trans hl.2) (Nat.le_refl _)⟩
    · exact ⟨some c, _, run_endLoop hl.1 (by simp [mk]), hstop _ c pre _ hSp (hIxp _ _ _ _ _ _ (by omega) hl.1 rfl hi) ((World.putObj_heap_other (by omega)).trans hl.2) (Nat.le_refl _)⟩
end Go.Proofs.YtfpfpopfnbcblaaDoor
