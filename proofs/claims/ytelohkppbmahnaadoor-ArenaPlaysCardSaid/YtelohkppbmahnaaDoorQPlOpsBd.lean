/- A copy of an arena, the old one and the document's one: three side by side. -/
import Derived.Test.YtelohkppbmahnaaDoorQMkBitsBd
import Derived.Test.YtelohkppbmahnaaDoorQPlCopy
import Derived.Test.YtelohkppbmahnaaDoorQRaUseBd
import Derived.Test.YtelohkppbmahnaaDoorQCalmBd
import Derived.Test.YtelohkppbmahnaaDoorQArAllBd
import Derived.Test.YtelohkppbmahnaaDoorQRaGetBd
import Derived.Test.YtelohkppbmahnaaDoorQFlat
import Derived.Deep.Slices
import Derived.Test.YtelohkppbmahnaaDoorQPlAlike
import Derived.Test.YtelohkppbmahnaaDoorQRaSweepBd
namespace Go.Proofs.YtelohkppbmahnaaDoor
open Go.RowKit

/-- The old arena at p, its copy at c, the document's one at q. -/
structure Cp (w0 : World) (p c q m : Nat) (bo bs : List Blk) (W : World) : Prop where
  ex : ∃ So Sn S2 : Nat → Prop, ArV So W p m bo ∧ ArV Sn W c m bs ∧ RaV S2 W q m bs ∧ (∀ b, So b → w0.heap.size ≤ b ∧ b < W.heap.size ∧ ¬ Sn b ∧ ¬ S2 b) ∧ (∀ b, Sn b → w0.heap.size ≤ b ∧ b < W.heap.size ∧ ¬ S2 b) ∧ (∀ b, S2 b → w0.heap.size ≤ b ∧ b < W.heap.size)
  below : Below w0.heap.size w0 W
variable {w0 W : World} {p c q m : Nat} {bo bs : List Blk}
theorem Pr.copyA (H : Pr w0 p q m bs bs W) :
    Calls Tryd.prog 21 #[.pointer (some ⟨p, 0, none⟩)] W fun e W' => ∃ c, e = .returned (.pointer (some ⟨c, 0, none⟩)) ∧ Cp w0 p c q m bs bs W' := by
  obtain ⟨R, S2, h1, h2, ⟨rs, h3, h3'⟩, h4, h4'⟩ := H.ex
  obtain ⟨⟨S, a, hS⟩, hb⟩ := h1
  refine (copy_any a).mono ?_
  rintro e W' ⟨c, S', he, ha, hS', hb'⟩
  have hs := hb.size
  have hs' := hb'.size
  refine ⟨c, he, ⟨⟨S, fun b => S' b ∧ b < W'.heap.size, S2, a.below hb', ha.cut, ⟨rs, h3.below hb', h3'⟩, fun b h => ?_, fun b h => ?_, fun b h => ?_⟩, hb.trans (hb'.mono hs)⟩⟩
  · obtain ⟨k1, k2, k3⟩ := hS b h
    exact ⟨k1, by omega, fun k => by have := hS' b k.1; omega, fun k => k3 (h4 b k)⟩
  · have := hS' b h.1
    exact ⟨by omega, h.2, fun k => by have := h2 b (h4 b k); omega⟩
  · have := h2 b (h4 b h)
    exact ⟨h4' b h, by omega⟩
theorem Cp.call {f : FuncId} {args : Array Value} {Q : Ending → Prop} (H : Cp w0 p c q m bo bs W)
    (hc : ∀ So, ArV So W p m bo → Calls Tryd.prog f args W fun e W' => Q e ∧ ∃ bo', ArPost So W p m bo' W') :
    Calls Tryd.prog f args W fun e W' => Q e ∧ ∃ bo', Cp w0 p c q m bo' bs W' := by
  obtain ⟨⟨So, Sn, S2, a, b, ⟨rs, r, r'⟩, h1, h2, h3⟩, hb⟩ := H
  refine (hc So a).mono ?_
  rintro e W' ⟨he, bo', S', a', f, u⟩
  have hs := u.size
  have hs0 := hb.size
  refine ⟨he, bo', ⟨⟨fun b => S' b ∧ b < W'.heap.size, Sn, S2, a'.cut, b.upd u (fun x hx _ k => (h1 x k).2.2.1 hx), ⟨rs, r.same (fun x hx => u.block x (h3 x hx).2 (fun k => (h1 x k).2.2.2 hx)), r'⟩, fun x hx => ?_, fun x hx => ?_, fun x hx => ?_⟩, hb.trans (u.below (fun k hk => (h1 k hk).1) hs0)⟩⟩
  · rcases f x hx.1 with k | k
    · obtain ⟨k1, k2, k3, k4⟩ := h1 x k
      exact ⟨k1, hx.2, k3, k4⟩
    · exact ⟨by omega, hx.2, fun k' => by have := (h2 x k').2.1; omega, fun k' => by have := (h3 x k').2; omega⟩
  · obtain ⟨k1, k2, k3⟩ := h2 x hx
    exact ⟨k1, by omega, k3⟩
  · obtain ⟨k1, k2⟩ := h3 x hx
    exact ⟨k1, by omega⟩
theorem Cp.toPr (H : Cp w0 p c q m bo bs W) : Pr w0 c q m bs bs W := by
  obtain ⟨⟨So, Sn, S2, a, b, r, h1, h2, h3⟩, hb⟩ := H
  exact ⟨S2, S2, ⟨⟨Sn, b, fun x hx => ⟨(h2 x hx).1, (h2 x hx).2.1, (h2 x hx).2.2⟩⟩, hb⟩, fun x hx => (h3 x hx).2, r, fun x hx => hx, fun x hx => (h3 x hx).1⟩
theorem Cp.sweep (H : Cp w0 p c q m bo bs W) :
    Calls Tryd.prog 16 #[.pointer (some ⟨p, 0, none⟩)] W fun e W' => (∃ v, e = .returned (.int .i64 v)) ∧ ∃ bo', Cp w0 p c q m bo' bs W' :=
  H.call fun _ a => (Sweep_at a).mono fun _ _ ⟨he, hp⟩ => ⟨⟨_, he⟩, _, hp⟩
theorem Cp.take (H : Cp w0 p c q m bo bs W) :
    Calls Tryd.prog 8 #[.pointer (some ⟨p, 0, none⟩), .int .i64 1] W fun e W' => (∃ v f, e = .returned (.tuple #[.int .i64 v, .int .i64 f])) ∧ ∃ bo', Cp w0 p c q m bo' bs W' :=
  H.call fun So a => (take_at a 1 (by decide) (by decide)).mono fun _ _ ⟨_, _, _, _, he, hp⟩ => ⟨⟨_, _, he⟩, _, hp⟩
end Go.Proofs.YtelohkppbmahnaaDoor

/- An arena and the document's one side by side, and a box beside them that stays. -/
namespace Go.Proofs.YtelohkppbmahnaaDoor
open Go.RowKit

/-- The two, and the box ob. -/
structure PrB (w0 : World) (p q m : Nat) (bA bR : List Blk) (ob : Nat) (o : Obj) (W : World) : Prop where
  ex : ∃ (R S2 : Nat → Prop), ArR R w0 W p m bA ∧ (∀ b, R b → b < W.heap.size) ∧ RaV S2 W q m bR ∧ (∀ b, S2 b → R b) ∧ (∀ b, S2 b → w0.heap.size ≤ b) ∧ R ob ∧ ¬ S2 ob
  box : W.heap[ob]? = some o
variable {w0 W W' : World} {p q m : Nat} {bA bR bs : List Blk} {ob : Nat} {o : Obj}
theorem PrB.toPr (H : PrB w0 p q m bA bR ob o W) : Pr w0 p q m bA bR W := by
  obtain ⟨⟨R, S2, h1, h2, h3, h4, h5, _⟩, _⟩ := H
  exact ⟨R, S2, h1, h2, h3, h4, h5⟩
theorem PrB.canon (H : PrB w0 p q m bA bR ob o W) (h : canonL bA = canonL bR) : PrB w0 p q m bR bR ob o W := by
  obtain ⟨⟨R, S2, h1, h2⟩, hb⟩ := H
  exact ⟨⟨R, S2, h1.canon h, h2⟩, hb⟩
theorem PrB.then (H : PrB w0 p q m bA bR ob o W) (hb : Below W.heap.size W W') : PrB w0 p q m bA bR ob o W' := by
  obtain ⟨⟨R, S2, h1, h2, ⟨rs, h3, h3'⟩, h4, h4', h5⟩, hx⟩ := H
  exact ⟨⟨R, S2, h1.stay hb, fun b hb' => Nat.lt_of_lt_of_le (h2 b hb') hb.size, ⟨rs, h3.below hb, h3'⟩, h4, h4', h5⟩, by rw [hb.block ob (heap_lt hx)]; exact hx⟩
/-- A new box. -/
theorem Pr.box (H : Pr w0 p q m bA bR W) (hb : Below W.heap.size W W') (h1 : W.heap.size ≤ ob) (h2 : W'.heap[ob]? = some o) : PrB w0 p q m bA bR ob o W' := by
  obtain ⟨R, S2, k1, k2, ⟨rs, k3, k3'⟩, k4, k4'⟩ := H.ex
  refine ⟨⟨_, S2, k1.grow hb, grow_lt k2 hb, ⟨rs, k3.below hb, k3'⟩, fun b hb' => .inl (k4 b hb'), k4', .inr ⟨h1, heap_lt h2⟩, fun h => by have := k2 _ (k4 _ h); omega⟩, h2⟩
theorem PrB.callA {f : FuncId} {args : Array Value} {v : Value} {bs' : List Blk} (H : PrB w0 p q m bA bR ob o W)
    (hc : ∀ R, ArR R w0 W p m bA → (∀ b, R b → b < W.heap.size) → Calls Tryd.prog f args W fun e W' => e = .returned v ∧ ArR R w0 W' p m bs' ∧ Kept R W W') :
    Calls Tryd.prog f args W fun e W' => e = .returned v ∧ PrB w0 p q m bs' bR ob o W' := by
  obtain ⟨⟨R, S2, h1, h2, ⟨rs, h3, h3'⟩, h4, h4', h5, h6⟩, hx⟩ := H
  refine (hc R h1 h2).mono ?_
  rintro e W' ⟨he, hA, hk⟩
  exact ⟨he, ⟨⟨R, S2, hA, fun b hb => Nat.lt_of_lt_of_le (h2 b hb) hk.size, ⟨rs, h3.same (fun b hb => hk.blk b (h4 b hb)), h3'⟩, h4, h4', h5, h6⟩, by rw [hk.blk ob h5]; exact hx⟩⟩
theorem PrB.callR {f : FuncId} {args : Array Value} {v : Value} {Q : List Blk → Prop} (H : PrB w0 p q m bA bR ob o W)
    (hc : ∀ (S2 : Nat → Prop) rs, RaAt S2 W q m rs → blks rs = bR → Calls Tryd.prog f args W fun e W' => e = .returned v ∧ ∃ S' bs', Q bs' ∧ RaV S' W' q m bs' ∧ Upd S2 W W' ∧ Fresh S2 W S') :
    Calls Tryd.prog f args W fun e W' => e = .returned v ∧ ∃ bs', Q bs' ∧ PrB w0 p q m bA bs' ob o W' := by
  obtain ⟨⟨R, S2, h1, h2, ⟨rs, h3, h3'⟩, h4, h4', h5, h6⟩, hx⟩ := H
  refine (hc S2 rs h3 h3').mono ?_
  rintro e W' ⟨he, S', bs', hQ, ⟨rs', k1, k1'⟩, ku, kf⟩
  have hA := h1.next (T := S2) ku (fun b hb _ => h4 b hb) h4'
  have hw := h1.below.size
  have hol := heap_lt hx
  refine ⟨he, bs', hQ, ⟨⟨fun b => (R b ∨ W.heap.size ≤ b) ∧ b < W'.heap.size, _, hA.less (fun b hb => hb.1), fun b hb => hb.2, ⟨rs', k1.cut, k1'⟩, fun b hb => ⟨?_, hb.2⟩, fun b hb => ?_, ⟨.inl h5, Nat.lt_of_lt_of_le hol ku.size⟩, fun h => ?_⟩, ku.heap_some hx h6⟩⟩
  · exact (kf b hb.1).imp (h4 b) id
  · rcases kf b hb.1 with h | h
    · exact h4' b h
    · omega
  · rcases kf ob h.1 with h | h
    · exact h6 h
    · omega
theorem PrB.setA (H : PrB w0 p q m bs bs ob o W) {at' i : Int} {v : Nat} (V : Int) (hV : (v : Int) = V) (h1 : -9223372036854775808 ≤ at') (h2 : at' < 9223372036854775808) (hv : v < 18446744073709551616) :
    Calls Tryd.prog 12 #[.pointer (some ⟨p, 0, none⟩), .int .i64 at', .int .i64 i, .int .u64 V] W fun e W' => e = .returned (.int .i64 (setF bs at' i v).1) ∧ PrB w0 p q m (setF bs at' i v).2 bs ob o W' :=
  H.callA fun _ A hR => Set_r A hR rfl V hV h1 h2 hv
theorem PrB.setR (H : PrB w0 p q m bA bs ob o W) {at' i : Int} {v : Nat} (V : Int) (hV : (v : Int) = V) (hv : v < 18446744073709551616) :
    Calls Tryd.prog 13 #[.pointer (some ⟨q, 0, none⟩), .int .i64 at', .int .i64 i, .int .u64 V] W fun e W' => e = .returned (.int .i64 (setF bs at' i v).1) ∧ PrB w0 p q m bA (setF bs at' i v).2 ob o W' :=
  (H.callR (Q := fun b => b = (setF bs at' i v).2) fun S2 rs hr hb => by
    subst hV
    refine (rSet_at hr at' i v hv).mono ?_
    rintro e W' ⟨he, h3, h4⟩
    rw [hb] at he h3
    exact ⟨he, S2, _, rfl, h3, h4, Fresh.refl _ _⟩).mono fun e W' ⟨he, b, hb, h⟩ => ⟨he, hb ▸ h⟩
theorem PrB.markA (H : PrB w0 p q m bs bs ob o W) {at' : Int} (h1 : -9223372036854775808 ≤ at') (h2 : at' < 9223372036854775808) :
    Calls Tryd.prog 14 #[.pointer (some ⟨p, 0, none⟩), .int .i64 at'] W fun e W' => e = .returned (.bool (markG bs at').1) ∧ PrB w0 p q m (markG bs at').2 bs ob o W' :=
  H.callA fun _ A hR => Mark_r A hR at' h1 h2
theorem PrB.markR (H : PrB w0 p q m bA bs ob o W) {at' : Int} :
    Calls Tryd.prog 15 #[.pointer (some ⟨q, 0, none⟩), .int .i64 at'] W fun e W' => e = .returned (.bool (markG bs at').1) ∧ PrB w0 p q m bA (markG bs at').2 ob o W' :=
  (H.callR (Q := fun b => b = (markG bs at').2) fun S2 rs hr hb => by
    refine (rMark_at hr at').mono ?_
    rintro e W' ⟨he, h3, h4⟩
    rw [hb] at he h3
    exact ⟨he, S2, _, rfl, h3, h4, Fresh.refl _ _⟩).mono fun e W' ⟨he, b, hb, h⟩ => ⟨he, hb ▸ h⟩
theorem PrB.freeA (H : PrB w0 p q m bs bs ob o W) {at' : Int} (h1 : -9223372036854775808 ≤ at') (h2 : at' < 9223372036854775808) :
    Calls Tryd.prog 10 #[.pointer (some ⟨p, 0, none⟩), .int .i64 at'] W fun e W' => e = .returned (.int .i64 (freeG bs at').1) ∧ PrB w0 p q m (freeG bs at').2 bs ob o W' :=
  H.callA fun _ A hR => Free_r A hR rfl h1 h2
theorem PrB.freeR {at' : Int} (H : PrB w0 p q m (freeG bs at').2 bs ob o W) :
    Calls Tryd.prog 11 #[.pointer (some ⟨q, 0, none⟩), .int .i64 at'] W fun e W' => e = .returned (.int .i64 (freeG bs at').1) ∧ ∃ bs', PrB w0 p q m bs' bs' ob o W' :=
  (H.callR (Q := fun b => canonL b = canonL (freeG bs at').2) fun S2 rs hr hb => by
    refine (rFree_at hr at').mono ?_
    rintro e W' ⟨he, S', bs', h3, h4, h5, h6⟩
    rw [hb] at he h4
    rw [← (canon_free bs at').2] at he
    exact ⟨he, S', bs', by rw [h4, (canon_free bs at').1], h3, h5, h6⟩).mono fun e W' ⟨he, b, hb, h⟩ => ⟨he, b, h.canon hb.symm⟩
theorem PrB.sweepA (H : PrB w0 p q m bs bs ob o W) :
    Calls Tryd.prog 16 #[.pointer (some ⟨p, 0, none⟩)] W fun e W' => e = .returned (.int .i64 ((usedSum bs : Int) - (usedSum (sweepF bs) : Int))) ∧ PrB w0 p q m (sweepF bs) bs ob o W' :=
  H.callA fun _ A hR => Sweep_r A hR
theorem PrB.sweepR (H : PrB w0 p q m (sweepF bs) bs ob o W) :
    Calls Tryd.prog 17 #[.pointer (some ⟨q, 0, none⟩)] W fun e W' => e = .returned (.int .i64 ((usedSum bs : Int) - (usedSum (sweepF bs) : Int))) ∧ ∃ bs', PrB w0 p q m bs' bs' ob o W' :=
  (H.callR (Q := fun b => canonL b = canonL (sweepF bs)) fun S2 rs hr hb => by
    have hun : ∀ b ∈ bs, b.u = false → b.m = false := by rw [← hb]; exact hr.wf.unm
    refine (rSweep_at hr).mono ?_
    rintro e W' ⟨he, S', bs', h3, h4, h5, h6⟩
    rw [hb] at he h4
    have hc := canon_sweep hun
    have hu : usedSum (sweepF (canonL bs)) = usedSum (sweepF bs) := by rw [← hc, used_canon]
    rw [hu] at he
    exact ⟨he, S', bs', by rw [h4, hc], h3, h5, h6⟩).mono fun e W' ⟨he, b, hb, h⟩ => ⟨he, b, h.canon hb.symm⟩
theorem PrB.take (H : PrB w0 p q m bs bs ob o W) {n : Int} {x : Nat} {er : Int} {bs' : List Blk} (h : takeF bs n = (x, er, bs')) (h1 : -9223372036854775808 ≤ n) (h2 : n < 9223372036854775808) :
    Calls Tryd.prog 8 #[.pointer (some ⟨p, 0, none⟩), .int .i64 n] W fun e W' => e = .returned (.tuple #[.int .i64 (x : Nat), .int .i64 er]) ∧ PrB w0 p q m bs' bs ob o W' :=
  H.callA fun _ A hR => Take_r A hR h _ rfl h1 h2
theorem PrB.rtake (H : PrB w0 p q m bA bs ob o W) {n : Int} {x : Nat} {er : Int} {bs' : List Blk} (h : takeF bs n = (x, er, bs')) (h2 : n < 9223372036854775808) :
    Calls Tryd.prog 9 #[.pointer (some ⟨q, 0, none⟩), .int .i64 n] W fun e W' => e = .returned (.tuple #[.int .i64 (x : Nat), .int .i64 er]) ∧ PrB w0 p q m bA bs' ob o W' :=
  (H.callR (Q := fun b => b = bs') fun S2 rs hr hb => by
    refine (rTake_any hr n h2).mono ?_
    rintro e W' ⟨he, S', h3, h4, h5⟩
    rw [hb, h] at he h3
    exact ⟨he, S', bs', rfl, h3, h4, h5⟩).mono fun e W' ⟨he, b, hb, h⟩ => ⟨he, hb ▸ h⟩
end Go.Proofs.YtelohkppbmahnaaDoor

/- geodelaw20.Op.at: some address. -/
namespace Go.Proofs.YtelohkppbmahnaaDoor
open Go.RowKit

variable {S : Nat → Prop} {W W' : World} {p cap : Nat} {rs : List RBk}
/-- The addresses so far. -/
structure AtI (W : World) (ob : Array Value) (ao : Option Addr) (n c : Nat) (xs : List Nat) (wr : World) : Prop where
  row : wr.ownsRow W.heap.size 3 1 (.slice ao n c) n (ints xs)
  le : ∀ x ∈ xs, x ≤ 1048576
  be : Below W.heap.size W wr
  bx : wr.heap[W.heap.size]? = some (.cells ob 30 (0, 0))
def AtPost (W : World) (e : Ending) (W' : World) : Prop := ∃ t : Int, e = .returned (.int .i64 t) ∧ (-9223372036854775808 ≤ t ∧ t < 9223372036854775808) ∧ Below W.heap.size W W'
theorem mod_in (a : Int) (n : Nat) (hn : 0 < n) (hn6 : n ≤ 1048577) : -(n : Int) < a.tmod n ∧ a.tmod n < n ∧ ∃ k : Nat, (a.tmod n + n).tmod n = (k : Int) ∧ k < n := by
  have hp : (0 : Int) < n := by omega
  have h1 : a.tmod n < n := Int.tmod_lt_of_pos a hp
  have h2 : -(n : Int) < a.tmod n := by
    have := Int.tmod_lt_of_pos (-a) hp
    rw [Int.neg_tmod] at this; omega
  refine ⟨h2, h1, (a.tmod n + n).toNat % n, ?_, Nat.mod_lt _ hn⟩
  obtain ⟨m, hm⟩ : ∃ m : Nat, a.tmod n + n = m := ⟨(a.tmod n + n).toNat, by omega⟩
  rw [hm, Int.tmod_eq_emod_of_nonneg (by omega), Int.toNat_natCast]
  rfl
set_option maxRecDepth 100000 in
set_option maxHeartbeats 4000000 in
theorem at_any (h : RaAt S W p cap rs) (kd at' nn : Int) (x : Int) (raw : Bool) (ha : -9223372036854775808 ≤ at' ∧ at' < 9223372036854775808) :
    Calls Tryd.prog 7 #[.agg #[.int .i64 kd, .int .i64 at', .int .i64 nn, .int .u64 x, .bool raw], .pointer (some ⟨p, 0, none⟩)] W (AtPost W) := by
  obtain ⟨ao, c, R⟩ := h.rowC
  have c1 := R.c1
  have hlen := h.len
  have HBD := Lib.hid (fun r hr => h.bound (r := r) hr)
  have HAT := Lib.hid ha
  obtain ⟨L, hL⟩ : ∃ L, rs.length = L := ⟨_, rfl⟩
  rw [hL] at c1 hlen
  obtain ⟨i0, hi0, hz0, hz1, hz2⟩ := info_parts Tryd.infoInt8
  have Hi := Lib.hid hi0; have Hz0 := Lib.hid hz0; have Hz1 := Lib.hid hz1; have Hz2 := Lib.hid hz2
  have HR := Lib.hid R; have HN := Lib.hid hL; have HL := Lib.hid hlen
  clear h R hL hlen ha hi0 hz0 hz1 hz2
  go_enter Tryd.func7, Tryd.ntmps7
  cases raw
  · go_wp2
    go_loopw [5, 6] (fun t5 t6 wr => ∃ (i : Nat) (ao1 : Option Addr) (n c1 : Nat) (xs : List Nat), t5 = .slice ao1 n c1 ∧ t6 = .int .i64 i ∧ i ≤ L ∧ n ≤ i ∧ AtI W #[.int .i64 kd, .int .i64 at', .int .i64 nn, .int .u64 x, .bool false] ao1 n c1 xs wr) (fun _ t6 _ => L - (intOf t6).toNat)
    case atStart => exact ⟨0, none, 0, 0, [], rfl, rfl, Nat.zero_le _, Nat.zero_le _, ⟨⟨rfl, .inl ⟨rfl, rfl⟩⟩, fun x hx => by simp at hx, (Below.refl _ _).alloc (Nat.le_refl _) _, heap_alloc_at _ _ rfl⟩⟩
    case round =>
      obtain ⟨i, ao1, n, cc, xs, rfl, rfl, hi, hni, hj⟩ := hrel
      have c1 := below_cell hj.be c1
      have o1 := heap_cell hj.bx 1
      simp at o1
      by_cases hlt : i < L
      · obtain ⟨r, hr⟩ : ∃ r, rs[i]? = some r := ⟨rs[i]'(by rw [HN.out]; exact hlt), by simp [HN.out, hlt]⟩
        obtain ⟨g, rfl, k0, k1, k2, k3⟩ := HR.out.at' i r hr
        have k0 := below_cell hj.be k0; have k2 := below_cell hj.be k2
        have hbd := HBD.out r (List.mem_of_getElem? hr)
        obtain ⟨a, ha⟩ : ∃ a, r.b.a = a := ⟨_, rfl⟩
        obtain ⟨u, hu⟩ : ∃ u, r.b.u = u := ⟨_, rfl⟩
        rw [ha] at k0 hbd; rw [hu] at k2
        have hlt' : (i : Int) < L := by omega
        have hi0 : (0 : Int) ≤ i := by omega
        have HI6 := Lib.hid (show (i : Int) < 1048577 by have := HL.out; omega)
        have HA6 := Lib.hid (show a ≤ 1048576 by omega)
        have HLT := Lib.hid hlt; have HJ := Lib.hid hj; have HNI := Lib.hid hni
        clear hlt hi hr ha hu hj hbd k1 k3 hni
        cases u
        · have HI6' := HI6.out
          go_wp2
          go_roundw
          case rel => exact ⟨i + 1, ao1, n, cc, xs, rfl, by go_num, HLT.out, by have := HNI.out; omega, HJ.out⟩
          case measure => have := HLT.out; simp [intOf]; omega
        · have HI6' := HI6.out
          have HROW := Lib.hid (HJ.out.row.alloc (.cells #[.int .i64 a] 3))
          have HSV := Lib.hid (show W.heap.size ≤ (wr.alloc (.cells #[.int .i64 a] 3)).heap.size by have := HJ.out.be.size; simp; omega)
          have HNEWS := Lib.hid (show ∀ (j : Nat) (v : Value), ([Value.int .i64 a] : List Value)[j]? = some v → (wr.alloc (.cells #[.int .i64 a] 3)).cell? ((⟨wr.heap.size, 0, none⟩ : Addr).add j) = some v from by
            intro j v hj
            rw [Addr.add_lit, Nat.zero_add, heap_cell (heap_alloc_at wr (.cells #[.int .i64 a] 3) rfl)]
            simpa using hj)
          have HONE := Lib.hid (show ∀ v ∈ ([Value.int .i64 a] : List Value), v.oneCell' = true by
            intro v hv
            rw [List.mem_singleton.1 hv]; rfl)
          have HL1 := Lib.hid (show n + 1 ≤ maxLen by have := HNI.out; have := HLT.out; have := HL.out; unfold maxLen; omega)
          have HL2 := Lib.hid (show (n + 1) * 8 ≤ 140737488355328 by have := HNI.out; have := HLT.out; have := HL.out; omega)
          go_wp2_with (at_builtin; refine wpList_append_own2 _ rfl _ _ 60 rfl W.heap.size 3 i0 _ 1 8 Tryd.underlying60 Hi.out Hz0.out Hz1.out Hz2.out rfl (by decide) _ _ _ rfl HROW.out ⟨wr.heap.size, 0, none⟩ 1 1 [.int .i64 a] rfl rfl HNEWS.out HONE.out HL1.out HL2.out HSV.out (by decide) ?_; intro v4 V4 r4 g4 mu4; obtain ⟨ao4, c4, rfl, _⟩ := ownsRow_form r4; have HR4 := Lib.hid r4; have HG4 := Lib.hid g4; clear r4 g4 mu4)
          have hr4 := HR4.out
          have e4 : ints xs ++ [Value.int .i64 a] = ints (xs ++ [a]) := by simp [ints]
          rw [e4] at hr4
          have hrow := HJ.out.row
          have b4 : Below W.heap.size W V4 := (HJ.out.be.alloc HJ.out.be.size _).grown HG4.out HSV.out (fun k hk => (hrow.lt k hk).1)
          have u4 : Upd (fun k => (Value.slice ao1 n cc).ownBlock = some k) wr V4 := ((Upd.refl _ _).alloc _).grown HG4.out (fun k hk => .inl hk)
          have hbx := u4.heap_some HJ.out.bx (fun h => by
            obtain ⟨cur, hc⟩ := row_block hrow h
            rw [HJ.out.bx] at hc; simp at hc)
          refine ⟨⟨i + 1, ao4, n + 1, c4, xs ++ [a], rfl, by go_num, HLT.out, by have := HNI.out; omega, ⟨hr4, fun y hy => ?_, b4, hbx⟩⟩, ?_⟩
          · rcases List.mem_append.1 hy with h | h
            · exact HJ.out.le y h
            · rw [List.mem_singleton.1 h]; exact HA6.out
          · have := HLT.out; simp [intOf]; omega
      · obtain rfl : i = L := by omega
        have hlt' : ¬ (i : Int) < i := by omega
        have HJ := Lib.hid hj; have HNI := Lib.hid hni
        clear hlt hi hj hni
        by_cases h0 : n = 0
        · subst h0
          go_wp2
          go_ret
          exact ⟨1, rfl, by decide, HJ.out.be⟩
        · have hn0 : ¬ (n : Int) = 0 := by omega
          have hn1 : ((n : Int) == 0) = false := by simpa using hn0
          have hn2 : (0 : Int) < n := by omega
          obtain ⟨m1, m2, k, hk, hkn⟩ := mod_in at' n (by omega) (by have := HNI.out; have := HL.out; omega)
          obtain ⟨g, hg, hcell⟩ : ∃ g, ao1 = some ⟨g, 0, none⟩ ∧ wr.cell? ⟨g, k, none⟩ = some (.int .i64 (xs.getD k 0 : Nat)) := by
            obtain ⟨g, c', cur, e, _, _, _, hc⟩ := ownsRow_some HJ.out.row (by omega)
            simp only [Value.slice.injEq] at e
            have hl : xs.length = n := by have := HJ.out.row.1; simpa [ints] using this
            refine ⟨g, e.1, ?_⟩
            rw [hc k (by omega)]
            simp [ints, hl, hkn]
          subst hg
          obtain ⟨v, hv⟩ : ∃ v, xs.getD k 0 = v := ⟨_, rfl⟩
          rw [hv] at hcell
          have HV := Lib.hid (show v ≤ 1048576 by
            have hl : xs.length = n := by have := HJ.out.row.1; simpa [ints] using this
            rw [← hv, List.getD_eq_getElem?_getD, List.getElem?_eq_getElem (by omega)]
            exact HJ.out.le _ (List.getElem_mem _))
          have hw : IntKind.i64.wrap (at'.tmod n + n) = at'.tmod n + n := by have := HNI.out; have := HL.out; exact IntWalk.i64_in _ ⟨by omega, by omega⟩
          have hk1 : (k : Int) < n := by omega
          have hk0 : (0 : Int) ≤ k := by omega
          clear h0 hkn hv m1 m2
          go_wp2
          go_ret
          exact ⟨v, rfl, by have := HV.out; omega, HJ.out.be⟩
  · go_wp2
    go_ret
    exact ⟨at', rfl, HAT.out, (Below.refl _ _).alloc (Nat.le_refl _) _⟩
end Go.Proofs.YtelohkppbmahnaaDoor

/- package arena: known: the chapter's rows. -/
namespace Go.Proofs.YtelohkppbmahnaaDoor
open Go.RowKit

theorem kfree : freeG kb2 1 = (0, kb3) := by decide +kernel
theorem kmark1 : markG kb5 5 = (true, kb6) := by decide +kernel
theorem kmark2 : markG kb6 5 = (false, kb6) := by decide +kernel
theorem ksweep : (usedSum kb6 : Int) - (usedSum kb7 : Int) = 7 := by decide +kernel
set_option maxRecDepth 100000 in
set_option maxHeartbeats 4000000 in
theorem known_any (w : World) : Calls Tryd.prog 4 #[] w fun e w' => e = .returned (.bool true) ∧ Below w.heap.size w w' := by
  go_enter Tryd.func4, Tryd.ntmps4
  go_wp2_with fail
  refine (New_n w 10 10 (by omega) (by decide)).mono ?_
  rintro e w1 ⟨p, rfl, A⟩
  have H := Lib.hid A
  clear A
  go_wp2_with fail
  refine (Take_k H.out known1 1 rfl (by decide) (by decide)).mono ?_
  clear H
  rintro e w2 ⟨rfl, A⟩
  have H := Lib.hid A
  clear A
  go_wp2_with fail
  refine (Take_k H.out known2 5 rfl (by decide) (by decide)).mono ?_
  clear H
  rintro e w3 ⟨rfl, A⟩
  have H := Lib.hid A
  clear A
  go_wp2_with fail
  refine (Take_k H.out known3 0 rfl (by decide) (by decide)).mono ?_
  clear H
  rintro e w4 ⟨rfl, A⟩
  have H := Lib.hid A
  clear A
  go_wp2_with fail
  refine (Used_k H.out known4.1 7 rfl).mono ?_
  rintro e w5 ⟨rfl, rfl⟩
  go_wp2_with fail
  refine (Free_k H.out kfree (by decide) (by decide)).mono ?_
  clear H
  rintro e w5 ⟨rfl, A⟩
  have H := Lib.hid A
  clear A
  go_wp2_with fail
  refine (Take_k H.out known5 8 rfl (by decide) (by decide)).mono ?_
  clear H
  rintro e w6 ⟨rfl, A⟩
  have H := Lib.hid A
  clear A
  go_wp2_with fail
  refine (Take_k H.out known6 1 rfl (by decide) (by decide)).mono ?_
  clear H
  rintro e w7 ⟨rfl, A⟩
  have H := Lib.hid A
  clear A
  go_wp2_with fail
  refine (Used_k H.out known7.1 10 rfl).mono ?_
  rintro e w8 ⟨rfl, rfl⟩
  go_wp2_with fail
  refine (Mark_k H.out kmark1 (by decide) (by decide)).mono ?_
  clear H
  rintro e w8 ⟨rfl, A⟩
  have H := Lib.hid A
  clear A
  go_wp2_with fail
  refine (Mark_k H.out kmark2 (by decide) (by decide)).mono ?_
  clear H
  rintro e w9 ⟨rfl, A⟩
  have H := Lib.hid A
  clear A
  go_wp2_with fail
  refine (Sweep_k H.out rfl 7 ksweep).mono ?_
  clear H
  rintro e w10 ⟨rfl, A⟩
  have H := Lib.hid A
  clear A
  go_wp2_with fail
  refine (Used_k H.out known8.2.1 3 rfl).mono ?_
  rintro e w11 ⟨rfl, rfl⟩
  go_wp2_with fail
  refine (Room_k H.out known8.2.2 3 rfl).mono ?_
  clear H
  rintro e w12 ⟨rfl, A⟩
  have H := Lib.hid A
  clear A
  go_wp2
  go_ret
  exact ⟨rfl, H.out.below⟩
end Go.Proofs.YtelohkppbmahnaaDoor

/- Of no program: slices of things that came in, as rows that are read (RowG). -/
namespace Go.Proofs.YtelohkppbmahnaaDoor
open Go.Deep Go.ChangeShapes Go.WideShapes Go.ChangeAt Go.RowKit Go.Joins

theorem add_add (a : Addr) (i j : Nat) : (a.add i).add j = a.add (i + j) := by
  unfold Addr.add
  by_cases h0 : i = 0
  · subst h0; simp
  · by_cases h1 : j = 0
    · subst h1; simp
    · simp [h0, h1, Nat.add_assoc]
section
variable {H : Type} {enc : TypeId × Value → H} {w : World} {base : Nat} {sp : Nat → Bool} {held : Bool} {P : Program}
theorem trod3 {t : TypeId} {f0 f1 f2 : Field} {fuel : Nat} {cs : List Value} {x : DataW H × List MemPlace} (ht : P.underlying t = some (.struct #[f0, f1, f2])) (h : DataW.trod enc P w base sp held fuel t cs = some x) :
    ∃ y0 y1 y2 n, cs.length = P.cellsOf t ∧ DataW.trod enc P w base sp held n f0.type ((cs.drop f0.offset).take (P.cellsOf f0.type)) = some y0 ∧
      DataW.trod enc P w base sp held n f1.type ((cs.drop f1.offset).take (P.cellsOf f1.type)) = some y1 ∧ DataW.trod enc P w base sp held n f2.type ((cs.drop f2.offset).take (P.cellsOf f2.type)) = some y2 := by
  obtain ⟨xs, n, _, rfl, hl, hlen, hf⟩ := DataW.trod_struct ht h
  match xs, hlen with
  | [y0, y1, y2], _ => exact ⟨y0, y1, y2, n, hl, by simpa using hf 0 f0 rfl, by simpa using hf 1 f1 rfl, by simpa using hf 2 f2 rfl⟩
theorem trod4 {t : TypeId} {f0 f1 f2 f3 : Field} {fuel : Nat} {cs : List Value} {x : DataW H × List MemPlace} (ht : P.underlying t = some (.struct #[f0, f1, f2, f3])) (h : DataW.trod enc P w base sp held fuel t cs = some x) :
    ∃ y0 y1 y2 y3 n, cs.length = P.cellsOf t ∧ DataW.trod enc P w base sp held n f0.type ((cs.drop f0.offset).take (P.cellsOf f0.type)) = some y0 ∧
      DataW.trod enc P w base sp held n f1.type ((cs.drop f1.offset).take (P.cellsOf f1.type)) = some y1 ∧ DataW.trod enc P w base sp held n f2.type ((cs.drop f2.offset).take (P.cellsOf f2.type)) = some y2 ∧ DataW.trod enc P w base sp held n f3.type ((cs.drop f3.offset).take (P.cellsOf f3.type)) = some y3 := by
  obtain ⟨xs, n, _, rfl, hl, hlen, hf⟩ := DataW.trod_struct ht h
  match xs, hlen with
  | [y0, y1, y2, y3], _ => exact ⟨y0, y1, y2, y3, n, hl, by simpa using hf 0 f0 rfl, by simpa using hf 1 f1 rfl, by simpa using hf 2 f2 rfl, by simpa using hf 3 f3 rfl⟩
/-- A slice of things of c cells each that came in. -/
theorem open_rows {α : Type} [Inhabited α] {f : α → List Value} {Q : α → Prop} {c : Nat} {e t : TypeId} {fuel : Nat} {cs : List Value} {x : DataW H × List MemPlace} (ht : P.underlying t = some (.slice e)) (hc : P.cellsOf e = c) (hc0 : 0 < c) (hf : ∀ a, (f a).length = c)
    (hel : ∀ n cs x, DataW.trod enc P w base sp held n e cs = some x → ∃ a, cs = f a ∧ Q a) (h : DataW.trod enc P w base sp held fuel t cs = some x) :
    ∃ (v : Value) (l : List α), cs = [v] ∧ RowG w c v l.length (l.flatMap f) ∧ l.length ≤ maxLen ∧ ∀ a ∈ l, Q a := by
  rcases open_slice ht h with ⟨rfl, _⟩ | ⟨a, len, cap, m, n, D, Pl, rfl, hb, hl, hm, hmm, rfl, hx⟩
  · exact ⟨_, [], rfl, RowG.nil w c, Nat.zero_le _, by simp⟩
  rw [hc] at hx
  have hlm : len ≤ m := by rw [hmm]; split <;> omega
  obtain ⟨V, hV⟩ := choose_lt (α := α) (p := fun i v => w.cells? base (a.add (i * c)) c = some (f v) ∧ Q v) (n := len) (fun i hi => by
    obtain ⟨cs', h1, h2⟩ := hx i (by omega)
    obtain ⟨v, rfl, hq⟩ := hel _ _ _ h2
    exact ⟨v, h1, hq⟩)
  refine ⟨_, (List.range len).map V, rfl, ⟨flatG_len hf _, .inr ⟨a, cap, by simp, by simpa using hl, fun j u hu => ?_⟩⟩, by simp; omega, fun v hv => ?_⟩
  · have hj : j < len * c := by
      have := (List.getElem?_eq_some_iff.1 hu).1
      rw [flatG_len hf] at this; simpa using this
    have hjc : j / c < len := Nat.div_lt_of_lt_mul (by rw [Nat.mul_comm]; exact hj)
    have hjm : j % c < c := Nat.mod_lt _ hc0
    obtain ⟨_, _, hcell⟩ := World.cells?_some (hV (j / c) hjc).1
    have h1 := hcell (j % c) hjm
    have hd : j / c * c + j % c = j := by rw [Nat.mul_comm]; exact Nat.div_add_mod j c
    rw [add_add, hd] at h1
    rw [h1, ← hu, ← hd, flatG_at hf _ (j / c) (j % c) (V (j / c)) (by simp [hjc]) hjm, hd]
  · obtain ⟨i, hi, rfl⟩ := List.mem_map.1 hv
    exact (hV i (by simpa using hi)).2
end
end Go.Proofs.YtelohkppbmahnaaDoor

/- geodelaw20.ArenaPlays: the calls that came in. -/
namespace Go.Proofs.YtelohkppbmahnaaDoor
open Go.RowKit

/-- One call. -/
structure OpV where
  kd : Int
  at' : Int
  n : Int
  x : Nat
  raw : Bool
instance : Inhabited OpV := ⟨⟨0, 0, 0, 0, false⟩⟩
def opC (o : OpV) : List Value := [.int .i64 o.kd, .int .i64 o.at', .int .i64 o.n, .int .u64 (o.x : Nat), .bool o.raw]
structure OpOk (o : OpV) : Prop where
  at1 : -9223372036854775808 ≤ o.at'
  at2 : o.at' < 9223372036854775808
  n1 : -9223372036854775808 ≤ o.n
  n2 : o.n < 9223372036854775808
  x2 : o.x < 18446744073709551616
/-- The calls in memory. -/
theorem op_at {W : World} {l : List OpV} {ao : Option Addr} {c i : Nat} {o : OpV} (h : RowG W 5 (.slice ao l.length c) l.length (l.flatMap opC)) (ho : l[i]? = some o) :
    ∃ b off, ao = some ⟨b, off, none⟩ ∧ W.cell? ⟨b, off + i * 5, none⟩ = some (.int .i64 o.kd) ∧ W.cell? ⟨b, off + i * 5 + 1, none⟩ = some (.int .i64 o.at') ∧ W.cell? ⟨b, off + i * 5 + 2, none⟩ = some (.int .i64 o.n) ∧ W.cell? ⟨b, off + i * 5 + 3, none⟩ = some (.int .u64 (o.x : Nat)) ∧ W.cell? ⟨b, off + i * 5 + 4, none⟩ = some (.bool o.raw) := by
  have hil := (List.getElem?_eq_some_iff.1 ho).1
  obtain ⟨b, off, rfl, _, _, hc⟩ := h.at (by decide) (by omega)
  have hcell : ∀ j, j < 5 → W.cell? ⟨b, off + i * 5 + j, none⟩ = (opC o)[j]? := fun j hj => by
    rw [Nat.add_assoc, hc (i * 5 + j) (by omega)]; exact flatG_at (f := opC) (c := 5) (fun _ => rfl) l i j o ho hj
  exact ⟨b, off, rfl, hcell 0 (by decide), hcell 1 (by decide), hcell 2 (by decide), hcell 3 (by decide), hcell 4 (by decide)⟩
end Go.Proofs.YtelohkppbmahnaaDoor
