/- package kind: which types are the same. -/
import Derived.Test.YtkgmfbfpmlnfcaaGreatDoorQKdSubP
import Derived.Test.YtkgmfbfpmlnfcaaGreatDoorQRoAddP
import Derived.Test.YtkgmfbfpmlnfcaaGreatDoorQKdComp
import Derived.Test.YtkgmfbfpmlnfcaaGreatDoorQFnP
import Derived.Deep.Slices
namespace Go.Proofs.YtkgmfbfpmlnfcaaGreatDoor
open Go.RowKit

theorem drewN_drewN (w : World) (a b : Nat) : (w.drewN a).drewN b = w.drewN (a + b) := by
  simp [World.drewN, Nat.add_assoc]
theorem RowAt.drewN {w : World} {c n : Nat} {v : Value} {xs : List Value} (h : RowAt w c v n xs) (k : Nat) : RowAt (w.drewN k) c v n xs := h.keep fun _ _ h => h
theorem retd {p : Prop} [Decidable p] {b : Bool} (h : decide p = b) : Ending.returned (.bool b) = .returned (.bool (decide p)) := by rw [h]
theorem get_ne {α : Type} {l m : List α} {i : Nat} {x y : α} (hx : l[i]? = some x) (hy : m[i]? = some y) (h : x ≠ y) : l ≠ m := fun e => h (by rw [e] at hx; rw [hx] at hy; exact Option.some.inj hy)
theorem take_eq {α : Type} {l m : List α} {i : Nat} {x : α} (hx : l[i]? = some x) (hy : m[i]? = some x) (h : l.take i = m.take i) : l.take (i + 1) = m.take (i + 1) := by
  rw [List.take_add_one, List.take_add_one, h, hx, hy]
end Go.Proofs.YtkgmfbfpmlnfcaaGreatDoor

/- geodelaw09: box, ints, known. -/
namespace Go.Proofs.YtkgmfbfpmlnfcaaGreatDoor
open Go.RowKit Go.Maps Go.WideMaps

theorem addG_ok {gs : List (List Sb)} {ids : List Int} {g : List Sb} (hok : TabOk gs) (hl : ids.length ≤ 100000) (hr : RawG g) : TabOk (addG gs ids g).2.2 := by
  unfold addG
  split
  · exact hok
  · rename_i h1
    split
    · exact hok
    · rename_i h2
      split
      · exact hok
      · split
        · exact hok
        · refine enterG_ok hok (rollG_good (fun i hi => ?_) (by omega) hr (fun x hx => ?_))
          · have h := h2
            simp only [Decidable.not_not, List.all_eq_true] at h
            have := h i hi
            have ht := hok.total
            simp [inTab] at this; omega
          · have h := h1
            simp only [Decidable.not_not, List.all_eq_true] at h
            exact h x hx
/-- A table that was made since w0. -/
structure TabN (w0 : World) (S R : Nat → Prop) (w : World) (t : Nat) (gs : List (List Sb)) : Prop where
  tab : TabAt S R w t gs
  ok : TabOk gs
  base : ∀ k, S k → w0.heap.size ≤ k
  be : Below w0.heap.size w0 w
theorem TabN.below {w0 w w' : World} {S R : Nat → Prop} {t : Nat} {gs : List (List Sb)} (h : TabN w0 S R w t gs) (hb : Below w.heap.size w w') : TabN w0 S R w' t gs :=
  ⟨h.tab.below hb, h.ok, h.base, h.be.trans (hb.mono h.be.size)⟩
def AddN2 (w0 : World) (S R : Nat → Prop) (w : World) (t : Nat) (A : List Int × Int × List (List Sb)) (e : Ending) (w' : World) : Prop :=
  ∃ u S' R', e = .returned (.tuple #[u, .int .i64 A.2.1]) ∧ TabN w0 S' R' w' t A.2.2 ∧ (∀ w'', Upd (fun b => S' b ∨ b < w.heap.size) w' w'' → IntsAt w'' u A.1) ∧ Upd S w w' ∧ Fresh S w S' ∧ Fresh R w R'
theorem add_n2 {w0 : World} {S R : Nat → Prop} {w : World} {t : Nat} {v1 v2 : Value} {gs : List (List Sb)} {ids : List Int} {g : List Sb} (ht : TabN w0 S R w t gs) (h1 : ∀ w', Upd S w w' → IntsAt w' v1 ids) (hl : ids.length ≤ 100000) (h2 : GrpAt w v2 g) (hr : RawG g) (htab : Tab w0) :
    Calls Tryz.prog 35 #[.pointer (some ⟨t, 0, none⟩), v1, v2] w (AddN2 w0 S R w t (addG gs ids g)) := by
  refine (add_any2 S R w t v1 v2 gs ids g ht.tab ht.ok h1 hl h2 hr (htab.on ht.be)).mono ?_
  rintro e w' ⟨u, S', R', he, h3, h4, h5, h6, h7⟩
  have hs := ht.be.size
  exact ⟨u, S', R', he, ⟨h3, addG_ok ht.ok hl hr, fun k hk => (h6 k hk).elim (ht.base k) (fun h => by omega), ht.be.trans (h5.below ht.base hs)⟩, h4, h5, h6, h7⟩
def AddN (w0 : World) (S R : Nat → Prop) (w : World) (t : Nat) (A : List Int × Int × List (List Sb)) (e : Ending) (w' : World) : Prop :=
  ∃ u S' R', e = .returned (.tuple #[u, .int .i64 A.2.1]) ∧ TabN w0 S' R' w' t A.2.2 ∧ (∀ w'', Upd S' w' w'' → IntsAt w'' u A.1) ∧ Upd S w w' ∧ Fresh S w S' ∧ Fresh R w R'
theorem add_n {w0 : World} {S R : Nat → Prop} {w : World} {t : Nat} {v1 v2 : Value} {gs : List (List Sb)} {ids : List Int} {g : List Sb} (ht : TabN w0 S R w t gs) (h1 : ∀ w', Upd S w w' → IntsAt w' v1 ids) (hl : ids.length ≤ 100000) (h2 : GrpAt w v2 g) (hr : RawG g) (htab : Tab w0) :
    Calls Tryz.prog 35 #[.pointer (some ⟨t, 0, none⟩), v1, v2] w (AddN w0 S R w t (addG gs ids g)) := by
  refine (add_any S R w t v1 v2 gs ids g ht.tab ht.ok h1 hl h2 hr (htab.on ht.be)).mono ?_
  rintro e w' ⟨u, S', R', he, h3, h4, h5, h6, h7⟩
  have hs := ht.be.size
  exact ⟨u, S', R', he, ⟨h3, addG_ok ht.ok hl hr, fun k hk => (h6 k hk).elim (ht.base k) (fun h => by omega), ht.be.trans (h5.below ht.base hs)⟩, h4, h5, h6, h7⟩
def bx (n : Int) : Sb := ⟨false, [], 2, [], [], [⟨0, ⟨3, true, 13, n⟩, false⟩]⟩
theorem grp_of {W : World} {q : Nat} {css : List (List Value)} {g : List Sb} (h : W.heap[q]? = some (.cells css.flatten.toArray 44 (0, 0))) (hl : css.length = g.length) (h6 : ∀ c ∈ css, c.length = 6) (hs : ∀ (i : Nat) c x, css[i]? = some c → g[i]? = some x → SubAt W c x) (n c : Nat) (hn : n = g.length) (hc : n ≤ c) : GrpAt W (.slice (some ⟨q, 0, none⟩) n c) g := by
  subst hn
  have hfl : ∀ css : List (List Value), (∀ c ∈ css, c.length = 6) → css.flatten.length = css.length * 6 := by
    intro css
    induction css with
    | nil => intro _; rfl
    | cons c cs ih => intro h; rw [List.flatten_cons, List.length_append, ih (fun x hx => h x (by simp [hx])), h c (by simp), List.length_cons]; omega
  refine ⟨css, hl, h6, ⟨by rw [hfl css h6, hl], .inr ⟨_, c, rfl, hc, fun j u hj => ?_⟩⟩, hs⟩
  rw [Addr.add_lit, Nat.zero_add, heap_cell h]
  simpa using hj
theorem bx_raw1 (n : Int) (h : 0 ≤ n ∧ n ≤ 100) : RawG [bx n] :=
  ⟨by simp, fun x hx => by
    simp at hx; subst hx
    exact ⟨by simp [bx], by simp [bx], by simp [bx], fun f hf => by simp [bx] at hf; subst hf; unfold B64; dsimp only; omega, ⟨by simp [bx], by simp [bx], by simp [bx], by simp [bx]⟩⟩, fun x hx => by simp at hx; subst hx; simp [cnt, bx]⟩
theorem raw_app {g h : List Sb} (a : RawG g) (b : RawG h) (hl : (g ++ h).length ≤ 1000) : RawG (g ++ h) :=
  ⟨hl, fun x hx => (List.mem_append.1 hx).elim (a.fits x) (b.fits x), fun x hx => (List.mem_append.1 hx).elim (a.cnt x) (b.cnt x)⟩
def gsK1 : List (List Sb) := (addG [] [] [bx 0]).2.2
def gsK3 : List (List Sb) := (addG gsK1 [0, 0] [bx 2, bx 3]).2.2
theorem add1 : addG [] [] [bx 0] = ([0], 0, gsK1) := by decide +kernel
theorem add2 : addG gsK1 [0] [bx 1] = ([0, 0], 0, gsK1) := by decide +kernel
theorem add3 : addG gsK1 [0, 0] [bx 2, bx 3] = ([0, 0, 1, 2], 0, gsK3) := by decide +kernel
theorem add4 : addG gsK3 [] [bx 1] = ([], 2, gsK3) := by decide +kernel
theorem totK3 : total gsK3 = 3 := by decide +kernel
end Go.Proofs.YtkgmfbfpmlnfcaaGreatDoor

/- geodelaw09: known. -/
namespace Go.Proofs.YtkgmfbfpmlnfcaaGreatDoor
open Go.RowKit Go.Maps Go.WideMaps

theorem TabN.ids {w0 : World} {S R S' : Nat → Prop} {w w' : World} {t : Nat} {gs : List (List Sb)} {u : Value} {l : List Int} (_ : TabN w0 S R w t gs) (h : ∀ w'', Upd S w w'' → IntsAt w'' u l) (hu : Upd S w w') (hf : Fresh S w S') : ∀ w'', Upd S' w' w'' → IntsAt w'' u l := fun w'' k => h w'' (hu.trans hf k)
def bxC (_ : Int) (a4 : Option Addr) (c4 : Nat) : List Value := [.bool false, .slice none 0 0, .int .i64 2, .slice none 0 0, .slice none 0 0, .slice a4 1 c4]
theorem intsAt_new {W : World} {q : Nat} {l : List Int} (h : W.heap[q]? = some (.cells (l.map (Value.int .i64)).toArray 3 (0, 0))) (n : Nat) (hn : n = l.length) : IntsAt W (.slice (some ⟨q, 0, none⟩) n n) l := by
  subst hn
  refine ⟨by simp, .inr ⟨_, l.length, rfl, Nat.le_refl _, fun j u hj => ?_⟩⟩
  rw [Addr.add_lit, Nat.zero_add, heap_cell h]
  simpa using hj
end Go.Proofs.YtkgmfbfpmlnfcaaGreatDoor

/- package roll: Close; what Add keeps of numbers. -/
namespace Go.Proofs.YtkgmfbfpmlnfcaaGreatDoor
open Go.RowKit Go.Maps Go.WideMaps

def zeroVl : Vl := ⟨0, false, 0, 0⟩
def closeG (gs : List (List Sb)) (ids : List Int) (v : Vl) : Vl × Int :=
  if ¬ plainV v = true then (zeroVl, 2)
  else if v.h ≠ 13 then (v, 0)
  else if ¬ v.n < ids.length then (zeroVl, 2)
  else if ¬ inTab gs (ids.getD v.n.toNat 0) = true then (zeroVl, 2)
  else (⟨v.k, v.nl, 15, ids.getD v.n.toNat 0⟩, 0)
theorem plainV_13 {v : Vl} (hp : plainV v = true) (h : v.h = 13) : 0 ≤ v.n ∧ v.n ≤ 4294967295 := by
  unfold plainV at hp
  split at hp
  · have e : v = ⟨v.k, false, 0, 0⟩ := by simpa using hp
    rw [e] at h; simp at h
  · split at hp
    · simp [givenB, indexedB] at hp; omega
    · cases hp
variable {S R : Nat → Prop} {w : World} {t : Nat} {gs : List (List Sb)}
end Go.Proofs.YtkgmfbfpmlnfcaaGreatDoor

/- package roll: which numbers Add tells (no program in sight); lists of groups in memory. -/
namespace Go.Proofs.YtkgmfbfpmlnfcaaGreatDoor
open Go.RowKit Go.Maps Go.WideMaps

theorem firstOf_add {gs : List (List Sb)} {i : Nat} {g : List Sb} (h : gs[i]? = some g) : firstOf gs i + g.length ≤ total gs := by
  have h1 := firstOf_le gs (i + 1)
  have h2 : firstOf gs (i + 1) = firstOf gs i + g.length := by
    unfold firstOf
    rw [List.take_add_one, h]
    exact total_snoc _ _
  omega
theorem enterG_fit {gs : List (List Sb)} {g : List Sb} (he : (enterG gs g).2.1 = 0) : (enterG gs g).1 + g.length ≤ total (enterG gs g).2.2 ∧ total gs ≤ total (enterG gs g).2.2 := by
  revert he
  unfold enterG
  cases hf : findG gs g with
  | some i =>
    intro _
    obtain ⟨hlt, hx, _⟩ := List.findIdx?_eq_some_iff_getElem.1 hf
    have hgi : gs[i]? = some g := by rw [List.getElem?_eq_getElem hlt]; simpa using hx
    have := firstOf_add hgi
    dsimp only; omega
  | none =>
    dsimp only
    split
    · intro h; cases h
    · split
      · rename_i h; intro _; subst h; simp
      · intro _; dsimp only; rw [total_snoc]; omega
structure AddOk (gs : List (List Sb)) (ids : List Int) (g : List Sb) (A : List Int × Int × List (List Sb)) : Prop where
  inn : ∀ i ∈ A.1, inTab A.2.2 i = true
  len : A.1.length = ids.length + g.length
theorem inTab_mono {gs gs' : List (List Sb)} (h : total gs ≤ total gs') {i : Int} (hi : inTab gs i = true) : inTab gs' i = true := by
  simp [inTab] at hi ⊢; omega
theorem addG_fact (gs : List (List Sb)) (ids : List Int) (g : List Sb) : ((addG gs ids g).2.1 ≠ 0 ∧ (addG gs ids g).1 = [] ∧ (addG gs ids g).2.2 = gs) ∨ ((addG gs ids g).2.1 = 0 ∧ AddOk gs ids g (addG gs ids g)) := by
  unfold addG
  split
  · exact .inl ⟨by simp, rfl, rfl⟩
  · split
    · exact .inl ⟨by simp, rfl, rfl⟩
    · rename_i h2
      split
      · exact .inl ⟨by simp, rfl, rfl⟩
      · split
        · rename_i h4
          exact .inl ⟨h4, rfl, rfl⟩
        · rename_i h4
          have h4 : (enterG gs (rollG ids g).1).2.1 = 0 := by simpa using h4
          obtain ⟨f1, f2⟩ := enterG_fit h4
          rw [rollG_len] at f1
          have f0 := enterG_first (gs := gs) (g := (rollG ids g).1)
          refine .inr ⟨rfl, ⟨fun i hi => ?_, by simp⟩⟩
          simp only [List.mem_append, List.mem_map, List.mem_range] at hi
          rcases hi with hi | ⟨k, hk, rfl⟩
          · have h := h2
            simp only [Decidable.not_not, List.all_eq_true] at h
            exact inTab_mono f2 (h i hi)
          · simp [inTab]; omega
/-- A list of groups in memory. -/
structure GrpsAt (w : World) (v : Value) (l : List (List Sb)) : Prop where
  ex : ∃ vs : List Value, vs.length = l.length ∧ RowAt w 1 v l.length vs ∧ ∀ (i : Nat) x g, vs[i]? = some x → l[i]? = some g → GrpAt w x g
theorem GrpsAt.form {w : World} {v : Value} {l : List (List Sb)} (h : GrpsAt w v l) : ∃ ao cap, v = .slice ao l.length cap := by
  obtain ⟨_, _, h, _⟩ := h.ex; exact RowAt.form h
theorem GrpsAt.keep {w w' : World} {v : Value} {l : List (List Sb)} (h : GrpsAt w v l) (hk : ∀ p u, w.cell? p = some u → w'.cell? p = some u) : GrpsAt w' v l := by
  obtain ⟨vs, h1, h2, h3⟩ := h.ex
  exact ⟨vs, h1, h2.keep hk, fun i x g hx hg => (h3 i x g hx hg).keep hk⟩
theorem GrpsAt.below {w w' : World} {B : Nat} {v : Value} {l : List (List Sb)} (h : GrpsAt w v l) (hb : Below B w w') (hB : w.heap.size ≤ B) : GrpsAt w' v l :=
  h.keep fun p u hp => by rw [hb.cell (Nat.lt_of_lt_of_le (World.block_lt_of_cell? _ _ hp) hB)]; exact hp
theorem GrpsAt.at {w : World} {ao : Option Addr} {cap : Nat} {l : List (List Sb)} (h : GrpsAt w (.slice ao l.length cap) l) {i : Nat} {g : List Sb} (hi : l[i]? = some g) : ∃ b off a c, ao = some ⟨b, off, none⟩ ∧ w.cell? ⟨b, off + i, none⟩ = some (.slice a g.length c) ∧ GrpAt w (.slice a g.length c) g := by
  have hlt := (List.getElem?_eq_some_iff.1 hi).1
  obtain ⟨vs, h1, h2, h3⟩ := h.ex
  obtain ⟨b, off, rfl, _, _, hc⟩ := RowAt.at h2 (by decide) (by omega)
  obtain ⟨x, hx⟩ : ∃ x, vs[i]? = some x := ⟨vs[i]'(by omega), by simp⟩
  have hg := h3 i x g hx hi
  obtain ⟨a, c, rfl⟩ := hg.form
  exact ⟨b, off, a, c, rfl, by rw [hc i (by omega), hx], hg⟩
/-- Groups that came in. -/
def RawL (l : List (List Sb)) : Prop := ∀ g ∈ l, ∀ x ∈ g, Fits x ∧ cnt x ≤ 1000000
end Go.Proofs.YtkgmfbfpmlnfcaaGreatDoor

/- Declared types and value types that came in: what they hold, and that their numbers are of 64 bits. -/
namespace Go.Proofs.YtkgmfbfpmlnfcaaGreatDoor
open Go.Deep Go.ChangeShapes Go.WideShapes Go.ChangeAt Go.RowKit Go.Joins

theorem add_add (a : Addr) (i j : Nat) : (a.add i).add j = a.add (i + j) := by
  unfold Addr.add
  by_cases h0 : i = 0
  · subst h0; simp
  · by_cases h1 : j = 0
    · subst h1; simp
    · simp [h0, h1, Nat.add_assoc]
section
variable {H : Type} {enc : TypeId × Value → H} {w : World} {base : Nat} {sp : Nat → Bool} {held : Bool} {P : Program}
theorem trod3 {t : TypeId} {f0 f1 f2 : Field} {fuel : Nat} {cs : List Value} {x : DataW H × List MemPlace} (ht : P.underlying t = some (.struct #[f0, f1, f2])) (h : DataW.trod enc P w base sp held fuel t cs = some x) :
    ∃ y0 y1 y2 n, cs.length = P.cellsOf t ∧ DataW.trod enc P w base sp held n f0.type ((cs.drop f0.offset).take (P.cellsOf f0.type)) = some y0 ∧
      DataW.trod enc P w base sp held n f1.type ((cs.drop f1.offset).take (P.cellsOf f1.type)) = some y1 ∧ DataW.trod enc P w base sp held n f2.type ((cs.drop f2.offset).take (P.cellsOf f2.type)) = some y2 := by
  obtain ⟨xs, n, _, rfl, hl, hlen, hf⟩ := DataW.trod_struct ht h
  match xs, hlen with
  | [y0, y1, y2], _ => exact ⟨y0, y1, y2, n, hl, by simpa using hf 0 f0 rfl, by simpa using hf 1 f1 rfl, by simpa using hf 2 f2 rfl⟩
theorem trod4 {t : TypeId} {f0 f1 f2 f3 : Field} {fuel : Nat} {cs : List Value} {x : DataW H × List MemPlace} (ht : P.underlying t = some (.struct #[f0, f1, f2, f3])) (h : DataW.trod enc P w base sp held fuel t cs = some x) :
    ∃ y0 y1 y2 y3 n, cs.length = P.cellsOf t ∧ DataW.trod enc P w base sp held n f0.type ((cs.drop f0.offset).take (P.cellsOf f0.type)) = some y0 ∧
      DataW.trod enc P w base sp held n f1.type ((cs.drop f1.offset).take (P.cellsOf f1.type)) = some y1 ∧ DataW.trod enc P w base sp held n f2.type ((cs.drop f2.offset).take (P.cellsOf f2.type)) = some y2 ∧ DataW.trod enc P w base sp held n f3.type ((cs.drop f3.offset).take (P.cellsOf f3.type)) = some y3 := by
  obtain ⟨xs, n, _, rfl, hl, hlen, hf⟩ := DataW.trod_struct ht h
  match xs, hlen with
  | [y0, y1, y2, y3], _ => exact ⟨y0, y1, y2, y3, n, hl, by simpa using hf 0 f0 rfl, by simpa using hf 1 f1 rfl, by simpa using hf 2 f2 rfl, by simpa using hf 3 f3 rfl⟩
/-- A slice of things of c cells each that came in. -/
theorem open_rows {α : Type} [Inhabited α] {f : α → List Value} {Q : α → Prop} {c : Nat} {e t : TypeId} {fuel : Nat} {cs : List Value} {x : DataW H × List MemPlace} (ht : P.underlying t = some (.slice e)) (hc : P.cellsOf e = c) (hc0 : 0 < c) (hf : ∀ a, (f a).length = c)
    (hel : ∀ n cs x, DataW.trod enc P w base sp held n e cs = some x → ∃ a, cs = f a ∧ Q a) (h : DataW.trod enc P w base sp held fuel t cs = some x) :
    ∃ (v : Value) (l : List α), cs = [v] ∧ RowAt w c v l.length (l.flatMap f) ∧ l.length ≤ maxLen ∧ ∀ a ∈ l, Q a := by
  rcases open_slice ht h with ⟨rfl, _⟩ | ⟨a, len, cap, m, n, D, Pl, rfl, hb, hl, hm, hmm, rfl, hx⟩
  · exact ⟨_, [], rfl, RowAt.nil w c, Nat.zero_le _, by simp⟩
  rw [hc] at hx
  have hlm : len ≤ m := by rw [hmm]; split <;> omega
  obtain ⟨V, hV⟩ := choose_lt (α := α) (p := fun i v => w.cells? base (a.add (i * c)) c = some (f v) ∧ Q v) (n := len) (fun i hi => by
    obtain ⟨cs', h1, h2⟩ := hx i (by omega)
    obtain ⟨v, rfl, hq⟩ := hel _ _ _ h2
    exact ⟨v, h1, hq⟩)
  refine ⟨_, (List.range len).map V, rfl, ⟨flat_len hf _, .inr ⟨a, cap, by simp, by simpa using hl, fun j u hu => ?_⟩⟩, by simp; omega, fun v hv => ?_⟩
  · have hj : j < len * c := by
      have := (List.getElem?_eq_some_iff.1 hu).1
      rw [flat_len hf] at this; simpa using this
    have hjc : j / c < len := Nat.div_lt_of_lt_mul (by rw [Nat.mul_comm]; exact hj)
    have hjm : j % c < c := Nat.mod_lt _ hc0
    obtain ⟨_, _, hcell⟩ := World.cells?_some (hV (j / c) hjc).1
    have h1 := hcell (j % c) hjm
    have hd : j / c * c + j % c = j := by rw [Nat.mul_comm]; exact Nat.div_add_mod j c
    rw [add_add, hd] at h1
    rw [h1, ← hu, ← hd, flat_at hf _ (j / c) (j % c) (V (j / c)) (by simp [hjc]) hjm, hd]
  · obtain ⟨i, hi, rfl⟩ := List.mem_map.1 hv
    exact (hV i (by simpa using hi)).2
end
section
variable {H : Type} {enc : TypeId × Value → H} {w : World} {base : Nat} {sp : Nat → Bool} {held : Bool}
instance : Inhabited Hp := ⟨⟨0, 0⟩⟩
instance : Inhabited Vl := ⟨⟨0, false, 0, 0⟩⟩
instance : Inhabited Fl := ⟨⟨0, default, false⟩⟩
set_option maxRecDepth 100000 in
theorem trod_heap {fuel : Nat} {cs : List Value} {x : DataW H × List MemPlace} (h : DataW.trod enc Tryz.prog w base sp held fuel 49 cs = some x) : ∃ a : Hp, cs = cellsH a ∧ B64 a.n := by
  obtain ⟨y0, y1, n, _, hl, h0, h1⟩ := trod_struct2 Tryz.underlying49 h
  have hc : Tryz.prog.cellsOf 49 = 2 := by kernel_rfl
  rw [hc] at hl
  match cs, hl with
  | [c0, c1], _ =>
    have e0 : Tryz.prog.cellsOf 47 = 1 := by kernel_rfl
    have e1 : Tryz.prog.cellsOf 3 = 1 := by kernel_rfl
    simp [e0] at h0
    simp [e1] at h1
    obtain ⟨a, ha, _⟩ := DataW.trod_int Tryz.underlying47 h0
    obtain ⟨b, hb, _, wb⟩ := DataW.trod_int Tryz.underlying3 h1
    simp at ha hb
    exact ⟨⟨a, b⟩, by rw [ha, hb]; rfl, bounds_i64 wb⟩
set_option maxRecDepth 100000 in
theorem trod_val {fuel : Nat} {cs : List Value} {x : DataW H × List MemPlace} (h : DataW.trod enc Tryz.prog w base sp held fuel 89 cs = some x) : ∃ v : Vl, cs = cellsV v ∧ B64 v.n := by
  obtain ⟨y0, y1, y2, n, hl, h0, h1, h2⟩ := trod3 Tryz.underlying89 h
  have hc : Tryz.prog.cellsOf 89 = 4 := by kernel_rfl
  rw [hc] at hl
  match cs, hl with
  | [c0, c1, c2, c3], _ =>
    have e0 : Tryz.prog.cellsOf 87 = 1 := by kernel_rfl
    have e1 : Tryz.prog.cellsOf 4 = 1 := by kernel_rfl
    have e2 : Tryz.prog.cellsOf 49 = 2 := by kernel_rfl
    simp [e0] at h0
    simp [e1] at h1
    simp [e2] at h2
    obtain ⟨a, ha, _⟩ := DataW.trod_int Tryz.underlying87 h0
    obtain ⟨b, hb, _⟩ := DataW.trod_bool Tryz.underlying4 h1
    obtain ⟨⟨c, d⟩, hcd, hB⟩ := trod_heap h2
    simp [cellsH] at ha hb hcd
    exact ⟨⟨a, b, c, d⟩, by rw [ha, hb, hcd.1, hcd.2]; rfl, hB⟩
set_option maxRecDepth 100000 in
theorem trod_store {fuel : Nat} {cs : List Value} {x : DataW H × List MemPlace} (h : DataW.trod enc Tryz.prog w base sp held fuel 91 cs = some x) : ∃ (p : Int) (v : Vl), cs = .int .i64 p :: cellsV v ∧ B64 v.n ∧ B64 p := by
  obtain ⟨y0, y1, n, _, hl, h0, h1⟩ := trod_struct2 Tryz.underlying91 h
  have hc : Tryz.prog.cellsOf 91 = 5 := by kernel_rfl
  rw [hc] at hl
  match cs, hl with
  | [c0, c1, c2, c3, c4], _ =>
    have e0 : Tryz.prog.cellsOf 3 = 1 := by kernel_rfl
    have e1 : Tryz.prog.cellsOf 89 = 4 := by kernel_rfl
    simp [e0] at h0
    simp [e1] at h1
    obtain ⟨p, hp, _, wp⟩ := DataW.trod_int Tryz.underlying3 h0
    obtain ⟨v, hv, hB⟩ := trod_val h1
    simp at hp
    exact ⟨p, v, by rw [hp, ← hv], hB, bounds_i64 wp⟩
set_option maxRecDepth 100000 in
theorem trod_field {fuel : Nat} {cs : List Value} {x : DataW H × List MemPlace} (h : DataW.trod enc Tryz.prog w base sp held fuel 93 cs = some x) : ∃ f : Fl, cs = cellsF f ∧ B64 f.v.n ∧ B64 f.p := by
  obtain ⟨y0, y1, n, _, hl, h0, h1⟩ := trod_struct2 Tryz.underlying93 h
  have hc : Tryz.prog.cellsOf 93 = 6 := by kernel_rfl
  rw [hc] at hl
  match cs, hl with
  | [c0, c1, c2, c3, c4, c5], _ =>
    have e0 : Tryz.prog.cellsOf 4 = 1 := by kernel_rfl
    have e1 : Tryz.prog.cellsOf 91 = 5 := by kernel_rfl
    simp [e0, e1] at h0 h1
    obtain ⟨p, v, hv, hB, hp⟩ := trod_store h0
    obtain ⟨m, hm, _⟩ := DataW.trod_bool Tryz.underlying4 h1
    simp [cellsV] at hv hm
    obtain ⟨rfl, rfl, rfl, rfl, rfl⟩ := hv
    exact ⟨⟨p, v, m⟩, by rw [hm]; rfl, hB, hp⟩
set_option maxRecDepth 100000 in
theorem trod_comp {fuel : Nat} {cs : List Value} {x : DataW H × List MemPlace} (h : DataW.trod enc Tryz.prog w base sp held fuel 42 cs = some x) : ∃ (k : Int) (vp vr vf : Value) (ps rs : List Vl) (fs : List Fl), cs = [.int .i64 k, vp, vr, vf] ∧ ValsAt w vp ps ∧ ValsAt w vr rs ∧ FlsAt w vf fs ∧ (∀ v ∈ ps, B64 v.n) ∧ (∀ v ∈ rs, B64 v.n) ∧ ∀ f ∈ fs, B64 f.v.n ∧ B64 f.p := by
  obtain ⟨y0, y1, y2, y3, n, hl, h0, h1, h2, h3⟩ := trod4 Tryz.underlying42 h
  have hc : Tryz.prog.cellsOf 42 = 4 := by kernel_rfl
  rw [hc] at hl
  match cs, hl with
  | [c0, c1, c2, c3], _ =>
    have e0 : Tryz.prog.cellsOf 38 = 1 := by kernel_rfl
    have e1 : Tryz.prog.cellsOf 39 = 1 := by kernel_rfl
    have e2 : Tryz.prog.cellsOf 40 = 1 := by kernel_rfl
    simp [e0] at h0
    simp [e1] at h1 h2
    simp [e2] at h3
    obtain ⟨k, hk, _⟩ := DataW.trod_int Tryz.underlying38 h0
    obtain ⟨vp, ps, hp, rp, _, bp⟩ := open_rows (f := cellsV) (Q := fun v => B64 v.n) (c := 4) Tryz.underlying39 (by kernel_rfl) (by decide) (fun _ => rfl) (fun _ _ _ h => trod_val h) h1
    obtain ⟨vr, rs, hr, rr, _, br⟩ := open_rows (f := cellsV) (Q := fun v => B64 v.n) (c := 4) Tryz.underlying39 (by kernel_rfl) (by decide) (fun _ => rfl) (fun _ _ _ h => trod_val h) h2
    obtain ⟨vf, fs, hf, rf, _, bf⟩ := open_rows (f := cellsF) (Q := fun f => B64 f.v.n ∧ B64 f.p) (c := 6) Tryz.underlying40 (by kernel_rfl) (by decide) (fun _ => rfl) (fun _ _ _ h => trod_field h) h3
    simp at hk hp hr hf
    exact ⟨k, vp, vr, vf, ps, rs, fs, by rw [hk, hp, hr, hf], rp, rr, rf, bp, br, bf⟩
set_option maxRecDepth 100000 in
theorem trod_sub {fuel : Nat} {cs : List Value} {x : DataW H × List MemPlace} (h : DataW.trod enc Tryz.prog w base sp held fuel 44 cs = some x) : ∃ s : Sb, SubAt w cs s ∧ (Small s → Fits s) := by
  obtain ⟨y0, y1, y2, n, hl, h0, h1, h2⟩ := trod3 Tryz.underlying44 h
  have hc : Tryz.prog.cellsOf 44 = 6 := by kernel_rfl
  rw [hc] at hl
  match cs, hl with
  | [c0, c1, c2, c3, c4, c5], _ =>
    have e0 : Tryz.prog.cellsOf 4 = 1 := by kernel_rfl
    have e1 : Tryz.prog.cellsOf 37 = 1 := by kernel_rfl
    have e2 : Tryz.prog.cellsOf 42 = 4 := by kernel_rfl
    simp [e0] at h0
    simp [e1] at h1
    simp [e2] at h2
    obtain ⟨b, hb, _⟩ := DataW.trod_bool Tryz.underlying4 h0
    obtain ⟨vs, ss, hs, rs, _, bs⟩ := open_rows (f := cellsH) (Q := fun a => B64 a.n) (c := 2) Tryz.underlying37 (by kernel_rfl) (by decide) (fun _ => rfl) (fun _ _ _ h => trod_heap h) h1
    obtain ⟨k, vp, vr, vf, lp, lr, lf, hcc, rp, rr, rf, bp, br, bf⟩ := trod_comp h2
    simp at hb hs hcc
    obtain ⟨rfl, rfl, rfl, rfl⟩ := hcc
    subst hb hs
    exact ⟨⟨b, ss, k, lp, lr, lf⟩, ⟨⟨_, _, _, _, rfl, rs, rp, rr, rf⟩⟩, fun hm => ⟨bs, bp, br, bf, hm⟩⟩
end
set_option maxRecDepth 100000 in
theorem open_sub {H : Type} {enc : TypeId × Value → H} {W : World} {r : Reach} {b0 base : Nat} {sp : Nat → Bool} {held : Bool} {v : Value} {d : DataW H} {ps : List MemPlace} (hval : Value.okWide Tryz.prog W r b0 44 v) (h : DataW.Trod enc Tryz.prog W base sp held 44 v d ps) :
    ∃ (cs : List Value) (s : Sb), v = .agg cs.toArray ∧ SubAt W cs s ∧ (Small s → Fits s) := by
  obtain ⟨cs, rfl, hs⟩ := okWide_struct Tryz.underlying44 hval
  obtain ⟨fu, hm⟩ := h
  obtain ⟨l⟩ := cs
  obtain ⟨s, h1, h2⟩ := trod_sub hm
  exact ⟨l, s, rfl, by simpa [Value.cells] using h1, h2⟩
set_option maxRecDepth 100000 in
theorem open_valv {H : Type} {enc : TypeId × Value → H} {W : World} {r : Reach} {b0 base : Nat} {sp : Nat → Bool} {held : Bool} {v : Value} {d : DataW H} {ps : List MemPlace} (hval : Value.okWide Tryz.prog W r b0 89 v) (h : DataW.Trod enc Tryz.prog W base sp held 89 v d ps) :
    ∃ x : Vl, v = .agg (cellsV x).toArray ∧ B64 x.n := by
  obtain ⟨cs, rfl, hs⟩ := okWide_struct Tryz.underlying89 hval
  obtain ⟨fu, hm⟩ := h
  obtain ⟨l⟩ := cs
  obtain ⟨x, h1, h2⟩ := trod_val hm
  exact ⟨x, by rw [← h1]; simp [Value.cells], h2⟩
end Go.Proofs.YtkgmfbfpmlnfcaaGreatDoor
