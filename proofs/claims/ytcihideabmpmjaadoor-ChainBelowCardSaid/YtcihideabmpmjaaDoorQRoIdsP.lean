/- package kind: which types are the same. -/
import Derived.Test.YtcihideabmpmjaaDoorQKdSubP
import Derived.Test.YtcihideabmpmjaaDoorQRoAdd
namespace Go.Proofs.YtcihideabmpmjaaDoor
open Go.RowKit

theorem drewN_drewN (w : World) (a b : Nat) : (w.drewN a).drewN b = w.drewN (a + b) := by
  simp [World.drewN, Nat.add_assoc]
theorem RowAt.drewN {w : World} {c n : Nat} {v : Value} {xs : List Value} (h : RowAt w c v n xs) (k : Nat) : RowAt (w.drewN k) c v n xs := h.keep fun _ _ h => h
theorem retd {p : Prop} [Decidable p] {b : Bool} (h : decide p = b) : Ending.returned (.bool b) = .returned (.bool (decide p)) := by rw [h]
theorem get_ne {α : Type} {l m : List α} {i : Nat} {x y : α} (hx : l[i]? = some x) (hy : m[i]? = some y) (h : x ≠ y) : l ≠ m := fun e => h (by rw [e] at hx; rw [hx] at hy; exact Option.some.inj hy)
theorem take_eq {α : Type} {l m : List α} {i : Nat} {x : α} (hx : l[i]? = some x) (hy : m[i]? = some x) (h : l.take i = m.take i) : l.take (i + 1) = m.take (i + 1) := by
  rw [List.take_add_one, List.take_add_one, h, hx, hy]
end Go.Proofs.YtcihideabmpmjaaDoor

/- geodelaw09: box, ints, known. -/
namespace Go.Proofs.YtcihideabmpmjaaDoor
open Go.RowKit Go.Maps Go.WideMaps

theorem addG_ok {gs : List (List Sb)} {ids : List Int} {g : List Sb} (hok : TabOk gs) (hl : ids.length ≤ 100000) (hr : RawG g) : TabOk (addG gs ids g).2.2 := by
  unfold addG
  split
  · exact hok
  · rename_i h1
    split
    · exact hok
    · rename_i h2
      split
      · exact hok
      · split
        · exact hok
        · refine enterG_ok hok (rollG_good (fun i hi => ?_) (by omega) hr (fun x hx => ?_))
          · have h := h2
            simp only [Decidable.not_not, List.all_eq_true] at h
            have := h i hi
            have ht := hok.total
            simp [inTab] at this; omega
          · have h := h1
            simp only [Decidable.not_not, List.all_eq_true] at h
            exact h x hx
/-- A table that was made since w0. -/
structure TabN (w0 : World) (S R : Nat → Prop) (w : World) (t : Nat) (gs : List (List Sb)) : Prop where
  tab : TabAt S R w t gs
  ok : TabOk gs
  base : ∀ k, S k → w0.heap.size ≤ k
  be : Below w0.heap.size w0 w
theorem TabN.below {w0 w w' : World} {S R : Nat → Prop} {t : Nat} {gs : List (List Sb)} (h : TabN w0 S R w t gs) (hb : Below w.heap.size w w') : TabN w0 S R w' t gs :=
  ⟨h.tab.below hb, h.ok, h.base, h.be.trans (hb.mono h.be.size)⟩
def AddN2 (w0 : World) (S R : Nat → Prop) (w : World) (t : Nat) (A : List Int × Int × List (List Sb)) (e : Ending) (w' : World) : Prop :=
  ∃ u S' R', e = .returned (.tuple #[u, .int .i64 A.2.1]) ∧ TabN w0 S' R' w' t A.2.2 ∧ (∀ w'', Upd (fun b => S' b ∨ b < w.heap.size) w' w'' → IntsAt w'' u A.1) ∧ Upd S w w' ∧ Fresh S w S' ∧ Fresh R w R'
theorem add_n2 {w0 : World} {S R : Nat → Prop} {w : World} {t : Nat} {v1 v2 : Value} {gs : List (List Sb)} {ids : List Int} {g : List Sb} (ht : TabN w0 S R w t gs) (h1 : ∀ w', Upd S w w' → IntsAt w' v1 ids) (hl : ids.length ≤ 100000) (h2 : GrpAt w v2 g) (hr : RawG g) (htab : Tab w0) :
    Calls Tryd.prog 9 #[.pointer (some ⟨t, 0, none⟩), v1, v2] w (AddN2 w0 S R w t (addG gs ids g)) := by
  refine (add_any2 S R w t v1 v2 gs ids g ht.tab ht.ok h1 hl h2 hr (htab.on ht.be)).mono ?_
  rintro e w' ⟨u, S', R', he, h3, h4, h5, h6, h7⟩
  have hs := ht.be.size
  exact ⟨u, S', R', he, ⟨h3, addG_ok ht.ok hl hr, fun k hk => (h6 k hk).elim (ht.base k) (fun h => by omega), ht.be.trans (h5.below ht.base hs)⟩, h4, h5, h6, h7⟩
def AddN (w0 : World) (S R : Nat → Prop) (w : World) (t : Nat) (A : List Int × Int × List (List Sb)) (e : Ending) (w' : World) : Prop :=
  ∃ u S' R', e = .returned (.tuple #[u, .int .i64 A.2.1]) ∧ TabN w0 S' R' w' t A.2.2 ∧ (∀ w'', Upd S' w' w'' → IntsAt w'' u A.1) ∧ Upd S w w' ∧ Fresh S w S' ∧ Fresh R w R'
theorem add_n {w0 : World} {S R : Nat → Prop} {w : World} {t : Nat} {v1 v2 : Value} {gs : List (List Sb)} {ids : List Int} {g : List Sb} (ht : TabN w0 S R w t gs) (h1 : ∀ w', Upd S w w' → IntsAt w' v1 ids) (hl : ids.length ≤ 100000) (h2 : GrpAt w v2 g) (hr : RawG g) (htab : Tab w0) :
    Calls Tryd.prog 9 #[.pointer (some ⟨t, 0, none⟩), v1, v2] w (AddN w0 S R w t (addG gs ids g)) := by
  refine (add_any S R w t v1 v2 gs ids g ht.tab ht.ok h1 hl h2 hr (htab.on ht.be)).mono ?_
  rintro e w' ⟨u, S', R', he, h3, h4, h5, h6, h7⟩
  have hs := ht.be.size
  exact ⟨u, S', R', he, ⟨h3, addG_ok ht.ok hl hr, fun k hk => (h6 k hk).elim (ht.base k) (fun h => by omega), ht.be.trans (h5.below ht.base hs)⟩, h4, h5, h6, h7⟩
def bx (n : Int) : Sb := ⟨false, [], 2, [], [], [⟨0, ⟨3, true, 13, n⟩, false⟩]⟩
theorem grp_of {W : World} {q : Nat} {css : List (List Value)} {g : List Sb} (h : W.heap[q]? = some (.cells css.flatten.toArray 41 (0, 0))) (hl : css.length = g.length) (h6 : ∀ c ∈ css, c.length = 6) (hs : ∀ (i : Nat) c x, css[i]? = some c → g[i]? = some x → SubAt W c x) (n c : Nat) (hn : n = g.length) (hc : n ≤ c) : GrpAt W (.slice (some ⟨q, 0, none⟩) n c) g := by
  subst hn
  have hfl : ∀ css : List (List Value), (∀ c ∈ css, c.length = 6) → css.flatten.length = css.length * 6 := by
    intro css
    induction css with
    | nil => intro _; rfl
    | cons c cs ih => intro h; rw [List.flatten_cons, List.length_append, ih (fun x hx => h x (by simp [hx])), h c (by simp), List.length_cons]; omega
  refine ⟨css, hl, h6, ⟨by rw [hfl css h6, hl], .inr ⟨_, c, rfl, hc, fun j u hj => ?_⟩⟩, hs⟩
  rw [Addr.add_lit, Nat.zero_add, heap_cell h]
  simpa using hj
theorem bx_raw1 (n : Int) (h : 0 ≤ n ∧ n ≤ 100) : RawG [bx n] :=
  ⟨by simp, fun x hx => by
    simp at hx; subst hx
    exact ⟨by simp [bx], by simp [bx], by simp [bx], fun f hf => by simp [bx] at hf; subst hf; unfold B64; dsimp only; omega, ⟨by simp [bx], by simp [bx], by simp [bx], by simp [bx]⟩⟩, fun x hx => by simp at hx; subst hx; simp [cnt, bx]⟩
theorem raw_app {g h : List Sb} (a : RawG g) (b : RawG h) (hl : (g ++ h).length ≤ 1000) : RawG (g ++ h) :=
  ⟨hl, fun x hx => (List.mem_append.1 hx).elim (a.fits x) (b.fits x), fun x hx => (List.mem_append.1 hx).elim (a.cnt x) (b.cnt x)⟩
def gsK1 : List (List Sb) := (addG [] [] [bx 0]).2.2
def gsK3 : List (List Sb) := (addG gsK1 [0, 0] [bx 2, bx 3]).2.2
theorem add1 : addG [] [] [bx 0] = ([0], 0, gsK1) := by decide +kernel
theorem add2 : addG gsK1 [0] [bx 1] = ([0, 0], 0, gsK1) := by decide +kernel
theorem add3 : addG gsK1 [0, 0] [bx 2, bx 3] = ([0, 0, 1, 2], 0, gsK3) := by decide +kernel
theorem add4 : addG gsK3 [] [bx 1] = ([], 2, gsK3) := by decide +kernel
theorem totK3 : total gsK3 = 3 := by decide +kernel
end Go.Proofs.YtcihideabmpmjaaDoor

/- geodelaw09: known. -/
namespace Go.Proofs.YtcihideabmpmjaaDoor
open Go.RowKit Go.Maps Go.WideMaps

theorem TabN.ids {w0 : World} {S R S' : Nat → Prop} {w w' : World} {t : Nat} {gs : List (List Sb)} {u : Value} {l : List Int} (_ : TabN w0 S R w t gs) (h : ∀ w'', Upd S w w'' → IntsAt w'' u l) (hu : Upd S w w') (hf : Fresh S w S') : ∀ w'', Upd S' w' w'' → IntsAt w'' u l := fun w'' k => h w'' (hu.trans hf k)
def bxC (n : Int) (a4 : Option Addr) (c4 : Nat) : List Value := [.bool false, .slice none 0 0, .int .i64 2, .slice none 0 0, .slice none 0 0, .slice a4 1 c4]
theorem intsAt_new {W : World} {q : Nat} {l : List Int} (h : W.heap[q]? = some (.cells (l.map (Value.int .i64)).toArray 3 (0, 0))) (n : Nat) (hn : n = l.length) : IntsAt W (.slice (some ⟨q, 0, none⟩) n n) l := by
  subst hn
  refine ⟨by simp, .inr ⟨_, l.length, rfl, Nat.le_refl _, fun j u hj => ?_⟩⟩
  rw [Addr.add_lit, Nat.zero_add, heap_cell h]
  simpa using hj
end Go.Proofs.YtcihideabmpmjaaDoor

/- package roll: Close; what Add keeps of numbers. -/
namespace Go.Proofs.YtcihideabmpmjaaDoor
open Go.RowKit Go.Maps Go.WideMaps

def zeroVl : Vl := ⟨0, false, 0, 0⟩
def closeG (gs : List (List Sb)) (ids : List Int) (v : Vl) : Vl × Int :=
  if ¬ plainV v = true then (zeroVl, 2)
  else if v.h ≠ 13 then (v, 0)
  else if ¬ v.n < ids.length then (zeroVl, 2)
  else if ¬ inTab gs (ids.getD v.n.toNat 0) = true then (zeroVl, 2)
  else (⟨v.k, v.nl, 15, ids.getD v.n.toNat 0⟩, 0)
theorem plainV_13 {v : Vl} (hp : plainV v = true) (h : v.h = 13) : 0 ≤ v.n ∧ v.n ≤ 4294967295 := by
  unfold plainV at hp
  split at hp
  · have e : v = ⟨v.k, false, 0, 0⟩ := by simpa using hp
    rw [e] at h; simp at h
  · split at hp
    · simp [givenB, indexedB] at hp; omega
    · cases hp
variable {S R : Nat → Prop} {w : World} {t : Nat} {gs : List (List Sb)}
end Go.Proofs.YtcihideabmpmjaaDoor

/- package roll: which numbers Add tells (no program in sight); lists of groups in memory. -/
namespace Go.Proofs.YtcihideabmpmjaaDoor
open Go.RowKit Go.Maps Go.WideMaps

theorem firstOf_add {gs : List (List Sb)} {i : Nat} {g : List Sb} (h : gs[i]? = some g) : firstOf gs i + g.length ≤ total gs := by
  have h1 := firstOf_le gs (i + 1)
  have h2 : firstOf gs (i + 1) = firstOf gs i + g.length := by
    unfold firstOf
    rw [List.take_add_one, h]
    exact total_snoc _ _
  omega
theorem enterG_fit {gs : List (List Sb)} {g : List Sb} (he : (enterG gs g).2.1 = 0) : (enterG gs g).1 + g.length ≤ total (enterG gs g).2.2 ∧ total gs ≤ total (enterG gs g).2.2 := by
  revert he
  unfold enterG
  cases hf : findG gs g with
  | some i =>
    intro _
    obtain ⟨hlt, hx, _⟩ := List.findIdx?_eq_some_iff_getElem.1 hf
    have hgi : gs[i]? = some g := by rw [List.getElem?_eq_getElem hlt]; simpa using hx
    have := firstOf_add hgi
    dsimp only; omega
  | none =>
    dsimp only
    split
    · intro h; cases h
    · split
      · rename_i h; intro _; subst h; simp
      · intro _; dsimp only; rw [total_snoc]; omega
structure AddOk (gs : List (List Sb)) (ids : List Int) (g : List Sb) (A : List Int × Int × List (List Sb)) : Prop where
  inn : ∀ i ∈ A.1, inTab A.2.2 i = true
  len : A.1.length = ids.length + g.length
theorem inTab_mono {gs gs' : List (List Sb)} (h : total gs ≤ total gs') {i : Int} (hi : inTab gs i = true) : inTab gs' i = true := by
  simp [inTab] at hi ⊢; omega
theorem addG_fact (gs : List (List Sb)) (ids : List Int) (g : List Sb) : ((addG gs ids g).2.1 ≠ 0 ∧ (addG gs ids g).1 = [] ∧ (addG gs ids g).2.2 = gs) ∨ ((addG gs ids g).2.1 = 0 ∧ AddOk gs ids g (addG gs ids g)) := by
  unfold addG
  split
  · exact .inl ⟨by simp, rfl, rfl⟩
  · split
    · exact .inl ⟨by simp, rfl, rfl⟩
    · rename_i h2
      split
      · exact .inl ⟨by simp, rfl, rfl⟩
      · split
        · rename_i h4
          exact .inl ⟨h4, rfl, rfl⟩
        · rename_i h4
          have h4 : (enterG gs (rollG ids g).1).2.1 = 0 := by simpa using h4
          obtain ⟨f1, f2⟩ := enterG_fit h4
          rw [rollG_len] at f1
          have f0 := enterG_first (gs := gs) (g := (rollG ids g).1)
          refine .inr ⟨rfl, ⟨fun i hi => ?_, by simp⟩⟩
          simp only [List.mem_append, List.mem_map, List.mem_range] at hi
          rcases hi with hi | ⟨k, hk, rfl⟩
          · have h := h2
            simp only [Decidable.not_not, List.all_eq_true] at h
            exact inTab_mono f2 (h i hi)
          · simp [inTab]; omega
/-- A list of groups in memory. -/
structure GrpsAt (w : World) (v : Value) (l : List (List Sb)) : Prop where
  ex : ∃ vs : List Value, vs.length = l.length ∧ RowAt w 1 v l.length vs ∧ ∀ (i : Nat) x g, vs[i]? = some x → l[i]? = some g → GrpAt w x g
theorem GrpsAt.form {w : World} {v : Value} {l : List (List Sb)} (h : GrpsAt w v l) : ∃ ao cap, v = .slice ao l.length cap := by
  obtain ⟨_, _, h, _⟩ := h.ex; exact RowAt.form h
theorem GrpsAt.keep {w w' : World} {v : Value} {l : List (List Sb)} (h : GrpsAt w v l) (hk : ∀ p u, w.cell? p = some u → w'.cell? p = some u) : GrpsAt w' v l := by
  obtain ⟨vs, h1, h2, h3⟩ := h.ex
  exact ⟨vs, h1, h2.keep hk, fun i x g hx hg => (h3 i x g hx hg).keep hk⟩
theorem GrpsAt.below {w w' : World} {B : Nat} {v : Value} {l : List (List Sb)} (h : GrpsAt w v l) (hb : Below B w w') (hB : w.heap.size ≤ B) : GrpsAt w' v l :=
  h.keep fun p u hp => by rw [hb.cell (Nat.lt_of_lt_of_le (World.block_lt_of_cell? _ _ hp) hB)]; exact hp
theorem GrpsAt.at {w : World} {ao : Option Addr} {cap : Nat} {l : List (List Sb)} (h : GrpsAt w (.slice ao l.length cap) l) {i : Nat} {g : List Sb} (hi : l[i]? = some g) : ∃ b off a c, ao = some ⟨b, off, none⟩ ∧ w.cell? ⟨b, off + i, none⟩ = some (.slice a g.length c) ∧ GrpAt w (.slice a g.length c) g := by
  have hlt := (List.getElem?_eq_some_iff.1 hi).1
  obtain ⟨vs, h1, h2, h3⟩ := h.ex
  obtain ⟨b, off, rfl, _, _, hc⟩ := RowAt.at h2 (by decide) (by omega)
  obtain ⟨x, hx⟩ : ∃ x, vs[i]? = some x := ⟨vs[i]'(by omega), by simp⟩
  have hg := h3 i x g hx hi
  obtain ⟨a, c, rfl⟩ := hg.form
  exact ⟨b, off, a, c, rfl, by rw [hc i (by omega), hx], hg⟩
/-- Groups that came in. -/
def RawL (l : List (List Sb)) : Prop := ∀ g ∈ l, ∀ x ∈ g, Fits x ∧ cnt x ≤ 1000000
end Go.Proofs.YtcihideabmpmjaaDoor
