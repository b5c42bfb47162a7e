/- package kind: how lists of types lie in memory. -/
import Derived.Test.YtmjehnjodaicfaaDoorQKdText
import Derived.Test.YtmjehnjodaicfaaDoorQAppend2P
import Derived.Test.YtmjehnjodaicfaaDoorQFnP
import Derived.Test.YtmjehnjodaicfaaDoorQCalm
import Derived.WalkLawsBesides
import Derived.WalkSpells
import Derived.RegionTactic
import Derived.Deep.QuietTactic
import Derived.BigQuiet
import Derived.Outline
import Derived.Lib.Hide
import Derived.Handy
namespace Go.Proofs.YtmjehnjodaicfaaDoor
open Go.RowKit

theorem retb {a b : Bool} (h : a = b) : Ending.returned (.bool a) = .returned (.bool b) := by rw [h]
/-- A slice of n elements of c cells each reads as these cells. -/
def RowAt (w : World) (c : Nat) (v : Value) (n : Nat) (xs : List Value) : Prop :=
  xs.length = n * c ∧ ((v = .slice none 0 0 ∧ n = 0) ∨ ∃ (a : Addr) (cap : Nat), v = .slice (some a) n cap ∧ n ≤ cap ∧ ∀ j u, xs[j]? = some u → w.cell? (a.add j) = some u)
variable {w w' : World} {c n : Nat} {v : Value} {xs : List Value}
theorem RowAt.nil (w : World) (c : Nat) : RowAt w c (.slice none 0 0) 0 [] := ⟨by simp, .inl ⟨rfl, rfl⟩⟩
theorem RowAt.form (h : RowAt w c v n xs) : ∃ ao cap, v = .slice ao n cap := by
  obtain ⟨_, ⟨rfl, rfl⟩ | ⟨a, cap, rfl, _⟩⟩ := h
  · exact ⟨_, _, rfl⟩
  · exact ⟨_, _, rfl⟩
theorem RowAt.keep (h : RowAt w c v n xs) (hk : ∀ p u, w.cell? p = some u → w'.cell? p = some u) : RowAt w' c v n xs := by
  obtain ⟨h1, h | ⟨a, cap, rfl, h2, h3⟩⟩ := h
  · exact ⟨h1, .inl h⟩
  · exact ⟨h1, .inr ⟨a, cap, rfl, h2, fun j u hj => hk _ _ (h3 j u hj)⟩⟩
theorem RowAt.below {B : Nat} (h : RowAt w c v n xs) (hb : Below B w w') (hB : w.heap.size ≤ B) : RowAt w' c v n xs :=
  h.keep fun p u hp => by rw [hb.cell (Nat.lt_of_lt_of_le (World.block_lt_of_cell? _ _ hp) hB)]; exact hp
theorem RowAt.ext {w0 : World} (h : RowAt w0 c v n xs) (x : Ext w0) : RowAt x.val c v n xs := h.below x.2 (Nat.le_refl _)
theorem RowAt.of_own {base : Nat} {e : TypeId} (h : w.ownsRow base e c v n xs) : RowAt w c v n xs := by
  refine ⟨h.1, ?_⟩
  rcases h.2 with ⟨rfl, h0⟩ | ⟨g, cap, cur, rfl, hg, hh, hc, _, _, _⟩
  · exact .inl ⟨rfl, h0⟩
  · exact .inr ⟨⟨g, 0, none⟩, cap, rfl, hc, fun j u hu => h.cells (g := g) rfl j u hu⟩
theorem RowAt.at {ao : Option Addr} {cap : Nat} (h : RowAt w c (.slice ao n cap) n xs) (hc : 0 < c) (hn : 0 < n) : ∃ b off, ao = some ⟨b, off, none⟩ ∧ b < w.heap.size ∧ n ≤ cap ∧ ∀ j, j < n * c → w.cell? ⟨b, off + j, none⟩ = xs[j]? := by
  obtain ⟨h1, ⟨_, rfl⟩ | ⟨⟨b, off, sp⟩, cap', e, hle, hx⟩⟩ := h
  · omega
  · simp only [Value.slice.injEq] at e
    obtain ⟨rfl, _, rfl⟩ := e
    have hpos : 0 < xs.length := by rw [h1]; exact Nat.mul_pos hn hc
    have h0 := hx 0 xs[0] (by simp)
    have hsp : sp = none := by simpa [Addr.add] using World.cell?_spot h0
    subst hsp
    refine ⟨b, off, rfl, by have := World.block_lt_of_cell? _ _ h0; simpa [Addr.add] using this, hle, fun j hj => ?_⟩
    have hj' : j < xs.length := by rw [h1]; exact hj
    have := hx j xs[j] (by simp [hj'])
    rw [Addr.add_lit] at this
    rw [this]; simp [hj']
/-- The cells of a list of things, c cells each. -/
theorem flat_len {α : Type} {f : α → List Value} {c : Nat} (hf : ∀ x, (f x).length = c) (l : List α) : (l.flatMap f).length = l.length * c := by
  induction l with
  | nil => simp
  | cons x l ih => rw [List.flatMap_cons, List.length_append, ih, hf, List.length_cons, Nat.add_mul]; omega
theorem flat_at {α : Type} {f : α → List Value} {c : Nat} (hf : ∀ x, (f x).length = c) : ∀ (l : List α) (i j : Nat) (x : α), l[i]? = some x → j < c → (l.flatMap f)[i * c + j]? = (f x)[j]?
  | [], i, j, x, h, _ => by simp at h
  | y :: l, 0, j, x, h, hj => by
    simp at h; subst h
    rw [List.flatMap_cons, List.getElem?_append_left (by rw [hf]; omega)]; simp
  | y :: l, i + 1, j, x, h, hj => by
    rw [List.flatMap_cons, List.getElem?_append_right (by rw [hf, Nat.add_mul]; omega), hf, show (i + 1) * c + j - c = i * c + j by rw [Nat.add_mul]; omega]
    exact flat_at hf l i j x (by simpa using h) hj
def cellsH (h : Hp) : List Value := [.int .i64 h.k, .int .i64 h.n]
def cellsV (v : Vl) : List Value := [.int .i64 v.k, .bool v.nl, .int .i64 v.h, .int .i64 v.n]
def cellsF (f : Fl) : List Value := [.int .i64 f.p, .int .i64 f.v.k, .bool f.v.nl, .int .i64 f.v.h, .int .i64 f.v.n, .bool f.m]
def flatH (l : List Hp) : List Value := l.flatMap cellsH
def flatV (l : List Vl) : List Value := l.flatMap cellsV
def flatF (l : List Fl) : List Value := l.flatMap cellsF
def HpsAt (w : World) (v : Value) (l : List Hp) : Prop := RowAt w 2 v l.length (flatH l)
def ValsAt (w : World) (v : Value) (l : List Vl) : Prop := RowAt w 4 v l.length (flatV l)
def FlsAt (w : World) (v : Value) (l : List Fl) : Prop := RowAt w 6 v l.length (flatF l)
theorem hps_at {ao : Option Addr} {cap : Nat} {l : List Hp} (h : HpsAt w (.slice ao l.length cap) l) {i : Nat} {x : Hp} (hi : l[i]? = some x) : ∃ b off, ao = some ⟨b, off, none⟩ ∧ b < w.heap.size ∧
    w.cell? ⟨b, off + i * 2, none⟩ = some (.int .i64 x.k) ∧ w.cell? ⟨b, off + i * 2 + 1, none⟩ = some (.int .i64 x.n) := by
  have hlt := (List.getElem?_eq_some_iff.1 hi).1
  obtain ⟨b, off, rfl, hb, _, hc⟩ := RowAt.at h (by decide) (by omega)
  have at' : ∀ j, j < 2 → w.cell? ⟨b, off + i * 2 + j, none⟩ = (cellsH x)[j]? := fun j hj => by
    rw [Nat.add_assoc, hc (i * 2 + j) (by omega)]; exact flat_at (c := 2) (fun _ => rfl) l i j x hi hj
  exact ⟨b, off, rfl, hb, at' 0 (by omega), at' 1 (by omega)⟩
theorem vals_at {ao : Option Addr} {cap : Nat} {l : List Vl} (h : ValsAt w (.slice ao l.length cap) l) {i : Nat} {x : Vl} (hi : l[i]? = some x) : ∃ b off, ao = some ⟨b, off, none⟩ ∧ b < w.heap.size ∧
    w.cell? ⟨b, off + i * 4, none⟩ = some (.int .i64 x.k) ∧ w.cell? ⟨b, off + i * 4 + 1, none⟩ = some (.bool x.nl) ∧ w.cell? ⟨b, off + i * 4 + 2, none⟩ = some (.int .i64 x.h) ∧ w.cell? ⟨b, off + i * 4 + 3, none⟩ = some (.int .i64 x.n) := by
  have hlt := (List.getElem?_eq_some_iff.1 hi).1
  obtain ⟨b, off, rfl, hb, _, hc⟩ := RowAt.at h (by decide) (by omega)
  have at' : ∀ j, j < 4 → w.cell? ⟨b, off + i * 4 + j, none⟩ = (cellsV x)[j]? := fun j hj => by
    rw [Nat.add_assoc, hc (i * 4 + j) (by omega)]; exact flat_at (c := 4) (fun _ => rfl) l i j x hi hj
  exact ⟨b, off, rfl, hb, at' 0 (by omega), at' 1 (by omega), at' 2 (by omega), at' 3 (by omega)⟩
theorem fls_at {ao : Option Addr} {cap : Nat} {l : List Fl} (h : FlsAt w (.slice ao l.length cap) l) {i : Nat} {x : Fl} (hi : l[i]? = some x) : ∃ b off, ao = some ⟨b, off, none⟩ ∧ b < w.heap.size ∧
    w.cell? ⟨b, off + i * 6, none⟩ = some (.int .i64 x.p) ∧ w.cell? ⟨b, off + i * 6 + 1, none⟩ = some (.int .i64 x.v.k) ∧ w.cell? ⟨b, off + i * 6 + 2, none⟩ = some (.bool x.v.nl) ∧ w.cell? ⟨b, off + i * 6 + 3, none⟩ = some (.int .i64 x.v.h) ∧ w.cell? ⟨b, off + i * 6 + 4, none⟩ = some (.int .i64 x.v.n) ∧ w.cell? ⟨b, off + i * 6 + 5, none⟩ = some (.bool x.m) := by
  have hlt := (List.getElem?_eq_some_iff.1 hi).1
  obtain ⟨b, off, rfl, hb, _, hc⟩ := RowAt.at h (by decide) (by omega)
  have at' : ∀ j, j < 6 → w.cell? ⟨b, off + i * 6 + j, none⟩ = (cellsF x)[j]? := fun j hj => by
    rw [Nat.add_assoc, hc (i * 6 + j) (by omega)]; exact flat_at (c := 6) (fun _ => rfl) l i j x hi hj
  exact ⟨b, off, rfl, hb, at' 0 (by omega), at' 1 (by omega), at' 2 (by omega), at' 3 (by omega), at' 4 (by omega), at' 5 (by omega)⟩
/-- A declared type's cells. -/
structure SubAt (w : World) (c : List Value) (s : Sb) : Prop where
  ex : ∃ vs vp vr vf, c = [.bool s.fin, vs, .int .i64 s.k, vp, vr, vf] ∧ HpsAt w vs s.sups ∧ ValsAt w vp s.ps ∧ ValsAt w vr s.rs ∧ FlsAt w vf s.fs
theorem SubAt.keep {cs : List Value} {s : Sb} (h : SubAt w cs s) (hk : ∀ p u, w.cell? p = some u → w'.cell? p = some u) : SubAt w' cs s := by
  obtain ⟨vs, vp, vr, vf, rfl, h1, h2, h3, h4⟩ := h.ex
  exact ⟨vs, vp, vr, vf, rfl, RowAt.keep h1 hk, RowAt.keep h2 hk, RowAt.keep h3 hk, RowAt.keep h4 hk⟩
theorem SubAt.below {B : Nat} {cs : List Value} {s : Sb} (h : SubAt w cs s) (hb : Below B w w') (hB : w.heap.size ≤ B) : SubAt w' cs s :=
  h.keep fun p u hp => by rw [hb.cell (Nat.lt_of_lt_of_le (World.block_lt_of_cell? _ _ hp) hB)]; exact hp
theorem SubAt.ext {w0 : World} {cs : List Value} {s : Sb} (h : SubAt w0 cs s) (x : Ext w0) : SubAt x.val cs s := h.below x.2 (Nat.le_refl _)
end Go.Proofs.YtmjehnjodaicfaaDoor
