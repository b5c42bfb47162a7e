import Derived.Test.YtpddbaijnjbfdaaGreatDoorQKdTextBd
import Derived.StillTailTactics
import Derived.Deep.DrawnRows
import Derived.WalkLawsBesides
import Derived.WalkSpells
import Derived.Handy
namespace Go.Proofs.YtpddbaijnjbfdaaGreatDoor
open Lib (hid)
section
open Go Go.RowKit
def Ext (w0 : World) : Type := { w : World // Below w0.heap.size w0 w }
instance (w0 : World) : Nonempty (Ext w0) := ⟨⟨w0, Below.refl _ _⟩⟩
theorem Ext.cell {w0 : World} (x : Ext w0) {p : Addr} {v : Value} (h : w0.cell? p = some v) : x.val.cell? p = some v := by
  rw [x.2.cell (World.block_lt_of_cell? _ _ h)]; exact h
theorem Ext.cells {w0 : World} {p : Addr} {v : Value} (h : w0.cell? p = some v) : ∀ x : Ext w0, x.val.cell? p = some v := fun x => x.cell h
theorem Ext.heap {w0 : World} (x : Ext w0) {b : Nat} {o : Obj} (h : w0.heap[b]? = some o) : x.val.heap[b]? = some o := by
  rw [x.2.block b (heap_lt h)]; exact h
theorem Ext.call {P : Program} {f : FuncId} {args : Array Value} {w0 : World} (x : Ext w0) {v : Value}
    (h : Calls P f args x.val fun e w' => e = .returned v ∧ Below x.val.heap.size x.val w') : Calls P f args x.val fun e w'' => e = .returned v ∧ ∃ y : Ext w0, w'' = y.val :=
  h.mono fun _ w' ⟨he, hb⟩ => ⟨he, ⟨⟨w', x.2.trans (hb.mono x.2.size)⟩, rfl⟩⟩
theorem Ext.call0 {P : Program} {f : FuncId} {args : Array Value} {w0 : World} {v : Value}
    (h : Calls P f args w0 fun e w' => e = .returned v ∧ Below w0.heap.size w0 w') : Calls P f args w0 fun e w'' => e = .returned v ∧ ∃ y : Ext w0, w'' = y.val :=
  h.mono fun _ w' ⟨he, hb⟩ => ⟨he, ⟨⟨w', hb⟩, rfl⟩⟩
theorem Ext.size {w0 : World} (x : Ext w0) : w0.heap.size ≤ x.val.heap.size := x.2.size
section
variable {P : Program} {ops : Array Oper} {md : Region.Mode} {C : World → Prop}
theorem wp_region_calm {id : Nat} {Q : Exit → Act → World → Prop} {a : Act} {w : World} {l : List Oper} (hm : P.follows .mixedOrders = true) (hB : Region.lexB .any l.toArray = true)
    (h : wpQuiet P l.toArray (fun w' => ∃ x : Ext w, w' = x.val) (fun a' => ∀ w', (∃ x : Ext w, w' = x.val) → Q .normal a' w') l a) : (Code.region id l.toArray true).wp P Q a w :=
  wp_region_quiet (C := fun w' => ∃ x : Ext w, w' = x.val) hm hB ⟨⟨_, (Below.refl _ _).drew⟩, rfl⟩ (by simpa using h)
end
end
section
open Go.RowKit
theorem retb {a b : Bool} (h : a = b) : Ending.returned (.bool a) = .returned (.bool b) := by rw [h]
def RowAt (w : World) (c : Nat) (v : Value) (n : Nat) (xs : List Value) : Prop :=
  xs.length = n * c ∧ ((v = .slice none 0 0 ∧ n = 0) ∨ ∃ (a : Addr) (cap : Nat), v = .slice (some a) n cap ∧ n ≤ cap ∧ ∀ j u, xs[j]? = some u → w.cell? (a.add j) = some u)
variable {w w' : World} {c n : Nat} {v : Value} {xs : List Value}
theorem RowAt.nil (w : World) (c : Nat) : RowAt w c (.slice none 0 0) 0 [] := ⟨by simp, .inl ⟨rfl, rfl⟩⟩
theorem RowAt.form (h : RowAt w c v n xs) : ∃ ao cap, v = .slice ao n cap := by
  obtain ⟨_, ⟨rfl, rfl⟩ | ⟨a, cap, rfl, _⟩⟩ := h
  · exact ⟨_, _, rfl⟩
  · exact ⟨_, _, rfl⟩
theorem RowAt.keep (h : RowAt w c v n xs) (hk : ∀ p u, w.cell? p = some u → w'.cell? p = some u) : RowAt w' c v n xs := by
  obtain ⟨h1, h | ⟨a, cap, rfl, h2, h3⟩⟩ := h
  · exact ⟨h1, .inl h⟩
  · exact ⟨h1, .inr ⟨a, cap, rfl, h2, fun j u hj => hk _ _ (h3 j u hj)⟩⟩
theorem RowAt.below {B : Nat} (h : RowAt w c v n xs) (hb : Below B w w') (hB : w.heap.size ≤ B) : RowAt w' c v n xs :=
  h.keep fun p u hp => by rw [hb.cell (Nat.lt_of_lt_of_le (World.block_lt_of_cell? _ _ hp) hB)]; exact hp
theorem RowAt.ext {w0 : World} (h : RowAt w0 c v n xs) (x : Ext w0) : RowAt x.val c v n xs := h.below x.2 (Nat.le_refl _)
theorem RowAt.of_own {base : Nat} {e : TypeId} (h : w.ownsRow base e c v n xs) : RowAt w c v n xs := by
  refine ⟨h.1, ?_⟩
  rcases h.2 with ⟨rfl, h0⟩ | ⟨g, cap, cur, rfl, hg, hh, hc, _, _, _⟩
  · exact .inl ⟨rfl, h0⟩
  · exact .inr ⟨⟨g, 0, none⟩, cap, rfl, hc, fun j u hu => h.cells (g := g) rfl j u hu⟩
theorem RowAt.at {ao : Option Addr} {cap : Nat} (h : RowAt w c (.slice ao n cap) n xs) (hc : 0 < c) (hn : 0 < n) : ∃ b off, ao = some ⟨b, off, none⟩ ∧ b < w.heap.size ∧ n ≤ cap ∧ ∀ j, j < n * c → w.cell? ⟨b, off + j, none⟩ = xs[j]? := by
  obtain ⟨h1, ⟨_, rfl⟩ | ⟨⟨b, off, sp⟩, cap', e, hle, hx⟩⟩ := h
  · omega
  · simp only [Value.slice.injEq] at e
    obtain ⟨rfl, _, rfl⟩ := e
    have hpos : 0 < xs.length := by rw [h1]; exact Nat.mul_pos hn hc
    have h0 := hx 0 xs[0] (by simp)
    have hsp : sp = none := by simpa [Addr.add] using World.cell?_spot h0
    subst hsp
    refine ⟨b, off, rfl, by have := World.block_lt_of_cell? _ _ h0; simpa [Addr.add] using this, hle, fun j hj => ?_⟩
    have hj' : j < xs.length := by rw [h1]; exact hj
    have := hx j xs[j] (by simp [hj'])
    rw [Addr.add_lit] at this
    rw [this]; simp [hj']
theorem flat_len {α : Type} {f : α → List Value} {c : Nat} (hf : ∀ x, (f x).length = c) (l : List α) : (l.flatMap f).length = l.length * c := by
  induction l with
  | nil => simp
  | cons x l ih => rw [List.flatMap_cons, List.length_append, ih, hf, List.length_cons, Nat.add_mul]; omega
theorem flat_at {α : Type} {f : α → List Value} {c : Nat} (hf : ∀ x, (f x).length = c) : ∀ (l : List α) (i j : Nat) (x : α), l[i]? = some x → j < c → (l.flatMap f)[i * c + j]? = (f x)[j]?
  | [], i, j, x, h, _ => by simp at h
  | y :: l, 0, j, x, h, hj => by
    simp at h; subst h
    rw [List.flatMap_cons, List.getElem?_append_left (by rw [hf]; omega)]; simp
  | y :: l, i + 1, j, x, h, hj => by
    rw [List.flatMap_cons, List.getElem?_append_right (by rw [hf, Nat.add_mul]; omega), hf, show (i + 1) * c + j - c = i * c + j by rw [Nat.add_mul]; omega]
    exact flat_at hf l i j x (by simpa using h) hj
def cellsH (h : Hp) : List Value := [.int .i64 h.k, .int .i64 h.n]
def cellsV (v : Vl) : List Value := [.int .i64 v.k, .bool v.nl, .int .i64 v.h, .int .i64 v.n]
def cellsF (f : Fl) : List Value := [.int .i64 f.p, .int .i64 f.v.k, .bool f.v.nl, .int .i64 f.v.h, .int .i64 f.v.n, .bool f.m]
def flatH (l : List Hp) : List Value := l.flatMap cellsH
def flatV (l : List Vl) : List Value := l.flatMap cellsV
def flatF (l : List Fl) : List Value := l.flatMap cellsF
def HpsAt (w : World) (v : Value) (l : List Hp) : Prop := RowAt w 2 v l.length (flatH l)
def ValsAt (w : World) (v : Value) (l : List Vl) : Prop := RowAt w 4 v l.length (flatV l)
def FlsAt (w : World) (v : Value) (l : List Fl) : Prop := RowAt w 6 v l.length (flatF l)
theorem hps_at {ao : Option Addr} {cap : Nat} {l : List Hp} (h : HpsAt w (.slice ao l.length cap) l) {i : Nat} {x : Hp} (hi : l[i]? = some x) : ∃ b off, ao = some ⟨b, off, none⟩ ∧ b < w.heap.size ∧
    w.cell? ⟨b, off + i * 2, none⟩ = some (.int .i64 x.k) ∧ w.cell? ⟨b, off + i * 2 + 1, none⟩ = some (.int .i64 x.n) := by
  have hlt := (List.getElem?_eq_some_iff.1 hi).1
  obtain ⟨b, off, rfl, hb, _, hc⟩ := RowAt.at h (by decide) (by omega)
  have at' : ∀ j, j < 2 → w.cell? ⟨b, off + i * 2 + j, none⟩ = (cellsH x)[j]? := fun j hj => by
    rw [Nat.add_assoc, hc (i * 2 + j) (by omega)]; exact flat_at (c := 2) (fun _ => rfl) l i j x hi hj
  exact ⟨b, off, rfl, hb, at' 0 (by omega), at' 1 (by omega)⟩
theorem vals_at {ao : Option Addr} {cap : Nat} {l : List Vl} (h : ValsAt w (.slice ao l.length cap) l) {i : Nat} {x : Vl} (hi : l[i]? = some x) : ∃ b off, ao = some ⟨b, off, none⟩ ∧ b < w.heap.size ∧
    w.cell? ⟨b, off + i * 4, none⟩ = some (.int .i64 x.k) ∧ w.cell? ⟨b, off + i * 4 + 1, none⟩ = some (.bool x.nl) ∧ w.cell? ⟨b, off + i * 4 + 2, none⟩ = some (.int .i64 x.h) ∧ w.cell? ⟨b, off + i * 4 + 3, none⟩ = some (.int .i64 x.n) := by
  have hlt := (List.getElem?_eq_some_iff.1 hi).1
  obtain ⟨b, off, rfl, hb, _, hc⟩ := RowAt.at h (by decide) (by omega)
  have at' : ∀ j, j < 4 → w.cell? ⟨b, off + i * 4 + j, none⟩ = (cellsV x)[j]? := fun j hj => by
    rw [Nat.add_assoc, hc (i * 4 + j) (by omega)]; exact flat_at (c := 4) (fun _ => rfl) l i j x hi hj
  exact ⟨b, off, rfl, hb, at' 0 (by omega), at' 1 (by omega), at' 2 (by omega), at' 3 (by omega)⟩
theorem fls_at {ao : Option Addr} {cap : Nat} {l : List Fl} (h : FlsAt w (.slice ao l.length cap) l) {i : Nat} {x : Fl} (hi : l[i]? = some x) : ∃ b off, ao = some ⟨b, off, none⟩ ∧ b < w.heap.size ∧
    w.cell? ⟨b, off + i * 6, none⟩ = some (.int .i64 x.p) ∧ w.cell? ⟨b, off + i * 6 + 1, none⟩ = some (.int .i64 x.v.k) ∧ w.cell? ⟨b, off + i * 6 + 2, none⟩ = some (.bool x.v.nl) ∧ w.cell? ⟨b, off + i * 6 + 3, none⟩ = some (.int .i64 x.v.h) ∧ w.cell? ⟨b, off + i * 6 + 4, none⟩ = some (.int .i64 x.v.n) ∧ w.cell? ⟨b, off + i * 6 + 5, none⟩ = some (.bool x.m) := by
  have hlt := (List.getElem?_eq_some_iff.1 hi).1
  obtain ⟨b, off, rfl, hb, _, hc⟩ := RowAt.at h (by decide) (by omega)
  have at' : ∀ j, j < 6 → w.cell? ⟨b, off + i * 6 + j, none⟩ = (cellsF x)[j]? := fun j hj => by
    rw [Nat.add_assoc, hc (i * 6 + j) (by omega)]; exact flat_at (c := 6) (fun _ => rfl) l i j x hi hj
  exact ⟨b, off, rfl, hb, at' 0 (by omega), at' 1 (by omega), at' 2 (by omega), at' 3 (by omega), at' 4 (by omega), at' 5 (by omega)⟩
structure SubAt (w : World) (c : List Value) (s : Sb) : Prop where
  ex : ∃ vs vp vr vf, c = [.bool s.fin, vs, .int .i64 s.k, vp, vr, vf] ∧ HpsAt w vs s.sups ∧ ValsAt w vp s.ps ∧ ValsAt w vr s.rs ∧ FlsAt w vf s.fs
theorem SubAt.keep {cs : List Value} {s : Sb} (h : SubAt w cs s) (hk : ∀ p u, w.cell? p = some u → w'.cell? p = some u) : SubAt w' cs s := by
  obtain ⟨vs, vp, vr, vf, rfl, h1, h2, h3, h4⟩ := h.ex
  exact ⟨vs, vp, vr, vf, rfl, RowAt.keep h1 hk, RowAt.keep h2 hk, RowAt.keep h3 hk, RowAt.keep h4 hk⟩
theorem SubAt.below {B : Nat} {cs : List Value} {s : Sb} (h : SubAt w cs s) (hb : Below B w w') (hB : w.heap.size ≤ B) : SubAt w' cs s :=
  h.keep fun p u hp => by rw [hb.cell (Nat.lt_of_lt_of_le (World.block_lt_of_cell? _ _ hp) hB)]; exact hp
theorem SubAt.ext {w0 : World} {cs : List Value} {s : Sb} (h : SubAt w0 cs s) (x : Ext w0) : SubAt x.val cs s := h.below x.2 (Nat.le_refl _)
end
section
open Go.RowKit
def givenB (h : Hp) : Bool := decide (1 ≤ h.k) && decide (h.k ≤ 12) && decide (h.n = 0)
def indexedB (h : Hp) : Bool := decide (h.k = 13) && decide (0 ≤ h.n) && decide (h.n ≤ 4294967295)
def plainV (v : Vl) : Bool := if v.k = 1 ∨ v.k = 2 then decide (v = ⟨v.k, false, 0, 0⟩) else if v.k = 3 then givenB ⟨v.h, v.n⟩ || indexedB ⟨v.h, v.n⟩ else false
def plainF (f : Fl) : Bool := if f.p = 0 then plainV f.v else if f.p = 8 ∨ f.p = 16 then decide (f.v = ⟨1, false, 0, 0⟩) else false
def plainS (s : Sb) : Bool := s.sups.all indexedB && s.ps.all plainV && s.rs.all plainV && s.fs.all plainF && (if s.k = 1 then decide (s.fs.length = 0) else if s.k = 2 then decide (s.ps.length + s.rs.length = 0) else if s.k = 3 then decide (s.ps.length + s.rs.length = 0) && decide (s.fs.length = 1) else false)
theorem given_any (k n : Int) (w : World) : Calls Tryz.prog 51 #[.agg #[.int .i64 k, .int .i64 n]] w fun e w' => e = .returned (.bool (givenB ⟨k, n⟩)) ∧ Below w.heap.size w w' := by
  unfold givenB
  go_enter Tryz.func51, Tryz.ntmps51
  go_wp2
  all_goals
    go_ret
    exact ⟨retb (by first | (simp_all; done) | (simp_all; omega) | (rw [Bool.eq_iff_iff]; simp_all; done) | (rw [Bool.eq_iff_iff]; simp_all; omega)), (Below.refl _ _).alloc (Nat.le_refl _) _⟩
theorem indexed_any (k n : Int) (w : World) : Calls Tryz.prog 52 #[.agg #[.int .i64 k, .int .i64 n]] w fun e w' => e = .returned (.bool (indexedB ⟨k, n⟩)) ∧ Below w.heap.size w w' := by
  unfold indexedB
  go_enter Tryz.func52, Tryz.ntmps52
  go_wp2
  all_goals
    go_ret
    exact ⟨retb (by first | (simp_all; done) | (simp_all; omega) | (rw [Bool.eq_iff_iff]; simp_all; done) | (rw [Bool.eq_iff_iff]; simp_all; omega)), (Below.refl _ _).alloc (Nat.le_refl _) _⟩
set_option maxHeartbeats 1000000 in
theorem plainVal_any (v : Vl) (w : World) : Calls Tryz.prog 23 #[.agg (cellsV v).toArray] w fun e w' => e = .returned (.bool (plainV v)) ∧ Below w.heap.size w w' := by
  obtain ⟨k, nl, h, n⟩ := v
  simp only [cellsV]
  obtain ⟨b1, hb1⟩ : ∃ b, givenB ⟨h, n⟩ = b := ⟨_, rfl⟩
  obtain ⟨b2, hb2⟩ : ∃ b, indexedB ⟨h, n⟩ = b := ⟨_, rfl⟩
  have H1 := hid hb1; have H2 := hid hb2
  clear hb1 hb2
  by_cases h1 : k = 1
  · subst h1
    go_enter Tryz.func23, Tryz.ntmps23
    go_wp2
    all_goals
      go_ret
      exact ⟨retb (by simp_all [plainV]), (Below.refl _ _).alloc (Nat.le_refl _) _⟩
  by_cases h2 : k = 2
  · subst h2
    go_enter Tryz.func23, Tryz.ntmps23
    go_wp2
    all_goals
      go_ret
      exact ⟨retb (by simp_all [plainV]), (Below.refl _ _).alloc (Nat.le_refl _) _⟩
  by_cases h3 : k = 3
  · subst h3
    cases b1
    · go_enter Tryz.func23, Tryz.ntmps23
      go_wp2_with fail
      refine (given_any h n _).mono ?_
      rintro e w1 ⟨rfl, hb1⟩
      rw [H1.out]
      obtain ⟨hc, _⟩ : (∀ b o, b < w.heap.size + 1 → w1.cell? ⟨b, o, none⟩ = (w.alloc (.cells #[.int .i64 3, .bool nl, .int .i64 h, .int .i64 n] 77)).cell? ⟨b, o, none⟩) ∧ True := ⟨fun b o hlt => hb1.cell (p := ⟨b, o, none⟩) (by simpa using hlt), trivial⟩
      go_wp2_with fail
      refine (indexed_any h n _).mono ?_
      rintro e w2 ⟨rfl, hb2⟩
      rw [H2.out]
      go_wp2
      go_ret
      exact ⟨retb (by have := H1.out; have := H2.out; simp_all [plainV]), ((Below.refl _ _).alloc (Nat.le_refl _) _).trans ((hb1.trans (hb2.mono hb1.size)).mono (by simp))⟩
    · go_enter Tryz.func23, Tryz.ntmps23
      go_wp2_with fail
      refine (given_any h n _).mono ?_
      rintro e w1 ⟨rfl, hb1⟩
      rw [H1.out]
      go_wp2
      go_ret
      exact ⟨retb (by have := H1.out; simp_all [plainV]), ((Below.refl _ _).alloc (Nat.le_refl _) _).trans (hb1.mono (by simp))⟩
  · go_enter Tryz.func23, Tryz.ntmps23
    go_wp2
    go_ret
    exact ⟨retb (by simp_all [plainV]), (Below.refl _ _).alloc (Nat.le_refl _) _⟩
set_option maxHeartbeats 1000000 in
theorem plainField_any (f : Fl) (w : World) : Calls Tryz.prog 98 #[.agg (cellsF f).toArray] w fun e w' => e = .returned (.bool (plainF f)) ∧ Below w.heap.size w w' := by
  obtain ⟨p, ⟨k, nl, h, n⟩, m⟩ := f
  simp only [cellsF]
  by_cases h0 : p = 0
  · subst h0
    obtain ⟨b, hb⟩ : ∃ b, plainV ⟨k, nl, h, n⟩ = b := ⟨_, rfl⟩
    have hr : plainF ⟨0, ⟨k, nl, h, n⟩, m⟩ = b := by simp [plainF, hb]
    rw [hr]
    have HB := hid hb
    clear hr hb
    go_enter Tryz.func98, Tryz.ntmps98
    go_wp2_with fail
    refine (plainVal_any ⟨k, nl, h, n⟩ _).mono ?_
    rintro e w1 ⟨rfl, hb1⟩
    rw [HB.out]
    go_wp2
    go_ret
    exact ⟨rfl, ((Below.refl _ _).alloc (Nat.le_refl _) _).trans (hb1.mono (by simp))⟩
  by_cases h1 : p = 8
  · subst h1
    go_enter Tryz.func98, Tryz.ntmps98
    go_wp2
    all_goals
      go_ret
      exact ⟨retb (by simp_all [plainF]), (Below.refl _ _).alloc (Nat.le_refl _) _⟩
  by_cases h2 : p = 16
  · subst h2
    go_enter Tryz.func98, Tryz.ntmps98
    go_wp2
    all_goals
      go_ret
      exact ⟨retb (by simp_all [plainF]), (Below.refl _ _).alloc (Nat.le_refl _) _⟩
  · go_enter Tryz.func98, Tryz.ntmps98
    go_wp2
    go_ret
    exact ⟨retb (by simp_all [plainF]), (Below.refl _ _).alloc (Nat.le_refl _) _⟩
theorem take_all {α : Type} {l : List α} {p : α → Bool} {i : Nat} {x : α} (hx : l[i]? = some x) : (l.take (i + 1)).all p = ((l.take i).all p && p x) := by
  have hlt := (List.getElem?_eq_some_iff.1 hx).1
  rw [List.take_succ_eq_append_getElem hlt, List.all_append]
  have : l[i] = x := (List.getElem?_eq_some_iff.1 hx).2
  simp [this]
theorem all_not {α : Type} {l : List α} {p : α → Bool} {i : Nat} {x : α} (hx : l[i]? = some x) (h : p x = false) : l.all p = false := by
  rw [List.all_eq_false]
  exact ⟨x, List.mem_of_getElem? hx, by simp [h]⟩
set_option maxRecDepth 100000 in
set_option maxHeartbeats 1000000 in
theorem allH_any (F : FuncId) (hE : ∀ args w, (callFunc F args).run Tryz.prog w = .ok (.enter F args) w) (p : Hp → Bool) (hF : ∀ (x : Hp) (w : World), Calls Tryz.prog F #[.agg (cellsH x).toArray] w fun e w' => e = .returned (.bool (p x)) ∧ Below w.heap.size w w')
    (v : Value) (l : List Hp) (w : World) (hv : HpsAt w v l) (hl : l.length ≤ 1000000) : Calls Tryz.prog 95 #[v, .func (.func F) #[] #[]] w fun e w' => e = .returned (.bool (l.all p)) ∧ Below w.heap.size w w' := by
  obtain ⟨ao, cap, rfl⟩ := RowAt.form hv
  obtain ⟨n, hn⟩ : ∃ n, l.length = n := ⟨_, rfl⟩
  have HV := hid hv; have HN := hid hn; have HF := hid hF
  rw [hn] at hl ⊢
  clear hv hn hF
  go_enter Tryz.func95, Tryz.ntmps95
  go_wp2
  go_loopw [6, 9] (fun _ t9 wr => ∃ i : Nat, t9 = .int .i64 (i : Nat) ∧ i ≤ n ∧ (l.take i).all p = true ∧ Below w.heap.size w wr) (fun _ t9 _ => n - (intOf t9).toNat)
  case atStart => exact ⟨0, rfl, Nat.zero_le _, rfl, Below.refl _ _⟩
  case round =>
    obtain ⟨i, rfl, hi, htk, hb⟩ := hrel
    have HT := hid htk; have HB := hid hb
    clear htk hb
    by_cases hlt : i < n
    · obtain ⟨x, hx⟩ : ∃ x, l[i]? = some x := ⟨l[i]'(by rw [HN.out]; exact hlt), by simp⟩
      have hvr : HpsAt wr (.slice ao l.length cap) l := RowAt.below HV.out HB.out (Nat.le_refl _)
      obtain ⟨b, off, rfl, hbl, p0, p1⟩ := hps_at hvr hx
      have HX := hid hx
      obtain ⟨r, hr⟩ : ∃ r, p x = r := ⟨_, rfl⟩
      have HR := hid hr
      have hlt' : (i : Int) < n := by omega
      have hi6 : (i : Int) < 1000000 := by omega
      have HI := hid hlt
      clear hx hr hvr hbl hl hi hlt
      go_wp2_with fail
      refine (HF.out x _).mono ?_
      rintro e w1 ⟨rfl, hb1⟩
      rw [HR.out]
      have HB1 := hid ((HB.out.alloc HB.out.size _).trans (hb1.mono (by have := HB.out.size; simp; omega)))
      clear hb1
      cases r
      · go_wp2
        go_ret
        exact ⟨retb (all_not HX.out HR.out).symm, HB1.out⟩
      · go_wp2
        go_roundw
        case rel => exact ⟨i + 1, by go_num, HI.out, by rw [take_all HX.out, HT.out, HR.out]; rfl, HB1.out⟩
        case measure => have := HI.out; simp [intOf]; omega
    · have hlt' : ¬ (i : Int) < n := by omega
      have h0 := HT.out
      have HA := hid (show l.all p = true by rw [List.take_of_length_le (by rw [HN.out]; omega)] at h0; exact h0)
      clear h0
      go_wp2
      go_ret
      exact ⟨retb HA.out.symm, HB.out⟩
set_option maxRecDepth 100000 in
set_option maxHeartbeats 1000000 in
theorem allV_any (F : FuncId) (hE : ∀ args w, (callFunc F args).run Tryz.prog w = .ok (.enter F args) w) (p : Vl → Bool) (hF : ∀ (x : Vl) (w : World), Calls Tryz.prog F #[.agg (cellsV x).toArray] w fun e w' => e = .returned (.bool (p x)) ∧ Below w.heap.size w w')
    (v : Value) (l : List Vl) (w : World) (hv : ValsAt w v l) (hl : l.length ≤ 1000000) : Calls Tryz.prog 96 #[v, .func (.func F) #[] #[]] w fun e w' => e = .returned (.bool (l.all p)) ∧ Below w.heap.size w w' := by
  obtain ⟨ao, cap, rfl⟩ := RowAt.form hv
  obtain ⟨n, hn⟩ : ∃ n, l.length = n := ⟨_, rfl⟩
  have HV := hid hv; have HN := hid hn; have HF := hid hF
  rw [hn] at hl ⊢
  clear hv hn hF
  go_enter Tryz.func96, Tryz.ntmps96
  go_wp2
  go_loopw [6, 9] (fun _ t9 wr => ∃ i : Nat, t9 = .int .i64 (i : Nat) ∧ i ≤ n ∧ (l.take i).all p = true ∧ Below w.heap.size w wr) (fun _ t9 _ => n - (intOf t9).toNat)
  case atStart => exact ⟨0, rfl, Nat.zero_le _, rfl, Below.refl _ _⟩
  case round =>
    obtain ⟨i, rfl, hi, htk, hb⟩ := hrel
    have HT := hid htk; have HB := hid hb
    clear htk hb
    by_cases hlt : i < n
    · obtain ⟨x, hx⟩ : ∃ x, l[i]? = some x := ⟨l[i]'(by rw [HN.out]; exact hlt), by simp⟩
      have hvr : ValsAt wr (.slice ao l.length cap) l := RowAt.below HV.out HB.out (Nat.le_refl _)
      obtain ⟨b, off, rfl, hbl, p0, p1, p2, p3⟩ := vals_at hvr hx
      have HX := hid hx
      obtain ⟨r, hr⟩ : ∃ r, p x = r := ⟨_, rfl⟩
      have HR := hid hr
      have hlt' : (i : Int) < n := by omega
      have hi6 : (i : Int) < 1000000 := by omega
      have HI := hid hlt
      clear hx hr hvr hbl hl hi hlt
      go_wp2_with fail
      refine (HF.out x _).mono ?_
      rintro e w1 ⟨rfl, hb1⟩
      rw [HR.out]
      have HB1 := hid ((HB.out.alloc HB.out.size _).trans (hb1.mono (by have := HB.out.size; simp; omega)))
      clear hb1
      cases r
      · go_wp2
        go_ret
        exact ⟨retb (all_not HX.out HR.out).symm, HB1.out⟩
      · go_wp2
        go_roundw
        case rel => exact ⟨i + 1, by go_num, HI.out, by rw [take_all HX.out, HT.out, HR.out]; rfl, HB1.out⟩
        case measure => have := HI.out; simp [intOf]; omega
    · have hlt' : ¬ (i : Int) < n := by omega
      have h0 := HT.out
      have HA := hid (show l.all p = true by rw [List.take_of_length_le (by rw [HN.out]; omega)] at h0; exact h0)
      clear h0
      go_wp2
      go_ret
      exact ⟨retb HA.out.symm, HB.out⟩
set_option maxRecDepth 100000 in
set_option maxHeartbeats 1000000 in
theorem allF_any (F : FuncId) (hE : ∀ args w, (callFunc F args).run Tryz.prog w = .ok (.enter F args) w) (p : Fl → Bool) (hF : ∀ (x : Fl) (w : World), Calls Tryz.prog F #[.agg (cellsF x).toArray] w fun e w' => e = .returned (.bool (p x)) ∧ Below w.heap.size w w')
    (v : Value) (l : List Fl) (w : World) (hv : FlsAt w v l) (hl : l.length ≤ 1000000) : Calls Tryz.prog 97 #[v, .func (.func F) #[] #[]] w fun e w' => e = .returned (.bool (l.all p)) ∧ Below w.heap.size w w' := by
  obtain ⟨ao, cap, rfl⟩ := RowAt.form hv
  obtain ⟨n, hn⟩ : ∃ n, l.length = n := ⟨_, rfl⟩
  have HV := hid hv; have HN := hid hn; have HF := hid hF
  rw [hn] at hl ⊢
  clear hv hn hF
  go_enter Tryz.func97, Tryz.ntmps97
  go_wp2
  go_loopw [6, 9] (fun _ t9 wr => ∃ i : Nat, t9 = .int .i64 (i : Nat) ∧ i ≤ n ∧ (l.take i).all p = true ∧ Below w.heap.size w wr) (fun _ t9 _ => n - (intOf t9).toNat)
  case atStart => exact ⟨0, rfl, Nat.zero_le _, rfl, Below.refl _ _⟩
  case round =>
    obtain ⟨i, rfl, hi, htk, hb⟩ := hrel
    have HT := hid htk; have HB := hid hb
    clear htk hb
    by_cases hlt : i < n
    · obtain ⟨x, hx⟩ : ∃ x, l[i]? = some x := ⟨l[i]'(by rw [HN.out]; exact hlt), by simp⟩
      have hvr : FlsAt wr (.slice ao l.length cap) l := RowAt.below HV.out HB.out (Nat.le_refl _)
      obtain ⟨b, off, rfl, hbl, p0, p1, p2, p3, p4, p5⟩ := fls_at hvr hx
      have HX := hid hx
      obtain ⟨r, hr⟩ : ∃ r, p x = r := ⟨_, rfl⟩
      have HR := hid hr
      have hlt' : (i : Int) < n := by omega
      have hi6 : (i : Int) < 1000000 := by omega
      have HI := hid hlt
      clear hx hr hvr hbl hl hi hlt
      go_wp2_with fail
      refine (HF.out x _).mono ?_
      rintro e w1 ⟨rfl, hb1⟩
      rw [HR.out]
      have HB1 := hid ((HB.out.alloc HB.out.size _).trans (hb1.mono (by have := HB.out.size; simp; omega)))
      clear hb1
      cases r
      · go_wp2
        go_ret
        exact ⟨retb (all_not HX.out HR.out).symm, HB1.out⟩
      · go_wp2
        go_roundw
        case rel => exact ⟨i + 1, by go_num, HI.out, by rw [take_all HX.out, HT.out, HR.out]; rfl, HB1.out⟩
        case measure => have := HI.out; simp [intOf]; omega
    · have hlt' : ¬ (i : Int) < n := by omega
      have h0 := HT.out
      have HA := hid (show l.all p = true by rw [List.take_of_length_le (by rw [HN.out]; omega)] at h0; exact h0)
      clear h0
      go_wp2
      go_ret
      exact ⟨retb HA.out.symm, HB.out⟩
end
section
open Go.RowKit
theorem indexed_h (x : Hp) (w : World) : Calls Tryz.prog 52 #[.agg (cellsH x).toArray] w fun e w' => e = .returned (.bool (indexedB x)) ∧ Below w.heap.size w w' := indexed_any x.k x.n w
theorem enters_indexed : ∀ args w, (callFunc 52 args).run Tryz.prog w = .ok (.enter 52 args) w := fun _ _ => by kernel_rfl
theorem enters_plainVal : ∀ args w, (callFunc 23 args).run Tryz.prog w = .ok (.enter 23 args) w := fun _ _ => by kernel_rfl
theorem enters_plainField : ∀ args w, (callFunc 98 args).run Tryz.prog w = .ok (.enter 98 args) w := fun _ _ => by kernel_rfl
structure Small (s : Sb) : Prop where
  sups : s.sups.length ≤ 1000000
  ps : s.ps.length ≤ 1000000
  rs : s.rs.length ≤ 1000000
  fs : s.fs.length ≤ 1000000
def midS (s : Sb) : Bool := s.ps.all plainV && s.rs.all plainV && s.fs.all plainF
def endS (k : Int) (np nr nf : Nat) : Bool := if k = 1 then decide (nf = 0) else if k = 2 then decide (np + nr = 0) else if k = 3 then decide (np + nr = 0) && decide (nf = 1) else false
theorem plainS_eq (s : Sb) : plainS s = (s.sups.all indexedB && midS s && endS s.k s.ps.length s.rs.length s.fs.length) := by
  unfold plainS midS endS
  simp only [Bool.and_assoc]
set_option maxRecDepth 100000 in
set_option maxHeartbeats 4000000 in
theorem plainSub_any (cs : List Value) (s : Sb) (w : World) (hs : SubAt w cs s) (hm : Small s) : Calls Tryz.prog 79 #[.agg cs.toArray] w fun e w' => e = .returned (.bool (plainS s)) ∧ Below w.heap.size w w' := by
  have HM := hid hm
  obtain ⟨vs, vp, vr, vf, rfl, h1, h2, h3, h4⟩ := hs.ex
  obtain ⟨ps, pc, rfl⟩ := RowAt.form h2
  obtain ⟨rs, rc, rfl⟩ := RowAt.form h3
  obtain ⟨fs, fc, rfl⟩ := RowAt.form h4
  obtain ⟨fin, sups, k, lp, lr, lf⟩ := s
  dsimp only at h1 h2 h3 h4 ⊢
  obtain ⟨np, hnp⟩ : ∃ n, lp.length = n := ⟨_, rfl⟩
  obtain ⟨nr, hnr⟩ : ∃ n, lr.length = n := ⟨_, rfl⟩
  obtain ⟨nf, hnf⟩ : ∃ n, lf.length = n := ⟨_, rfl⟩
  have H1 := hid h1; have H2 := hid h2; have H3 := hid h3; have H4 := hid h4
  rw [hnp] at H2; rw [hnr] at H3; rw [hnf] at H4
  have hM1 := hm.ps; have hM2 := hm.rs; have hM3 := hm.fs
  dsimp only at hM1 hM2 hM3
  rw [hnp] at hM1; rw [hnr] at hM2; rw [hnf] at hM3
  rw [plainS_eq]
  dsimp only
  obtain ⟨b0, hb0⟩ : ∃ b, sups.all indexedB = b := ⟨_, rfl⟩
  obtain ⟨b1, hb1⟩ : ∃ b, lp.all plainV = b := ⟨_, rfl⟩
  obtain ⟨b2, hb2⟩ : ∃ b, lr.all plainV = b := ⟨_, rfl⟩
  obtain ⟨b3, hb3⟩ : ∃ b, lf.all plainF = b := ⟨_, rfl⟩
  rw [hnp, hnr, hnf, hb0, show midS ⟨fin, sups, k, lp, lr, lf⟩ = (b1 && b2 && b3) by unfold midS; rw [hb1, hb2, hb3]]
  have A0 := hid hb0; have A1 := hid hb1; have A2 := hid hb2; have A3 := hid hb3
  obtain ⟨W0, hW⟩ : ∃ W0 : World, W0 = ((w.alloc (.cells #[.bool fin, vs, .int .i64 k, .slice ps np pc, .slice rs nr rc, .slice fs nf fc] 46)).alloc (.cells #[.int .i64 k, .slice ps np pc, .slice rs nr rc, .slice fs nf fc] 39)) := ⟨_, rfl⟩
  have hB : Below w.heap.size w W0 := by rw [hW]; exact (((Below.refl _ _).alloc (by simp) _).alloc (by simp) _)
  have b0_0 : ∀ x : Ext W0, x.val.cell? ⟨w.heap.size, 0, none⟩ = some (.bool fin) := Ext.cells (by rw [hW]; exact heap_cell (heap_alloc_keep (heap_alloc_at _ _ (by simp)) _) 0)
  have b0_1 : ∀ x : Ext W0, x.val.cell? ⟨w.heap.size, 1, none⟩ = some (vs) := Ext.cells (by rw [hW]; exact heap_cell (heap_alloc_keep (heap_alloc_at _ _ (by simp)) _) 1)
  have b0_2 : ∀ x : Ext W0, x.val.cell? ⟨w.heap.size, 2, none⟩ = some (.int .i64 k) := Ext.cells (by rw [hW]; exact heap_cell (heap_alloc_keep (heap_alloc_at _ _ (by simp)) _) 2)
  have b0_3 : ∀ x : Ext W0, x.val.cell? ⟨w.heap.size, 3, none⟩ = some (.slice ps np pc) := Ext.cells (by rw [hW]; exact heap_cell (heap_alloc_keep (heap_alloc_at _ _ (by simp)) _) 3)
  have b0_4 : ∀ x : Ext W0, x.val.cell? ⟨w.heap.size, 4, none⟩ = some (.slice rs nr rc) := Ext.cells (by rw [hW]; exact heap_cell (heap_alloc_keep (heap_alloc_at _ _ (by simp)) _) 4)
  have b0_5 : ∀ x : Ext W0, x.val.cell? ⟨w.heap.size, 5, none⟩ = some (.slice fs nf fc) := Ext.cells (by rw [hW]; exact heap_cell (heap_alloc_keep (heap_alloc_at _ _ (by simp)) _) 5)
  have b1_0 : ∀ x : Ext W0, x.val.cell? ⟨w.heap.size + 1, 0, none⟩ = some (.int .i64 k) := Ext.cells (by rw [hW]; exact heap_cell (heap_alloc_at _ _ (by simp)) 0)
  have b1_1 : ∀ x : Ext W0, x.val.cell? ⟨w.heap.size + 1, 1, none⟩ = some (.slice ps np pc) := Ext.cells (by rw [hW]; exact heap_cell (heap_alloc_at _ _ (by simp)) 1)
  have b1_2 : ∀ x : Ext W0, x.val.cell? ⟨w.heap.size + 1, 2, none⟩ = some (.slice rs nr rc) := Ext.cells (by rw [hW]; exact heap_cell (heap_alloc_at _ _ (by simp)) 2)
  have b1_3 : ∀ x : Ext W0, x.val.cell? ⟨w.heap.size + 1, 3, none⟩ = some (.slice fs nf fc) := Ext.cells (by rw [hW]; exact heap_cell (heap_alloc_at _ _ (by simp)) 3)
  have HW := hid hW; have HB := hid hB
  clear hW hB
  have R1 := hid (RowAt.below h1 HB.out (Nat.le_refl _)); have R2 := hid (RowAt.below H2.out HB.out (Nat.le_refl _)); have R3 := hid (RowAt.below H3.out HB.out (Nat.le_refl _)); have R4 := hid (RowAt.below H4.out HB.out (Nat.le_refl _))
  have hs0 : (np : Int) ≤ 1000000 := by omega
  have hs1 : (nr : Int) ≤ 1000000 := by omega
  clear h1 h2 h3 h4 hs hm hnp hnr hnf hb0 hb1 hb2 hb3 hM1 hM2 hM3 H1 H2 H3 H4
  go_enter Tryz.func79, Tryz.ntmps79
  go_wp2_with fail
  rw [← HW.out]
  refine (Ext.call0 (allH_any _ enters_indexed indexedB indexed_h _ sups _ R1.out HM.out.sups)).mono ?_
  rintro e _ ⟨rfl, x1, rfl⟩
  rw [A0.out]
  cases b0
  · go_wp2
    go_ret
    exact ⟨retb (by simp), HB.out.trans (x1.2.mono HB.out.size)⟩
  go_wp2_with fail
  refine (Ext.call x1 (allV_any _ enters_plainVal plainV plainVal_any _ lp _ (RowAt.ext R2.out x1) HM.out.ps)).mono ?_
  rintro e _ ⟨rfl, x2, rfl⟩
  rw [A1.out]
  cases b1
  · go_wp2
    go_ret
    exact ⟨retb (by simp), HB.out.trans (x2.2.mono HB.out.size)⟩
  go_wp2_with fail
  refine (Ext.call x2 (allV_any _ enters_plainVal plainV plainVal_any _ lr _ (RowAt.ext R3.out x2) HM.out.rs)).mono ?_
  rintro e _ ⟨rfl, x3, rfl⟩
  rw [A2.out]
  cases b2
  · go_wp2
    go_ret
    exact ⟨retb (by simp), HB.out.trans (x3.2.mono HB.out.size)⟩
  go_wp2_with fail
  refine (Ext.call x3 (allF_any _ enters_plainField plainF plainField_any _ lf _ (RowAt.ext R4.out x3) HM.out.fs)).mono ?_
  rintro e _ ⟨rfl, x4, rfl⟩
  rw [A3.out]
  cases b3
  · go_wp2
    go_ret
    exact ⟨retb (by simp), HB.out.trans (x4.2.mono HB.out.size)⟩
  by_cases k1 : k = 1
  · subst k1
    go_wp2
    all_goals
      go_ret
      exact ⟨retb (by first | (simp_all [endS]; done) | (simp_all [endS]; omega) | (rw [Bool.eq_iff_iff]; simp_all [endS]; done) | (rw [Bool.eq_iff_iff]; simp_all [endS]; omega)), HB.out.trans (x4.2.mono HB.out.size)⟩
  by_cases k2 : k = 2
  · subst k2
    go_wp2
    all_goals
      go_ret
      exact ⟨retb (by first | (simp_all [endS]; done) | (simp_all [endS]; omega) | (rw [Bool.eq_iff_iff]; simp_all [endS]; done) | (rw [Bool.eq_iff_iff]; simp_all [endS]; omega)), HB.out.trans (x4.2.mono HB.out.size)⟩
  by_cases k3 : k = 3
  · subst k3
    go_wp2
    all_goals
      go_ret
      exact ⟨retb (by first | (simp_all [endS]; done) | (simp_all [endS]; omega) | (rw [Bool.eq_iff_iff]; simp_all [endS]; done) | (rw [Bool.eq_iff_iff]; simp_all [endS]; omega)), HB.out.trans (x4.2.mono HB.out.size)⟩
  · go_wp2
    all_goals
      go_ret
      exact ⟨retb (by first | (simp_all [endS]; done) | (simp_all [endS]; omega) | (rw [Bool.eq_iff_iff]; simp_all [endS]; done) | (rw [Bool.eq_iff_iff]; simp_all [endS]; omega)), HB.out.trans (x4.2.mono HB.out.size)⟩
end
end Go.Proofs.YtpddbaijnjbfdaaGreatDoor
