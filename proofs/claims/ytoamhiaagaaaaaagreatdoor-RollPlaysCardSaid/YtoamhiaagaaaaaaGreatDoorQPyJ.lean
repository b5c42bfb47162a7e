/- geodelaw09: RollPlays: the state on its way. -/
import Derived.Test.YtoamhiaagaaaaaaGreatDoorQMaWalkP
import Derived.Test.YtoamhiaagaaaaaaGreatDoorQPyStep
namespace Go.Proofs.YtoamhiaagaaaaaaGreatDoor
open Go.RowKit Go.Maps Go.WideMaps

/-- Numbers that lie somewhere, whatever is written in the tables, the reference and the modules' array. -/
def Stay (S : Nat → Prop) (r mb : Nat) (wr : World) (v : Value) (is : List Int) : Prop := ∀ w'', Upd (fun b => S b ∨ b = r ∨ b = mb) wr w'' → IntsAt w'' v is
/-- The modules' array: four rows of numbers. -/
structure ModsAt (S : Nat → Prop) (r mb n : Nat) (wr : World) (ms : List Value) : Prop where
  at_ : wr.heap[mb]? = some (.cells ms.toArray 37 (0, 0))
  len : ms.length = 4
  row : ∀ (j : Nat) v, ms[j]? = some v → ∃ is, Stay S r mb wr v is ∧ is.length ≤ n
structure PyJ (w0 : World) (t r mb i : Nat) (wr : World) : Prop where
  ex : ∃ (S R Q : Nat → Prop) (gs : List (List Sb)) (ms : List Value), Both w0 S R Q wr t r i gs ∧ ModsAt S r mb (10 * i) wr ms ∧ ¬ S mb ∧ ¬ R mb ∧ ¬ Q mb ∧ mb ≠ r ∧ w0.heap.size ≤ mb
variable {w0 wr w' w1 w2 : World} {t r mb i n : Nat} {S R Q S1 R1 Q1 : Nat → Prop} {gs : List (List Sb)} {ms : List Value} {v : Value} {is : List Int}
theorem Stay.move (h : Stay S r mb wr v is) (hu : Upd (fun b => S b ∨ b = r ∨ b = mb) wr w') (hf : ∀ k, S1 k → S k ∨ wr.heap.size ≤ k) : Stay S1 r mb w' v is :=
  fun w'' hw => h w'' (hu.trans (fun k hk => by
    rcases hk with q | q | q
    · rcases hf k q with q | q
      · exact .inl (.inl q)
      · exact .inr q
    · exact .inl (.inr (.inl q))
    · exact .inl (.inr (.inr q))) hw)
theorem Stay.below (h : Stay S r mb wr v is) (hb : Below wr.heap.size wr w') : Stay S r mb w' v is := h.move (Upd.of_below hb) (fun _ q => .inl q)
theorem Stay.now (h : Stay S r mb wr v is) : IntsAt wr v is := h wr (Upd.refl _ _)
theorem ModsAt.move (h : ModsAt S r mb n wr ms) (hu : Upd (fun b => S b ∨ b = r) wr w') (hs : ¬ S mb) (hr : mb ≠ r) (hf : ∀ k, S1 k → S k ∨ wr.heap.size ≤ k) : ModsAt S1 r mb n w' ms :=
  ⟨hu.heap_some h.at_ (fun q => q.elim hs hr), h.len, fun j v hv => by
    obtain ⟨is, h1, h2⟩ := h.row j v hv
    exact ⟨is, h1.move (hu.mono fun _ _ q => q.elim .inl (fun q => .inr (.inl q))) hf, h2⟩⟩
theorem ModsAt.below (h : ModsAt S r mb n wr ms) (hb : Below wr.heap.size wr w') : ModsAt S r mb n w' ms :=
  ⟨(hb.block _ (heap_lt h.at_)).trans h.at_, h.len, fun j v hv => by
    obtain ⟨is, h1, h2⟩ := h.row j v hv
    exact ⟨is, h1.below hb, h2⟩⟩
theorem ModsAt.cell (h : ModsAt S r mb n wr ms) {a : Nat} (ha : a < 4) : ∃ v is, wr.cell? ⟨mb, a, none⟩ = some v ∧ Stay S r mb wr v is ∧ is.length ≤ n := by
  have hl := h.len
  obtain ⟨v, hv⟩ : ∃ v, ms[a]? = some v := ⟨ms[a]'(by omega), by simp⟩
  obtain ⟨is, h1, h2⟩ := h.row a v hv
  exact ⟨v, is, by rw [heap_cell h.at_]; simpa using hv, h1, h2⟩
theorem PyJ.below (h : PyJ w0 t r mb i wr) (hb : Below wr.heap.size wr w') : PyJ w0 t r mb i w' := by
  obtain ⟨S, R, Q, gs, ms, h1, h2, h3⟩ := h.ex
  exact ⟨S, R, Q, gs, ms, h1.below hb, h2.below hb, h3⟩
theorem PyJ.be (h : PyJ w0 t r mb i wr) : Below w0.heap.size w0 wr := by
  obtain ⟨S, R, Q, gs, ms, h1, _⟩ := h.ex; exact h1.tab.be
/-- Where all stays apart behind an Add to both. -/
theorem off_add (_ : Both w0 S R Q wr t r i gs) (hb : mb < wr.heap.size) (h3 : ¬ S mb ∧ ¬ R mb ∧ ¬ Q mb ∧ mb ≠ r ∧ w0.heap.size ≤ mb) (hs1 : wr.heap.size ≤ w1.heap.size) (f1 : Fresh S wr S1) (f2 : Fresh R wr R1) (f3 : Fresh Q w1 Q1) : ¬ S1 mb ∧ ¬ R1 mb ∧ ¬ Q1 mb ∧ mb ≠ r ∧ w0.heap.size ≤ mb := by
  obtain ⟨a, b, c, d, e⟩ := h3
  exact ⟨fun q => (f1 mb q).elim a (fun q => by omega), fun q => (f2 mb q).elim b (fun q => by omega), fun q => (f3 mb q).elim c (fun q => by omega), d, e⟩
/-- A module's row is another one now. -/
theorem ModsAt.set (h : ModsAt S r mb n wr ms) {a m : Nat} (hnm : n ≤ m) (hu : Stay S r mb wr v is) (hl : is.length ≤ m) : ModsAt S r mb m (wr.setCell ⟨mb, a, none⟩ v) (ms.set a v) := by
  have hup : Upd (fun b => S b ∨ b = r ∨ b = mb) wr (wr.setCell ⟨mb, a, none⟩ v) := (Upd.refl _ wr).setCell (.inl (.inr (.inr rfl))) v
  refine ⟨?_, by rw [List.length_set]; exact h.len, fun j u hj => ?_⟩
  · have q := heap_set_at h.at_ a v
    simpa using q
  · rw [List.getElem?_set] at hj
    split at hj
    · split at hj
      · obtain rfl : v = u := by simpa using hj
        exact ⟨is, hu.move hup (fun _ q => .inl q), hl⟩
      · cases hj
    · obtain ⟨is', h1, h2⟩ := h.row j u hj
      exact ⟨is', h1.move hup (fun _ q => .inl q), Nat.le_trans h2 hnm⟩
theorem ModsAt.more (h : ModsAt S r mb n wr ms) {m : Nat} (hnm : n ≤ m) : ModsAt S r mb m wr ms :=
  ⟨h.at_, h.len, fun j v hv => by obtain ⟨is, h1, h2⟩ := h.row j v hv; exact ⟨is, h1, Nat.le_trans h2 hnm⟩⟩
/-- A write into the modules' array leaves both tables as they are. -/
theorem Both.mods (h : Both w0 S R Q wr t r i gs) (h3 : ¬ S mb ∧ ¬ R mb ∧ ¬ Q mb ∧ mb ≠ r ∧ w0.heap.size ≤ mb) {a : Nat} : Both w0 S R Q (wr.setCell ⟨mb, a, none⟩ v) t r i gs := by
  have hup : Upd (fun b => b = mb) wr (wr.setCell ⟨mb, a, none⟩ v) := (Upd.refl (fun b => b = mb) wr).setCell (p := ⟨mb, a, none⟩) (.inl rfl) v
  exact ⟨h.tab.keep (hup.mono fun b _ e => by subst e; exact ⟨h3.1, h3.2.1, h3.2.2.2.2⟩), h.ref.keep (hup.mono fun b _ e => by subst e; exact ⟨h3.2.2.1, h3.2.2.2.1⟩), h.c, h.rs, h.rr, h.r0⟩
/-- The copy of a table takes its place: what the old one writes behind it is of no matter. -/
theorem Both.copied {t' : Nat} {S' : Nat → Prop} (h : Both w0 S R Q wr t r i gs) (hc : TabAt S' R w1 t' gs) (hs' : ∀ k, S' k → wr.heap.size ≤ k) (hb : Below wr.heap.size wr w1) (hu : Upd S w1 w2) : Both w0 S' R Q w2 t' r i gs := by
  have h1 := h.below hb
  have h0 := h.tab.be.size
  have hlt := h.tab.tab.lt
  refine ⟨⟨hc.keep (hu.mono fun k _ q => ⟨fun q' => ?_, (hlt k q).2⟩), h.tab.ok, fun k hk => Nat.le_trans h0 (hs' k hk), h1.tab.be.trans (hu.below h.tab.base h1.tab.be.size)⟩, h1.ref.keep (hu.mono fun k _ q => h.rs k q), h.c, fun k hk => ⟨fun q => ?_, fun e => ?_⟩, h.rr, h.r0⟩
  · have := (hlt k q).1; have := hs' k q'; omega
  · have := h.ref.lt k q; have := hs' k hk; omega
  · have := h.ref.tlt; have := hs' k hk; omega
end Go.Proofs.YtoamhiaagaaaaaaGreatDoor
