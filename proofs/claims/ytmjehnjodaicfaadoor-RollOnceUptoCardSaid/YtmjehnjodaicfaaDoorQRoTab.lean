/- package roll: a table in memory. -/
import Derived.Test.YtmjehnjodaicfaaDoorQRoWritingP
import Derived.Maps.OwnSet
import Derived.Maps.Keyed
import Derived.Maps.OwnOps
namespace Go.Proofs.YtmjehnjodaicfaaDoor
open Go.RowKit Go.Maps Go.WideMaps

def total (gs : List (List Sb)) : Nat := (gs.map List.length).sum
def firstOf (gs : List (List Sb)) (i : Nat) : Nat := total (gs.take i)
/-- Of each number its entry. -/
def ofL (gs : List (List Sb)) : List Int := (gs.zipIdx).flatMap fun p => List.replicate p.1.length (p.2 : Int)
theorem total_snoc (gs : List (List Sb)) (g : List Sb) : total (gs ++ [g]) = total gs + g.length := by simp [total]
theorem ofL_snoc (gs : List (List Sb)) (g : List Sb) : ofL (gs ++ [g]) = ofL gs ++ List.replicate g.length (gs.length : Int) := by
  simp [ofL, List.zipIdx_append]
theorem ofL_len (gs : List (List Sb)) : (ofL gs).length = total gs := by
  have h : ∀ (gs : List (List Sb)) (n : Nat), ((gs.zipIdx n).flatMap fun p => List.replicate p.1.length (p.2 : Int)).length = total gs := by
    intro gs
    induction gs with
    | nil => intro n; rfl
    | cons g gs ih => intro n; rw [List.zipIdx_cons, List.flatMap_cons, List.length_append, ih, List.length_replicate]; simp [total]
  exact h gs 0
theorem flatMap_congr' {α β : Type} {l : List α} {f g : α → List β} (h : ∀ a ∈ l, f a = g a) : l.flatMap f = l.flatMap g := by
  induction l with
  | nil => rfl
  | cons a l ih => rw [List.flatMap_cons, List.flatMap_cons, h a (by simp), ih (fun b hb => h b (by simp [hb]))]
theorem firstOf_snoc {gs : List (List Sb)} {g : List Sb} {i : Nat} (h : i ≤ gs.length) : firstOf (gs ++ [g]) i = firstOf gs i := by
  unfold firstOf; rw [List.take_append_of_le_length h]
theorem firstOf_len (gs : List (List Sb)) : firstOf gs gs.length = total gs := by unfold firstOf; rw [List.take_length]
def entC (es : List (List Sb)) (vs : List Value) : List Value := (List.range es.length).flatMap fun i => [.int .i64 (firstOf es i), vs.getD i undef]
theorem entC_snoc {es : List (List Sb)} {vs : List Value} (h : vs.length = es.length) (g : List Sb) (v : Value) : entC (es ++ [g]) (vs ++ [v]) = entC es vs ++ [.int .i64 (total es), v] := by
  unfold entC
  rw [List.length_append, List.length_singleton, List.range_succ, List.flatMap_append]
  have e1 : (List.range es.length).flatMap (fun i => ([.int .i64 (firstOf (es ++ [g]) i), (vs ++ [v]).getD i undef] : List Value)) = (List.range es.length).flatMap fun i => [.int .i64 (firstOf es i), vs.getD i undef] := flatMap_congr' fun i hi => by
    have hi' : i < es.length := List.mem_range.1 hi
    rw [firstOf_snoc (by omega), List.getD_eq_getElem?_getD, List.getElem?_append_left (by omega), List.getD_eq_getElem?_getD]
  rw [e1]
  congr 1
  rw [List.flatMap_cons, List.flatMap_nil, firstOf_snoc (Nat.le_refl _), firstOf_len, List.getD_eq_getElem?_getD, ← h]
  simp
/-- The entries of a table. -/
structure EntsAt (R : Nat → Prop) (w : World) (ev : Value) (es : List (List Sb)) : Prop where
  ex : ∃ vs : List Value, vs.length = es.length ∧ w.ownsRow 0 89 2 ev es.length (entC es vs) ∧ ∀ (i : Nat) v g, vs[i]? = some v → es[i]? = some g → ∀ w'', Upd (fun b => ¬ R b) w w'' → GrpAt w'' v g
/-- What is found under a writing. -/
structure FoundAt (w : World) (M : Nat) (gs : List (List Sb)) : Prop where
  ex : ∃ D : DataW Unit, w.ownsMap Tryd.prog 9 (plainElem Tryd.prog 3) M gs.length D ∧ IsMap D ∧ (∀ k, has D (.string k) = gs.any (fun g => groupT g == k)) ∧ ∀ (i : Nat) g, gs[i]? = some g → D.atKey (.string (groupT g)) (.lit (.int .i64 0)) = .lit (.int .i64 i)
/-- A table at t: its entries are es, under writings the ones of ms are found, of each number the entry is told by ofl. It writes the blocks S, and reads besides the blocks R. -/
structure TabM (S R : Nat → Prop) (w : World) (t : Nat) (es ms : List (List Sb)) (ofl : List Int) : Prop where
  ex : ∃ ev ov M, w.heap[t]? = some (.cells #[ev, ov, .map (some M), .pointer (some ⟨t, 0, none⟩)] 63 (0, 0)) ∧ EntsAt R w ev es ∧ w.ownsRow 0 3 1 ov ofl.length (ofl.map (Value.int .i64)) ∧ FoundAt w M ms ∧ S M ∧ (∀ b, ev.ownBlock = some b → S b) ∧ (∀ b, ov.ownBlock = some b → S b)
  st : S t
  lt : ∀ k, S k → k < w.heap.size ∧ ¬ R k
  rlt : ∀ k, R k → k < w.heap.size
def TabAt (S R : Nat → Prop) (w : World) (t : Nat) (gs : List (List Sb)) : Prop := TabM S R w t gs gs (ofL gs)
variable {S R : Nat → Prop} {w w' : World} {t : Nat} {es ms : List (List Sb)} {ofl : List Int}
theorem FoundAt.keep {M : Nat} (h : FoundAt w M ms) (hm : w'.heap[M]? = w.heap[M]?) : FoundAt w' M ms := by
  obtain ⟨D, ⟨xs, c, h1, h2⟩, h3⟩ := h.ex
  exact ⟨D, ⟨xs, c, by rw [hm]; exact h1, h2⟩, h3⟩
theorem EntsAt.keep {ev : Value} (h : EntsAt R w ev es) (u : Upd (fun b => ¬ R b ∧ ev.ownBlock ≠ some b) w w') : EntsAt R w' ev es := by
  obtain ⟨vs, h1, h2, h3⟩ := h.ex
  exact ⟨vs, h1, ownsRow_upd h2 u (fun b hb hk => hk.2 hb), fun i v g hv hg w'' u'' => h3 i v g hv hg w'' ((u.mono fun _ _ hk => hk.1).trans' u'')⟩
theorem TabM.keep (h : TabM S R w t es ms ofl) (u : Upd (fun b => ¬ S b ∧ ¬ R b) w w') : TabM S R w' t es ms ofl := by
  obtain ⟨⟨ev, ov, M, h1, h2, h3, h4, h5, h6, h7⟩, hs, hl, hr⟩ := h
  exact ⟨⟨ev, ov, M, u.heap_some h1 (fun hk => hk.1 hs), h2.keep (u.mono fun b _ hk => ⟨hk.2, fun e => hk.1 (h6 b e)⟩), ownsRow_upd h3 u (fun b hb hk => hk.1 (h7 b hb)), h4.keep (u.block M (hl M h5).1 (fun hk => hk.1 h5)), h5, h6, h7⟩, hs, fun k hk => ⟨Nat.lt_of_lt_of_le (hl k hk).1 u.size, (hl k hk).2⟩, fun k hk => Nat.lt_of_lt_of_le (hr k hk) u.size⟩
theorem TabM.below (h : TabM S R w t es ms ofl) (u : Below w.heap.size w w') : TabM S R w' t es ms ofl := h.keep ((Upd.of_below u : Upd (fun _ => False) w w').mono fun _ _ h => h.elim)
/-- More blocks that are read. -/
theorem TabM.more {R' : Nat → Prop} (h : TabM S R w t es ms ofl) (hR : ∀ k, R k → R' k) (hl : ∀ k, R' k → k < w.heap.size ∧ ¬ S k) : TabM S R' w t es ms ofl := by
  obtain ⟨⟨ev, ov, M, h1, ⟨vs, e1, e2, e3⟩, h3, h4, h5, h6, h7⟩, hs, hlt, hr⟩ := h
  exact ⟨⟨ev, ov, M, h1, ⟨vs, e1, e2, fun i v g hv hg w'' u => e3 i v g hv hg w'' (u.mono fun b _ hk hb => hk (hR b hb))⟩, h3, h4, h5, h6, h7⟩, hs, fun k hk => ⟨(hlt k hk).1, fun hk' => (hl k hk').2 hk⟩, fun k hk => (hl k hk).1⟩
end Go.Proofs.YtmjehnjodaicfaaDoor
