/- package mark: meet. -/
import Derived.Test.YtfpfpopfnbcblaaDoorQMkMarkBd
import Derived.WalkKit
import Derived.BigQuiet
import Derived.RegionTactic
import Derived.ChangeAlike
import Derived.BigRegion
import Derived.Test.YtfpfpopfnbcblaaDoorRows
namespace Go.Proofs.YtfpfpopfnbcblaaDoor
open Go.RowKit

/-- The marker in memory. -/
structure MkrAt (mb p : Nat) (wf : Value) (lim many : Nat) (left : Bool) (todo : List Nat) (W : World) : Prop where
  c0 : W.cell? ⟨mb, 0, none⟩ = some (.pointer (some ⟨p, 0, none⟩))
  c1 : W.cell? ⟨mb, 1, none⟩ = some wf
  c2 : W.cell? ⟨mb, 2, none⟩ = some (.int .i64 lim)
  c3 : W.cell? ⟨mb, 3, none⟩ = some (.int .i64 many)
  c4 : W.cell? ⟨mb, 4, none⟩ = some (.bool left)
  c5 : W.cell? ⟨mb, 5, none⟩ = some (.int .i64 todo.length)
  td : ∀ k x : Nat, todo[k]? = some x → W.cell? ⟨mb, 6 + k, none⟩ = some (.int .i64 x)
  room : ∀ k, k < 1024 → ∃ v : Int, W.cell? ⟨mb, 6 + k, none⟩ = some (.int .i64 v)
  fr : ∀ k, W.frozen? ⟨mb, k, none⟩ = false
  lim1 : 1 ≤ lim
  lim2 : lim ≤ 1024
  used : todo.length ≤ lim
  many1 : many ≤ 1048576
theorem MkrAt.lt {mb p lim many : Nat} {wf : Value} {left : Bool} {todo : List Nat} {W : World} (h : MkrAt mb p wf lim many left todo W) : mb < W.heap.size := World.block_lt_of_cell? _ _ h.c0
theorem MkrAt.upd {mb p lim many : Nat} {wf : Value} {left : Bool} {todo : List Nat} {W W' : World} (h : MkrAt mb p wf lim many left todo W) {S : Nat → Prop} (u : Upd S W W') (hS : ¬ S mb) : MkrAt mb p wf lim many left todo W' := by
  have hl := h.lt
  have c : ∀ k : Nat, W'.cell? ⟨mb, k, none⟩ = W.cell? ⟨mb, k, none⟩ := fun k => u.cell hl hS
  have f : ∀ k : Nat, W'.frozen? ⟨mb, k, none⟩ = W.frozen? ⟨mb, k, none⟩ := fun k => by unfold World.frozen?; rw [u.block mb hl hS]
  exact ⟨by rw [c]; exact h.c0, by rw [c]; exact h.c1, by rw [c]; exact h.c2, by rw [c]; exact h.c3, by rw [c]; exact h.c4, by rw [c]; exact h.c5, fun k x hk => by rw [c]; exact h.td k x hk, fun k hk => by obtain ⟨v, hv⟩ := h.room k hk; exact ⟨v, by rw [c]; exact hv⟩, fun k => by rw [f]; exact h.fr k, h.lim1, h.lim2, h.used, h.many1⟩
theorem oth {W : World} {b i j : Nat} {v u : Value} (h : W.cell? ⟨b, i, none⟩ = some v) (hij : i ≠ j) : (W.setCell ⟨b, j, none⟩ u).cell? ⟨b, i, none⟩ = some v := by
  rw [World.cell?_setCell_other]
  · exact h
  · intro e; exact hij (by simp at e)
theorem sam {W : World} {b i : Nat} {v u : Value} (h : W.cell? ⟨b, i, none⟩ = some v) : (W.setCell ⟨b, i, none⟩ u).cell? ⟨b, i, none⟩ = some u := World.cell?_setCell_same' _ _ _ (by rw [h]; rfl)
theorem MkrAt.set3 {mb p lim many : Nat} {wf : Value} {left : Bool} {todo : List Nat} {W : World} (h : MkrAt mb p wf lim many left todo W) (k : Nat) (hk : k ≤ 1048576) : MkrAt mb p wf lim k left todo (W.setCell ⟨mb, 3, none⟩ (.int .i64 (k : Nat))) :=
  ⟨oth h.c0 (by decide), oth h.c1 (by decide), oth h.c2 (by decide), sam h.c3, oth h.c4 (by decide), oth h.c5 (by decide), fun i x hi => oth (h.td i x hi) (by omega), fun i hi => by obtain ⟨v, hv⟩ := h.room i hi; exact ⟨v, oth hv (by omega)⟩, fun i => by rw [World.frozen?_setCell]; exact h.fr i, h.lim1, h.lim2, h.used, hk⟩
theorem MkrAt.set4 {mb p lim many : Nat} {wf : Value} {left : Bool} {todo : List Nat} {W : World} (h : MkrAt mb p wf lim many left todo W) (k : Bool) : MkrAt mb p wf lim many k todo (W.setCell ⟨mb, 4, none⟩ (.bool k)) :=
  ⟨oth h.c0 (by decide), oth h.c1 (by decide), oth h.c2 (by decide), oth h.c3 (by decide), sam h.c4, oth h.c5 (by decide), fun i x hi => oth (h.td i x hi) (by omega), fun i hi => by obtain ⟨v, hv⟩ := h.room i hi; exact ⟨v, oth hv (by omega)⟩, fun i => by rw [World.frozen?_setCell]; exact h.fr i, h.lim1, h.lim2, h.used, h.many1⟩
theorem MkrAt.push {mb p lim many : Nat} {wf : Value} {left : Bool} {todo : List Nat} {W : World} (h : MkrAt mb p wf lim many left todo W) (a n n1 : Nat) (hn : todo.length = n) (hn1 : n1 = n + 1) (hl : n < lim) : MkrAt mb p wf lim many left (todo ++ [a]) ((W.setCell ⟨mb, 6 + n, none⟩ (.int .i64 (a : Nat))).setCell ⟨mb, 5, none⟩ (.int .i64 (n1 : Nat))) := by
  have hl2 := h.lim2
  obtain ⟨v0, hv0⟩ := h.room n (by omega)
  refine ⟨oth (oth h.c0 (by omega)) (by decide), oth (oth h.c1 (by omega)) (by decide), oth (oth h.c2 (by omega)) (by decide), oth (oth h.c3 (by omega)) (by decide), oth (oth h.c4 (by omega)) (by decide), ?_, fun i x hi => ?_, fun i hi => ?_, fun i => by rw [World.frozen?_setCell, World.frozen?_setCell]; exact h.fr i, h.lim1, h.lim2, by simp; omega, h.many1⟩
  · rw [List.length_append, hn]; subst hn1; exact sam (oth h.c5 (by omega))
  · by_cases e : i < n
    · rw [List.getElem?_append_left (by omega)] at hi
      exact oth (oth (h.td i x hi) (by omega)) (by omega)
    · have : i = n := by
        have := (List.getElem?_eq_some_iff.1 hi).1
        simp at this; omega
      subst this
      rw [List.getElem?_append_right (by omega), hn] at hi
      simp at hi
      subst hi
      exact oth (sam hv0) (by omega)
  · by_cases e : i = n
    · subst e; exact ⟨a, oth (sam hv0) (by omega)⟩
    · obtain ⟨v, hv⟩ := h.room i hi
      exact ⟨v, oth (oth hv (by omega)) (by omega)⟩
theorem MkrAt.pop {mb p lim many : Nat} {wf : Value} {left : Bool} {todo : List Nat} {x : Nat} {W : World} (h : MkrAt mb p wf lim many left (todo ++ [x]) W) (n : Nat) (hn : todo.length = n) : MkrAt mb p wf lim many left todo (W.setCell ⟨mb, 5, none⟩ (.int .i64 (n : Nat))) := by
  have hu := h.used
  simp at hu
  refine ⟨oth h.c0 (by decide), oth h.c1 (by decide), oth h.c2 (by decide), oth h.c3 (by decide), oth h.c4 (by decide), ?_, fun i y hi => ?_, fun i hi => by obtain ⟨v, hv⟩ := h.room i hi; exact ⟨v, oth hv (by omega)⟩, fun i => by rw [World.frozen?_setCell]; exact h.fr i, h.lim1, h.lim2, by omega, h.many1⟩
  · rw [hn]; exact sam h.c5
  · have hlt := (List.getElem?_eq_some_iff.1 hi).1
    exact oth (h.td i y (by rw [List.getElem?_append_left hlt]; exact hi)) (by omega)
/-- What meet makes of how many are marked, whether any was left, what is kept. -/
structure Mk where
  many : Nat
  left : Bool
  todo : List Nat
def meetF (lim : Nat) (s : Mk) (r : Bool) (a : Nat) : Mk := if r then (if s.todo.length = lim then ⟨s.many + 1, true, s.todo⟩ else ⟨s.many + 1, s.left, s.todo ++ [a]⟩) else s
/-- The marker and its arena. -/
structure MSt (S : Nat → Prop) (p m mb : Nat) (wf : Value) (lim : Nat) (bs : List Blk) (s : Mk) (W : World) : Prop where
  ar : ArV S W p m bs
  mr : MkrAt mb p wf lim s.many s.left s.todo W
  nS : ¬ S mb
theorem Mark_g {S : Nat → Prop} {w : World} {p m : Nat} {bs : List Blk} (A0 : ArV S w p m bs) (a : Nat) (ha : a < 9223372036854775808) :
    Calls Tryd.prog 53 #[.pointer (some ⟨p, 0, none⟩), .int .i64 a] w fun e w' => e = .returned (.bool (markG bs a).1) ∧ ArV S w' p m (markG bs a).2 ∧ Upd S w w' := by
  have W := A0.wf
  refine (Mark_s A0 (a : Int) (by omega) (by omega)).mono ?_
  rintro e w' ⟨r, bs', hr, rfl, hp⟩
  unfold markG
  rcases hr with ⟨hu, rfl, rfl⟩ | ⟨pre, b, post, rfl, hu, hq, ⟨hm, rfl, rfl⟩ | ⟨hm, rfl, rfl⟩⟩
  · rw [blkAt_none hu]; exact ⟨rfl, hp⟩
  · rw [hq, blkAt_some W.span (by simp) hu]; dsimp only; rw [if_pos hm]; exact ⟨rfl, hp⟩
  · rw [hq, blkAt_some W.span (by simp) hu]; dsimp only; rw [if_neg (by rw [hm]; simp)]; unfold markF; rw [map_at W.span, hu]; exact ⟨rfl, hp⟩
set_option maxRecDepth 100000 in
theorem meet_any {S : Nat → Prop} {w : World} {p m mb : Nat} {wf : Value} {lim : Nat} {bs : List Blk} {s : Mk} (h : MSt S p m mb wf lim bs s w) (a : Nat) (ha : a < 9223372036854775808) (hm : s.many + 1 ≤ 1048576) :
    Calls Tryd.prog 32 #[.pointer (some ⟨mb, 0, none⟩), .int .i64 a] w fun e w' => (∃ u, e = .returned u) ∧ MSt S p m mb wf lim (markG bs a).2 (meetF lim s (markG bs a).1 a) w' ∧ Upd (fun b => S b ∨ b = mb) w w' := by
  obtain ⟨hA, hK, hn⟩ := h
  obtain ⟨many, left, todo⟩ := s
  dsimp only at hK hm
  have C := Lib.hid (Mark_g hA a ha)
  have c0 := hK.c0
  have HK := Lib.hid hK; have HN := Lib.hid hn; have HM := Lib.hid hm
  clear hA hK hn ha hm
  obtain ⟨r, hr⟩ : ∃ r, (markG bs a).1 = r := ⟨_, rfl⟩
  obtain ⟨bs', hbs⟩ : ∃ bs', (markG bs a).2 = bs' := ⟨_, rfl⟩
  rw [hr, hbs] at C ⊢
  clear hr hbs
  go_enter Tryd.func32, Tryd.ntmps32
  go_wp2_with fail
  refine C.out.mono ?_
  rintro e w1 ⟨rfl, hA1, hU1⟩
  have hK1 := HK.out.upd hU1 HN.out
  have HA1 := Lib.hid hA1; have HU1 := Lib.hid hU1; have HK1 := Lib.hid hK1
  cases r
  · clear hA1 hU1 hK1 c0
    go_wp2
    refine bodyPost_ret (results_none rfl _ _ _) rfl ?_
    exact ⟨⟨_, rfl⟩, ⟨HA1.out, HK1.out, HN.out⟩, HU1.out.mono (fun b _ hb => .inl hb)⟩
  · have k2 := hK1.c2; have k3 := hK1.c3; have k4 := hK1.c4; have k5 := hK1.c5
    have f3 := hK1.fr 3; have f4 := hK1.fr 4; have f5 := hK1.fr 5
    have l1 := hK1.lim2; have l2 := hK1.used
    obtain ⟨n, hnn⟩ : ∃ n, todo.length = n := ⟨_, rfl⟩
    rw [hnn] at k5 l2
    have e1 : IntKind.i64.wrap ((many : Int) + 1) = ((many + 1 : Nat) : Int) := by have := HM.out; rw [IntWalk.i64_in _ ⟨by omega, by omega⟩]; omega
    by_cases hlim : n = lim
    · have hl1 : (n : Int) = (lim : Int) := by omega
      have hl2 : ((n : Int) == (lim : Int)) = true := by simpa using hl1
      have HNN := Lib.hid hnn; have HL := Lib.hid hlim
      clear hA1 hU1 hK1 c0 hnn hlim l1 l2
      go_wp2
      go_quiet (fail)
      go_wp2
      refine bodyPost_ret (results_none rfl _ _ _) rfl ?_
      have em : (many : Int) + 1 = ((many + 1 : Nat) : Int) := by omega
      rw [em]
      have u1 : Upd (fun b => b = mb) w1 (((w1.setCell ⟨mb, 3, none⟩ (.int .i64 (many + 1 : Nat))).drewN nq).setCell ⟨mb, 4, none⟩ (.bool true)) := ((((Upd.refl (fun b => b = mb) w1).setCell (p := ⟨mb, 3, none⟩) (.inl rfl) _).drewN nq).setCell (p := ⟨mb, 4, none⟩) (.inl rfl) _)
      refine ⟨⟨_, rfl⟩, ⟨HA1.out.upd u1 (fun b hb _ e => HN.out (e ▸ hb)), ?_, HN.out⟩, (HU1.out.mono (fun b _ hb => .inl hb)).trans' (u1.mono (fun b _ hb => .inr hb))⟩
      have h1 := ((HK1.out.set3 (many + 1) HM.out).upd ((Upd.refl (fun _ => False) _).drewN nq) (fun h => h)).set4 true
      have e5 : meetF lim ⟨many, left, todo⟩ true a = ⟨many + 1, true, todo⟩ := by
        have := HNN.out; have := HL.out
        simp [meetF, show todo.length = lim by omega]
      rw [e5]; exact h1
    · have hl1 : ¬ (n : Int) = (lim : Int) := by omega
      have hl2 : ((n : Int) == (lim : Int)) = false := by simpa using hl1
      have hl3 : n < lim := by omega
      have hl4 : (n : Int) < 1024 := by omega
      obtain ⟨v0, hv0⟩ := hK1.room n (by omega)
      have fn := hK1.fr (6 + n)
      have e2 : IntKind.i64.wrap ((n : Int) + 1) = ((n + 1 : Nat) : Int) := by rw [IntWalk.i64_in _ ⟨by omega, by omega⟩]; omega
      have HNN := Lib.hid hnn; have HL := Lib.hid hl3
      clear hA1 hU1 hK1 c0 hnn hlim l1 l2
      go_wp2
      go_quiet (fail)
      go_wp2
      go_region
      go_wp2
      go_end0
      have em : (many : Int) + 1 = ((many + 1 : Nat) : Int) := by omega
      have en : (n : Int) + 1 = ((n + 1 : Nat) : Int) := by omega
      rw [em, en]
      have u1 : Upd (fun b => b = mb) w1 ((((w1.setCell ⟨mb, 3, none⟩ (.int .i64 (many + 1 : Nat))).drewN (nq + 1)).setCell ⟨mb, 6 + n, none⟩ (.int .i64 a)).setCell ⟨mb, 5, none⟩ (.int .i64 (n + 1 : Nat))) := (((((Upd.refl (fun b => b = mb) w1).setCell (p := ⟨mb, 3, none⟩) (.inl rfl) _).drewN (nq + 1)).setCell (p := ⟨mb, 6 + n, none⟩) (.inl rfl) _).setCell (p := ⟨mb, 5, none⟩) (.inl rfl) _)
      refine ⟨⟨_, rfl⟩, ⟨HA1.out.upd u1 (fun b hb _ e => HN.out (e ▸ hb)), ?_, HN.out⟩, (HU1.out.mono (fun b _ hb => .inl hb)).trans' (u1.mono (fun b _ hb => .inr hb))⟩
      have h1 := ((HK1.out.set3 (many + 1) HM.out).upd ((Upd.refl (fun _ => False) _).drewN (nq + 1)) (fun h => h)).push a n (n + 1) HNN.out rfl HL.out
      have e5 : meetF lim ⟨many, left, todo⟩ true a = ⟨many + 1, left, todo ++ [a]⟩ := by
        have := HNN.out; have := HL.out
        simp [meetF, show ¬ todo.length = lim by omega]
      rw [e5]; exact h1
end Go.Proofs.YtfpfpopfnbcblaaDoor

/- package mark: what is reached (no program in sight). -/
namespace Go.Proofs.YtfpfpopfnbcblaaDoor

/-- What is reached from the ones of R: U are the blocks that are used, E tells where a block's words point. -/
inductive Rch (U : Nat → Prop) (E : Nat → List Nat) (R : Nat → Prop) : Nat → Prop
  | root {a : Nat} : R a → U a → Rch U E R a
  | step {a b : Nat} : Rch U E R a → b ∈ E a → U b → Rch U E R b
variable {U : Nat → Prop} {E : Nat → List Nat} {R Q : Nat → Prop}
theorem Rch.used {a : Nat} (h : Rch U E R a) : U a := by cases h <;> assumption
theorem Rch.mono (hR : ∀ a, R a → Q a) {a : Nat} (h : Rch U E R a) : Rch U E Q a := by
  induction h with
  | root h hu => exact .root (hR _ h) hu
  | step _ hb hu ih => exact .step ih hb hu
/-- A set that holds the roots, is closed, and holds nothing that is not reached, is what is reached. -/
theorem rch_iff {X : Nat → Prop} (h0 : ∀ a, R a → U a → X a) (h1 : ∀ a b, X a → b ∈ E a → U b → X b) (h2 : ∀ a, X a → Rch U E R a) (a : Nat) : X a ↔ Rch U E R a := by
  refine ⟨h2 a, fun h => ?_⟩
  induction h with
  | root h hu => exact h0 _ h hu
  | step _ hb hu ih => exact h1 _ _ ih hb hu
/-- Of two sets of roots together just what either reaches. -/
theorem rch_or (a : Nat) : Rch U E (fun x => R x ∨ Q x) a ↔ Rch U E R a ∨ Rch U E Q a := by
  constructor
  · intro h
    induction h with
    | root h hu => exact h.imp (fun q => .root q hu) (fun q => .root q hu)
    | step _ hb hu ih => exact ih.imp (fun q => .step q hb hu) (fun q => .step q hb hu)
  · rintro (h | h)
    · exact h.mono fun _ q => .inl q
    · exact h.mono fun _ q => .inr q
/-- What was reached, as roots, reaches nothing else. -/
theorem rch_rch (a : Nat) : Rch U E (fun x => Rch U E Q x ∨ R x) a ↔ Rch U E (fun x => Q x ∨ R x) a := by
  constructor
  · intro h
    induction h with
    | root h hu =>
      rcases h with h | h
      · exact h.mono fun _ q => .inl q
      · exact .root (.inr h) hu
    | step _ hb hu ih => exact .step ih hb hu
  · intro h
    induction h with
    | root h hu =>
      rcases h with h | h
      · exact .root (.inl (.root h hu)) hu
      · exact .root (.inr h) hu
    | step _ hb hu ih => exact .step ih hb hu
/-- Where no block points anywhere, the roots alone are reached. -/
theorem rch_none (a : Nat) : Rch U (fun _ => []) R a ↔ R a ∧ U a := by
  constructor
  · intro h
    cases h with
    | root h hu => exact ⟨h, hu⟩
    | step _ hb _ => cases hb
  · exact fun h => .root h.1 h.2
/-- The marker's state on its way: X is marked, of which `todo` are still to be looked at; `open'` are those marked ones that were not kept. -/
structure MkS (U : Nat → Prop) (E : Nat → List Nat) (M R : Nat → Prop) (X todo : Nat → Prop) (left : Bool) : Prop where
  old : ∀ a, M a → X a
  sub : ∀ a, X a → Rch U E (fun x => M x ∨ R x) a
  td : ∀ a, todo a → X a
  /-- where nothing was left, what is marked and not to be looked at points to marked ones -/
  cl : left = false → ∀ a, X a → ¬ todo a → ∀ b ∈ E a, U b → X b
theorem MkS.done {M X todo : Nat → Prop} (h : MkS U E M R X todo false) (ht : ∀ a, ¬ todo a) (hr : ∀ a, R a → U a → X a) (_ : ∀ a, M a → U a) (a : Nat) : X a ↔ Rch U E (fun x => M x ∨ R x) a :=
  rch_iff (fun a q _ => q.elim (h.old a) (fun q => hr a q (by assumption))) (fun a b ha hb hu => h.cl rfl a ha (ht a) b hb hu) h.sub a
end Go.Proofs.YtfpfpopfnbcblaaDoor

/- package mark: what the marker has done so far (plain). -/
namespace Go.Proofs.YtfpfpopfnbcblaaDoor

/-- What marking leaves as it is. -/
def content (bs : List Blk) : List (Nat × List Nat × Bool) := bs.map fun b => (b.a, b.ws, b.u)
def UsedC (ct : List (Nat × List Nat × Bool)) (a : Nat) : Prop := ∃ ws, (a, ws, true) ∈ ct
def cntM (bs : List Blk) : Nat := (bs.filter (·.m)).length
def MarkX (bs : List Blk) (a : Nat) : Prop := markedAt bs a = true
theorem usedC_iff {bs : List Blk} {a : Nat} : UsedC (content bs) a ↔ usedAt bs (a : Int) = true := by
  rw [usedAt_iff]
  constructor
  · rintro ⟨ws, h⟩
    obtain ⟨b, hb, e⟩ := List.mem_map.1 h
    simp only [Prod.mk.injEq] at e
    exact ⟨b, hb, e.2.2, by omega⟩
  · rintro ⟨b, hb, hu, e⟩
    exact ⟨b.ws, List.mem_map.2 ⟨b, hb, by rw [hu, show b.a = a by omega]⟩⟩
theorem shape_content (bs : List Blk) : shape bs = (content bs).map fun t => (t.1, t.2.1.length, t.2.2) := by
  unfold shape content; rw [List.map_map]; rfl
theorem Span.count : ∀ {l : List Blk} {s t : Nat}, Span s l t → s + 2 * l.length ≤ t
  | [], s, t, h => by have h : s = t := h; subst h; simp
  | b :: l, s, t, ⟨h1, h2, h3⟩ => by
    have := Span.count h3
    simp only [List.length_cons]; omega
theorem markF_content (bs : List Blk) (x : Nat) : content (markF bs x) = content bs := by
  unfold content markF
  rw [List.map_map]
  refine List.map_congr_left fun b _ => ?_
  show ((if b.a = x then (⟨b.a, b.ws, b.u, true⟩ : Blk) else b).a, (if b.a = x then (⟨b.a, b.ws, b.u, true⟩ : Blk) else b).ws, (if b.a = x then (⟨b.a, b.ws, b.u, true⟩ : Blk) else b).u) = _
  split <;> rfl
theorem cntM_le (bs : List Blk) : cntM bs ≤ bs.length := List.length_filter_le _ _
theorem markF_split {pre post : List Blk} {b : Blk} {s t : Nat} (hs : Span s (pre ++ [b] ++ post) t) : markF (pre ++ [b] ++ post) b.a = pre ++ [⟨b.a, b.ws, b.u, true⟩] ++ post := by
  unfold markF; exact map_at hs (fun c => ⟨c.a, c.ws, c.u, true⟩)
/-- What Mark makes of the blocks. -/
theorem markG_law {m : Nat} {bs : List Blk} (hw : Wf m bs) (a : Nat) :
    content (markG bs a).2 = content bs ∧ cntM (markG bs a).2 = cntM bs + (if (markG bs a).1 then 1 else 0) ∧ (∀ x, MarkX (markG bs a).2 x ↔ MarkX bs x ∨ (x = a ∧ UsedC (content bs) a)) ∧ ((markG bs a).1 = true ↔ UsedC (content bs) a ∧ ¬ MarkX bs a) := by
  cases hu : usedAt bs (a : Int)
  · have e : markG bs a = (false, bs) := by unfold markG; rw [blkAt_none hu]
    rw [e]
    have hn : ¬ UsedC (content bs) a := fun h => by rw [usedC_iff, hu] at h; cases h
    refine ⟨rfl, by simp, fun x => ⟨.inl, fun h => h.elim id (fun h => (hn h.2).elim)⟩, ⟨fun h => by simp at h, fun h => (hn h.1).elim⟩⟩
  · have hU : UsedC (content bs) a := usedC_iff.2 hu
    obtain ⟨b, hb, hbu, hq⟩ := usedAt_mem hu
    have hba : b.a = a := by omega
    cases hm : b.m
    · have e : markG bs a = (true, markF bs a) := by
        unfold markG; rw [hq, blkAt_some hw.span hb hbu]; dsimp only; rw [if_neg (by rw [hm]; simp), hba]
      rw [e]
      obtain ⟨pre, post, rfl⟩ := split_mem hb
      have e2 := markF_split hw.span
      rw [hba] at e2
      have hnm : ¬ MarkX (pre ++ [b] ++ post) a := fun h => by
        obtain ⟨c, hc, hcm, hca⟩ := markedAt_iff.1 h
        rw [hw.span.inj hc hb (by omega), hm] at hcm; cases hcm
      refine ⟨markF_content _ _, ?_, fun x => ?_, ⟨fun _ => ⟨hU, hnm⟩, fun _ => rfl⟩⟩
      · show cntM (markF _ a) = _
        rw [e2]
        unfold cntM
        simp [List.filter_append, hm]; omega
      · show MarkX (markF _ a) x ↔ _
        unfold MarkX
        rw [e2, markedAt_iff, markedAt_iff]
        constructor
        · rintro ⟨c, hc, h1, h2⟩
          simp only [List.append_assoc, List.mem_append, List.mem_cons, List.singleton_append] at hc
          rcases hc with hc | rfl | hc
          · exact .inl ⟨c, by simp [hc], h1, h2⟩
          · exact .inr ⟨by dsimp only at h2; omega, hU⟩
          · exact .inl ⟨c, by simp [hc], h1, h2⟩
        · rintro (⟨c, hc, h1, h2⟩ | ⟨rfl, _⟩)
          · simp only [List.append_assoc, List.mem_append, List.mem_cons, List.singleton_append] at hc
            rcases hc with hc | rfl | hc
            · exact ⟨c, by simp [hc], h1, h2⟩
            · rw [hm] at h1; cases h1
            · exact ⟨c, by simp [hc], h1, h2⟩
          · exact ⟨_, List.mem_append.2 (.inl (List.mem_append.2 (.inr (List.mem_singleton.2 rfl)))), rfl, rfl⟩
    · have e : markG bs a = (false, bs) := by
        unfold markG; rw [hq, blkAt_some hw.span hb hbu]; dsimp only; rw [if_pos hm]
      rw [e]
      have hX : MarkX bs a := markedAt_iff.2 ⟨b, hb, hm, hba⟩
      refine ⟨rfl, by simp, fun x => ⟨.inl, fun h => h.elim id (fun h => by rw [h.1]; exact hX)⟩, ⟨fun h => by simp at h, fun h => (h.2 hX).elim⟩⟩
/-- What the marker has done so far: M was marked ahead, R are the roots; ex are marked ones that are still to be looked at beside the kept ones. -/
structure MInv (ct : List (Nat × List Nat × Bool)) (EF : Nat → List Nat) (M R : Nat → Prop) (c0 : Nat) (ex : Nat → Prop) (bs : List Blk) (s : Mk) : Prop where
  same : content bs = ct
  mk' : MkS (UsedC ct) EF M R (MarkX bs) (fun a => a ∈ s.todo ∨ ex a) s.left
  cnt : cntM bs = c0 + s.many
/-- From one state on to a later one. -/
structure Stp (bs : List Blk) (s : Mk) (bs' : List Blk) (s' : Mk) : Prop where
  mono : ∀ x, MarkX bs x → MarkX bs' x
  many : s.many ≤ s'.many
  left1 : s'.left = true → s.left = true ∨ s.many < s'.many
  left2 : s.left = true → s'.left = true
  meas : s'.todo.length + s.many ≤ s.todo.length + s'.many
theorem Stp.refl (bs : List Blk) (s : Mk) : Stp bs s bs s := ⟨fun _ h => h, Nat.le_refl _, .inl, id, Nat.le_refl _⟩
theorem Stp.trans {b1 b2 b3 : List Blk} {s1 s2 s3 : Mk} (h : Stp b1 s1 b2 s2) (k : Stp b2 s2 b3 s3) : Stp b1 s1 b3 s3 :=
  ⟨fun x hx => k.mono x (h.mono x hx), Nat.le_trans h.many k.many, fun hl => (k.left1 hl).elim (fun h2 => (h.left1 h2).imp id (fun h3 => Nat.lt_of_lt_of_le h3 k.many)) (fun h2 => .inr (Nat.lt_of_le_of_lt h.many h2)), fun hl => k.left2 (h.left2 hl), by have := h.meas; have := k.meas; omega⟩
variable {ct : List (Nat × List Nat × Bool)} {EF : Nat → List Nat} {M R : Nat → Prop} {c0 lim m : Nat} {ex : Nat → Prop} {bs : List Blk} {s : Mk}
theorem MInv.many_le (h : MInv ct EF M R c0 ex bs s) (hw : Wf m bs) : s.many + 1 ≤ 1048576 := by
  have h1 := h.cnt; have h2 := cntM_le bs; have h3 := hw.span.count; have h4 := hw.small
  unfold endOf at h3
  split at h3 <;> omega
theorem MInv.meet (h : MInv ct EF M R c0 ex bs s) (hw : Wf m bs) (a : Nat) (ha : UsedC ct a → Rch (UsedC ct) EF (fun x => M x ∨ R x) a) :
    MInv ct EF M R c0 ex (markG bs a).2 (meetF lim s (markG bs a).1 a) ∧ Stp bs s (markG bs a).2 (meetF lim s (markG bs a).1 a) ∧ (UsedC ct a → MarkX (markG bs a).2 a) := by
  obtain ⟨h1, h2, h3, h4⟩ := markG_law hw a
  rw [h.same] at h1 h3 h4
  obtain ⟨r, hr⟩ : ∃ r, (markG bs a).1 = r := ⟨_, rfl⟩
  obtain ⟨bs', hbs⟩ : ∃ bs', (markG bs a).2 = bs' := ⟨_, rfl⟩
  rw [hr] at h2 h4 ⊢
  rw [hbs] at h1 h2 h3 ⊢
  have hX : ∀ x, MarkX bs x → MarkX bs' x := fun x hx => (h3 x).2 (.inl hx)
  have hA : UsedC ct a → MarkX bs' a := fun hu => (h3 a).2 (.inr ⟨rfl, hu⟩)
  have hsub : ∀ x, MarkX bs' x → Rch (UsedC ct) EF (fun x => M x ∨ R x) x := fun x hx => ((h3 x).1 hx).elim (h.mk'.sub x) (fun ⟨e, hu⟩ => by rw [e]; exact ha hu)
  refine ⟨?_, ?_, hA⟩
  · cases r
    · have hsame : ∀ x, MarkX bs' x ↔ MarkX bs x := fun x => ⟨fun hx => ((h3 x).1 hx).elim id (fun ⟨e, hu⟩ => by
        by_cases hm : MarkX bs a
        · rw [e]; exact hm
        · exact absurd (h4.2 ⟨hu, hm⟩) (by simp)), hX x⟩
      refine ⟨h1, ⟨fun x hx => hX x (h.mk'.old x hx), hsub, fun x hx => hX x (h.mk'.td x hx), fun hl x hx hnt b hb hu => hX b (h.mk'.cl hl x ((hsame x).1 hx) hnt b hb hu)⟩, ?_⟩
      show cntM bs' = c0 + s.many
      rw [h2, h.cnt]; simp
    · obtain ⟨hu, hnm⟩ := h4.1 rfl
      by_cases hl : s.todo.length = lim
      · have e : meetF lim s true a = ⟨s.many + 1, true, s.todo⟩ := by simp [meetF, hl]
        rw [e]
        refine ⟨h1, ⟨fun x hx => hX x (h.mk'.old x hx), hsub, fun x hx => hX x (h.mk'.td x hx), fun hl => by cases hl⟩, ?_⟩
        show cntM bs' = c0 + (s.many + 1)
        rw [h2, h.cnt]; simp; omega
      · have e : meetF lim s true a = ⟨s.many + 1, s.left, s.todo ++ [a]⟩ := by simp [meetF, hl]
        rw [e]
        refine ⟨h1, ⟨fun x hx => hX x (h.mk'.old x hx), hsub, fun x hx => ?_, fun hl x hx hnt b hb hub => ?_⟩, ?_⟩
        · simp only [List.mem_append, List.mem_singleton] at hx
          rcases hx with (hx | rfl) | hx
          · exact hX x (h.mk'.td x (.inl hx))
          · exact hA hu
          · exact hX x (h.mk'.td x (.inr hx))
        · simp only [List.mem_append, List.mem_singleton, not_or] at hnt
          have hx' : MarkX bs x := ((h3 x).1 hx).elim id (fun ⟨e, _⟩ => absurd e hnt.1.2)
          exact hX b (h.mk'.cl hl x hx' (fun hh => hh.elim hnt.1.1 hnt.2) b hb hub)
        · show cntM bs' = c0 + (s.many + 1)
          rw [h2, h.cnt]; simp; omega
  · cases r
    · exact ⟨hX, Nat.le_refl _, .inl, id, Nat.le_refl _⟩
    · by_cases hl : s.todo.length = lim
      · rw [show meetF lim s true a = ⟨s.many + 1, true, s.todo⟩ by simp [meetF, hl]]
        exact ⟨hX, by simp, fun _ => .inr (by simp), fun _ => rfl, by simp⟩
      · rw [show meetF lim s true a = ⟨s.many + 1, s.left, s.todo ++ [a]⟩ by simp [meetF, hl]]
        exact ⟨hX, by simp, .inl, id, by simp; omega⟩
end Go.Proofs.YtfpfpopfnbcblaaDoor
