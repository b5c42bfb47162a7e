import Derived.Test.YtlcfkfijomnmnaaGreatDoorQMkMarkBd
namespace Go.Proofs.YtlcfkfijomnmnaaGreatDoor
open Lib (hid)
section
open Go.RowKit
structure MkrAt (mb p : Nat) (wf : Value) (lim many : Nat) (left : Bool) (todo : List Nat) (W : World) : Prop where
  c0 : W.cell? ⟨mb, 0, none⟩ = some (.pointer (some ⟨p, 0, none⟩))
  c1 : W.cell? ⟨mb, 1, none⟩ = some wf
  c2 : W.cell? ⟨mb, 2, none⟩ = some (.int .i64 lim)
  c3 : W.cell? ⟨mb, 3, none⟩ = some (.int .i64 many)
  c4 : W.cell? ⟨mb, 4, none⟩ = some (.bool left)
  c5 : W.cell? ⟨mb, 5, none⟩ = some (.int .i64 todo.length)
  td : ∀ k x : Nat, todo[k]? = some x → W.cell? ⟨mb, 6 + k, none⟩ = some (.int .i64 x)
  room : ∀ k, k < 1024 → ∃ v : Int, W.cell? ⟨mb, 6 + k, none⟩ = some (.int .i64 v)
  fr : ∀ k, W.frozen? ⟨mb, k, none⟩ = false
  lim1 : 1 ≤ lim
  lim2 : lim ≤ 1024
  used : todo.length ≤ lim
  many1 : many ≤ 1048576
theorem MkrAt.lt {mb p lim many : Nat} {wf : Value} {left : Bool} {todo : List Nat} {W : World} (h : MkrAt mb p wf lim many left todo W) : mb < W.heap.size := World.block_lt_of_cell? _ _ h.c0
theorem MkrAt.upd {mb p lim many : Nat} {wf : Value} {left : Bool} {todo : List Nat} {W W' : World} (h : MkrAt mb p wf lim many left todo W) {S : Nat → Prop} (u : Upd S W W') (hS : ¬ S mb) : MkrAt mb p wf lim many left todo W' := by
  have hl := h.lt
  have c : ∀ k : Nat, W'.cell? ⟨mb, k, none⟩ = W.cell? ⟨mb, k, none⟩ := fun k => u.cell hl hS
  have f : ∀ k : Nat, W'.frozen? ⟨mb, k, none⟩ = W.frozen? ⟨mb, k, none⟩ := fun k => by unfold World.frozen?; rw [u.block mb hl hS]
  exact ⟨by rw [c]; exact h.c0, by rw [c]; exact h.c1, by rw [c]; exact h.c2, by rw [c]; exact h.c3, by rw [c]; exact h.c4, by rw [c]; exact h.c5, fun k x hk => by rw [c]; exact h.td k x hk, fun k hk => by obtain ⟨v, hv⟩ := h.room k hk; exact ⟨v, by rw [c]; exact hv⟩, fun k => by rw [f]; exact h.fr k, h.lim1, h.lim2, h.used, h.many1⟩
theorem oth {W : World} {b i j : Nat} {v u : Value} (h : W.cell? ⟨b, i, none⟩ = some v) (hij : i ≠ j) : (W.setCell ⟨b, j, none⟩ u).cell? ⟨b, i, none⟩ = some v := by
  rw [World.cell?_setCell_other]
  · exact h
  · intro e; exact hij (by simp at e)
theorem sam {W : World} {b i : Nat} {v u : Value} (h : W.cell? ⟨b, i, none⟩ = some v) : (W.setCell ⟨b, i, none⟩ u).cell? ⟨b, i, none⟩ = some u := World.cell?_setCell_same' _ _ _ (by rw [h]; rfl)
theorem MkrAt.set3 {mb p lim many : Nat} {wf : Value} {left : Bool} {todo : List Nat} {W : World} (h : MkrAt mb p wf lim many left todo W) (k : Nat) (hk : k ≤ 1048576) : MkrAt mb p wf lim k left todo (W.setCell ⟨mb, 3, none⟩ (.int .i64 (k : Nat))) :=
  ⟨oth h.c0 (by decide), oth h.c1 (by decide), oth h.c2 (by decide), sam h.c3, oth h.c4 (by decide), oth h.c5 (by decide), fun i x hi => oth (h.td i x hi) (by omega), fun i hi => by obtain ⟨v, hv⟩ := h.room i hi; exact ⟨v, oth hv (by omega)⟩, fun i => by rw [World.frozen?_setCell]; exact h.fr i, h.lim1, h.lim2, h.used, hk⟩
theorem MkrAt.set4 {mb p lim many : Nat} {wf : Value} {left : Bool} {todo : List Nat} {W : World} (h : MkrAt mb p wf lim many left todo W) (k : Bool) : MkrAt mb p wf lim many k todo (W.setCell ⟨mb, 4, none⟩ (.bool k)) :=
  ⟨oth h.c0 (by decide), oth h.c1 (by decide), oth h.c2 (by decide), oth h.c3 (by decide), sam h.c4, oth h.c5 (by decide), fun i x hi => oth (h.td i x hi) (by omega), fun i hi => by obtain ⟨v, hv⟩ := h.room i hi; exact ⟨v, oth hv (by omega)⟩, fun i => by rw [World.frozen?_setCell]; exact h.fr i, h.lim1, h.lim2, h.used, h.many1⟩
theorem MkrAt.push {mb p lim many : Nat} {wf : Value} {left : Bool} {todo : List Nat} {W : World} (h : MkrAt mb p wf lim many left todo W) (a n n1 : Nat) (hn : todo.length = n) (hn1 : n1 = n + 1) (hl : n < lim) : MkrAt mb p wf lim many left (todo ++ [a]) ((W.setCell ⟨mb, 6 + n, none⟩ (.int .i64 (a : Nat))).setCell ⟨mb, 5, none⟩ (.int .i64 (n1 : Nat))) := by
  have hl2 := h.lim2
  obtain ⟨v0, hv0⟩ := h.room n (by omega)
  refine ⟨oth (oth h.c0 (by omega)) (by decide), oth (oth h.c1 (by omega)) (by decide), oth (oth h.c2 (by omega)) (by decide), oth (oth h.c3 (by omega)) (by decide), oth (oth h.c4 (by omega)) (by decide), ?_, fun i x hi => ?_, fun i hi => ?_, fun i => by rw [World.frozen?_setCell, World.frozen?_setCell]; exact h.fr i, h.lim1, h.lim2, by simp; omega, h.many1⟩
  · rw [List.length_append, hn]; subst hn1; exact sam (oth h.c5 (by omega))
  · by_cases e : i < n
    · rw [List.getElem?_append_left (by omega)] at hi
      exact oth (oth (h.td i x hi) (by omega)) (by omega)
    · have : i = n := by
        have := (List.getElem?_eq_some_iff.1 hi).1
        simp at this; omega
      subst this
      rw [List.getElem?_append_right (by omega), hn] at hi
      simp at hi
      subst hi
      exact oth (sam hv0) (by omega)
  · by_cases e : i = n
    · subst e; exact ⟨a, oth (sam hv0) (by omega)⟩
    · obtain ⟨v, hv⟩ := h.room i hi
      exact ⟨v, oth (oth hv (by omega)) (by omega)⟩
theorem MkrAt.pop {mb p lim many : Nat} {wf : Value} {left : Bool} {todo : List Nat} {x : Nat} {W : World} (h : MkrAt mb p wf lim many left (todo ++ [x]) W) (n : Nat) (hn : todo.length = n) : MkrAt mb p wf lim many left todo (W.setCell ⟨mb, 5, none⟩ (.int .i64 (n : Nat))) := by
  have hu := h.used
  simp at hu
  refine ⟨oth h.c0 (by decide), oth h.c1 (by decide), oth h.c2 (by decide), oth h.c3 (by decide), oth h.c4 (by decide), ?_, fun i y hi => ?_, fun i hi => by obtain ⟨v, hv⟩ := h.room i hi; exact ⟨v, oth hv (by omega)⟩, fun i => by rw [World.frozen?_setCell]; exact h.fr i, h.lim1, h.lim2, by omega, h.many1⟩
  · rw [hn]; exact sam h.c5
  · have hlt := (List.getElem?_eq_some_iff.1 hi).1
    exact oth (h.td i y (by rw [List.getElem?_append_left hlt]; exact hi)) (by omega)
structure Mk where
  many : Nat
  left : Bool
  todo : List Nat
def meetF (lim : Nat) (s : Mk) (r : Bool) (a : Nat) : Mk := if r then (if s.todo.length = lim then ⟨s.many + 1, true, s.todo⟩ else ⟨s.many + 1, s.left, s.todo ++ [a]⟩) else s
structure MSt (S : Nat → Prop) (p m mb : Nat) (wf : Value) (lim : Nat) (bs : List Blk) (s : Mk) (W : World) : Prop where
  ar : ArV S W p m bs
  mr : MkrAt mb p wf lim s.many s.left s.todo W
  nS : ¬ S mb
theorem Mark_g {S : Nat → Prop} {w : World} {p m : Nat} {bs : List Blk} (A0 : ArV S w p m bs) (a : Nat) (ha : a < 9223372036854775808) :
    Calls Tryz.prog 128 #[.pointer (some ⟨p, 0, none⟩), .int .i64 a] w fun e w' => e = .returned (.bool (markG bs a).1) ∧ ArV S w' p m (markG bs a).2 ∧ Upd S w w' := by
  have W := A0.wf
  refine (Mark_s A0 (a : Int) (by omega) (by omega)).mono ?_
  rintro e w' ⟨r, bs', hr, rfl, hp⟩
  unfold markG
  rcases hr with ⟨hu, rfl, rfl⟩ | ⟨pre, b, post, rfl, hu, hq, ⟨hm, rfl, rfl⟩ | ⟨hm, rfl, rfl⟩⟩
  · rw [blkAt_none hu]; exact ⟨rfl, hp⟩
  · rw [hq, blkAt_some W.span (by simp) hu]; dsimp only; rw [if_pos hm]; exact ⟨rfl, hp⟩
  · rw [hq, blkAt_some W.span (by simp) hu]; dsimp only; rw [if_neg (by rw [hm]; simp)]; unfold markF; rw [map_at W.span, hu]; exact ⟨rfl, hp⟩
set_option maxRecDepth 100000 in
theorem meet_any {S : Nat → Prop} {w : World} {p m mb : Nat} {wf : Value} {lim : Nat} {bs : List Blk} {s : Mk} (h : MSt S p m mb wf lim bs s w) (a : Nat) (ha : a < 9223372036854775808) (hm : s.many + 1 ≤ 1048576) :
    Calls Tryz.prog 94 #[.pointer (some ⟨mb, 0, none⟩), .int .i64 a] w fun e w' => (∃ u, e = .returned u) ∧ MSt S p m mb wf lim (markG bs a).2 (meetF lim s (markG bs a).1 a) w' ∧ Upd (fun b => S b ∨ b = mb) w w' := by
  obtain ⟨hA, hK, hn⟩ := h
  obtain ⟨many, left, todo⟩ := s
  dsimp only at hK hm
  have C := hid (Mark_g hA a ha)
  have c0 := hK.c0
  have HK := hid hK; have HN := hid hn; have HM := hid hm
  clear hA hK hn ha hm
  obtain ⟨r, hr⟩ : ∃ r, (markG bs a).1 = r := ⟨_, rfl⟩
  obtain ⟨bs', hbs⟩ : ∃ bs', (markG bs a).2 = bs' := ⟨_, rfl⟩
  rw [hr, hbs] at C ⊢
  clear hr hbs
  go_enter Tryz.func94, Tryz.ntmps94
  go_wp2_with fail
  refine C.out.mono ?_
  rintro e w1 ⟨rfl, hA1, hU1⟩
  have hK1 := HK.out.upd hU1 HN.out
  have HA1 := hid hA1; have HU1 := hid hU1; have HK1 := hid hK1
  cases r
  · clear hA1 hU1 hK1 c0
    go_wp2
    refine bodyPost_ret (results_none rfl _ _ _) rfl ?_
    exact ⟨⟨_, rfl⟩, ⟨HA1.out, HK1.out, HN.out⟩, HU1.out.mono (fun b _ hb => .inl hb)⟩
  · have k2 := hK1.c2; have k3 := hK1.c3; have k4 := hK1.c4; have k5 := hK1.c5
    have f3 := hK1.fr 3; have f4 := hK1.fr 4; have f5 := hK1.fr 5
    have l1 := hK1.lim2; have l2 := hK1.used
    obtain ⟨n, hnn⟩ : ∃ n, todo.length = n := ⟨_, rfl⟩
    rw [hnn] at k5 l2
    have e1 : IntKind.i64.wrap ((many : Int) + 1) = ((many + 1 : Nat) : Int) := by have := HM.out; rw [IntWalk.i64_in _ ⟨by omega, by omega⟩]; omega
    by_cases hlim : n = lim
    · have hl1 : (n : Int) = (lim : Int) := by omega
      have hl2 : ((n : Int) == (lim : Int)) = true := by simpa using hl1
      have HNN := hid hnn; have HL := hid hlim
      clear hA1 hU1 hK1 c0 hnn hlim l1 l2
      go_wp2
      go_quiet (fail)
      go_wp2
      refine bodyPost_ret (results_none rfl _ _ _) rfl ?_
      have em : (many : Int) + 1 = ((many + 1 : Nat) : Int) := by omega
      rw [em]
      have u1 : Upd (fun b => b = mb) w1 (((w1.setCell ⟨mb, 3, none⟩ (.int .i64 (many + 1 : Nat))).drewN nq).setCell ⟨mb, 4, none⟩ (.bool true)) := ((((Upd.refl (fun b => b = mb) w1).setCell (p := ⟨mb, 3, none⟩) (.inl rfl) _).drewN nq).setCell (p := ⟨mb, 4, none⟩) (.inl rfl) _)
      refine ⟨⟨_, rfl⟩, ⟨HA1.out.upd u1 (fun b hb _ e => HN.out (e ▸ hb)), ?_, HN.out⟩, (HU1.out.mono (fun b _ hb => .inl hb)).trans' (u1.mono (fun b _ hb => .inr hb))⟩
      have h1 := ((HK1.out.set3 (many + 1) HM.out).upd ((Upd.refl (fun _ => False) _).drewN nq) (fun h => h)).set4 true
      have e5 : meetF lim ⟨many, left, todo⟩ true a = ⟨many + 1, true, todo⟩ := by
        have := HNN.out; have := HL.out
        simp [meetF, show todo.length = lim by omega]
      rw [e5]; exact h1
    · have hl1 : ¬ (n : Int) = (lim : Int) := by omega
      have hl2 : ((n : Int) == (lim : Int)) = false := by simpa using hl1
      have hl3 : n < lim := by omega
      have hl4 : (n : Int) < 1024 := by omega
      obtain ⟨v0, hv0⟩ := hK1.room n (by omega)
      have fn := hK1.fr (6 + n)
      have e2 : IntKind.i64.wrap ((n : Int) + 1) = ((n + 1 : Nat) : Int) := by rw [IntWalk.i64_in _ ⟨by omega, by omega⟩]; omega
      have HNN := hid hnn; have HL := hid hl3
      clear hA1 hU1 hK1 c0 hnn hlim l1 l2
      go_wp2
      go_quiet (fail)
      go_wp2
      go_region
      go_wp2
      go_end0
      have em : (many : Int) + 1 = ((many + 1 : Nat) : Int) := by omega
      have en : (n : Int) + 1 = ((n + 1 : Nat) : Int) := by omega
      rw [em, en]
      have u1 : Upd (fun b => b = mb) w1 ((((w1.setCell ⟨mb, 3, none⟩ (.int .i64 (many + 1 : Nat))).drewN (nq + 1)).setCell ⟨mb, 6 + n, none⟩ (.int .i64 a)).setCell ⟨mb, 5, none⟩ (.int .i64 (n + 1 : Nat))) := (((((Upd.refl (fun b => b = mb) w1).setCell (p := ⟨mb, 3, none⟩) (.inl rfl) _).drewN (nq + 1)).setCell (p := ⟨mb, 6 + n, none⟩) (.inl rfl) _).setCell (p := ⟨mb, 5, none⟩) (.inl rfl) _)
      refine ⟨⟨_, rfl⟩, ⟨HA1.out.upd u1 (fun b hb _ e => HN.out (e ▸ hb)), ?_, HN.out⟩, (HU1.out.mono (fun b _ hb => .inl hb)).trans' (u1.mono (fun b _ hb => .inr hb))⟩
      have h1 := ((HK1.out.set3 (many + 1) HM.out).upd ((Upd.refl (fun _ => False) _).drewN (nq + 1)) (fun h => h)).push a n (n + 1) HNN.out rfl HL.out
      have e5 : meetF lim ⟨many, left, todo⟩ true a = ⟨many + 1, left, todo ++ [a]⟩ := by
        have := HNN.out; have := HL.out
        simp [meetF, show ¬ todo.length = lim by omega]
      rw [e5]; exact h1
end
section
inductive Rch (U : Nat → Prop) (E : Nat → List Nat) (R : Nat → Prop) : Nat → Prop
  | root {a : Nat} : R a → U a → Rch U E R a
  | step {a b : Nat} : Rch U E R a → b ∈ E a → U b → Rch U E R b
variable {U : Nat → Prop} {E : Nat → List Nat} {R Q : Nat → Prop}
theorem Rch.used {a : Nat} (h : Rch U E R a) : U a := by cases h <;> assumption
theorem Rch.mono (hR : ∀ a, R a → Q a) {a : Nat} (h : Rch U E R a) : Rch U E Q a := by
  induction h with
  | root h hu => exact .root (hR _ h) hu
  | step _ hb hu ih => exact .step ih hb hu
theorem rch_iff {X : Nat → Prop} (h0 : ∀ a, R a → U a → X a) (h1 : ∀ a b, X a → b ∈ E a → U b → X b) (h2 : ∀ a, X a → Rch U E R a) (a : Nat) : X a ↔ Rch U E R a := by
  refine ⟨h2 a, fun h => ?_⟩
  induction h with
  | root h hu => exact h0 _ h hu
  | step _ hb hu ih => exact h1 _ _ ih hb hu
structure MkS (U : Nat → Prop) (E : Nat → List Nat) (M R : Nat → Prop) (X todo : Nat → Prop) (left : Bool) : Prop where
  old : ∀ a, M a → X a
  sub : ∀ a, X a → Rch U E (fun x => M x ∨ R x) a
  td : ∀ a, todo a → X a
  cl : left = false → ∀ a, X a → ¬ todo a → ∀ b ∈ E a, U b → X b
theorem MkS.done {M X todo : Nat → Prop} (h : MkS U E M R X todo false) (ht : ∀ a, ¬ todo a) (hr : ∀ a, R a → U a → X a) (_ : ∀ a, M a → U a) (a : Nat) : X a ↔ Rch U E (fun x => M x ∨ R x) a :=
  rch_iff (fun a q _ => q.elim (h.old a) (fun q => hr a q (by assumption))) (fun a b ha hb hu => h.cl rfl a ha (ht a) b hb hu) h.sub a
end
section
def content (bs : List Blk) : List (Nat × List Nat × Bool) := bs.map fun b => (b.a, b.ws, b.u)
def UsedC (ct : List (Nat × List Nat × Bool)) (a : Nat) : Prop := ∃ ws, (a, ws, true) ∈ ct
def cntM (bs : List Blk) : Nat := (bs.filter (·.m)).length
def MarkX (bs : List Blk) (a : Nat) : Prop := markedAt bs a = true
theorem usedC_iff {bs : List Blk} {a : Nat} : UsedC (content bs) a ↔ usedAt bs (a : Int) = true := by
  rw [usedAt_iff]
  constructor
  · rintro ⟨ws, h⟩
    obtain ⟨b, hb, e⟩ := List.mem_map.1 h
    simp only [Prod.mk.injEq] at e
    exact ⟨b, hb, e.2.2, by omega⟩
  · rintro ⟨b, hb, hu, e⟩
    exact ⟨b.ws, List.mem_map.2 ⟨b, hb, by rw [hu, show b.a = a by omega]⟩⟩
theorem shape_content (bs : List Blk) : shape bs = (content bs).map fun t => (t.1, t.2.1.length, t.2.2) := by
  unfold shape content; rw [List.map_map]; rfl
theorem Span.count : ∀ {l : List Blk} {s t : Nat}, Span s l t → s + 2 * l.length ≤ t
  | [], s, t, h => by have h : s = t := h; subst h; simp
  | b :: l, s, t, ⟨h1, h2, h3⟩ => by
    have := Span.count h3
    simp only [List.length_cons]; omega
theorem markF_content (bs : List Blk) (x : Nat) : content (markF bs x) = content bs := by
  unfold content markF
  rw [List.map_map]
  refine List.map_congr_left fun b _ => ?_
  show ((if b.a = x then (⟨b.a, b.ws, b.u, true⟩ : Blk) else b).a, (if b.a = x then (⟨b.a, b.ws, b.u, true⟩ : Blk) else b).ws, (if b.a = x then (⟨b.a, b.ws, b.u, true⟩ : Blk) else b).u) = _
  split <;> rfl
theorem cntM_le (bs : List Blk) : cntM bs ≤ bs.length := List.length_filter_le _ _
theorem markF_split {pre post : List Blk} {b : Blk} {s t : Nat} (hs : Span s (pre ++ [b] ++ post) t) : markF (pre ++ [b] ++ post) b.a = pre ++ [⟨b.a, b.ws, b.u, true⟩] ++ post := by
  unfold markF; exact map_at hs (fun c => ⟨c.a, c.ws, c.u, true⟩)
theorem markG_law {m : Nat} {bs : List Blk} (hw : Wf m bs) (a : Nat) :
    content (markG bs a).2 = content bs ∧ cntM (markG bs a).2 = cntM bs + (if (markG bs a).1 then 1 else 0) ∧ (∀ x, MarkX (markG bs a).2 x ↔ MarkX bs x ∨ (x = a ∧ UsedC (content bs) a)) ∧ ((markG bs a).1 = true ↔ UsedC (content bs) a ∧ ¬ MarkX bs a) := by
  cases hu : usedAt bs (a : Int)
  · have e : markG bs a = (false, bs) := by unfold markG; rw [blkAt_none hu]
    rw [e]
    have hn : ¬ UsedC (content bs) a := fun h => by rw [usedC_iff, hu] at h; cases h
    refine ⟨rfl, by simp, fun x => ⟨.inl, fun h => h.elim id (fun h => (hn h.2).elim)⟩, ⟨fun h => by simp at h, fun h => (hn h.1).elim⟩⟩
  · have hU : UsedC (content bs) a := usedC_iff.2 hu
    obtain ⟨b, hb, hbu, hq⟩ := usedAt_mem hu
    have hba : b.a = a := by omega
    cases hm : b.m
    · have e : markG bs a = (true, markF bs a) := by
        unfold markG; rw [hq, blkAt_some hw.span hb hbu]; dsimp only; rw [if_neg (by rw [hm]; simp), hba]
      rw [e]
      obtain ⟨pre, post, rfl⟩ := split_mem hb
      have e2 := markF_split hw.span
      rw [hba] at e2
      have hnm : ¬ MarkX (pre ++ [b] ++ post) a := fun h => by
        obtain ⟨c, hc, hcm, hca⟩ := markedAt_iff.1 h
        rw [hw.span.inj hc hb (by omega), hm] at hcm; cases hcm
      refine ⟨markF_content _ _, ?_, fun x => ?_, ⟨fun _ => ⟨hU, hnm⟩, fun _ => rfl⟩⟩
      · show cntM (markF _ a) = _
        rw [e2]
        unfold cntM
        simp [List.filter_append, hm]; omega
      · show MarkX (markF _ a) x ↔ _
        unfold MarkX
        rw [e2, markedAt_iff, markedAt_iff]
        constructor
        · rintro ⟨c, hc, h1, h2⟩
          simp only [List.append_assoc, List.mem_append, List.mem_cons, List.singleton_append] at hc
          rcases hc with hc | rfl | hc
          · exact .inl ⟨c, by simp [hc], h1, h2⟩
          · exact .inr ⟨by dsimp only at h2; omega, hU⟩
          · exact .inl ⟨c, by simp [hc], h1, h2⟩
        · rintro (⟨c, hc, h1, h2⟩ | ⟨rfl, _⟩)
          · simp only [List.append_assoc, List.mem_append, List.mem_cons, List.singleton_append] at hc
            rcases hc with hc | rfl | hc
            · exact ⟨c, by simp [hc], h1, h2⟩
            · rw [hm] at h1; cases h1
            · exact ⟨c, by simp [hc], h1, h2⟩
          · exact ⟨_, List.mem_append.2 (.inl (List.mem_append.2 (.inr (List.mem_singleton.2 rfl)))), rfl, rfl⟩
    · have e : markG bs a = (false, bs) := by
        unfold markG; rw [hq, blkAt_some hw.span hb hbu]; dsimp only; rw [if_pos hm]
      rw [e]
      have hX : MarkX bs a := markedAt_iff.2 ⟨b, hb, hm, hba⟩
      refine ⟨rfl, by simp, fun x => ⟨.inl, fun h => h.elim id (fun h => by rw [h.1]; exact hX)⟩, ⟨fun h => by simp at h, fun h => (h.2 hX).elim⟩⟩
structure MInv (ct : List (Nat × List Nat × Bool)) (EF : Nat → List Nat) (M R : Nat → Prop) (c0 : Nat) (ex : Nat → Prop) (bs : List Blk) (s : Mk) : Prop where
  same : content bs = ct
  mk' : MkS (UsedC ct) EF M R (MarkX bs) (fun a => a ∈ s.todo ∨ ex a) s.left
  cnt : cntM bs = c0 + s.many
structure Stp (bs : List Blk) (s : Mk) (bs' : List Blk) (s' : Mk) : Prop where
  mono : ∀ x, MarkX bs x → MarkX bs' x
  many : s.many ≤ s'.many
  left1 : s'.left = true → s.left = true ∨ s.many < s'.many
  left2 : s.left = true → s'.left = true
  meas : s'.todo.length + s.many ≤ s.todo.length + s'.many
theorem Stp.refl (bs : List Blk) (s : Mk) : Stp bs s bs s := ⟨fun _ h => h, Nat.le_refl _, .inl, id, Nat.le_refl _⟩
theorem Stp.trans {b1 b2 b3 : List Blk} {s1 s2 s3 : Mk} (h : Stp b1 s1 b2 s2) (k : Stp b2 s2 b3 s3) : Stp b1 s1 b3 s3 :=
  ⟨fun x hx => k.mono x (h.mono x hx), Nat.le_trans h.many k.many, fun hl => (k.left1 hl).elim (fun h2 => (h.left1 h2).imp id (fun h3 => Nat.lt_of_lt_of_le h3 k.many)) (fun h2 => .inr (Nat.lt_of_le_of_lt h.many h2)), fun hl => k.left2 (h.left2 hl), by have := h.meas; have := k.meas; omega⟩
variable {ct : List (Nat × List Nat × Bool)} {EF : Nat → List Nat} {M R : Nat → Prop} {c0 lim m : Nat} {ex : Nat → Prop} {bs : List Blk} {s : Mk}
theorem MInv.many_le (h : MInv ct EF M R c0 ex bs s) (hw : Wf m bs) : s.many + 1 ≤ 1048576 := by
  have h1 := h.cnt; have h2 := cntM_le bs; have h3 := hw.span.count; have h4 := hw.small
  unfold endOf at h3
  split at h3 <;> omega
theorem MInv.meet (h : MInv ct EF M R c0 ex bs s) (hw : Wf m bs) (a : Nat) (ha : UsedC ct a → Rch (UsedC ct) EF (fun x => M x ∨ R x) a) :
    MInv ct EF M R c0 ex (markG bs a).2 (meetF lim s (markG bs a).1 a) ∧ Stp bs s (markG bs a).2 (meetF lim s (markG bs a).1 a) ∧ (UsedC ct a → MarkX (markG bs a).2 a) := by
  obtain ⟨h1, h2, h3, h4⟩ := markG_law hw a
  rw [h.same] at h1 h3 h4
  obtain ⟨r, hr⟩ : ∃ r, (markG bs a).1 = r := ⟨_, rfl⟩
  obtain ⟨bs', hbs⟩ : ∃ bs', (markG bs a).2 = bs' := ⟨_, rfl⟩
  rw [hr] at h2 h4 ⊢
  rw [hbs] at h1 h2 h3 ⊢
  have hX : ∀ x, MarkX bs x → MarkX bs' x := fun x hx => (h3 x).2 (.inl hx)
  have hA : UsedC ct a → MarkX bs' a := fun hu => (h3 a).2 (.inr ⟨rfl, hu⟩)
  have hsub : ∀ x, MarkX bs' x → Rch (UsedC ct) EF (fun x => M x ∨ R x) x := fun x hx => ((h3 x).1 hx).elim (h.mk'.sub x) (fun ⟨e, hu⟩ => by rw [e]; exact ha hu)
  refine ⟨?_, ?_, hA⟩
  · cases r
    · have hsame : ∀ x, MarkX bs' x ↔ MarkX bs x := fun x => ⟨fun hx => ((h3 x).1 hx).elim id (fun ⟨e, hu⟩ => by
        by_cases hm : MarkX bs a
        · rw [e]; exact hm
        · exact absurd (h4.2 ⟨hu, hm⟩) (by simp)), hX x⟩
      refine ⟨h1, ⟨fun x hx => hX x (h.mk'.old x hx), hsub, fun x hx => hX x (h.mk'.td x hx), fun hl x hx hnt b hb hu => hX b (h.mk'.cl hl x ((hsame x).1 hx) hnt b hb hu)⟩, ?_⟩
      show cntM bs' = c0 + s.many
      rw [h2, h.cnt]; simp
    · obtain ⟨hu, hnm⟩ := h4.1 rfl
      by_cases hl : s.todo.length = lim
      · have e : meetF lim s true a = ⟨s.many + 1, true, s.todo⟩ := by simp [meetF, hl]
        rw [e]
        refine ⟨h1, ⟨fun x hx => hX x (h.mk'.old x hx), hsub, fun x hx => hX x (h.mk'.td x hx), fun hl => by cases hl⟩, ?_⟩
        show cntM bs' = c0 + (s.many + 1)
        rw [h2, h.cnt]; simp; omega
      · have e : meetF lim s true a = ⟨s.many + 1, s.left, s.todo ++ [a]⟩ := by simp [meetF, hl]
        rw [e]
        refine ⟨h1, ⟨fun x hx => hX x (h.mk'.old x hx), hsub, fun x hx => ?_, fun hl x hx hnt b hb hub => ?_⟩, ?_⟩
        · simp only [List.mem_append, List.mem_singleton] at hx
          rcases hx with (hx | rfl) | hx
          · exact hX x (h.mk'.td x (.inl hx))
          · exact hA hu
          · exact hX x (h.mk'.td x (.inr hx))
        · simp only [List.mem_append, List.mem_singleton, not_or] at hnt
          have hx' : MarkX bs x := ((h3 x).1 hx).elim id (fun ⟨e, _⟩ => absurd e hnt.1.2)
          exact hX b (h.mk'.cl hl x hx' (fun hh => hh.elim hnt.1.1 hnt.2) b hb hub)
        · show cntM bs' = c0 + (s.many + 1)
          rw [h2, h.cnt]; simp; omega
  · cases r
    · exact ⟨hX, Nat.le_refl _, .inl, id, Nat.le_refl _⟩
    · by_cases hl : s.todo.length = lim
      · rw [show meetF lim s true a = ⟨s.many + 1, true, s.todo⟩ by simp [meetF, hl]]
        exact ⟨hX, by simp, fun _ => .inr (by simp), fun _ => rfl, by simp⟩
      · rw [show meetF lim s true a = ⟨s.many + 1, s.left, s.todo ++ [a]⟩ by simp [meetF, hl]]
        exact ⟨hX, by simp, .inl, id, by simp; omega⟩
end
section
open Go.RowKit
def U64New (W W' : World) (v : Value) (xs : List Nat) : Prop := ∃ ao c, v = .slice ao xs.length c ∧ (xs = [] ∨ ∃ b, ao = some ⟨b, 0, none⟩ ∧ W.heap.size ≤ b ∧ b < W'.heap.size ∧ ∀ k x : Nat, xs[k]? = some x → W'.cell? ((⟨b, 0, none⟩ : Addr).add k) = some (.int .u64 x))
theorem U64New.at {U : Nat → Prop} {W W' W'' : World} {v : Value} {xs : List Nat} (h : U64New W W' v xs) (hU : ∀ b, U b → b < W.heap.size) (u : Upd U W' W'') : U64At W'' v xs := by
  obtain ⟨ao, c, rfl, h⟩ := h
  refine ⟨ao, c, rfl, h.imp id ?_⟩
  rintro ⟨b, rfl, h1, h2, h3⟩
  exact ⟨b, 0, rfl, fun k x hk => u.cell_some (h3 k x hk) (fun h => by have := hU _ h; rw [Addr.add_lit] at this; dsimp only at this; omega)⟩
structure MEnv (S : Nat → Prop) (p m mb : Nat) (fw : FuncId) (capw : Array Value) (ct : List (Nat × List Nat × Bool)) (E0 : Nat → List Nat) (w0 : World) : Prop where
  hS : ∀ b, S b → b < w0.heap.size
  mbl : mb < w0.heap.size
  enter : ∀ args w, (callFunc fw args).run Tryz.prog w = .ok (.enter fw args) w
  words : ∀ bs W, content bs = ct → ArV S W p m bs → Upd (fun b => S b ∨ b = mb) w0 W → ∀ x, UsedC ct x → Calls Tryz.prog fw (#[.int .i64 (x : Nat)] ++ capw) W fun e W' => ∃ v, e = .returned v ∧ U64New W W' v (E0 x) ∧ Below W.heap.size W W'
  tab : ∀ W, Upd (fun b => S b ∨ b = mb) w0 W → WTab W ∧ TzTab W
  e64 : ∀ x y, y ∈ E0 x → y < 18446744073709551616
  len : ∀ x, (E0 x).length ≤ 1000000
def EF (E0 : Nat → List Nat) (x : Nat) : List Nat := (E0 x).filterMap toF
structure DSt (S : Nat → Prop) (p m mb : Nat) (fw : FuncId) (capw : Array Value) (lim : Nat) (ct : List (Nat × List Nat × Bool)) (E0 : Nat → List Nat) (M R : Nat → Prop) (c0 : Nat) (w0 : World) (ex : Nat → Prop) (bs : List Blk) (s : Mk) (W : World) : Prop where
  st : MSt S p m mb (.func (.func fw) #[] capw) lim bs s W
  inv : MInv ct (EF E0) M R c0 ex bs s
  upd : Upd (fun b => S b ∨ b = mb) w0 W
variable {S : Nat → Prop} {p m mb : Nat} {fw : FuncId} {capw : Array Value} {lim : Nat} {ct : List (Nat × List Nat × Bool)} {E0 : Nat → List Nat} {M R : Nat → Prop} {c0 : Nat} {w0 : World} {ex : Nat → Prop} {bs : List Blk} {s : Mk}
theorem MEnv.at {W : World} (V : MEnv S p m mb fw capw ct E0 w0) (u : Upd (fun b => S b ∨ b = mb) w0 W) : MEnv S p m mb fw capw ct E0 W :=
  ⟨fun b hb => Nat.lt_of_lt_of_le (V.hS b hb) u.size, Nat.lt_of_lt_of_le V.mbl u.size, V.enter, fun bs W' hc ha hu => V.words bs W' hc ha (u.trans' hu), fun W' hu => V.tab W' (u.trans' hu), V.e64, V.len⟩
theorem DSt.at {W : World} (h : DSt S p m mb fw capw lim ct E0 M R c0 w0 ex bs s W) : DSt S p m mb fw capw lim ct E0 M R c0 W ex bs s W := ⟨h.st, h.inv, Upd.refl _ _⟩
theorem DSt.from {W W' : World} (h : DSt S p m mb fw capw lim ct E0 M R c0 W ex bs s W') (u : Upd (fun b => S b ∨ b = mb) w0 W) : DSt S p m mb fw capw lim ct E0 M R c0 w0 ex bs s W' := ⟨h.st, h.inv, u.trans' h.upd⟩
theorem DSt.away {W W' : World} (h : DSt S p m mb fw capw lim ct E0 M R c0 w0 ex bs s W) (V : MEnv S p m mb fw capw ct E0 w0) {T : Nat → Prop} (u : Upd T W W') (hT : ∀ b, T b → w0.heap.size ≤ b) : DSt S p m mb fw capw lim ct E0 M R c0 w0 ex bs s W' := by
  refine ⟨⟨h.st.ar.upd u (fun b hb _ ht => by have := V.hS b hb; have := hT b ht; omega), h.st.mr.upd u (fun ht => by have := V.mbl; have := hT _ ht; omega), h.st.nS⟩, h.inv, ?_⟩
  exact ⟨u.os.trans h.upd.os, u.tape.trans h.upd.tape, u.output.trans h.upd.output, Nat.le_trans h.upd.size u.size, fun k hk hn => by
    rw [u.block k (Nat.lt_of_lt_of_le hk h.upd.size) (fun ht => by have := hT _ ht; omega), h.upd.block k hk hn]⟩
theorem upd_keepsFrom {U : Nat → Prop} {B : Nat} {W W' : World} (u : Upd U W W') (hU : ∀ b, U b → b < B) : KeepsFrom B W W' :=
  ⟨u.size, fun k o hB hk _ => u.heap_some hk (fun h => by have := hU k h; omega)⟩
theorem upd_putObj (W : World) (l : Nat) (o' : Obj) : Upd (fun b => b = l) W (W.putObj l o') := (Upd.refl _ W).grown (grownBy_putObj' W l o') (fun k e => by cases e; exact .inl rfl)
theorem DSt.old {W : World} (h : DSt S p m mb fw capw lim ct E0 M R c0 w0 ex bs s W) (V : MEnv S p m mb fw capw ct E0 w0) : ∀ b, (S b ∨ b = mb) → b < W.heap.size := fun b hb => by
  have h1 := h.upd.size
  rcases hb with hb | hb
  · exact Nat.lt_of_lt_of_le (V.hS b hb) h1
  · rw [hb]; exact Nat.lt_of_lt_of_le V.mbl h1
theorem DSt.then {W W' : World} (h : DSt S p m mb fw capw lim ct E0 M R c0 w0 ex bs s W) (hb : Below W.heap.size W W') : DSt S p m mb fw capw lim ct E0 M R c0 w0 ex bs s W' :=
  ⟨⟨h.st.ar.below hb, h.st.mr.upd (Upd.of_below (S := fun _ => False) hb) (fun h => h), h.st.nS⟩, h.inv, h.upd.trans' (Upd.of_below hb)⟩
theorem MInv.close {EE : Nat → List Nat} {x : Nat} (h : MInv ct EE M R c0 (fun y => ex y ∨ y = x) bs s) (hx : ∀ b ∈ EE x, UsedC ct b → MarkX bs b) : MInv ct EE M R c0 ex bs s :=
  ⟨h.same, ⟨h.mk'.old, h.mk'.sub, fun a ha => h.mk'.td a (ha.imp id .inl), fun hl a ha hn b hb hu => by
    by_cases e : a = x
    · subst e; exact hx b hb hu
    · exact h.mk'.cl hl a ha (fun hh => hh.elim (fun q => hn (.inl q)) (fun q => q.elim (fun q => hn (.inr q)) e)) b hb hu⟩, h.cnt⟩
theorem MInv.pop {EE : Nat → List Nat} {x many : Nat} {left : Bool} {todo : List Nat} (h : MInv ct EE M R c0 ex bs ⟨many, left, todo ++ [x]⟩) : MInv ct EE M R c0 (fun y => ex y ∨ y = x) bs ⟨many, left, todo⟩ :=
  ⟨h.same, ⟨h.mk'.old, h.mk'.sub, fun a ha => h.mk'.td a (by
    rcases ha with ha | ha | rfl
    · exact .inl (List.mem_append.2 (.inl ha))
    · exact .inr ha
    · exact .inl (List.mem_append.2 (.inr (List.mem_singleton.2 rfl)))), fun hl a ha hn b hb hu => h.mk'.cl hl a ha (fun hh => by
    rcases hh with hh | hh
    · rcases List.mem_append.1 hh with q | q
      · exact hn (.inl q)
      · exact hn (.inr (.inr (List.mem_singleton.1 q)))
    · exact hn (.inr (.inl hh))) b hb hu⟩, h.cnt⟩
theorem toF_lt {xs : List Nat} {a : Nat} (h : a ∈ xs.filterMap toF) : a < 9223372036854775808 := by
  obtain ⟨x, _, hx⟩ := List.mem_filterMap.1 h
  have := (toF_pos hx).2.1
  omega
theorem each_meet (V : MEnv S p m mb fw capw ct E0 w0) {W0 : World} (h : DSt S p m mb fw capw lim ct E0 M R c0 w0 ex bs s W0) (v : Value) (xs : List Nat) (hv : ∀ W, Upd (fun b => S b ∨ b = mb) W0 W → U64At W v xs) (hx : ∀ x ∈ xs, x < 18446744073709551616) (hl : xs.length ≤ 1000000)
    (hr : ∀ a ∈ xs.filterMap toF, UsedC ct a → Rch (UsedC ct) (EF E0) (fun x => M x ∨ R x) a) :
    Calls Tryz.prog 61 #[v, .func (.func 94) #[.pointer (some ⟨mb, 0, none⟩)] #[]] W0 fun e W => (∃ u, e = .returned u) ∧ ∃ bs' s', DSt S p m mb fw capw lim ct E0 M R c0 w0 ex bs' s' W ∧ Stp bs s bs' s' ∧ (∀ a ∈ xs.filterMap toF, UsedC ct a → MarkX bs' a) ∧ Upd (fun b => S b ∨ b = mb) W0 W := by
  refine (each_any (f := 94) (bnd := #[.pointer (some ⟨mb, 0, none⟩)]) (cap := #[]) (fun _ _ => by kernel_rfl) v xs (fun pre W => ∃ bs' s', DSt S p m mb fw capw lim ct E0 M R c0 w0 ex bs' s' W ∧ Stp bs s bs' s' ∧ (∀ a ∈ pre, UsedC ct a → MarkX bs' a) ∧ Upd (fun b => S b ∨ b = mb) W0 W) ?_ hx hl ?_ W0 ⟨bs, s, h, .refl _ _, fun a ha => by simp at ha, Upd.refl _ _⟩).mono fun e W hp => hp
  · rintro pre W ⟨bs', s', hd, _, _, hu⟩
    exact ⟨hv W hu, (V.tab W hd.upd).1⟩
  · rintro pre a W ha ⟨bs', s', hd, hst, hpre, hu⟩
    have hw := hd.st.ar.wf
    obtain ⟨q1, q2, q3⟩ := hd.inv.meet (lim := lim) hw a (hr a ha)
    refine (meet_any hd.st a (toF_lt ha) (hd.inv.many_le hw)).mono ?_
    rintro e W' ⟨he, hms, hu'⟩
    refine ⟨he, _, _, ⟨hms, q1, hd.upd.trans' hu'⟩, hst.trans q2, fun b hb hub => ?_, hu.trans' hu'⟩
    rcases List.mem_append.1 hb with hb | hb
    · exact q2.mono b (hpre b hb hub)
    · rw [List.mem_singleton] at hb; subst hb; exact q3 hub
def cellNat (W : World) (b i : Nat) : Nat := match W.cell? ⟨b, i, none⟩ with
  | some (.int _ n) => n.toNat
  | _ => 0
def measD (mb : Nat) (W : World) : Nat := 2097152 + cellNat W mb 5 - 2 * cellNat W mb 3
theorem cellNat_of {W : World} {b i n : Nat} (h : W.cell? ⟨b, i, none⟩ = some (.int .i64 (n : Nat))) : cellNat W b i = n := by unfold cellNat; rw [h]; simp
theorem measD_of {wf : Value} {W : World} (h : MSt S p m mb wf lim bs s W) : measD mb W = 2097152 + s.todo.length - 2 * s.many := by
  unfold measD; rw [cellNat_of h.mr.c5, cellNat_of h.mr.c3]
theorem Stp.pop {bs' : List Blk} {s' : Mk} {many x : Nat} {left : Bool} {todo : List Nat} (h : Stp bs ⟨many, left, todo⟩ bs' s') : Stp bs ⟨many, left, todo ++ [x]⟩ bs' s' :=
  ⟨h.mono, h.many, h.left1, h.left2, by have := h.meas; simp only [List.length_append, List.length_cons, List.length_nil]; dsimp only at this; omega⟩
theorem measD_lt {wf : Value} {bs' : List Blk} {s' : Mk} {many x : Nat} {left : Bool} {todo : List Nat} {W W' : World} (h : MSt S p m mb wf lim bs ⟨many, left, todo ++ [x]⟩ W) (h' : MSt S p m mb wf lim bs' s' W') (hm : s'.many + 1 ≤ 1048576) (k : Stp bs ⟨many, left, todo⟩ bs' s') : measD mb W' < measD mb W := by
  rw [measD_of h, measD_of h']
  have h1 := k.meas; have h2 := k.many
  simp only [List.length_append, List.length_cons, List.length_nil]
  dsimp only at h1 h2
  omega
set_option maxRecDepth 100000 in
set_option maxHeartbeats 4000000 in
theorem drain_any (V : MEnv S p m mb fw capw ct E0 w0) {W0 : World} (h : DSt S p m mb fw capw lim ct E0 M R c0 w0 ex bs s W0) :
    Calls Tryz.prog 95 #[.pointer (some ⟨mb, 0, none⟩)] W0 fun e W => (∃ u, e = .returned u) ∧ ∃ bs' s', DSt S p m mb fw capw lim ct E0 M R c0 w0 ex bs' s' W ∧ Stp bs s bs' s' ∧ s'.todo = [] := by
  have HV := hid V; have H0 := hid h
  clear V h
  go_enter Tryz.func95, Tryz.ntmps95
  go_wp2
  go_loopw [] (fun wr => ∃ bs' s', DSt S p m mb fw capw lim ct E0 M R c0 w0 ex bs' s' wr ∧ Stp bs s bs' s') (fun wr => measD mb wr)
  case atStart => exact ⟨bs, s, H0.out, .refl _ _⟩
  case round =>
    obtain ⟨bs1, ⟨many, left, todo⟩, hd, hst⟩ := hrel
    have hK := hd.st.mr
    have k5 := hK.c5
    have hmany := hd.inv.many_le hd.st.ar.wf
    have hused := hK.used; have hlim := hK.lim2
    have HD := hid hd; have HST := hid hst; have HMY := hid hmany
    rcases List.eq_nil_or_concat todo with rfl | ⟨t0, x, rfl⟩
    · clear hd hst hK hmany hused hlim
      go_wp2
      go_end0
      exact ⟨⟨_, rfl⟩, bs1, _, HD.out, HST.out, rfl⟩
    · rw [List.concat_eq_append] at *
      obtain ⟨n, hn⟩ : ∃ n, t0.length = n := ⟨_, rfl⟩
      have hl : (t0 ++ [x]).length = n + 1 := by simp [hn]
      dsimp only at k5 hused hlim hmany
      rw [hl] at k5 hused
      have k1 := hK.c1
      have kx := hK.td n x (by rw [List.getElem?_append_right (by omega), hn]; simp)
      have f5 := hK.fr 5
      have hpos : (0 : Int) < ((n + 1 : Nat) : Int) := by omega
      have e1 : IntKind.i64.wrap (((n + 1 : Nat) : Int) - 1) = (n : Int) := by rw [IntWalk.i64_in _ ⟨by omega, by omega⟩]; omega
      have hn6 : (n : Int) < 1024 := by omega
      have HN := hid hn
      clear hd hst hK hmany hused hlim hl hn
      go_wp2
      have hd1 : DSt S p m mb fw capw lim ct E0 M R c0 w0 (fun y => ex y ∨ y = x) bs1 ⟨many, left, t0⟩ (wr.setCell ⟨mb, 5, none⟩ (.int .i64 (n : Nat))).drew := by
        have hd := HD.out
        have u1 : Upd (fun b => b = mb) wr (wr.setCell ⟨mb, 5, none⟩ (.int .i64 (n : Nat))).drew := ((Upd.refl (fun b => b = mb) wr).setCell (p := ⟨mb, 5, none⟩) (.inl rfl) _).drew
        exact ⟨⟨hd.st.ar.upd u1 (fun b hb _ e => hd.st.nS (e ▸ hb)), (hd.st.mr.pop n HN.out).upd ((Upd.refl (fun _ => False) _).drew) (fun h => h), hd.st.nS⟩, hd.inv.pop, hd.upd.trans' (u1.mono (fun b _ hb => .inr hb))⟩
      have hxX : MarkX bs1 x := HD.out.inv.mk'.td x (.inl (List.mem_append.2 (.inr (List.mem_singleton.2 rfl))))
      obtain ⟨W1, hW1⟩ : ∃ W1, wr.setCell ⟨mb, 5, none⟩ (.int .i64 (n : Nat)) = W1 := ⟨_, rfl⟩
      rw [hW1] at hd1 ⊢
      have hrx := hd1.inv.mk'.sub x hxX
      have C := hid (HV.out.words bs1 W1.drew hd1.inv.same hd1.st.ar hd1.upd x hrx.used)
      have KZ0 := hid (show W1.drew.cell? ⟨mb, 1, none⟩ = some (.func (.func fw) #[] capw) ∧ W1.drew.cell? ⟨mb, 5, none⟩ = some (.int .i64 (n : Nat)) ∧ W1.drew.cell? ⟨mb, 6 + n, none⟩ = some (.int .i64 (x : Nat)) from by
        refine ⟨hd1.st.mr.c1, by have := hd1.st.mr.c5; rwa [show (⟨many, left, t0⟩ : Mk).todo.length = n from HN.out] at this, ?_⟩
        show W1.cell? _ = _
        rw [← hW1]
        exact oth kx (by omega))
      have HD1 := hid hd1; have HRX := hid hrx; have HW1 := hid hW1
      have hen := HV.out.enter
      clear hd1 hxX hrx hW1 k1 k5 kx f5
      have x1 := KZ0.out.1; have x5 := KZ0.out.2.1; have x6 := KZ0.out.2.2
      go_region_with
        (first
          | (have _q := KZ1.out
             go_at_call 61
             refine C2.out.mono ?_
             rintro e w3 ⟨⟨u, rfl⟩, hp⟩
             have HP := hid hp
             clear hp C C2 _q
             skip)
          | (refine C.out.mono ?_
             rintro e w2 ⟨v, rfl, hv, hb⟩
             have HVV := hid hv; have HB2 := hid hb
             have KZ1 := hid (show w2.cell? ⟨mb, 1, none⟩ = some (.func (.func fw) #[] capw) ∧ w2.cell? ⟨mb, 5, none⟩ = some (.int .i64 (n : Nat)) ∧ w2.cell? ⟨mb, 6 + n, none⟩ = some (.int .i64 (x : Nat)) from ⟨below_cell hb KZ0.out.1, below_cell hb KZ0.out.2.1, below_cell hb KZ0.out.2.2⟩)
             have hd2 := DSt.then HD1.out hb
             have C2 := hid (each_meet HV.out hd2 v (E0 x) (fun W u => hv.at (HD1.out.old HV.out) u) (HV.out.e64 x) (HV.out.len x) (fun a ha hu => .step HRX.out ha hu))
             clear hv hb hd2
             skip))
      all_goals
        go_wp2
        go_roundw
        case rel =>
          obtain ⟨bs2, s2, h1, h2, h3, _⟩ := HP.out
          exact ⟨bs2, s2, ⟨h1.st, h1.inv.close h3, h1.upd⟩, HST.out.trans h2.pop⟩
        case measure =>
          obtain ⟨bs2, s2, h1, h2, h3, _⟩ := HP.out
          exact measD_lt HD.out.st h1.st (h1.inv.many_le h1.st.ar.wf) h2
end
end Go.Proofs.YtlcfkfijomnmnaaGreatDoor
