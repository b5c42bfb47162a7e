/- package match: what it tells (no program in sight). -/
import Derived.Test.YtoamhiaagaaaaaaGreatDoorQMaTabP
import Derived.Test.YtoamhiaagaaaaaaGreatDoorQRoGetP
namespace Go.Proofs.YtoamhiaagaaaaaaGreatDoor
open Go.RowKit

theorem boolOf (P : Prop) : ∃ r : Bool, (r = true ↔ P) := by
  by_cases h : P
  · exact ⟨true, by simp [h]⟩
  · exact ⟨false, by simp [h]⟩
/-- The family of a given heap type. -/
def fam (k : Int) : Int × Int :=
  if k = 1 ∨ k = 2 ∨ k = 3 ∨ k = 4 ∨ k = 5 ∨ k = 6 then (1, 6) else if k = 7 ∨ k = 8 then (7, 8) else if k = 9 ∨ k = 10 then (9, 10) else if k = 11 ∨ k = 12 then (11, 12) else (0, 0)
def belowG (a b t1 b1 t2 : Int) : Bool := if t1 ≠ t2 then false else if a = b ∨ a = b1 ∨ b = t1 then true else if b = 2 then decide (a = 3 ∨ a = 4 ∨ a = 5) else false
def belowB (a b : Int) : Bool := belowG a b (fam a).1 (fam a).2 (fam b).1
def kindK (k : Int) : Int := if k = 1 then 7 else if k = 2 then 4 else if k = 3 then 5 else 0
def ClosedP (n : Nat) (h : Hp) : Prop := GivenP h ∨ NumC n h
/-- What is reached by Supers. -/
inductive UpTo (ts : List Sb) (i : Nat) : Nat → Prop
  | refl : UpTo ts i i
  | step {j k : Nat} {s : Sb} {h : Hp} : UpTo ts i j → ts[j]? = some s → h ∈ s.sups → h.n = (k : Int) → UpTo ts i k
def Hits (ts : List Sb) (b : Hp) (j : Nat) : Prop := (b.k = 15 ∧ b.n = (j : Int)) ∨ (b.k ≠ 15 ∧ ∃ s, ts[j]? = some s ∧ belowB (kindK s.k) b.k = true)
def ClimbP (ts : List Sb) (i : Nat) (b : Hp) : Prop := ∃ j, UpTo ts i j ∧ Hits ts b j
def HeapP (ts : List Sb) (a b : Hp) : Prop :=
  ClosedP ts.length a ∧ ClosedP ts.length b ∧ (a = b ∨ (a.k = 15 ∧ ClimbP ts a.n.toNat b) ∨ (a.k ≠ 15 ∧ b.k = 15 ∧ ∃ s, ts[b.n.toNat]? = some s ∧ a.k = (fam (kindK s.k)).2) ∨ (a.k ≠ 15 ∧ b.k ≠ 15 ∧ belowB a.k b.k = true))
def NeverP (v : Vl) : Prop := v = ⟨3, false, 0, 0⟩
def ProperP (n : Nat) (v : Vl) : Prop := (v.k = 3 ∧ (NeverP v ∨ ClosedP n ⟨v.h, v.n⟩)) ∨ (v.k ≠ 3 ∧ 1 ≤ v.k ∧ v.k ≤ 4 ∧ v = ⟨v.k, false, 0, 0⟩)
def ValP (ts : List Sb) (a b : Vl) : Prop :=
  ProperP ts.length a ∧ ProperP ts.length b ∧ (a.k = 4 ∨ (a.k = b.k ∧ (a.k ≠ 3 ∨ NeverP a ∨ ((a.nl = true → b.nl = true) ∧ HeapP ts ⟨a.h, a.n⟩ ⟨b.h, b.n⟩))))
/-- Two lists, one by one. -/
def ListP {α : Type} (R : α → α → Prop) (l m : List α) : Prop := l.length = m.length ∧ ∀ (i : Nat) x y, l[i]? = some x → m[i]? = some y → R x y
def StoreP (ts : List Sb) (p q : Int) (a b : Vl) : Prop := (p = 0 ∨ p = 8 ∨ p = 16) ∧ p = q ∧ ValP ts a b
def FieldP (ts : List Sb) (a b : Fl) : Prop := a.m = b.m ∧ StoreP ts a.p b.p a.v b.v ∧ (a.m = true → StoreP ts b.p a.p b.v a.v)
def FieldsP (ts : List Sb) (l m : List Fl) : Prop := m.length ≤ l.length ∧ ∀ (i : Nat) x y, l[i]? = some x → m[i]? = some y → FieldP ts x y
def CompP (ts : List Sb) (a b : Sb) : Prop :=
  a.k = b.k ∧ ((a.k = 1 ∧ ListP (ValP ts) b.ps a.ps ∧ ListP (ValP ts) a.rs b.rs) ∨ (a.k = 2 ∧ FieldsP ts a.fs b.fs) ∨ (a.k = 3 ∧ a.fs.length = 1 ∧ b.fs.length = 1 ∧ FieldsP ts a.fs b.fs))
def kindAt (ts : List Sb) (h : Hp) : Int := if h.k = 15 then kindK ((ts[h.n.toNat]?).getD ⟨false, [], 0, [], [], []⟩).k else h.k

variable {ts : List Sb}
/-- A table: all types closed. -/
def Clo (ts : List Sb) : Prop := ∀ y ∈ ts, TypC ts.length y
theorem TabC.clo {gs : List (List Sb)} (h : TabC gs) : Clo (tabL gs) := fun y hy => by rw [tabL_len]; exact h.typ hy
theorem UpTo.trans {i j k : Nat} (h : UpTo ts i j) (h2 : UpTo ts j k) : UpTo ts i k := by
  induction h2 with
  | refl => exact h
  | step _ h3 h4 h5 ih => exact ih.step h3 h4 h5
theorem UpTo.lt {i j : Nat} (hc : Clo ts) (hi : i < ts.length) (h : UpTo ts i j) : j < ts.length := by
  induction h with
  | refl => exact hi
  | step _ h3 h4 h5 _ =>
    have := ((hc _ (List.mem_of_getElem? h3)).sups _ h4).2
    omega
/-- What is reached, when all that was met was looked at. -/
theorem up_in {i : Nat} {Z : Nat → Prop} (h0 : Z i) (h1 : ∀ (j k : Nat) s h, Z j → ts[j]? = some s → h ∈ s.sups → h.n = (k : Int) → Z k) {j : Nat} (hj : UpTo ts i j) : Z j := by
  induction hj with
  | refl => exact h0
  | step _ h3 h4 h5 ih => exact h1 _ _ _ _ ih h3 h4 h5
end Go.Proofs.YtoamhiaagaaaaaaGreatDoor

/- geoderef04, geoderef09: what the reference tells, and that it is what package roll tells (no program in sight). -/
namespace Go.Proofs.YtoamhiaagaaaaaaGreatDoor
open Go.RowKit

/-- The heap types of value types, of a type. -/
def refsV (l : List Vl) : List Hp := (l.filter fun v => decide (v.k = 3)).map fun v => ⟨v.h, v.n⟩
def valsR (x : Sb) : List Vl := x.ps ++ x.rs ++ x.fs.map Fl.v
def heapsR (x : Sb) : List Hp := x.sups ++ refsV (valsR x)
theorem refsV_append (l m : List Vl) : refsV (l ++ m) = refsV l ++ refsV m := by simp [refsV]
theorem refsV_snoc (l : List Vl) (v : Vl) : refsV (l ++ [v]) = if v.k = 3 then refsV l ++ [⟨v.h, v.n⟩] else refsV l := by
  rw [refsV_append]
  by_cases h : v.k = 3
  · simp [refsV, h]
  · simp [refsV, h]
theorem refsV_take {l : List Vl} {i : Nat} {v : Vl} (hv : l[i]? = some v) : refsV (l.take (i + 1)) = if v.k = 3 then refsV (l.take i) ++ [⟨v.h, v.n⟩] else refsV (l.take i) := by
  rw [List.take_add_one, hv]
  exact refsV_snoc _ v
theorem refsV_at {l : List Vl} {i : Nat} {v : Vl} (hv : l[i]? = some v) (hk : v.k = 3) : (refsV l)[(refsV (l.take i)).length]? = some ⟨v.h, v.n⟩ := by
  have h1 := refsV_take hv
  rw [if_pos hk] at h1
  have h2 : refsV l = refsV (l.take (i + 1)) ++ refsV (l.drop (i + 1)) := by rw [← refsV_append, List.take_append_drop]
  rw [h2, h1, List.append_assoc, List.getElem?_append_right (Nat.le_refl _), Nat.sub_self]
  rfl
theorem refsV_len (l : List Vl) : (refsV l).length ≤ l.length := by
  unfold refsV; rw [List.length_map]; exact List.length_filter_le _ _
theorem heapsR_len (x : Sb) : (heapsR x).length ≤ cnt x := by
  unfold heapsR valsR cnt
  have h1 := refsV_len (x.ps ++ x.rs ++ x.fs.map Fl.v)
  simp at h1 ⊢; omega
/-- D, of all heap types of a type. -/
theorem ds_heaps {D : Hp → Prop} {x : Sb} : DS D x ↔ ∀ h ∈ heapsR x, D h := by
  have hv : ∀ {l : List Vl}, (∀ v ∈ l, DV D v) ↔ ∀ h ∈ refsV l, D h := fun {l} => by
    constructor
    · intro h y hy
      obtain ⟨v, hv, rfl⟩ := List.mem_map.1 hy
      obtain ⟨h1, h2⟩ := List.mem_filter.1 hv
      exact h v h1 (by simpa using h2)
    · intro h v hv hk
      exact h _ (List.mem_map.2 ⟨v, List.mem_filter.2 ⟨hv, by simpa using hk⟩, rfl⟩)
  unfold heapsR valsR
  constructor
  · rintro ⟨h1, h2, h3, h4⟩ y hy
    rw [refsV_append, refsV_append] at hy
    simp only [List.mem_append] at hy
    rcases hy with hy | (hy | hy) | hy
    · exact h1 y hy
    · exact hv.1 h2 y hy
    · exact hv.1 h3 y hy
    · exact (hv (l := x.fs.map Fl.v)).1 (fun v hv => by obtain ⟨f, hf, rfl⟩ := List.mem_map.1 hv; exact h4 f hf) y hy
  · intro h
    rw [refsV_append, refsV_append] at h
    simp only [List.mem_append] at h
    exact ⟨fun y hy => h y (.inl hy), hv.2 fun y hy => h y (.inr (.inl (.inl hy))), hv.2 fun y hy => h y (.inr (.inl (.inr hy))), fun f hf => (hv (l := x.fs.map Fl.v)).2 (fun y hy => h y (.inr (.inr hy))) f.v (List.mem_map.2 ⟨f, hf, rfl⟩)⟩
def canB (ids : List Int) (gn : Nat) (h : Hp) : Bool := !decide (h.k = 13) || decide (h.n < ids.length) || decide (h.n - ids.length < gn)
theorem canB_iff {ids : List Int} {gn : Nat} {h : Hp} : canB ids gn h = true ↔ CanH ids gn h := by
  unfold canB CanH
  by_cases h1 : h.k = 13 <;> by_cases h2 : h.n < ids.length <;> simp [h1, h2]
/-- May a type be rolled up? -/
def rollB (ids : List Int) (gn : Nat) (x : Sb) : Bool := plainS x && (heapsR x).all (canB ids gn)
def rollR (ids : List Int) (g : List Sb) : Option (List Sb) := if g.all (rollB ids g.length) = true then some (g.map (mapP (shutP ids))) else none
theorem rollR_eq (ids : List Int) (g : List Sb) : rollR ids g = if g.all plainS = true ∧ (rollG ids g).2 = true then some (rollG ids g).1 else none := by
  unfold rollR
  rw [rollG_map]
  have : g.all (rollB ids g.length) = true ↔ (g.all plainS = true ∧ (rollG ids g).2 = true) := by
    simp only [List.all_eq_true, rollB, Bool.and_eq_true]
    constructor
    · intro h
      exact ⟨fun x hx => (h x hx).1, rollG_can2 fun x hx => ds_heaps.2 fun y hy => canB_iff.1 ((h x hx).2 y hy)⟩
    · rintro ⟨h1, h2⟩ x hx
      exact ⟨h1 x hx, fun y hy => canB_iff.2 (ds_heaps.1 (rollG_can h2 x hx) y hy)⟩
  by_cases hc : g.all (rollB ids g.length) = true
  · rw [if_pos hc, if_pos (this.1 hc)]
  · rw [if_neg hc, if_neg (fun h => hc (this.2 h))]
/-- What the reference's Add answers. -/
def addR (rs : List (List Sb)) (ids : List Int) (g : List Sb) : List Int × Int × List (List Sb) :=
  if ¬ ids.all (inTab rs) = true then ([], 2, rs)
  else match rollR ids g with
    | none => ([], 2, rs)
    | some r => match findG rs r with
      | some i => (ids ++ (List.range r.length).map (fun k : Nat => (firstOf rs i : Int) + (k : Int)), 0, rs)
      | none => if 10000 < total rs + r.length then ([], 5, rs) else (ids ++ (List.range r.length).map (fun k : Nat => (total rs : Int) + (k : Int)), 0, rs ++ [r])
/-- The reference's groups: the table's, and empty ones besides. -/
def RefOk (gs rs : List (List Sb)) : Prop := rs.filter (fun g => decide (g ≠ [])) = gs
theorem refOk_nil : RefOk [] [] := rfl
theorem total_filter (rs : List (List Sb)) : total (rs.filter fun g => decide (g ≠ [])) = total rs := by
  induction rs with
  | nil => rfl
  | cons g rs ih =>
    by_cases hg : g = []
    · subst hg
      rw [List.filter_cons_of_neg (by simp), ih]; simp [total]
    · rw [List.filter_cons_of_pos (by simpa using hg)]
      simp only [total, List.map_cons, List.sum_cons] at ih ⊢
      omega
theorem RefOk.total {gs rs : List (List Sb)} (h : RefOk gs rs) : total rs = total gs := by rw [← h, total_filter]
theorem RefOk.inTab {gs rs : List (List Sb)} (h : RefOk gs rs) : inTab rs = inTab gs := by
  funext i; unfold Proofs.YtoamhiaagaaaaaaGreatDoor.inTab; rw [h.total]
theorem find_filter (rs : List (List Sb)) {r : List Sb} (hr : r ≠ []) : (findG rs r).map (firstOf rs) = (findG (rs.filter fun g => decide (g ≠ [])) r).map (firstOf (rs.filter fun g => decide (g ≠ []))) := by
  have h0 : ∀ (a : List Sb) (l : List (List Sb)) (i : Nat), firstOf (a :: l) (i + 1) = a.length + firstOf l i := fun a l i => by simp [firstOf, Proofs.YtoamhiaagaaaaaaGreatDoor.total]
  have hc : ∀ (a : List Sb) (l : List (List Sb)), (findG (a :: l) r).map (firstOf (a :: l)) = if a = r then some 0 else ((findG l r).map (firstOf l)).map (a.length + ·) := fun a l => by
    unfold findG
    rw [List.findIdx?_cons]
    by_cases ha : a = r
    · rw [if_pos ha]; simp [ha, firstOf, Proofs.YtoamhiaagaaaaaaGreatDoor.total]
    · rw [if_neg ha, if_neg (by simpa using ha), Option.map_map, Option.map_map]
      congr 1
  induction rs with
  | nil => rfl
  | cons a rs ih =>
    by_cases ha : a = []
    · subst ha
      rw [List.filter_cons_of_neg (by simp), hc, if_neg (Ne.symm hr), ih, Option.map_map]
      congr 1
      funext i; simp
    · rw [List.filter_cons_of_pos (by simpa using ha), hc, hc, ih]
theorem addR_eq {gs rs : List (List Sb)} (h : RefOk gs rs) (hok : TabOk gs) (ids : List Int) (g : List Sb) :
    (addR rs ids g).1 = (addG gs ids g).1 ∧ (addR rs ids g).2.1 = (addG gs ids g).2.1 ∧ RefOk (addG gs ids g).2.2 (addR rs ids g).2.2 := by
  unfold addR addG
  rw [h.inTab, rollR_eq]
  by_cases h1 : g.all plainS = true
  · by_cases h2 : ids.all (inTab gs) = true
    · by_cases h3 : (rollG ids g).2 = true
      · rw [if_neg (by simpa using h2), if_pos ⟨h1, h3⟩, if_neg (by simpa using h1), if_neg (by simpa using h2), if_neg (by simpa using h3)]
        dsimp only
        obtain ⟨r, hr⟩ : ∃ r, (rollG ids g).1 = r := ⟨_, rfl⟩
        have hl : r.length = g.length := by rw [← hr, rollG_len]
        rw [hr]
        unfold enterG
        by_cases hn : r = []
        · subst hn
          have hnone : findG gs [] = none := by
            unfold findG
            rw [List.findIdx?_eq_none_iff]
            intro x hx
            have := hok.ne x hx
            simpa using this
          have ht := hok.total
          have hg : g = [] := List.length_eq_zero_iff.1 hl.symm
          subst hg
          rw [hnone]
          dsimp only
          rw [if_neg (show ¬ 10000 < total gs + ([] : List Sb).length by simp; omega), if_pos rfl]
          cases hf : findG rs [] with
          | some i => exact ⟨by simp, rfl, h⟩
          | none =>
            dsimp only
            rw [if_neg (by rw [h.total]; simp; omega)]
            refine ⟨by simp, rfl, ?_⟩
            unfold RefOk at h ⊢
            rw [List.filter_append]
            simpa using h
        · have hf := find_filter rs hn
          rw [h] at hf
          cases hg1 : findG gs r with
          | some j =>
            rw [hg1] at hf
            cases hr1 : findG rs r with
            | none => rw [hr1] at hf; simp at hf
            | some i =>
              rw [hr1] at hf
              simp at hf
              dsimp only
              simp only [ne_eq, not_true, if_false]
              rw [hl, hf]
              exact ⟨by first | rfl | trivial, by first | rfl | trivial, h⟩
          | none =>
            rw [hg1] at hf
            cases hr1 : findG rs r with
            | some i => rw [hr1] at hf; simp at hf
            | none =>
              dsimp only
              rw [h.total]
              by_cases hfull : 10000 < total gs + r.length
              · rw [if_pos hfull, if_pos hfull]
                simp only [ne_eq]
                exact ⟨rfl, rfl, h⟩
              · rw [if_neg hfull, if_neg hfull, if_neg hn]
                simp only [ne_eq, not_true, if_false]
                rw [hl]
                refine ⟨by first | rfl | trivial, by first | rfl | trivial, ?_⟩
                unfold RefOk at h ⊢
                rw [List.filter_append, h]
                simp [hn]
      · rw [if_neg (by simpa using h2), if_neg (fun q => h3 q.2), if_neg (by simpa using h1), if_neg (by simpa using h2), if_pos (by simpa using h3)]
        exact ⟨rfl, rfl, h⟩
    · rw [if_pos (by simpa using h2), if_neg (by simpa using h1), if_pos (by simpa using h2)]
      exact ⟨rfl, rfl, h⟩
  · have hn : ¬ (g.all plainS = true ∧ (rollG ids g).2 = true) := fun q => h1 q.1
    rw [if_neg hn]
    have e : (if ¬ g.all plainS = true then (([], 2, gs) : List Int × Int × List (List Sb)) else if ¬ ids.all (inTab gs) = true then ([], 2, gs) else if ¬ (rollG ids g).2 = true then ([], 2, gs) else if (enterG gs (rollG ids g).1).2.1 ≠ 0 then ([], (enterG gs (rollG ids g).1).2.1, gs) else (ids ++ (List.range g.length).map (fun k : Nat => (enterG gs (rollG ids g).1).1 + (k : Int)), 0, (enterG gs (rollG ids g).1).2.2)) = ([], 2, gs) := if_pos h1
    rw [e]
    dsimp only
    split
    · exact ⟨rfl, rfl, h⟩
    · exact ⟨rfl, rfl, h⟩
theorem tabL_filter (rs : List (List Sb)) : tabL (rs.filter fun g => decide (g ≠ [])) = tabL rs := by
  refine snocRec (P := fun rs => tabL (rs.filter fun g => decide (g ≠ [])) = tabL rs) rfl (fun rs g ih => ?_) rs
  rw [List.filter_append, tabL_snoc]
  by_cases hg : g = []
  · subst hg
    rw [List.filter_cons_of_neg (by simp), List.filter_nil, List.append_nil, ih]; simp
  · rw [List.filter_cons_of_pos (by simpa using hg), List.filter_nil, tabL_snoc, ih, total_filter]
theorem RefOk.tabL {gs rs : List (List Sb)} (h : RefOk gs rs) : tabL rs = tabL gs := by rw [← h, tabL_filter]
theorem RefOk.mem {gs rs : List (List Sb)} (h : RefOk gs rs) {g : List Sb} (hg : g ∈ rs) : g = [] ∨ g ∈ gs := by
  by_cases hn : g = []
  · exact .inl hn
  · exact .inr (by rw [← h, List.mem_filter]; exact ⟨hg, by simpa using hn⟩)
end Go.Proofs.YtoamhiaagaaaaaaGreatDoor

/- geoderef09: a table of the reference in memory; Len, Find. -/
namespace Go.Proofs.YtoamhiaagaaaaaaGreatDoor
open Go.RowKit

/-- A table of the reference at t: its groups are rs; it reads the blocks R besides. -/
structure RefAt (R : Nat → Prop) (w : World) (t : Nat) (rs : List (List Sb)) : Prop where
  ex : ∃ a c, ∃ vs : List Value, w.heap[t]? = some (.cells #[.slice a rs.length c] 35 (0, 0)) ∧ vs.length = rs.length ∧ (∀ w'', Upd (fun b => ¬ R b) w w'' → RowAt w'' 1 (.slice a rs.length c) rs.length vs) ∧ ∀ (i : Nat) v g, vs[i]? = some v → rs[i]? = some g → ∀ w'', Upd (fun b => ¬ R b) w w'' → GrpAt w'' v g
  rt : ¬ R t
  lt : ∀ k, R k → k < w.heap.size
theorem RefAt.tlt {R : Nat → Prop} {w : World} {t : Nat} {rs : List (List Sb)} (h : RefAt R w t rs) : t < w.heap.size := by
  obtain ⟨_, _, _, h, _⟩ := h.ex; exact heap_lt h
theorem RefAt.grps {R : Nat → Prop} {w : World} {t : Nat} {rs : List (List Sb)} (h : RefAt R w t rs) : ∃ a c, w.heap[t]? = some (.cells #[.slice a rs.length c] 35 (0, 0)) ∧ ∀ w'', Upd (fun b => ¬ R b) w w'' → GrpsAt w'' (.slice a rs.length c) rs := by
  obtain ⟨a, c, vs, h1, h2, h3, h4⟩ := h.ex
  exact ⟨a, c, h1, fun w'' u => ⟨vs, h2, h3 w'' u, fun i v g hv hg => h4 i v g hv hg w'' u⟩⟩
theorem RefAt.keep {R : Nat → Prop} {w w' : World} {t : Nat} {rs : List (List Sb)} (h : RefAt R w t rs) (u : Upd (fun b => ¬ R b ∧ b ≠ t) w w') : RefAt R w' t rs := by
  obtain ⟨a, c, vs, h1, h2, h3, h4⟩ := h.ex
  exact ⟨⟨a, c, vs, u.heap_some h1 (fun q => q.2 rfl), h2, fun w'' u'' => h3 w'' ((u.mono fun _ _ q => q.1).trans' u''), fun i v g hv hg w'' u'' => h4 i v g hv hg w'' ((u.mono fun _ _ q => q.1).trans' u'')⟩, h.rt, fun k hk => Nat.lt_of_lt_of_le (h.lt k hk) u.size⟩
theorem RefAt.below {R : Nat → Prop} {w w' : World} {t : Nat} {rs : List (List Sb)} (h : RefAt R w t rs) (u : Below w.heap.size w w') : RefAt R w' t rs := h.keep ((Upd.of_below u : Upd (fun _ => False) w w').mono fun _ _ q => q.elim)
theorem firstOf_succ {rs : List (List Sb)} {i : Nat} {g : List Sb} (h : rs[i]? = some g) : firstOf rs (i + 1) = firstOf rs i + g.length := by
  unfold firstOf
  rw [List.take_add_one, h]
  exact total_snoc _ _
theorem firstOf_full {rs : List (List Sb)} {i : Nat} (h : rs.length ≤ i) : firstOf rs i = total rs := by
  unfold firstOf; rw [List.take_of_length_le h]
/-- What Find tells. -/
def FindP (rs : List (List Sb)) (id i first k : Int) : Prop :=
  (∃ (j m : Nat) (g : List Sb), rs[j]? = some g ∧ m < g.length ∧ id = ((firstOf rs j + m : Nat) : Int) ∧ i = (j : Int) ∧ first = (firstOf rs j : Int) ∧ k = (m : Int)) ∨ (inTab rs id = false ∧ i = -1 ∧ first = 0 ∧ k = 0)
set_option maxRecDepth 100000 in
set_option maxHeartbeats 4000000 in
theorem rLen_dr {R : Nat → Prop} {w : World} {t : Nat} {rs : List (List Sb)} (ht : RefAt R w t rs) (htot : total rs ≤ 10000) (hl : rs.length ≤ 1000000) :
    Calls Tryz.prog 13 #[.pointer (some ⟨t, 0, none⟩)] w fun e w' => e = .returned (.int .i64 (total rs)) ∧ ∃ m, w' = w.drewN m := by
  obtain ⟨a, c, ht1, ht2⟩ := ht.grps
  have hc : ∀ m, (w.drewN m).cell? ⟨t, 0, none⟩ = some (.slice a rs.length c) := fun _ => heap_cell ht1 0
  have H2 := Lib.hid (ht2 w (Upd.refl _ _))
  have HL := Lib.hid hl; have HTOT := Lib.hid htot
  obtain ⟨n, hn⟩ : ∃ n, rs.length = n := ⟨_, rfl⟩
  have HN := Lib.hid hn
  rw [hn] at hc
  clear ht ht1 ht2 htot hn hl
  go_enter Tryz.func13, Tryz.ntmps13
  go_wp2
  go_loopw [3, 4] (fun t3 t4 wr => ∃ i : Nat, t4 = .int .i64 i ∧ t3 = .int .i64 (firstOf rs i : Nat) ∧ i ≤ n ∧ ∃ m, wr = w.drewN m) (fun _ t4 _ => n - (intOf t4).toNat)
  case atStart => exact ⟨0, rfl, rfl, Nat.zero_le _, 0, rfl⟩
  case round =>
    obtain ⟨i, rfl, rfl, hi, nd, rfl⟩ := hrel
    by_cases hlt : i < n
    · obtain ⟨g, hg⟩ : ∃ g, rs[i]? = some g := ⟨rs[i]'(by rw [HN.out]; exact hlt), by simp⟩
      obtain ⟨b, off, a1, c1, rfl, q0, _⟩ := GrpsAt.at H2.out hg
      have h1 := firstOf_add hg
      have h2 := firstOf_succ hg
      have HS := Lib.hid h2; have HLT := Lib.hid hlt
      obtain ⟨f, hf⟩ : ∃ f, firstOf rs i = f := ⟨_, rfl⟩
      obtain ⟨gl, hgl⟩ : ∃ gl, g.length = gl := ⟨_, rfl⟩
      have HF := Lib.hid hf; have HGL := Lib.hid hgl
      have hlt' : (i : Int) < n := by omega
      have hi6 : (i : Int) < 1000000 := by have := HL.out; have := HN.out; omega
      have hf6 : (f : Int) ≤ 10000 := by have := HTOT.out; omega
      have hg6 : (gl : Int) ≤ 10000 := by have := HTOT.out; omega
      have hc' := hc nd
      rw [hf]
      rw [hgl] at q0
      clear hg h1 h2 hlt hf hgl hi
      go_wp2
      go_roundw
      case rel => exact ⟨i + 1, by go_num, by rw [HS.out, HF.out, HGL.out]; go_num, HLT.out, _, rfl⟩
      case measure => have := HLT.out; simp [intOf]; omega
    · obtain rfl : i = n := by omega
      have hlt' : ¬ (i : Int) < i := by omega
      have hc' := hc nd
      clear hlt hi
      go_wp2
      go_ret
      refine ⟨?_, _, rfl⟩
      rw [firstOf_full (by rw [HN.out]; exact Nat.le_refl _)]
      rfl
theorem rLen_any {R : Nat → Prop} {w : World} {t : Nat} {rs : List (List Sb)} (ht : RefAt R w t rs) (htot : total rs ≤ 10000) (hl : rs.length ≤ 1000000) :
    Calls Tryz.prog 13 #[.pointer (some ⟨t, 0, none⟩)] w fun e w' => e = .returned (.int .i64 (total rs)) ∧ Below w.heap.size w w' :=
  (rLen_dr ht htot hl).mono fun _ _ ⟨h, m, hm⟩ => ⟨h, by rw [hm]; exact ⟨rfl, rfl, rfl, Nat.le_refl _, fun _ _ => rfl⟩⟩
set_option maxRecDepth 100000 in
set_option maxHeartbeats 4000000 in
theorem rFind_any {R : Nat → Prop} {w : World} {t : Nat} {rs : List (List Sb)} (ht : RefAt R w t rs) (htot : total rs ≤ 10000) (hl : rs.length ≤ 1000000) (id : Int) :
    Calls Tryz.prog 55 #[.pointer (some ⟨t, 0, none⟩), .int .i64 id] w fun e w' => ∃ i first k, e = .returned (.tuple #[.int .i64 i, .int .i64 first, .int .i64 k]) ∧ FindP rs id i first k ∧ Below w.heap.size w w' := by
  obtain ⟨a, c, ht1, ht2⟩ := ht.grps
  have hc : ∀ x : Ext w, x.val.cell? ⟨t, 0, none⟩ = some (.slice a rs.length c) := Ext.cells (heap_cell ht1 0)
  have H2 := Lib.hid (ht2 w (Upd.refl _ _))
  have HL := Lib.hid hl; have HTOT := Lib.hid htot
  obtain ⟨n, hn⟩ : ∃ n, rs.length = n := ⟨_, rfl⟩
  have HN := Lib.hid hn
  rw [hn] at hc
  clear ht ht1 ht2 htot hn hl
  go_enter Tryz.func55, Tryz.ntmps55
  go_wp2
  go_loopw [7, 8] (fun t3 t4 wr => ∃ i : Nat, t4 = .int .i64 i ∧ t3 = .int .i64 (firstOf rs i : Nat) ∧ i ≤ n ∧ (id < 0 ∨ (firstOf rs i : Int) ≤ id) ∧ ∃ x : Ext w, wr = x.val) (fun _ t4 _ => n - (intOf t4).toNat)
  case atStart => exact ⟨0, rfl, rfl, Nat.zero_le _, by rw [show firstOf rs 0 = 0 from rfl]; omega, ⟨_, Below.refl _ _⟩, rfl⟩
  case round =>
    obtain ⟨i, rfl, rfl, hi, hno, x, rfl⟩ := hrel
    by_cases hlt : i < n
    · obtain ⟨g, hg⟩ : ∃ g, rs[i]? = some g := ⟨rs[i]'(by rw [HN.out]; exact hlt), by simp⟩
      obtain ⟨b, off, a1, c1, rfl, q0, _⟩ := GrpsAt.at (H2.out.below x.2 (Nat.le_refl _)) hg
      have h1 := firstOf_add hg
      have h2 := firstOf_succ hg
      have HS := Lib.hid h2; have HLT := Lib.hid hlt; have HG := Lib.hid hg
      obtain ⟨f, hf⟩ : ∃ f, firstOf rs i = f := ⟨_, rfl⟩
      obtain ⟨gl, hgl⟩ : ∃ gl, g.length = gl := ⟨_, rfl⟩
      have HF := Lib.hid hf; have HGL := Lib.hid hgl
      have hlt' : (i : Int) < n := by omega
      have hi6 : (i : Int) < 1000000 := by have := HL.out; have := HN.out; omega
      have hf6 : (f : Int) ≤ 10000 := by have := HTOT.out; omega
      have hg6 : (gl : Int) ≤ 10000 := by have := HTOT.out; omega
      have hc' := hc x
      rw [hf] at hno ⊢
      rw [hgl] at q0
      have HNO := Lib.hid hno
      clear hg h1 h2 hlt hf hgl hi hno
      by_cases k1 : (f : Int) ≤ id
      · by_cases k2 : id < (f : Int) + gl
        · have K1 := Lib.hid k1; have K2 := Lib.hid k2
          go_wp2
          refine bodyPost_ret (v := .tuple #[.int .i64 (i : Nat), .int .i64 (f : Nat), .int .i64 (id - f)]) (by simp [results, Tryz.results55, go_sem]) rfl ?_
          refine ⟨_, _, _, rfl, .inl ⟨i, (id - f).toNat, g, HG.out, ?_, ?_, rfl, by rw [HF.out], ?_⟩, x.2⟩
          · have := HGL.out; have := K1.out; have := K2.out; omega
          · have := HF.out; have := K1.out; omega
          · have := K1.out; omega
        · have K2 := Lib.hid k2
          go_wp2
          go_roundw
          case rel => exact ⟨i + 1, by go_num, by rw [HS.out, HF.out, HGL.out]; go_num, HLT.out, by rw [HS.out, HF.out, HGL.out]; have := K2.out; omega, x, rfl⟩
          case measure => have := HLT.out; simp [intOf]; omega
      · have K1 := Lib.hid k1
        go_wp2
        go_roundw
        case rel => exact ⟨i + 1, by go_num, by rw [HS.out, HF.out, HGL.out]; go_num, HLT.out, by have := K1.out; have := HNO.out; left; omega, x, rfl⟩
        case measure => have := HLT.out; simp [intOf]; omega
    · obtain rfl : i = n := by omega
      have hlt' : ¬ (i : Int) < i := by omega
      have hc' := hc x
      clear hlt hi
      have HNO := Lib.hid hno
      clear hno
      go_wp2
      refine bodyPost_ret (v := .tuple #[.int .i64 (-1), .int .i64 0, .int .i64 0]) (by simp [results, Tryz.results55, go_sem]) rfl ?_
      refine ⟨_, _, _, rfl, .inr ⟨?_, rfl, rfl, rfl⟩, x.2⟩
      have h := HNO.out
      rw [firstOf_full (by rw [HN.out]; exact Nat.le_refl _)] at h
      simp only [inTab, Bool.and_eq_false_iff, decide_eq_false_iff_not]
      omega
end Go.Proofs.YtoamhiaagaaaaaaGreatDoor
