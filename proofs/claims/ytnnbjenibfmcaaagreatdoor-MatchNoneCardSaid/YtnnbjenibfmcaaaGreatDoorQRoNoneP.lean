/- package match: what it tells (no program in sight). -/
import Derived.Test.YtnnbjenibfmcaaaGreatDoorQMaTab
import Derived.Test.YtnnbjenibfmcaaaGreatDoorQRoIdsP
namespace Go.Proofs.YtnnbjenibfmcaaaGreatDoor
open Go.RowKit

theorem boolOf (P : Prop) : ∃ r : Bool, (r = true ↔ P) := by
  by_cases h : P
  · exact ⟨true, by simp [h]⟩
  · exact ⟨false, by simp [h]⟩
/-- The family of a given heap type. -/
def fam (k : Int) : Int × Int :=
  if k = 1 ∨ k = 2 ∨ k = 3 ∨ k = 4 ∨ k = 5 ∨ k = 6 then (1, 6) else if k = 7 ∨ k = 8 then (7, 8) else if k = 9 ∨ k = 10 then (9, 10) else if k = 11 ∨ k = 12 then (11, 12) else (0, 0)
def belowG (a b t1 b1 t2 : Int) : Bool := if t1 ≠ t2 then false else if a = b ∨ a = b1 ∨ b = t1 then true else if b = 2 then decide (a = 3 ∨ a = 4 ∨ a = 5) else false
def belowB (a b : Int) : Bool := belowG a b (fam a).1 (fam a).2 (fam b).1
def kindK (k : Int) : Int := if k = 1 then 7 else if k = 2 then 4 else if k = 3 then 5 else 0
def ClosedP (n : Nat) (h : Hp) : Prop := GivenP h ∨ NumC n h
/-- What is reached by Supers. -/
inductive UpTo (ts : List Sb) (i : Nat) : Nat → Prop
  | refl : UpTo ts i i
  | step {j k : Nat} {s : Sb} {h : Hp} : UpTo ts i j → ts[j]? = some s → h ∈ s.sups → h.n = (k : Int) → UpTo ts i k
def Hits (ts : List Sb) (b : Hp) (j : Nat) : Prop := (b.k = 15 ∧ b.n = (j : Int)) ∨ (b.k ≠ 15 ∧ ∃ s, ts[j]? = some s ∧ belowB (kindK s.k) b.k = true)
def ClimbP (ts : List Sb) (i : Nat) (b : Hp) : Prop := ∃ j, UpTo ts i j ∧ Hits ts b j
def HeapP (ts : List Sb) (a b : Hp) : Prop :=
  ClosedP ts.length a ∧ ClosedP ts.length b ∧ (a = b ∨ (a.k = 15 ∧ ClimbP ts a.n.toNat b) ∨ (a.k ≠ 15 ∧ b.k = 15 ∧ ∃ s, ts[b.n.toNat]? = some s ∧ a.k = (fam (kindK s.k)).2) ∨ (a.k ≠ 15 ∧ b.k ≠ 15 ∧ belowB a.k b.k = true))
def NeverP (v : Vl) : Prop := v = ⟨3, false, 0, 0⟩
def ProperP (n : Nat) (v : Vl) : Prop := (v.k = 3 ∧ (NeverP v ∨ ClosedP n ⟨v.h, v.n⟩)) ∨ (v.k ≠ 3 ∧ 1 ≤ v.k ∧ v.k ≤ 4 ∧ v = ⟨v.k, false, 0, 0⟩)
def ValP (ts : List Sb) (a b : Vl) : Prop :=
  ProperP ts.length a ∧ ProperP ts.length b ∧ (a.k = 4 ∨ (a.k = b.k ∧ (a.k ≠ 3 ∨ NeverP a ∨ ((a.nl = true → b.nl = true) ∧ HeapP ts ⟨a.h, a.n⟩ ⟨b.h, b.n⟩))))
/-- Two lists, one by one. -/
def ListP {α : Type} (R : α → α → Prop) (l m : List α) : Prop := l.length = m.length ∧ ∀ (i : Nat) x y, l[i]? = some x → m[i]? = some y → R x y
def StoreP (ts : List Sb) (p q : Int) (a b : Vl) : Prop := (p = 0 ∨ p = 8 ∨ p = 16) ∧ p = q ∧ ValP ts a b
def FieldP (ts : List Sb) (a b : Fl) : Prop := a.m = b.m ∧ StoreP ts a.p b.p a.v b.v ∧ (a.m = true → StoreP ts b.p a.p b.v a.v)
def FieldsP (ts : List Sb) (l m : List Fl) : Prop := m.length ≤ l.length ∧ ∀ (i : Nat) x y, l[i]? = some x → m[i]? = some y → FieldP ts x y
def CompP (ts : List Sb) (a b : Sb) : Prop :=
  a.k = b.k ∧ ((a.k = 1 ∧ ListP (ValP ts) b.ps a.ps ∧ ListP (ValP ts) a.rs b.rs) ∨ (a.k = 2 ∧ FieldsP ts a.fs b.fs) ∨ (a.k = 3 ∧ a.fs.length = 1 ∧ b.fs.length = 1 ∧ FieldsP ts a.fs b.fs))
def kindAt (ts : List Sb) (h : Hp) : Int := if h.k = 15 then kindK ((ts[h.n.toNat]?).getD ⟨false, [], 0, [], [], []⟩).k else h.k

variable {ts : List Sb}
/-- A table: all types closed. -/
def Clo (ts : List Sb) : Prop := ∀ y ∈ ts, TypC ts.length y
theorem TabC.clo {gs : List (List Sb)} (h : TabC gs) : Clo (tabL gs) := fun y hy => by rw [tabL_len]; exact h.typ hy
theorem UpTo.trans {i j k : Nat} (h : UpTo ts i j) (h2 : UpTo ts j k) : UpTo ts i k := by
  induction h2 with
  | refl => exact h
  | step _ h3 h4 h5 ih => exact ih.step h3 h4 h5
theorem UpTo.lt {i j : Nat} (hc : Clo ts) (hi : i < ts.length) (h : UpTo ts i j) : j < ts.length := by
  induction h with
  | refl => exact hi
  | step _ h3 h4 h5 _ =>
    have := ((hc _ (List.mem_of_getElem? h3)).sups _ h4).2
    omega
/-- What is reached, when all that was met was looked at. -/
theorem up_in {i : Nat} {Z : Nat → Prop} (h0 : Z i) (h1 : ∀ (j k : Nat) s h, Z j → ts[j]? = some s → h ∈ s.sups → h.n = (k : Int) → Z k) {j : Nat} (hj : UpTo ts i j) : Z j := by
  induction hj with
  | refl => exact h0
  | step _ h3 h4 h5 ih => exact h1 _ _ _ _ ih h3 h4 h5
end Go.Proofs.YtnnbjenibfmcaaaGreatDoor

/- geodelaw09: a table that is not there, or that New did not make. -/
namespace Go.Proofs.YtnnbjenibfmcaaaGreatDoor
open Go.RowKit Go.Maps Go.WideMaps

inductive NoTab (w : World) : Value → Prop where
  | absent : NoTab w (.pointer none)
  | bare (q : Nat) (h : w.heap[q]? = some (.cells #[.slice none 0 0, .slice none 0 0, .map none, .pointer none] 103 (0, 0))) : NoTab w (.pointer (some ⟨q, 0, none⟩))
theorem NoTab.below {w w' : World} {p : Value} (h : NoTab w p) (hb : Below w.heap.size w w') : NoTab w' p := by
  cases h with
  | absent => exact .absent
  | bare q h => exact .bare q (by rw [hb.block q (heap_lt h)]; exact h)
set_option maxRecDepth 100000 in
theorem made_none (p : Value) (w : World) (h : NoTab w p) : Calls Tryz.prog 44 #[p] w fun e w' => e = .returned (.bool false) ∧ w' = w := by
  cases h with
  | absent =>
    go_enter Tryz.func44, Tryz.ntmps44
    go_wp2
    go_ret
    exact ⟨rfl, rfl⟩
  | bare q h =>
    have c3 := heap_cell h 3
    simp at c3
    have hq : ∀ w, (binOp .eql 35 (.pointer none) (.pointer (some ⟨q, 0, none⟩))).run Tryz.prog w = .ok (.bool false) w := fun _ => by rfl
    clear h
    go_enter Tryz.func44, Tryz.ntmps44
    go_wp2
    go_ret
    exact ⟨rfl, rfl⟩
variable {p : Value} {w : World}
set_option maxRecDepth 100000 in
theorem add_none (h : NoTab w p) (v1 v2 : Value) : Calls Tryz.prog 28 #[p, v1, v2] w fun e w' => e = .returned (.tuple #[.slice none 0 0, .int .i64 1]) ∧ w' = w := by
  have C := Lib.hid (made_none p w h)
  clear h
  go_enter Tryz.func28, Tryz.ntmps28
  go_wp2_with fail
  refine C.out.mono ?_
  rintro e w1 ⟨rfl, rfl⟩
  go_wp2
  go_ret2
  exact ⟨rfl, rfl⟩
set_option maxRecDepth 100000 in
theorem len_none (h : NoTab w p) : Calls Tryz.prog 19 #[p] w fun e w' => e = .returned (.int .i64 0) ∧ w' = w := by
  have C := Lib.hid (made_none p w h)
  clear h
  go_enter Tryz.func19, Tryz.ntmps19
  go_wp2_with fail
  refine C.out.mono ?_
  rintro e w1 ⟨rfl, rfl⟩
  go_wp2
  go_ret
  exact ⟨rfl, rfl⟩
def emptyS : Value := .agg #[.bool false, .slice none 0 0, .int .i64 0, .slice none 0 0, .slice none 0 0, .slice none 0 0]
set_option maxRecDepth 100000 in
theorem get_none (h : NoTab w p) (id : Int) : Calls Tryz.prog 20 #[p, .int .i64 id] w fun e w' => e = .returned (.tuple #[emptyS, .int .i64 1]) ∧ Below w.heap.size w w' := by
  have C := Lib.hid (made_none p (w.alloc (.cells #[.bool false, .slice none 0 0, .int .i64 0, .slice none 0 0, .slice none 0 0, .slice none 0 0] 64)) (h.below ((Below.refl _ _).alloc (Nat.le_refl _) _)))
  clear h
  go_enter Tryz.func20, Tryz.ntmps20
  go_wp2_with fail
  refine C.out.mono ?_
  rintro e w1 ⟨rfl, rfl⟩
  go_wp2
  refine bodyPost_ret (v := .tuple #[emptyS, .int .i64 1]) (by simp [results, Tryz.results20, go_sem, emptyS]) rfl ⟨rfl, ?_⟩
  exact (Below.refl _ _).alloc (Nat.le_refl _) _
def emptyV : Value := .agg #[.int .i64 0, .bool false, .int .i64 0, .int .i64 0]
set_option maxRecDepth 100000 in
theorem refSameVals_nil (w : World) : Calls Tryz.prog 94 #[.slice none 0 0, .slice none 0 0] w fun e w' => e = .returned (.bool true) ∧ w' = w := by
  go_enter Tryz.func94, Tryz.ntmps94
  go_wp2
  go_loopw [5] (fun t5 wr => t5 = .int .i64 0 ∧ wr = w) (fun _ _ => 0)
  case atStart => exact ⟨rfl, rfl⟩
  case round =>
    obtain ⟨rfl, rfl⟩ := hrel
    go_wp2
    go_ret
    exact ⟨rfl, rfl⟩
set_option maxRecDepth 100000 in
set_option maxHeartbeats 4000000 in
theorem refSame_empty (w : World) : Calls Tryz.prog 82 #[emptyS, emptyS] w fun e w' => e = .returned (.bool true) ∧ Below w.heap.size w w' := by
  unfold emptyS
  go_enter Tryz.func82, Tryz.ntmps82
  go_wp2
  obtain ⟨W0, hW0⟩ : ∃ W0, W0 = ((w.alloc (.cells #[.bool false, .slice none 0 0, .int .i64 0, .slice none 0 0, .slice none 0 0, .slice none 0 0] 64)).alloc (.cells #[.bool false, .slice none 0 0, .int .i64 0, .slice none 0 0, .slice none 0 0, .slice none 0 0] 64)) := ⟨_, rfl⟩
  rw [← hW0]
  have hB : Below w.heap.size w W0 := by rw [hW0]; exact ((Below.refl _ _).alloc (Nat.le_refl _) _).alloc (by simp) _
  have z0 : W0.heap[w.heap.size]? = some (.cells #[.bool false, .slice none 0 0, .int .i64 0, .slice none 0 0, .slice none 0 0, .slice none 0 0] 64 (0, 0)) := by rw [hW0]; exact heap_alloc_keep (heap_alloc_at _ _ rfl) _
  have z1 : W0.heap[w.heap.size + 1]? = some (.cells #[.bool false, .slice none 0 0, .int .i64 0, .slice none 0 0, .slice none 0 0, .slice none 0 0] 64 (0, 0)) := by rw [hW0]; exact heap_alloc_at _ _ (by simp)
  have c1 := heap_cell z0 1; have c3 := heap_cell z0 3; have c4 := heap_cell z0 4; have c5 := heap_cell z0 5
  have d1 := heap_cell z1 1; have d3 := heap_cell z1 3; have d4 := heap_cell z1 4; have d5 := heap_cell z1 5
  simp at c1 c3 c4 c5 d1 d3 d4 d5
  have HB := Lib.hid hB
  clear hW0 hB z0 z1
  go_loopw [5] (fun t5 wr => t5 = .int .i64 0 ∧ wr = W0) (fun _ _ => 0)
  case atStart => exact ⟨rfl, rfl⟩
  case round =>
    obtain ⟨rfl, rfl⟩ := hrel
    go_wp2
    go_loopw [6] (fun t6 wq => t6 = .int .i64 0 ∧ wq = wr) (fun _ _ => 0)
    case atStart => exact ⟨rfl, rfl⟩
    case round =>
      obtain ⟨rfl, rfl⟩ := hrel
      go_wp2_with fail
      refine (refSameVals_nil _).mono ?_
      rintro e w1 ⟨rfl, rfl⟩
      go_wp2_with fail
      refine (refSameVals_nil _).mono ?_
      rintro e w1 ⟨rfl, rfl⟩
      go_wp2
      go_ret
      exact ⟨rfl, HB.out⟩
end Go.Proofs.YtnnbjenibfmcaaaGreatDoor
