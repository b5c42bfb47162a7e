/- package match: what it tells (no program in sight). -/
import Derived.Test.YtkgmfbfpmlnfcaaGreatDoorQMaTabP
import Derived.Test.YtkgmfbfpmlnfcaaGreatDoorQKdOpenP
import Derived.Test.YtkgmfbfpmlnfcaaGreatDoorQFnP
import Derived.Deep.RegionLaw
import Derived.Deep.RegionHeldLaw
import Derived.Lib.AppendStr
import Derived.Test.YtkgmfbfpmlnfcaaGreatDoorQKdSubP
import Derived.Laws.OwnMore
namespace Go.Proofs.YtkgmfbfpmlnfcaaGreatDoor
open Go.RowKit

theorem boolOf (P : Prop) : ∃ r : Bool, (r = true ↔ P) := by
  by_cases h : P
  · exact ⟨true, by simp [h]⟩
  · exact ⟨false, by simp [h]⟩
/-- The family of a given heap type. -/
def fam (k : Int) : Int × Int :=
  if k = 1 ∨ k = 2 ∨ k = 3 ∨ k = 4 ∨ k = 5 ∨ k = 6 then (1, 6) else if k = 7 ∨ k = 8 then (7, 8) else if k = 9 ∨ k = 10 then (9, 10) else if k = 11 ∨ k = 12 then (11, 12) else (0, 0)
def belowG (a b t1 b1 t2 : Int) : Bool := if t1 ≠ t2 then false else if a = b ∨ a = b1 ∨ b = t1 then true else if b = 2 then decide (a = 3 ∨ a = 4 ∨ a = 5) else false
def belowB (a b : Int) : Bool := belowG a b (fam a).1 (fam a).2 (fam b).1
def kindK (k : Int) : Int := if k = 1 then 7 else if k = 2 then 4 else if k = 3 then 5 else 0
def ClosedP (n : Nat) (h : Hp) : Prop := GivenP h ∨ NumC n h
/-- What is reached by Supers. -/
inductive UpTo (ts : List Sb) (i : Nat) : Nat → Prop
  | refl : UpTo ts i i
  | step {j k : Nat} {s : Sb} {h : Hp} : UpTo ts i j → ts[j]? = some s → h ∈ s.sups → h.n = (k : Int) → UpTo ts i k
def Hits (ts : List Sb) (b : Hp) (j : Nat) : Prop := (b.k = 15 ∧ b.n = (j : Int)) ∨ (b.k ≠ 15 ∧ ∃ s, ts[j]? = some s ∧ belowB (kindK s.k) b.k = true)
def ClimbP (ts : List Sb) (i : Nat) (b : Hp) : Prop := ∃ j, UpTo ts i j ∧ Hits ts b j
def HeapP (ts : List Sb) (a b : Hp) : Prop :=
  ClosedP ts.length a ∧ ClosedP ts.length b ∧ (a = b ∨ (a.k = 15 ∧ ClimbP ts a.n.toNat b) ∨ (a.k ≠ 15 ∧ b.k = 15 ∧ ∃ s, ts[b.n.toNat]? = some s ∧ a.k = (fam (kindK s.k)).2) ∨ (a.k ≠ 15 ∧ b.k ≠ 15 ∧ belowB a.k b.k = true))
def NeverP (v : Vl) : Prop := v = ⟨3, false, 0, 0⟩
def ProperP (n : Nat) (v : Vl) : Prop := (v.k = 3 ∧ (NeverP v ∨ ClosedP n ⟨v.h, v.n⟩)) ∨ (v.k ≠ 3 ∧ 1 ≤ v.k ∧ v.k ≤ 4 ∧ v = ⟨v.k, false, 0, 0⟩)
def ValP (ts : List Sb) (a b : Vl) : Prop :=
  ProperP ts.length a ∧ ProperP ts.length b ∧ (a.k = 4 ∨ (a.k = b.k ∧ (a.k ≠ 3 ∨ NeverP a ∨ ((a.nl = true → b.nl = true) ∧ HeapP ts ⟨a.h, a.n⟩ ⟨b.h, b.n⟩))))
/-- Two lists, one by one. -/
def ListP {α : Type} (R : α → α → Prop) (l m : List α) : Prop := l.length = m.length ∧ ∀ (i : Nat) x y, l[i]? = some x → m[i]? = some y → R x y
def StoreP (ts : List Sb) (p q : Int) (a b : Vl) : Prop := (p = 0 ∨ p = 8 ∨ p = 16) ∧ p = q ∧ ValP ts a b
def FieldP (ts : List Sb) (a b : Fl) : Prop := a.m = b.m ∧ StoreP ts a.p b.p a.v b.v ∧ (a.m = true → StoreP ts b.p a.p b.v a.v)
def FieldsP (ts : List Sb) (l m : List Fl) : Prop := m.length ≤ l.length ∧ ∀ (i : Nat) x y, l[i]? = some x → m[i]? = some y → FieldP ts x y
def CompP (ts : List Sb) (a b : Sb) : Prop :=
  a.k = b.k ∧ ((a.k = 1 ∧ ListP (ValP ts) b.ps a.ps ∧ ListP (ValP ts) a.rs b.rs) ∨ (a.k = 2 ∧ FieldsP ts a.fs b.fs) ∨ (a.k = 3 ∧ a.fs.length = 1 ∧ b.fs.length = 1 ∧ FieldsP ts a.fs b.fs))
def kindAt (ts : List Sb) (h : Hp) : Int := if h.k = 15 then kindK ((ts[h.n.toNat]?).getD ⟨false, [], 0, [], [], []⟩).k else h.k

variable {ts : List Sb}
/-- A table: all types closed. -/
def Clo (ts : List Sb) : Prop := ∀ y ∈ ts, TypC ts.length y
theorem TabC.clo {gs : List (List Sb)} (h : TabC gs) : Clo (tabL gs) := fun y hy => by rw [tabL_len]; exact h.typ hy
theorem UpTo.trans {i j k : Nat} (h : UpTo ts i j) (h2 : UpTo ts j k) : UpTo ts i k := by
  induction h2 with
  | refl => exact h
  | step _ h3 h4 h5 ih => exact ih.step h3 h4 h5
theorem UpTo.lt {i j : Nat} (hc : Clo ts) (hi : i < ts.length) (h : UpTo ts i j) : j < ts.length := by
  induction h with
  | refl => exact hi
  | step _ h3 h4 h5 _ =>
    have := ((hc _ (List.mem_of_getElem? h3)).sups _ h4).2
    omega
/-- What is reached, when all that was met was looked at. -/
theorem up_in {i : Nat} {Z : Nat → Prop} (h0 : Z i) (h1 : ∀ (j k : Nat) s h, Z j → ts[j]? = some s → h ∈ s.sups → h.n = (k : Int) → Z k) {j : Nat} (hj : UpTo ts i j) : Z j := by
  induction hj with
  | refl => exact h0
  | step _ h3 h4 h5 ih => exact h1 _ _ _ _ ih h3 h4 h5
end Go.Proofs.YtkgmfbfpmlnfcaaGreatDoor

/- package decl: what Check answers; DeclParts' law (no program in sight). -/
namespace Go.Proofs.YtkgmfbfpmlnfcaaGreatDoor
open Go.RowKit

/-- A type's first Super. -/
def superD (s : Sb) : Option Int := match s.sups with
  | [] => none
  | h :: _ => some (if h.k = 13 then h.n else -1)
/-- May a type's Super be one? -/
def standsD (types : List Sb) (s : Sb) (n : Nat) : Int :=
  if 1 < s.sups.length then 110 else match superD s with
    | none => 0
    | some a => if a < 0 ∨ (n : Int) ≤ a then 121 else match types[a.toNat]? with
      | none => 0
      | some u => if u.fin = true then 122 else if u.k ≠ s.k then 123 else 0
/-- The answer, and the depths behind it. -/
noncomputable def matchesD (ts : List Sb) (ids depths : List Int) (s : Sb) (n : Nat) : Int × List Int := by
  classical exact match superD s with
    | none => (0, depths ++ [0])
    | some a => match ts[(ids.getD n 0).toNat]?, ts[(ids.getD a.toNat 0).toNat]? with
      | some lo, some up => if ¬ CompP ts lo up then (123, depths) else if 63 < depths.getD a.toNat 0 + 1 then (111, depths) else (0, depths ++ [depths.getD a.toNat 0 + 1])
      | _, _ => (120, depths)
/-- The first round over a group: the error, its place. -/
def standAll (types : List Sb) : List Sb → Nat → Int × Nat
  | [], _ => (0, 0)
  | s :: l, n => if standsD types s n ≠ 0 then (standsD types s n, n) else standAll types l (n + 1)
/-- The second one: the depths too. -/
noncomputable def matchAll (ts : List Sb) (ids : List Int) : List Sb → Nat → List Int → Int × Nat × List Int
  | [], _, ds => (0, 0, ds)
  | s :: l, n, ds => if (matchesD ts ids ds s n).1 ≠ 0 then ((matchesD ts ids ds s n).1, n, (matchesD ts ids ds s n).2) else matchAll ts ids l (n + 1) (matchesD ts ids ds s n).2
/-- What was declared so far, and the table. -/
structure DcS where
  ids : List Int
  types : List Sb
  depths : List Int
  gs : List (List Sb)
/-- One group more. -/
noncomputable def addD (d : DcS) (g : List Sb) : Int × Nat × DcS :=
  let A := addG d.gs d.ids g
  if A.2.1 ≠ 0 then ((if A.2.1 = 5 then 5 else 120), d.ids.length, { d with gs := A.2.2 })
  else
    let d' : DcS := ⟨A.1, d.types ++ g, d.depths, A.2.2⟩
    if (standAll d'.types g d.ids.length).1 ≠ 0 then ((standAll d'.types g d.ids.length).1, (standAll d'.types g d.ids.length).2, d')
    else
      let M := matchAll (tabL A.2.2) A.1 g d.ids.length d.depths
      (M.1, (if M.1 ≠ 0 then M.2.1 else 0), { d' with depths := M.2.2 })
/-- All groups, or the first error. -/
noncomputable def checkD : DcS → List (List Sb) → Int × Nat × DcS
  | d, [] => (0, 0, d)
  | d, g :: l => if (addD d g).1 ≠ 0 then addD d g else checkD (addD d g).2.2 l
theorem checkD_append (d : DcS) (l m : List (List Sb)) : checkD d (l ++ m) = if (checkD d l).1 ≠ 0 then checkD d l else checkD (checkD d l).2.2 m := by
  induction l generalizing d with
  | nil => simp [checkD]
  | cons g l ih =>
    rw [List.cons_append, checkD, checkD]
    by_cases h : (addD d g).1 ≠ 0
    · rw [if_pos h, if_pos h, if_pos h]
    · rw [if_neg h, if_neg h, ih]
theorem addD_at {d : DcS} {g : List Sb} (h : (addD d g).1 = 0) : (addD d g).2.1 = 0 := by
  unfold addD at h ⊢
  dsimp only at h ⊢
  split
  · rename_i h1
    rw [if_pos h1] at h
    split at h <;> simp at h
  · rename_i h1
    rw [if_neg h1] at h
    split
    · rename_i h2; rw [if_pos h2] at h; exact absurd h h2
    · rename_i h2
      rw [if_neg h2] at h
      dsimp only at h ⊢
      rw [if_neg (by simpa using h)]
theorem checkD_at {d : DcS} {l : List (List Sb)} (h : (checkD d l).1 = 0) : (checkD d l).2.1 = 0 := by
  induction l generalizing d with
  | nil => rfl
  | cons g l ih =>
    rw [checkD] at h ⊢
    by_cases h1 : (addD d g).1 ≠ 0
    · rw [if_pos h1] at h; exact absurd h h1
    · rw [if_neg h1] at h ⊢; exact ih h
theorem addD_ok {d : DcS} {g : List Sb} (h : (addD d g).1 = 0) : (addG d.gs d.ids g).2.1 = 0 ∧ (addD d g).2.2.ids = (addG d.gs d.ids g).1 ∧ (addD d g).2.2.types = d.types ++ g ∧ (addD d g).2.2.gs = (addG d.gs d.ids g).2.2 := by
  unfold addD at h ⊢
  dsimp only at h ⊢
  by_cases h1 : (addG d.gs d.ids g).2.1 ≠ 0
  · rw [if_pos h1] at h
    split at h <;> simp at h
  · rw [if_neg h1] at h ⊢
    refine ⟨by simpa using h1, ?_⟩
    split
    · rename_i h2; rw [if_pos h2] at h; exact absurd h h2
    · exact ⟨rfl, rfl, rfl⟩
theorem addG_pre {gs : List (List Sb)} {ids : List Int} {g : List Sb} (h : (addG gs ids g).2.1 = 0) : ∃ r, (addG gs ids g).1 = ids ++ r ∧ r.length = g.length := by
  unfold addG at h ⊢
  repeat' split at h
  all_goals simp at h
  all_goals simp_all
theorem checkD_pre {d : DcS} {l : List (List Sb)} (h : (checkD d l).1 = 0) : ∃ r, (checkD d l).2.2.ids = d.ids ++ r ∧ r.length = (l.map List.length).sum := by
  induction l generalizing d with
  | nil => exact ⟨[], by simp [checkD], rfl⟩
  | cons g l ih =>
    rw [checkD] at h ⊢
    by_cases h1 : (addD d g).1 ≠ 0
    · rw [if_pos h1] at h; exact absurd h h1
    · rw [if_neg h1] at h ⊢
      obtain ⟨r, e, hr⟩ := ih h
      obtain ⟨k1, k2, _, _⟩ := addD_ok (by simpa using h1 : (addD d g).1 = 0)
      obtain ⟨q, e2, hq⟩ := addG_pre k1
      exact ⟨q ++ r, by rw [e, k2, e2, List.append_assoc], by simp [hq, hr]⟩
/-- DeclParts: the first groups alone. -/
theorem parts_law (l : List (List Sb)) (d : DcS) (k : Nat) (_ : k ≤ l.length) :
    ((checkD d (l.take k)).1 ≠ 0 → (checkD d l).1 = (checkD d (l.take k)).1 ∧ (checkD d l).2.1 = (checkD d (l.take k)).2.1) ∧
    ((checkD d (l.take k)).1 = 0 → (checkD d (l.take k)).2.2.ids.length = d.ids.length + ((l.take k).map List.length).sum ∧ ((checkD d l).1 = 0 → ∃ r, (checkD d l).2.2.ids = (checkD d (l.take k)).2.2.ids ++ r)) := by
  have e : checkD d l = checkD d (l.take k ++ l.drop k) := by rw [List.take_append_drop]
  rw [checkD_append] at e
  refine ⟨fun h => ?_, fun h => ?_⟩
  · rw [if_pos h] at e; rw [e]; exact ⟨rfl, rfl⟩
  · rw [if_neg (by simpa using h)] at e
    obtain ⟨r, e1, h1⟩ := checkD_pre h
    refine ⟨by rw [e1, List.length_append, h1], fun h2 => ?_⟩
    rw [e] at h2 ⊢
    obtain ⟨r2, e2, _⟩ := checkD_pre h2
    exact ⟨r2, e2⟩
theorem more_law (l m : List (List Sb)) (d : DcS) (h : (checkD d l).1 ≠ 0) : checkD d (l ++ m) = checkD d l := by rw [checkD_append, if_pos h]
end Go.Proofs.YtkgmfbfpmlnfcaaGreatDoor

/- Of no program: appends as steps of a region that draws its order: of a row that lies in a new block, of a string's bytes. -/
namespace Go.Proofs.YtkgmfbfpmlnfcaaGreatDoor
open Go.RowKit

section
variable {P : Program} {ops : Array Oper} {o : Oper} {a : Act} {w : World} {K : Act → World → Prop} {Q : Exit → Act → World → Prop} {E : Prop}
theorem step_append_own (hg : o.guard = none) (s x : Operand) (t : TypeId) (hop : o.op = Op.call { callee := Callee.builtin Builtin.append, args := #[s, x], argTypes := #[t, t] })
    (base : Nat) (e : TypeId) (i : TypeInfo) (z : Value) (size bytes : Nat) (h1 : P.underlying t = some (.slice e)) (h2 : P.info? e = some i) (h3 : i.zero = some z) (h4 : i.size = size) (h5 : i.bytes = bytes) (h6 : z.cells.size = size) (h7 : 0 < size)
    (v : Value) (n : Nat) (xs : List Value) (hs : a.eval s = v) (hown : w.ownsRow base e size v n xs)
    (ad : Addr) (m c : Nat) (news : List Value) (hx : a.eval x = .slice (some ad) m c) (hn : news.length = m * size) (hc : ∀ j u, news[j]? = some u → w.cell? (ad.add j) = some u) (h1c : ∀ u ∈ news, u.oneCell' = true)
    (b1 : n + m ≤ maxLen) (b2 : (n + m) * bytes ≤ 140737488355328) (b3 : base ≤ w.heap.size)
    (hK : ∀ v' w', w'.ownsRow base e size v' (n + m) (xs ++ news) → w.grownBy w' v.ownBlock → (v'.ownBlock = v.ownBlock ∨ v'.ownBlock = some w.heap.size) → K (a.put o.dst v') w') :
    if Region.wanted o (yielded ops a.tmps) = true then Oper.wp P o a w K Q else E := by
  have hw : Region.wanted o (yielded ops a.tmps) = true := by simp [Region.wanted, hg]
  rw [if_pos hw]
  obtain ⟨v', w', hr, r1, r2, _, r4⟩ := run_append_own_at (P := P) w base t o.type e i z size bytes h1 h2 h3 h4 h5 h6 h7 v n xs hown ad m c news hn hc h1c b1 b2 b3
  unfold Oper.wp
  simp [execOp, hop, resolve, invoke, builtin, hs, hx, hr, Result.andThen]
  exact hK v' w' r1 r2 r4
theorem step_append_str (hg : o.guard = none) (sl x : Operand) (t u : TypeId) (hop : o.op = Op.call { callee := Callee.builtin Builtin.append, args := #[sl, x], argTypes := #[t, u] })
    (base : Nat) (e : TypeId) (i : TypeInfo) (ht : P.underlying t = some (.slice e)) (hu : P.underlying u = some .string) (hi : P.info? e = some i) (hz : i.zero = some (.int .u8 0)) (hsize : i.size = 1) (hby : i.bytes = 1)
    (v : Value) (n : Nat) (xs : List Value) (hs : a.eval sl = v) (hown : w.ownsRow base e 1 v n xs) (s : ByteArray) (hx : a.eval x = .string s)
    (b1 : n + s.size ≤ maxLen) (b2 : n + s.size ≤ 140737488355328) (b3 : base ≤ w.heap.size)
    (hK : ∀ v' w', w'.ownsRow base e 1 v' (n + s.size) (xs ++ Lib.strCells s) → w.grownBy w' v.ownBlock → K (a.put o.dst v') w') :
    if Region.wanted o (yielded ops a.tmps) = true then Oper.wp P o a w K Q else E := by
  have hw : Region.wanted o (yielded ops a.tmps) = true := by simp [Region.wanted, hg]
  rw [if_pos hw]
  obtain ⟨v', w', hr, r1, r2, _⟩ := Lib.run_append_own_string (P := P) w base t u o.type e i ht hu hi hz hsize hby v n xs hown s b1 b2 b3
  unfold Oper.wp
  simp [execOp, hop, resolve, invoke, builtin, hs, hx, hr, Result.andThen]
  exact hK v' w' r1 r2
end
end Go.Proofs.YtkgmfbfpmlnfcaaGreatDoor

/- Of no program: append of a row that may be empty; rows of unlike types. -/
namespace Go.Proofs.YtkgmfbfpmlnfcaaGreatDoor
open Go.RowKit

theorem wpList_append_row {P : Program} (w : World) {ops : Array Oper} {rest : List Oper} {o : Oper} {a : Act} {Q : Exit → Act → World → Prop} (hgd : o.guard = none) (s x : Operand) (t : TypeId)
    (ho : o.op = .call { callee := .builtin .append, args := #[s, x], argTypes := #[t, t] })
    (base : Nat) (e : TypeId) (i : TypeInfo) (z : Value) (size bytes : Nat) (ht : P.underlying t = some (.slice e)) (hi : P.info? e = some i) (hz : i.zero = some z)
    (hsize : i.size = size) (hby : i.bytes = bytes) (hzs : z.cells.size = size) (hsz : 0 < size)
    (v : Value) (n : Nat) (xs : List Value) (hs : a.eval s = v) (hown : w.ownsRow base e size v n xs)
    (y : Value) (m : Nat) (news : List Value) (hx : a.eval x = y) (hrow : RowAt w size y m news) (h1 : ∀ u ∈ news, u.oneCell' = true)
    (h63 : n + m ≤ maxLen) (hbytes : (n + m) * bytes ≤ 140737488355328) (hbase : base ≤ w.heap.size)
    (h : ∀ v' w', w'.ownsRow base e size v' (n + m) (xs ++ news) → w.grownBy w' v.ownBlock → wpList P ops Q rest (a.put o.dst v') w') : wpList P ops Q (o :: rest) a w := by
  obtain ⟨hl, ⟨rfl, rfl⟩ | ⟨ad, cap, rfl, hc, hnews⟩⟩ := hrow
  · refine wpList_plain hgd fun K hK => ?_
    have hr := run_append_owned_none (P := P) (w := w) base t o.type e i size ht hi v n xs hown
    unfold Oper.wp execOp
    simp only [ho, resolve, invoke, builtin, Sem.run_bind, Sem.run_pure, Result.andThen_ok, List.map_toArray, List.map_cons, List.map_nil, hs, hx, hr]
    refine hK _ _ (h v w ?_ ⟨rfl, rfl, rfl, Nat.le_refl _, fun _ _ _ => rfl⟩)
    have hn : news = [] := List.eq_nil_of_length_eq_zero (by simpa using hl)
    subst hn
    simpa using hown
  · exact wpList_append_own w hgd s x t ho base e i z size bytes ht hi hz hsize hby hzs hsz v n xs hs hown ad m cap news hx hl hnews h1 h63 hbytes hbase (fun v' w' r1 r2 _ => h v' w' r1 r2)
theorem step_append_row {P : Program} {ops : Array Oper} {o : Oper} {a : Act} {w : World} {K : Act → World → Prop} {Q : Exit → Act → World → Prop} {E : Prop} (hg : o.guard = none) (s x : Operand) (t : TypeId) (hop : o.op = Op.call { callee := Callee.builtin Builtin.append, args := #[s, x], argTypes := #[t, t] })
    (base : Nat) (e : TypeId) (i : TypeInfo) (z : Value) (size bytes : Nat) (ht : P.underlying t = some (.slice e)) (hi : P.info? e = some i) (hz : i.zero = some z)
    (hsize : i.size = size) (hby : i.bytes = bytes) (hzs : z.cells.size = size) (hsz : 0 < size)
    (v : Value) (n : Nat) (xs : List Value) (hs : a.eval s = v) (hown : w.ownsRow base e size v n xs)
    (y : Value) (m : Nat) (news : List Value) (hx : a.eval x = y) (hrow : RowAt w size y m news) (h1 : ∀ u ∈ news, u.oneCell' = true)
    (h63 : n + m ≤ maxLen) (hbytes : (n + m) * bytes ≤ 140737488355328) (hbase : base ≤ w.heap.size)
    (hK : ∀ v' w', w'.ownsRow base e size v' (n + m) (xs ++ news) → w.grownBy w' v.ownBlock → K (a.put o.dst v') w') :
    if Region.wanted o (yielded ops a.tmps) = true then Oper.wp P o a w K Q else E := by
  have hw : Region.wanted o (yielded ops a.tmps) = true := by simp [Region.wanted, hg]
  rw [if_pos hw]
  obtain ⟨hl, ⟨rfl, rfl⟩ | ⟨ad, cap, rfl, hc, hnews⟩⟩ := hrow
  · have hr := run_append_owned_none (P := P) (w := w) base t o.type e i size ht hi v n xs hown
    unfold Oper.wp
    simp [execOp, hop, resolve, invoke, builtin, hs, hx, hr, Result.andThen]
    refine hK v w ?_ ⟨rfl, rfl, rfl, Nat.le_refl _, fun _ _ _ => rfl⟩
    have hn : news = [] := List.eq_nil_of_length_eq_zero (by simpa using hl)
    subst hn
    simpa using hown
  · obtain ⟨v', w', hr, r1, r2, _⟩ := run_append_own (P := P) w base t o.type e i z size bytes ht hi hz hsize hby hzs hsz v n xs hown ad m cap news hl hnews h1 h63 hbytes hbase
    unfold Oper.wp
    simp [execOp, hop, resolve, invoke, builtin, hs, hx, hr, Result.andThen]
    exact hK v' w' r1 r2
theorem own_ne {w : World} {b1 b2 : Nat} {e1 e2 : TypeId} {s1 s2 : Nat} {v1 v2 : Value} {n1 n2 : Nat} {x1 x2 : List Value} (h1 : w.ownsRow b1 e1 s1 v1 n1 x1) (h2 : w.ownsRow b2 e2 s2 v2 n2 x2) (he : e1 ≠ e2) : v1.ownBlock = none ∨ v1.ownBlock ≠ v2.ownBlock := by
  rcases h1.2 with ⟨rfl, _⟩ | ⟨g, cap, cur, rfl, _, hg, _⟩
  · exact .inl rfl
  · right
    rcases h2.2 with ⟨rfl, _⟩ | ⟨g2, cap2, cur2, rfl, _, hg2, _⟩
    · simp [Value.ownBlock]
    · intro e
      simp [Value.ownBlock] at e
      subst e
      rw [hg] at hg2
      simp at hg2
      exact he hg2.2
theorem owns_e (W : World) {B : Nat} (hB : B ≤ W.heap.size) (e : TypeId) (size : Nat) {b : Nat} (hb : b = W.heap.size) : (W.alloc (.cells #[] e)).ownsRow B e size (.slice (some ⟨b, 0, none⟩) 0 0) 0 [] := by
  subst hb
  exact ⟨by simp, .inr ⟨W.heap.size, 0, #[], rfl, hB, World.alloc_heap_new _ _, Nat.le_refl _, by simp [maxLen], by simp, by simp⟩⟩
theorem row_litA {w : World} {q c n : Nat} {T : TypeId} {xs : List Value} (h : w.heap[q]? = some (.cells xs.toArray T (0, 0))) (hl : xs.length = n * c) : RowAt w c (.slice (some ⟨q, 0, none⟩) n n) n xs := by
  refine ⟨hl, .inr ⟨_, n, rfl, Nat.le_refl _, fun j u hj => ?_⟩⟩
  rw [Addr.add_lit, Nat.zero_add, heap_cell h]
  simpa using hj
theorem flatH_one (l : List Hp) : ∀ u ∈ flatH l, u.oneCell' = true := fun u hu => by
  obtain ⟨h, _, hh⟩ := List.mem_flatMap.1 hu
  simp [cellsH] at hh
  rcases hh with rfl | rfl <;> rfl
theorem flatV_one (l : List Vl) : ∀ u ∈ flatV l, u.oneCell' = true := fun u hu => by
  obtain ⟨h, _, hh⟩ := List.mem_flatMap.1 hu
  simp [cellsV] at hh
  rcases hh with rfl | rfl | rfl | rfl <;> rfl
theorem flatF_one (l : List Fl) : ∀ u ∈ flatF l, u.oneCell' = true := fun u hu => by
  obtain ⟨h, _, hh⟩ := List.mem_flatMap.1 hu
  simp [cellsF] at hh
  rcases hh with rfl | rfl | rfl | rfl | rfl | rfl <;> rfl
theorem ints_one (l : List Int) : ∀ u ∈ l.map (Value.int .i64), u.oneCell' = true := fun u hu => by
  obtain ⟨h, _, rfl⟩ := List.mem_map.1 hu
  rfl
end Go.Proofs.YtkgmfbfpmlnfcaaGreatDoor

/- geodelaw09: a table that is not there, or that New did not make. -/
namespace Go.Proofs.YtkgmfbfpmlnfcaaGreatDoor
open Go.RowKit Go.Maps Go.WideMaps

inductive NoTab (w : World) : Value → Prop where
  | absent : NoTab w (.pointer none)
  | bare (q : Nat) (h : w.heap[q]? = some (.cells #[.slice none 0 0, .slice none 0 0, .map none, .pointer none] 63 (0, 0))) : NoTab w (.pointer (some ⟨q, 0, none⟩))
theorem NoTab.below {w w' : World} {p : Value} (h : NoTab w p) (hb : Below w.heap.size w w') : NoTab w' p := by
  cases h with
  | absent => exact .absent
  | bare q h => exact .bare q (by rw [hb.block q (heap_lt h)]; exact h)
set_option maxRecDepth 100000 in
theorem made_none (p : Value) (w : World) (h : NoTab w p) : Calls Tryz.prog 22 #[p] w fun e w' => e = .returned (.bool false) ∧ w' = w := by
  cases h with
  | absent =>
    go_enter Tryz.func22, Tryz.ntmps22
    go_wp2
    go_ret
    exact ⟨rfl, rfl⟩
  | bare q h =>
    have c3 := heap_cell h 3
    simp at c3
    have hq : ∀ w, (binOp .eql 29 (.pointer none) (.pointer (some ⟨q, 0, none⟩))).run Tryz.prog w = .ok (.bool false) w := fun _ => by rfl
    clear h
    go_enter Tryz.func22, Tryz.ntmps22
    go_wp2
    go_ret
    exact ⟨rfl, rfl⟩
variable {p : Value} {w : World}
set_option maxRecDepth 100000 in
theorem add_none (h : NoTab w p) (v1 v2 : Value) : Calls Tryz.prog 35 #[p, v1, v2] w fun e w' => e = .returned (.tuple #[.slice none 0 0, .int .i64 1]) ∧ w' = w := by
  have C := Lib.hid (made_none p w h)
  clear h
  go_enter Tryz.func35, Tryz.ntmps35
  go_wp2_with fail
  refine C.out.mono ?_
  rintro e w1 ⟨rfl, rfl⟩
  go_wp2
  go_ret2
  exact ⟨rfl, rfl⟩
set_option maxRecDepth 100000 in
theorem len_none (h : NoTab w p) : Calls Tryz.prog 16 #[p] w fun e w' => e = .returned (.int .i64 0) ∧ w' = w := by
  have C := Lib.hid (made_none p w h)
  clear h
  go_enter Tryz.func16, Tryz.ntmps16
  go_wp2_with fail
  refine C.out.mono ?_
  rintro e w1 ⟨rfl, rfl⟩
  go_wp2
  go_ret
  exact ⟨rfl, rfl⟩
def emptyS : Value := .agg #[.bool false, .slice none 0 0, .int .i64 0, .slice none 0 0, .slice none 0 0, .slice none 0 0]
set_option maxRecDepth 100000 in
theorem get_none (h : NoTab w p) (id : Int) : Calls Tryz.prog 12 #[p, .int .i64 id] w fun e w' => e = .returned (.tuple #[emptyS, .int .i64 1]) ∧ Below w.heap.size w w' := by
  have C := Lib.hid (made_none p (w.alloc (.cells #[.bool false, .slice none 0 0, .int .i64 0, .slice none 0 0, .slice none 0 0, .slice none 0 0] 44)) (h.below ((Below.refl _ _).alloc (Nat.le_refl _) _)))
  clear h
  go_enter Tryz.func12, Tryz.ntmps12
  go_wp2_with fail
  refine C.out.mono ?_
  rintro e w1 ⟨rfl, rfl⟩
  go_wp2
  refine bodyPost_ret (v := .tuple #[emptyS, .int .i64 1]) (by simp [results, Tryz.results12, go_sem, emptyS]) rfl ⟨rfl, ?_⟩
  exact (Below.refl _ _).alloc (Nat.le_refl _) _
def emptyV : Value := .agg #[.int .i64 0, .bool false, .int .i64 0, .int .i64 0]
end Go.Proofs.YtkgmfbfpmlnfcaaGreatDoor
