import Derived.Test.YtlcfkfijomnmnaaGreatDoorQMaTabBd
namespace Go.Proofs.YtlcfkfijomnmnaaGreatDoor
open Lib (hid)
section
open Go.RowKit
def fam (k : Int) : Int × Int :=
  if k = 1 ∨ k = 2 ∨ k = 3 ∨ k = 4 ∨ k = 5 ∨ k = 6 then (1, 6) else if k = 7 ∨ k = 8 then (7, 8) else if k = 9 ∨ k = 10 then (9, 10) else if k = 11 ∨ k = 12 then (11, 12) else (0, 0)
def belowG (a b t1 b1 t2 : Int) : Bool := if t1 ≠ t2 then false else if a = b ∨ a = b1 ∨ b = t1 then true else if b = 2 then decide (a = 3 ∨ a = 4 ∨ a = 5) else false
def belowB (a b : Int) : Bool := belowG a b (fam a).1 (fam a).2 (fam b).1
def kindK (k : Int) : Int := if k = 1 then 7 else if k = 2 then 4 else if k = 3 then 5 else 0
def ClosedP (n : Nat) (h : Hp) : Prop := GivenP h ∨ NumC n h
inductive UpTo (ts : List Sb) (i : Nat) : Nat → Prop
  | refl : UpTo ts i i
  | step {j k : Nat} {s : Sb} {h : Hp} : UpTo ts i j → ts[j]? = some s → h ∈ s.sups → h.n = (k : Int) → UpTo ts i k
def Hits (ts : List Sb) (b : Hp) (j : Nat) : Prop := (b.k = 15 ∧ b.n = (j : Int)) ∨ (b.k ≠ 15 ∧ ∃ s, ts[j]? = some s ∧ belowB (kindK s.k) b.k = true)
def ClimbP (ts : List Sb) (i : Nat) (b : Hp) : Prop := ∃ j, UpTo ts i j ∧ Hits ts b j
def HeapP (ts : List Sb) (a b : Hp) : Prop :=
  ClosedP ts.length a ∧ ClosedP ts.length b ∧ (a = b ∨ (a.k = 15 ∧ ClimbP ts a.n.toNat b) ∨ (a.k ≠ 15 ∧ b.k = 15 ∧ ∃ s, ts[b.n.toNat]? = some s ∧ a.k = (fam (kindK s.k)).2) ∨ (a.k ≠ 15 ∧ b.k ≠ 15 ∧ belowB a.k b.k = true))
def NeverP (v : Vl) : Prop := v = ⟨3, false, 0, 0⟩
def ProperP (n : Nat) (v : Vl) : Prop := (v.k = 3 ∧ (NeverP v ∨ ClosedP n ⟨v.h, v.n⟩)) ∨ (v.k ≠ 3 ∧ 1 ≤ v.k ∧ v.k ≤ 4 ∧ v = ⟨v.k, false, 0, 0⟩)
def ValP (ts : List Sb) (a b : Vl) : Prop :=
  ProperP ts.length a ∧ ProperP ts.length b ∧ (a.k = 4 ∨ (a.k = b.k ∧ (a.k ≠ 3 ∨ NeverP a ∨ ((a.nl = true → b.nl = true) ∧ HeapP ts ⟨a.h, a.n⟩ ⟨b.h, b.n⟩))))
def ListP {α : Type} (R : α → α → Prop) (l m : List α) : Prop := l.length = m.length ∧ ∀ (i : Nat) x y, l[i]? = some x → m[i]? = some y → R x y
def StoreP (ts : List Sb) (p q : Int) (a b : Vl) : Prop := (p = 0 ∨ p = 8 ∨ p = 16) ∧ p = q ∧ ValP ts a b
def FieldP (ts : List Sb) (a b : Fl) : Prop := a.m = b.m ∧ StoreP ts a.p b.p a.v b.v ∧ (a.m = true → StoreP ts b.p a.p b.v a.v)
def FieldsP (ts : List Sb) (l m : List Fl) : Prop := m.length ≤ l.length ∧ ∀ (i : Nat) x y, l[i]? = some x → m[i]? = some y → FieldP ts x y
def CompP (ts : List Sb) (a b : Sb) : Prop :=
  a.k = b.k ∧ ((a.k = 1 ∧ ListP (ValP ts) b.ps a.ps ∧ ListP (ValP ts) a.rs b.rs) ∨ (a.k = 2 ∧ FieldsP ts a.fs b.fs) ∨ (a.k = 3 ∧ a.fs.length = 1 ∧ b.fs.length = 1 ∧ FieldsP ts a.fs b.fs))
variable {ts : List Sb}
end
section
open Go.RowKit
def superD (s : Sb) : Option Int := match s.sups with
  | [] => none
  | h :: _ => some (if h.k = 13 then h.n else -1)
def standsD (types : List Sb) (s : Sb) (n : Nat) : Int :=
  if 1 < s.sups.length then 110 else match superD s with
    | none => 0
    | some a => if a < 0 ∨ (n : Int) ≤ a then 121 else match types[a.toNat]? with
      | none => 0
      | some u => if u.fin = true then 122 else if u.k ≠ s.k then 123 else 0
noncomputable def matchesD (ts : List Sb) (ids depths : List Int) (s : Sb) (n : Nat) : Int × List Int := by
  classical exact match superD s with
    | none => (0, depths ++ [0])
    | some a => match ts[(ids.getD n 0).toNat]?, ts[(ids.getD a.toNat 0).toNat]? with
      | some lo, some up => if ¬ CompP ts lo up then (123, depths) else if 63 < depths.getD a.toNat 0 + 1 then (111, depths) else (0, depths ++ [depths.getD a.toNat 0 + 1])
      | _, _ => (120, depths)
def standAll (types : List Sb) : List Sb → Nat → Int × Nat
  | [], _ => (0, 0)
  | s :: l, n => if standsD types s n ≠ 0 then (standsD types s n, n) else standAll types l (n + 1)
noncomputable def matchAll (ts : List Sb) (ids : List Int) : List Sb → Nat → List Int → Int × Nat × List Int
  | [], _, ds => (0, 0, ds)
  | s :: l, n, ds => if (matchesD ts ids ds s n).1 ≠ 0 then ((matchesD ts ids ds s n).1, n, (matchesD ts ids ds s n).2) else matchAll ts ids l (n + 1) (matchesD ts ids ds s n).2
structure DcS where
  ids : List Int
  types : List Sb
  depths : List Int
  gs : List (List Sb)
noncomputable def addD (d : DcS) (g : List Sb) : Int × Nat × DcS :=
  let A := addG d.gs d.ids g
  if A.2.1 ≠ 0 then ((if A.2.1 = 5 then 5 else 120), d.ids.length, { d with gs := A.2.2 })
  else
    let d' : DcS := ⟨A.1, d.types ++ g, d.depths, A.2.2⟩
    if (standAll d'.types g d.ids.length).1 ≠ 0 then ((standAll d'.types g d.ids.length).1, (standAll d'.types g d.ids.length).2, d')
    else
      let M := matchAll (tabL A.2.2) A.1 g d.ids.length d.depths
      (M.1, (if M.1 ≠ 0 then M.2.1 else 0), { d' with depths := M.2.2 })
noncomputable def checkD : DcS → List (List Sb) → Int × Nat × DcS
  | d, [] => (0, 0, d)
  | d, g :: l => if (addD d g).1 ≠ 0 then addD d g else checkD (addD d g).2.2 l
theorem addD_ok {d : DcS} {g : List Sb} (h : (addD d g).1 = 0) : (addG d.gs d.ids g).2.1 = 0 ∧ (addD d g).2.2.ids = (addG d.gs d.ids g).1 ∧ (addD d g).2.2.types = d.types ++ g ∧ (addD d g).2.2.gs = (addG d.gs d.ids g).2.2 := by
  unfold addD at h ⊢
  dsimp only at h ⊢
  by_cases h1 : (addG d.gs d.ids g).2.1 ≠ 0
  · rw [if_pos h1] at h
    split at h <;> simp at h
  · rw [if_neg h1] at h ⊢
    refine ⟨by simpa using h1, ?_⟩
    split
    · rename_i h2; rw [if_pos h2] at h; exact absurd h h2
    · exact ⟨rfl, rfl, rfl⟩
theorem addG_pre {gs : List (List Sb)} {ids : List Int} {g : List Sb} (h : (addG gs ids g).2.1 = 0) : ∃ r, (addG gs ids g).1 = ids ++ r ∧ r.length = g.length := by
  unfold addG at h ⊢
  repeat' split at h
  all_goals simp at h
  all_goals simp_all
end
section
open Go.RowKit
section
variable {P : Program} {ops : Array Oper} {o : Oper} {a : Act} {w : World} {K : Act → World → Prop} {Q : Exit → Act → World → Prop} {E : Prop}
end
end
section
open Go.RowKit
theorem own_ne {w : World} {b1 b2 : Nat} {e1 e2 : TypeId} {s1 s2 : Nat} {v1 v2 : Value} {n1 n2 : Nat} {x1 x2 : List Value} (h1 : w.ownsRow b1 e1 s1 v1 n1 x1) (h2 : w.ownsRow b2 e2 s2 v2 n2 x2) (he : e1 ≠ e2) : v1.ownBlock = none ∨ v1.ownBlock ≠ v2.ownBlock := by
  rcases h1.2 with ⟨rfl, _⟩ | ⟨g, cap, cur, rfl, _, hg, _⟩
  · exact .inl rfl
  · right
    rcases h2.2 with ⟨rfl, _⟩ | ⟨g2, cap2, cur2, rfl, _, hg2, _⟩
    · simp [Value.ownBlock]
    · intro e
      simp [Value.ownBlock] at e
      subst e
      rw [hg] at hg2
      simp at hg2
      exact he hg2.2
theorem row_litA {w : World} {q c n : Nat} {T : TypeId} {xs : List Value} (h : w.heap[q]? = some (.cells xs.toArray T (0, 0))) (hl : xs.length = n * c) : RowAt w c (.slice (some ⟨q, 0, none⟩) n n) n xs := by
  refine ⟨hl, .inr ⟨_, n, rfl, Nat.le_refl _, fun j u hj => ?_⟩⟩
  rw [Addr.add_lit, Nat.zero_add, heap_cell h]
  simpa using hj
end
section
open Go.RowKit
section
variable {S R : Nat → Prop} {w : World} {t : Nat} {gs : List (List Sb)}
set_option maxRecDepth 100000 in
theorem get_out (ht : TabAt S R w t gs) (hok : total gs ≤ 10000) (id : Int) (hid : ¬ (0 ≤ id ∧ id < total gs)) : Calls Tryz.prog 20 #[.pointer (some ⟨t, 0, none⟩), .int .i64 id] w fun e w' => e = .returned (.tuple #[.agg #[.bool false, .slice none 0 0, .int .i64 0, .slice none 0 0, .slice none 0 0, .slice none 0 0], .int .i64 4]) ∧ Below w.heap.size w w' := by
  have hb : Below w.heap.size w (w.alloc (.cells #[.bool false, .slice none 0 0, .int .i64 0, .slice none 0 0, .slice none 0 0, .slice none 0 0] 46)) := (Below.refl _ _).alloc (Nat.le_refl _) _
  have C := Lib.hid (made_any (ht.below hb))
  have C2 := has_any (ht.below hb) id hok
  rw [show (decide (0 ≤ id) && decide (id < total gs)) = false by rw [Bool.eq_false_iff]; simpa using hid] at C2
  have HC2 := Lib.hid C2
  clear ht hok hid C2
  go_enter Tryz.func20, Tryz.ntmps20
  go_wp2_with fail
  refine C.out.mono ?_
  rintro e w1 ⟨rfl, rfl⟩
  go_wp2_with fail
  refine HC2.out.mono ?_
  rintro e w1 ⟨rfl, rfl⟩
  go_wp2
  refine bodyPost_ret (v := .tuple #[.agg #[.bool false, .slice none 0 0, .int .i64 0, .slice none 0 0, .slice none 0 0, .slice none 0 0], .int .i64 4]) (by simp [results, Tryz.results20, go_sem]) rfl ⟨rfl, ?_⟩
  exact (Below.refl _ _).alloc (Nat.le_refl _) _
end
end
section
open Go.RowKit Go.Maps Go.WideMaps
structure TysAt (S0 : Nat → Prop) (wE w : World) (vt : Value) (ts : List Sb) : Prop where
  ex : ∃ cs : List (List Value), cs.length = ts.length ∧ (∀ c ∈ cs, c.length = 6) ∧ (∀ c ∈ cs, ∀ u ∈ c, u.oneCell' = true) ∧ w.ownsRow wE.heap.size 46 6 vt ts.length cs.flatten ∧ ∀ (i : Nat) c x, cs[i]? = some c → ts[i]? = some x → ∀ w'', Upd S0 wE w'' → SubAt w'' c x
structure DcAt (w0 : World) (S0 : Nat → Prop) (wE : World) (S R T : Nat → Prop) (w : World) (t d : Nat) (dc : DcS) (vi vt vd : Value) : Prop where
  tab : TabN w0 S R w t dc.gs
  c : TabC dc.gs
  box : w.heap[d]? = some (.cells #[.pointer (some ⟨t, 0, none⟩), vi, vt, vd] 74 (0, 0))
  ids : ∀ w'', Upd (fun b => S b ∨ T b ∨ b = d ∨ b < wE.heap.size) w w'' → IntsAt w'' vi dc.ids
  tys : TysAt S0 wE w vt dc.types
  dep : w.ownsRow wE.heap.size 3 1 vd dc.depths.length (dc.depths.map (Value.int .i64))
  tt : ∀ b, vt.ownBlock = some b → T b
  tv : ∀ b, vd.ownBlock = some b → T b
  td : ∀ b, T b → b < w.heap.size ∧ wE.heap.size ≤ b ∧ ¬ S b ∧ ¬ R b ∧ b ≠ d
  dd : ¬ S d ∧ ¬ R d ∧ wE.heap.size ≤ d
  up : Upd S0 wE w
  fr : Fresh S0 wE S
  e0 : w0.heap.size ≤ wE.heap.size
variable {w0 wE w w' : World} {S0 S R T : Nat → Prop} {t d : Nat} {dc : DcS} {vi vt vd : Value} {ts : List Sb}
theorem TabN.upd {gs : List (List Sb)} {W : Nat → Prop} (h : TabN w0 S R w t gs) (u : Upd W w w') (hW : ∀ b, W b → ¬ S b ∧ ¬ R b ∧ w0.heap.size ≤ b) : TabN w0 S R w' t gs :=
  ⟨h.tab.keep (u.mono fun b _ hb => ⟨(hW b hb).1, (hW b hb).2.1⟩), h.ok, h.base, h.be.trans (u.below (fun b hb => (hW b hb).2.2) h.be.size)⟩
theorem TysAt.below (h : TysAt S0 wE w vt ts) (hb : Below w.heap.size w w') : TysAt S0 wE w' vt ts := by
  obtain ⟨cs, h1, h2, h3, h4, h5⟩ := h.ex
  exact ⟨cs, h1, h2, h3, ownsRow_upd (S := fun _ => False) h4 (Upd.of_below hb) (fun _ _ q => q), h5⟩
theorem TysAt.keep (h : TysAt S0 wE w vt ts) {W : Nat → Prop} (hu : Upd W w w') (hb : ∀ b, vt.ownBlock = some b → ¬ W b) : TysAt S0 wE w' vt ts := by
  obtain ⟨cs, h1, h2, h3, h4, h5⟩ := h.ex
  exact ⟨cs, h1, h2, h3, ownsRow_upd h4 hu hb, h5⟩
theorem DcAt.below (h : DcAt w0 S0 wE S R T w t d dc vi vt vd) (hb : Below w.heap.size w w') : DcAt w0 S0 wE S R T w' t d dc vi vt vd :=
  ⟨h.tab.below hb, h.c, (hb.block _ (heap_lt h.box)).trans h.box, fun w'' hu => h.ids w'' ((Upd.of_below hb).trans' hu), h.tys.below hb, ownsRow_upd (S := fun _ => False) h.dep (Upd.of_below hb) (fun _ _ q => q), h.tt, h.tv, fun b hb' => by have h1 := h.td b hb'; have := hb.size; exact ⟨by omega, h1.2⟩, h.dd, h.up.trans' (Upd.of_below hb), h.fr, h.e0⟩
theorem DcAt.apart (h : DcAt w0 S0 wE S R T w t d dc vi vt vd) : ∀ b, vt.ownBlock = some b → ¬ vd.ownBlock = some b := fun b hb hv => by
  obtain ⟨cs, _, _, _, h4, _⟩ := h.tys.ex
  rcases own_ne h4 h.dep (by decide) with h | h
  · rw [h] at hb; cases hb
  · exact h (hb.trans hv.symm)
theorem TysAt.at (h : TysAt S0 wE w vt ts) (hu : Upd S0 wE w) {i : Nat} {x : Sb} (hx : ts[i]? = some x) : ∃ b cap a1 c1 a2 c2 a3 c3 a4 c4, vt = .slice (some ⟨b, 0, none⟩) ts.length cap ∧ SubAt w [.bool x.fin, .slice a1 x.sups.length c1, .int .i64 x.k, .slice a2 x.ps.length c2, .slice a3 x.rs.length c3, .slice a4 x.fs.length c4] x ∧
    w.cell? ⟨b, i * 6, none⟩ = some (.bool x.fin) ∧ w.cell? ⟨b, i * 6 + 1, none⟩ = some (.slice a1 x.sups.length c1) ∧ w.cell? ⟨b, i * 6 + 2, none⟩ = some (.int .i64 x.k) ∧ w.cell? ⟨b, i * 6 + 3, none⟩ = some (.slice a2 x.ps.length c2) ∧ w.cell? ⟨b, i * 6 + 4, none⟩ = some (.slice a3 x.rs.length c3) ∧ w.cell? ⟨b, i * 6 + 5, none⟩ = some (.slice a4 x.fs.length c4) := by
  obtain ⟨cs, h1, h2, _, h4, h5⟩ := h.ex
  have hi := (List.getElem?_eq_some_iff.1 hx).1
  obtain ⟨c, hc⟩ : ∃ c, cs[i]? = some c := ⟨cs[i]'(by omega), by simp⟩
  obtain ⟨vs, vp, vr, vf, rfl, k1, k2, k3, k4⟩ := (h5 i c x hc hx w hu).ex
  obtain ⟨a1, c1, rfl⟩ := RowAt.form k1
  obtain ⟨a2, c2, rfl⟩ := RowAt.form k2
  obtain ⟨a3, c3, rfl⟩ := RowAt.form k3
  obtain ⟨a4, c4, rfl⟩ := RowAt.form k4
  obtain ⟨b, cap, cur, e, _, _, _, hcell⟩ := ownsRow_some h4 (by omega)
  have at' : ∀ j, j < 6 → w.cell? ⟨b, i * 6 + j, none⟩ = ([.bool x.fin, .slice a1 x.sups.length c1, .int .i64 x.k, .slice a2 x.ps.length c2, .slice a3 x.rs.length c3, .slice a4 x.fs.length c4] : List Value)[j]? := fun j hj => by
    rw [hcell (i * 6 + j) (by omega)]; exact flatten_at h2 i _ hc j hj
  exact ⟨b, cap, a1, c1, a2, c2, a3, c3, a4, c4, e, ⟨⟨_, _, _, _, rfl, k1, k2, k3, k4⟩⟩, at' 0 (by omega), at' 1 (by omega), at' 2 (by omega), at' 3 (by omega), at' 4 (by omega), at' 5 (by omega)⟩
theorem DcAt.push (h : DcAt w0 S0 wE S R T w t d dc vi vt vd) {w1 w' : World} {v' : Value} {x : Int} (hb : Below w.heap.size w w1)
    (ho : w'.ownsRow wE.heap.size 3 1 v' (dc.depths ++ [x]).length ((dc.depths ++ [x]).map (Value.int .i64))) (hg : w1.grownBy w' vd.ownBlock) (hm : v'.ownBlock = vd.ownBlock ∨ v'.ownBlock = some w1.heap.size) :
    ∃ T' vd', DcAt w0 S0 wE S R T' (w'.setCell ⟨d, 3, none⟩ v') t d { dc with depths := dc.depths ++ [x] } vi vt vd' ∧ Upd (fun b => T b ∨ b = d) w (w'.setCell ⟨d, 3, none⟩ v') ∧ Fresh T w T' := by
  have hdl := heap_lt h.box
  have hnd : ∀ b, vd.ownBlock = some b → b ≠ d := fun b hb' => (h.td b (h.tv b hb')).2.2.2.2
  have hu1 : Upd (fun b => vd.ownBlock = some b) w w' := ((Upd.of_below hb : Upd (fun b => vd.ownBlock = some b) w w1)).trans' ((Upd.refl _ _).grown hg (fun k hk => .inl hk))
  have hbox' : w'.heap[d]? = some (.cells #[.pointer (some ⟨t, 0, none⟩), vi, vt, vd] 74 (0, 0)) := hu1.heap_some h.box (fun e => hnd d e rfl)
  have hu2 : Upd (fun b => T b ∨ b = d) w (w'.setCell ⟨d, 3, none⟩ v') := (hu1.mono fun b _ hb' => .inl (h.tv b hb')).setCell (.inl (.inr rfl)) _
  have hu3 : Upd (fun b => b = d) w' (w'.setCell ⟨d, 3, none⟩ v') := Upd.setCell (S := fun b => b = d) (Upd.refl _ _) (.inl rfl) _
  have hS : ∀ b, (T b ∨ b = d) → ¬ S b ∧ ¬ R b ∧ wE.heap.size ≤ b := fun b hb' => hb'.elim (fun q => have := h.td b q; ⟨this.2.2.1, this.2.2.2.1, this.2.1⟩) (fun q => by subst q; exact h.dd)
  have hvn : ∀ b, v'.ownBlock = some b → (T b ∨ w.heap.size ≤ b) ∧ b < w'.heap.size ∧ wE.heap.size ≤ b := fun b hb' => by
    have h2 := ho.lt b hb'
    refine ⟨?_, h2.2, h2.1⟩
    rcases hm with e | e
    · exact .inl (h.tv b (e.symm.trans hb'))
    · have := hb.size
      rw [e] at hb'
      cases hb'
      exact .inr (by omega)
  have hsz : (w'.setCell ⟨d, 3, none⟩ v').heap.size = w'.heap.size := by simp [World.setCell]
  have hT : ∀ b, (T b ∨ v'.ownBlock = some b) → b < (w'.setCell ⟨d, 3, none⟩ v').heap.size ∧ wE.heap.size ≤ b ∧ ¬ S b ∧ ¬ R b ∧ b ≠ d := fun b hb' => by
    have key : T b ∨ w.heap.size ≤ b := hb'.elim .inl (fun q => (hvn b q).1)
    have hlt : b < w'.heap.size := hb'.elim (fun q => Nat.lt_of_lt_of_le (h.td b q).1 hu1.size) (fun q => (hvn b q).2.1)
    rw [hsz]
    rcases key with q | q
    · exact ⟨hlt, (h.td b q).2⟩
    · exact ⟨hlt, Nat.le_trans h.up.size q, fun hs => by have := (h.tab.tab.lt b hs).1; omega, fun hs => by have := h.tab.tab.rlt b hs; omega, by omega⟩
  have hfT : Fresh T w (fun b => T b ∨ v'.ownBlock = some b) := fun b hb' => hb'.elim .inl (fun q => (hvn b q).1)
  refine ⟨fun b => T b ∨ v'.ownBlock = some b, v', ⟨h.tab.upd hu2 (fun b hb' => ⟨(hS b hb').1, (hS b hb').2.1, Nat.le_trans h.e0 (hS b hb').2.2⟩), h.c, ?_, fun w'' hu => ?_, ?_, ?_, fun b hb' => .inl (h.tt b hb'), fun b hb' => .inr hb', hT, h.dd, h.up.trans (fun b hb' => .inr (hS b hb').2.2) hu2, h.fr, h.e0⟩, hu2, hfT⟩
  · have := heap_set_at hbox' 3 v'
    simpa using this
  · refine h.ids w'' ((hu2.mono fun b _ hb' => .inr (hb'.imp id .inl)).trans (fun b hb' => ?_) hu)
    rcases hb' with q | q | q | q
    · exact .inl (.inl q)
    · exact (hfT b q).imp (fun q => .inr (.inl q)) id
    · exact .inl (.inr (.inr (.inl q)))
    · exact .inl (.inr (.inr (.inr q)))
  · refine h.tys.keep (W := fun b => vd.ownBlock = some b ∨ b = d) ((hu1.mono fun b _ q => .inl q).setCell (.inl (.inr rfl)) _) (fun b hb' q => ?_)
    exact q.elim (h.apart b hb') (h.td b (h.tt b hb')).2.2.2.2
  · exact ownsRow_upd ho hu3 (fun b hb' e => (hT b (.inr hb')).2.2.2.2 e)
end
section
open Go.RowKit Go.Maps Go.WideMaps
def superI (s : Sb) : Int := match superD s with
  | none => 0
  | some a => a
def superB (s : Sb) : Bool := (superD s).isSome
set_option maxRecDepth 100000 in
set_option maxHeartbeats 4000000 in
theorem super_any (cs : List Value) (s : Sb) (w : World) (hs : SubAt w cs s) (hl : s.sups.length ≤ 1000000) : Calls Tryz.prog 72 #[.agg cs.toArray] w fun e w' => e = .returned (.tuple #[.int .i64 (superI s), .bool (superB s)]) ∧ Below w.heap.size w w' := by
  obtain ⟨vs, vp, vr, vf, rfl, k1, k2, k3, k4⟩ := hs.ex
  obtain ⟨a1, c1, rfl⟩ := RowAt.form k1
  obtain ⟨a2, c2, rfl⟩ := RowAt.form k2
  obtain ⟨a3, c3, rfl⟩ := RowAt.form k3
  obtain ⟨a4, c4, rfl⟩ := RowAt.form k4
  rcases hsp : s.sups with _ | ⟨h, r⟩
  · have e0 : superI s = 0 ∧ superB s = false := by simp [superI, superB, superD, hsp]
    rw [e0.1, e0.2]
    simp only [List.length_nil]
    clear k1 k2 k3 k4 hs e0 hsp hl
    go_enter Tryz.func72, Tryz.ntmps72
    go_wp2
    go_ret2
    exact ⟨rfl, (Below.refl _ _).alloc (Nat.le_refl _) _⟩
  · rw [← hsp]
    obtain ⟨n, hn⟩ : ∃ n, s.sups.length = n := ⟨_, rfl⟩
    have hn0 : 0 < n := by rw [← hn, hsp]; simp
    unfold HpsAt at k1
    rw [hn] at k1 hl ⊢
    obtain ⟨b, off, rfl, hb, _, hc⟩ := RowAt.at k1 (by decide) hn0
    have p0 : w.cell? ⟨b, off, none⟩ = some (.int .i64 h.k) := by have := hc 0 (by omega); rw [hsp] at this; simpa [flatH, cellsH] using this
    have p1 : w.cell? ⟨b, off + 1, none⟩ = some (.int .i64 h.n) := by have := hc 1 (by omega); rw [hsp] at this; simpa [flatH, cellsH] using this
    have hn' : (0 : Int) < n := by omega
    have hnz : ¬ (n : Int) = 0 := by omega
    have hnz' : ((n : Int) == 0) = false := by simpa using hnz
    by_cases hk : h.k = 13
    · have e0 : superI s = h.n ∧ superB s = true := by simp [superI, superB, superD, hsp, hk]
      rw [e0.1, e0.2]
      rw [hk] at p0
      clear k1 k2 k3 k4 hs e0 hsp hn hc hk
      go_enter Tryz.func72, Tryz.ntmps72
      go_wp2
      go_ret2
      exact ⟨rfl, (Below.refl _ _).alloc (Nat.le_refl _) _⟩
    · have e0 : superI s = -1 ∧ superB s = true := by simp [superI, superB, superD, hsp, hk]
      rw [e0.1, e0.2]
      have hk1 : (h.k == 13) = false := by simpa using hk
      have hk2 : (h.k != 13) = true := by simpa using hk
      clear k1 k2 k3 k4 hs e0 hsp hn hc
      go_enter Tryz.func72, Tryz.ntmps72
      go_wp2
      go_ret2
      exact ⟨rfl, (Below.refl _ _).alloc (Nat.le_refl _) _⟩
variable {w0 wE w : World} {S0 S R T : Nat → Prop} {t d : Nat} {dc : DcS} {vi vt vd : Value}
set_option maxRecDepth 100000 in
set_option maxHeartbeats 8000000 in
theorem dcStands_any (h : DcAt w0 S0 wE S R T w t d dc vi vt vd) (cs : List Value) (s : Sb) (hs : SubAt w cs s) (n : Nat) (hn : n ≤ dc.types.length) (hl : s.sups.length ≤ 1000000) (hn6 : n ≤ 100000) : Calls Tryz.prog 38 #[.pointer (some ⟨d, 0, none⟩), .agg cs.toArray, .int .i64 n] w fun e w' => e = .returned (.int .i64 (standsD dc.types s n)) ∧ Below w.heap.size w w' := by
  obtain ⟨vs, vp, vr, vf, rfl, k1, k2, k3, k4⟩ := hs.ex
  obtain ⟨a1, c1, rfl⟩ := RowAt.form k1
  obtain ⟨a2, c2, rfl⟩ := RowAt.form k2
  obtain ⟨a3, c3, rfl⟩ := RowAt.form k3
  obtain ⟨a4, c4, rfl⟩ := RowAt.form k4
  clear k1 k2 k3 k4
  obtain ⟨sl, hsl⟩ : ∃ sl, s.sups.length = sl := ⟨_, rfl⟩
  obtain ⟨W1, hW1⟩ : ∃ W1 : World, W1 = w.alloc (.cells #[.bool s.fin, .slice a1 s.sups.length c1, .int .i64 s.k, .slice a2 s.ps.length c2, .slice a3 s.rs.length c3, .slice a4 s.fs.length c4] 46) := ⟨_, rfl⟩
  have hb1 : Below w.heap.size w W1 := by rw [hW1]; exact (Below.refl _ _).alloc (Nat.le_refl _) _
  have z1 : W1.heap[w.heap.size]? = some (.cells #[.bool s.fin, .slice a1 s.sups.length c1, .int .i64 s.k, .slice a2 s.ps.length c2, .slice a3 s.rs.length c3, .slice a4 s.fs.length c4] 46 (0, 0)) := by rw [hW1]; exact heap_alloc_at _ _ rfl
  have C1 := super_any _ s W1 (hs.below hb1 (Nat.le_refl _)) hl
  rw [hsl] at C1 z1
  have C1 := hid C1
  have HB1 := hid hb1; have HSL := hid hsl; have HL := hid hl; have Z1 := hid z1; have H := hid h; have HN := hid hn
  rw [hsl] at hW1
  have HW1 := hid hW1
  rw [hsl]
  have hsl6 : (sl : Int) ≤ 1000000 := by omega
  clear hb1 hsl hl z1 h hs hW1 hn
  obtain ⟨r, hr⟩ : ∃ r, standsD dc.types s n = r := ⟨_, rfl⟩
  rw [hr]
  unfold standsD at hr
  by_cases hgt : 1 < s.sups.length
  · rw [if_pos hgt] at hr
    subst hr
    have hg1 : (1 : Int) < sl := by have := HSL.out; omega
    clear hgt
    go_enter Tryz.func38, Tryz.ntmps38
    go_wp2
    go_ret
    exact ⟨rfl, (Below.refl _ _).alloc (Nat.le_refl _) _⟩
  rw [if_neg hgt] at hr
  have hg1 : ¬ (1 : Int) < sl := by have := HSL.out; omega
  clear hgt
  cases hsd : superD s with
  | none =>
    rw [hsd] at hr
    have e1 : superI s = 0 := by unfold superI; rw [hsd]
    have e2 : superB s = false := by unfold superB; rw [hsd]; rfl
    rw [e1, e2] at C1
    dsimp only at hr
    subst hr
    clear hsd e1 e2
    go_enter Tryz.func38, Tryz.ntmps38
    go_wp2_with fail
    rw [← HW1.out]
    refine C1.out.mono ?_
    rintro e w2 ⟨rfl, hb2⟩
    have HB2 := hid hb2
    clear hb2
    go_wp2
    go_ret
    exact ⟨rfl, HB1.out.trans (HB2.out.mono HB1.out.size)⟩
  | some a =>
    rw [hsd] at hr
    have e1 : superI s = a := by unfold superI; rw [hsd]
    have e2 : superB s = true := by unfold superB; rw [hsd]; rfl
    rw [e1, e2] at C1
    dsimp only at hr
    clear hsd e1 e2
    go_enter Tryz.func38, Tryz.ntmps38
    go_wp2_with fail
    rw [← HW1.out]
    refine C1.out.mono ?_
    rintro e w2 ⟨rfl, hb2⟩
    have hbe : Below w.heap.size w w2 := HB1.out.trans (hb2.mono HB1.out.size)
    have q1 := (hb2.block _ (heap_lt Z1.out)).trans Z1.out
    have HBE := hid hbe; have HB2 := hid hb2; have Q1 := hid q1
    clear hb2 hbe q1
    by_cases ha : a < 0
    · rw [if_pos (.inl ha)] at hr
      subst hr
      have ha1 : decide (a < 0) = true := by simpa using ha
      go_wp2
      go_ret
      exact ⟨rfl, HBE.out⟩
    have ha1 : decide (a < 0) = false := by simpa using ha
    by_cases hna : (n : Int) ≤ a
    · rw [if_pos (.inr hna)] at hr
      subst hr
      have hna1 : decide (a ≥ (n : Int)) = true := by simpa using hna
      go_wp2
      go_ret
      exact ⟨rfl, HBE.out⟩
    rw [if_neg (by omega)] at hr
    obtain ⟨k, rfl⟩ : ∃ k : Nat, a = k := ⟨a.toNat, by omega⟩
    have hkn : k < n := by omega
    simp only [Int.toNat_natCast] at hr
    obtain ⟨u, hu⟩ : ∃ u, dc.types[k]? = some u := ⟨dc.types[k]'(by have := HN.out; omega), by simp⟩
    rw [hu] at hr
    dsimp only at hr
    have hdc := H.out.below HBE.out
    obtain ⟨tb, tc, d1, f1, d2, f2, d3, f3, d4, f4, rfl, gs, p0, p1, p2, p3, p4, p5⟩ := hdc.tys.at hdc.up hu
    have y2 := heap_cell hdc.box 2
    simp only [List.getElem?_toArray, List.getElem?_cons_succ, List.getElem?_cons_zero] at y2
    have x2 := heap_cell Q1.out 2
    simp only [List.getElem?_toArray, List.getElem?_cons_succ, List.getElem?_cons_zero] at x2
    have hkl : (k : Int) < dc.types.length := by have := HN.out; omega
    have hk6 : (k : Int) < 1000000 := by omega
    have hna1 : decide (n ≤ k) = false := by simpa using hkn
    have hna2 : ¬ (n : Int) ≤ k := hna
    have hna3 : decide ((n : Int) ≤ k) = false := by simpa using hna
    clear gs hdc p1 p3 p4 p5 hu hkn
    cases hfin : u.fin with
    | true =>
      rw [hfin] at hr p0
      rw [if_pos rfl] at hr
      subst hr
      clear hfin
      go_wp2
      go_ret
      exact ⟨rfl, HBE.out⟩
    | false =>
      rw [hfin] at hr p0
      rw [if_neg (by simp)] at hr
      clear hfin
      by_cases hk : u.k = s.k
      · rw [if_neg (by simpa using hk)] at hr
        subst hr
        rw [hk] at p2
        clear hk
        go_wp2
        go_quiet (fail)
        go_wp2
        go_ret
        exact ⟨rfl, ⟨HBE.out.os, HBE.out.tape, HBE.out.output, HBE.out.size, HBE.out.block⟩⟩
      · rw [if_pos hk] at hr
        subst hr
        have hk1 : (u.k != s.k) = true := by simpa using hk
        go_wp2
        go_quiet (fail)
        go_wp2
        go_ret
        exact ⟨rfl, ⟨HBE.out.os, HBE.out.tape, HBE.out.output, HBE.out.size, HBE.out.block⟩⟩
set_option maxRecDepth 100000 in
theorem dcNone_any {gs : List (List Sb)} (ht : TabAt S R w t gs) (hok : total gs ≤ 10000) : Calls Tryz.prog 18 #[.pointer (some ⟨t, 0, none⟩)] w fun e w' => e = .returned (.bool false) ∧ Below w.heap.size w w' := by
  have C0 := hid (get_out ht hok (-1) (by omega))
  clear ht hok
  go_enter Tryz.func18, Tryz.ntmps18
  go_wp2_with fail
  refine C0.out.mono ?_
  rintro e w1 ⟨rfl, hb1⟩
  have HB1 := hid hb1
  clear hb1
  go_wp2
  go_ret
  exact ⟨rfl, HB1.out.alloc HB1.out.size _⟩
end
section
open Go.RowKit Go.Maps Go.WideMaps
theorem matchesD_none {ts : List Sb} {ids ds : List Int} {s : Sb} {n : Nat} (h : superD s = none) : matchesD ts ids ds s n = (0, ds ++ [0]) := by
  unfold matchesD; rw [h]
variable {w0 wE w : World} {S0 S R T : Nat → Prop} {t d : Nat} {dc : DcS} {vi vt vd : Value}
def DcM (w0 : World) (S0 : Nat → Prop) (wE : World) (S R T : Nat → Prop) (w : World) (t d : Nat) (dc : DcS) (vi vt : Value) (M : Int × List Int) (e : Ending) (w' : World) : Prop :=
  e = .returned (.int .i64 M.1) ∧ ∃ T' vd', DcAt w0 S0 wE S R T' w' t d { dc with depths := M.2 } vi vt vd' ∧ Upd (fun b => T b ∨ b = d) w w' ∧ Fresh T w T'
theorem DcAt.cells (h : DcAt w0 S0 wE S R T w t d dc vi vt vd) : w.cell? ⟨d, 0, none⟩ = some (.pointer (some ⟨t, 0, none⟩)) ∧ w.cell? ⟨d, 1, none⟩ = some vi ∧ w.cell? ⟨d, 2, none⟩ = some vt ∧ w.cell? ⟨d, 3, none⟩ = some vd :=
  ⟨heap_cell h.box 0, heap_cell h.box 1, heap_cell h.box 2, heap_cell h.box 3⟩
set_option maxRecDepth 100000 in
set_option maxHeartbeats 16000000 in
theorem dcMatches_any (h : DcAt w0 S0 wE S R T w t d dc vi vt vd) (cs : List Value) (s : Sb) (hs : SubAt w cs s) (n : Nat) (hn : n < dc.ids.length) (hlen : dc.depths.length = n) (hl : s.sups.length ≤ 1000000) (hn6 : dc.ids.length ≤ 100000)
    (hno : superD s = none) (hin : ∀ i ∈ dc.ids, inTab dc.gs i = true) (hdep : ∀ x ∈ dc.depths, 0 ≤ x ∧ x ≤ 63) :
    Calls Tryz.prog 40 #[.pointer (some ⟨d, 0, none⟩), .agg cs.toArray, .int .i64 n] w (DcM w0 S0 wE S R T w t d dc vi vt (matchesD (tabL dc.gs) dc.ids dc.depths s n)) := by
  obtain ⟨i0, hi, hz0, hz1, hz2⟩ := info_parts Tryz.infoInt
  have Hi := hid hi; have Hz0 := hid hz0; have Hz1 := hid hz1; have Hz2 := hid hz2
  obtain ⟨vs, vp, vr, vf, rfl, k1, k2, k3, k4⟩ := hs.ex
  obtain ⟨a1, c1, rfl⟩ := RowAt.form k1
  obtain ⟨a2, c2, rfl⟩ := RowAt.form k2
  obtain ⟨a3, c3, rfl⟩ := RowAt.form k3
  obtain ⟨a4, c4, rfl⟩ := RowAt.form k4
  clear k1 k2 k3 k4 hi hz0 hz1 hz2
  obtain ⟨W1, hW1⟩ : ∃ W1 : World, W1 = w.alloc (.cells #[.bool s.fin, .slice a1 s.sups.length c1, .int .i64 s.k, .slice a2 s.ps.length c2, .slice a3 s.rs.length c3, .slice a4 s.fs.length c4] 46) := ⟨_, rfl⟩
  have hb1 : Below w.heap.size w W1 := by rw [hW1]; exact (Below.refl _ _).alloc (Nat.le_refl _) _
  have C1 := hid (super_any _ s W1 (hs.below hb1 (Nat.le_refl _)) hl)
  have HB1 := hid hb1; have H := hid h; have HN := hid hn; have HLEN := hid hlen; have HIN := hid hin; have HDEP := hid hdep; have HN6 := hid hn6; have HW1 := hid hW1
  clear hb1 hl h hs hW1 hn hlen hin hdep hn6
  obtain ⟨M, hM⟩ : ∃ M, matchesD (tabL dc.gs) dc.ids dc.depths s n = M := ⟨_, rfl⟩
  rw [hM]
  cases hsd : superD s with
  | none =>
    rw [matchesD_none hsd] at hM
    have e1 : superI s = 0 := by unfold superI; rw [hsd]
    have e2 : superB s = false := by unfold superB; rw [hsd]; rfl
    rw [e1, e2] at C1
    have HM := hid hM.symm
    clear hsd e1 e2 hM hno
    go_enter Tryz.func40, Tryz.ntmps40
    go_wp2_with fail
    rw [← HW1.out]
    refine C1.out.mono ?_
    rintro e w2 ⟨rfl, hb2⟩
    have hbe : Below w.heap.size w w2 := HB1.out.trans (hb2.mono HB1.out.size)
    have hdc := H.out.below hbe
    obtain ⟨ad, cd, hvd, -⟩ := ownsRow_form hdc.dep
    rw [hvd] at hdc
    have dep := hdc.dep
    obtain ⟨x0, x1, x2, x3⟩ := hdc.cells
    have hdl := heap_lt hdc.box
    have f3 := heap_frozen hdc.box 3
    have HDC := hid hdc; have HBE := hid hbe
    obtain ⟨ln, hln⟩ : ∃ ln, dc.depths.length = ln := ⟨_, rfl⟩
    have HLN := hid hln
    rw [hln] at dep x3
    have DEP := hid (dep.alloc (.cells #[.int .i64 0] 3))
    have HRW := hid (row_cells (cs := [.int .i64 0]) (heap_alloc_at w2 (.cells #[.int .i64 0] 3) rfl))
    have hln6 : ln ≤ 100000 := by have := HLEN.out; have := HN.out; have := HN6.out; omega
    have HLN6 := hid hln6
    have HSZ := hid (show wE.heap.size ≤ (w2.alloc (.cells #[.int .i64 0] 3)).heap.size by have := hdc.up.size; simp; omega)
    have hu := heap_alloc_keep hdc.box (.cells #[.int .i64 0] 3)
    have HU := hid hu
    clear hb2 hbe hdc dep hln hln6 hu
    go_wp2_with (at_builtin; refine wpList_append_own_at _ rfl _ _ 25 rfl wE.heap.size 3 i0 _ 1 8 Tryz.underlying25 Hi.out Hz0.out Hz1.out Hz2.out rfl (by decide) _ _ _ rfl DEP.out ⟨w2.heap.size, 0, none⟩ 1 1 [.int .i64 0] rfl rfl HRW.out (by intro u hu; simp at hu; subst hu; rfl) (by have := HLN6.out; unfold maxLen; omega) (by have := HLN6.out; omega) HSZ.out ?_)
    intro v9 w9 o9 gr9 mv0 mv9
    obtain ⟨a9, c9, rfl, -⟩ := ownsRow_form o9
    have hpush := HDC.out.push (x := 0) (v' := .slice a9 (ln + 1) c9) (w' := w9) ((Below.refl _ _).alloc (Nat.le_refl _) (.cells #[.int .i64 0] 3)) (by rw [List.length_append, List.map_append, HLN.out]; exact o9) (by rw [HLN.out]; exact gr9) (by rw [HLN.out]; simpa using mv9)
    have fb : w9.heap[d]? = some (.cells #[.pointer (some ⟨t, 0, none⟩), vi, vt, .slice ad ln cd] 74 (0, 0)) := by
      rw [gr9.block d (heap_lt HU.out) (fun e => (HDC.out.td d (HDC.out.tv d (by rw [HLN.out]; exact e.symm))).2.2.2.2 rfl)]
      have := HU.out
      rw [HLN.out] at this
      exact this
    have f9c := heap_cell fb 3
    have f9f := heap_frozen fb 3
    simp only [List.getElem?_toArray, List.getElem?_cons_succ, List.getElem?_cons_zero] at f9c
    have HP := hid hpush
    clear o9 gr9 mv0 mv9 fb hpush x3
    go_wp2
    go_ret
    obtain ⟨T', vd', h1, h2, h3⟩ := HP.out
    rw [HM.out]
    exact ⟨rfl, T', vd', h1, (Upd.of_below HBE.out).trans' h2, fun b hb => (h3 b hb).imp id (fun q => Nat.le_trans HBE.out.size q)⟩
  | some a => rw [hno] at hsd; cases hsd
end
end Go.Proofs.YtlcfkfijomnmnaaGreatDoor
