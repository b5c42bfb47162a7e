import Derived.Test.YtlcfkfijomnmnaaGreatDoorQRoAddBd
namespace Go.Proofs.YtlcfkfijomnmnaaGreatDoor
open Lib (hid)
section
open Go.RowKit Go.Maps Go.WideMaps
theorem addG_ok {gs : List (List Sb)} {ids : List Int} {g : List Sb} (hok : TabOk gs) (hl : ids.length ≤ 100000) (hr : RawG g) : TabOk (addG gs ids g).2.2 := by
  unfold addG
  split
  · exact hok
  · rename_i h1
    split
    · exact hok
    · rename_i h2
      split
      · exact hok
      · split
        · exact hok
        · refine enterG_ok hok (rollG_good (fun i hi => ?_) (by omega) hr (fun x hx => ?_))
          · have h := h2
            simp only [Decidable.not_not, List.all_eq_true] at h
            have := h i hi
            have ht := hok.total
            simp [inTab] at this; omega
          · have h := h1
            simp only [Decidable.not_not, List.all_eq_true] at h
            exact h x hx
structure TabN (w0 : World) (S R : Nat → Prop) (w : World) (t : Nat) (gs : List (List Sb)) : Prop where
  tab : TabAt S R w t gs
  ok : TabOk gs
  base : ∀ k, S k → w0.heap.size ≤ k
  be : Below w0.heap.size w0 w
theorem TabN.below {w0 w w' : World} {S R : Nat → Prop} {t : Nat} {gs : List (List Sb)} (h : TabN w0 S R w t gs) (hb : Below w.heap.size w w') : TabN w0 S R w' t gs :=
  ⟨h.tab.below hb, h.ok, h.base, h.be.trans (hb.mono h.be.size)⟩
def AddN2 (w0 : World) (S R : Nat → Prop) (w : World) (t : Nat) (A : List Int × Int × List (List Sb)) (e : Ending) (w' : World) : Prop :=
  ∃ u S' R', e = .returned (.tuple #[u, .int .i64 A.2.1]) ∧ TabN w0 S' R' w' t A.2.2 ∧ (∀ w'', Upd (fun b => S' b ∨ b < w.heap.size) w' w'' → IntsAt w'' u A.1) ∧ Upd S w w' ∧ Fresh S w S' ∧ Fresh R w R'
theorem add_n2 {w0 : World} {S R : Nat → Prop} {w : World} {t : Nat} {v1 v2 : Value} {gs : List (List Sb)} {ids : List Int} {g : List Sb} (ht : TabN w0 S R w t gs) (h1 : ∀ w', Upd S w w' → IntsAt w' v1 ids) (hl : ids.length ≤ 100000) (h2 : GrpAt w v2 g) (hr : RawG g) (htab : Tab w0) :
    Calls Tryz.prog 36 #[.pointer (some ⟨t, 0, none⟩), v1, v2] w (AddN2 w0 S R w t (addG gs ids g)) := by
  refine (add_any2 S R w t v1 v2 gs ids g ht.tab ht.ok h1 hl h2 hr (htab.on ht.be)).mono ?_
  rintro e w' ⟨u, S', R', he, h3, h4, h5, h6, h7⟩
  have hs := ht.be.size
  exact ⟨u, S', R', he, ⟨h3, addG_ok ht.ok hl hr, fun k hk => (h6 k hk).elim (ht.base k) (fun h => by omega), ht.be.trans (h5.below ht.base hs)⟩, h4, h5, h6, h7⟩
def bx (n : Int) : Sb := ⟨false, [], 2, [], [], [⟨0, ⟨3, true, 13, n⟩, false⟩]⟩
end
section
open Go.RowKit Go.Maps Go.WideMaps
theorem firstOf_add {gs : List (List Sb)} {i : Nat} {g : List Sb} (h : gs[i]? = some g) : firstOf gs i + g.length ≤ total gs := by
  have h1 := firstOf_le gs (i + 1)
  have h2 : firstOf gs (i + 1) = firstOf gs i + g.length := by
    unfold firstOf
    rw [List.take_add_one, h]
    exact total_snoc _ _
  omega
theorem enterG_fit {gs : List (List Sb)} {g : List Sb} (he : (enterG gs g).2.1 = 0) : (enterG gs g).1 + g.length ≤ total (enterG gs g).2.2 ∧ total gs ≤ total (enterG gs g).2.2 := by
  revert he
  unfold enterG
  cases hf : findG gs g with
  | some i =>
    intro _
    obtain ⟨hlt, hx, _⟩ := List.findIdx?_eq_some_iff_getElem.1 hf
    have hgi : gs[i]? = some g := by rw [List.getElem?_eq_getElem hlt]; simpa using hx
    have := firstOf_add hgi
    dsimp only; omega
  | none =>
    dsimp only
    split
    · intro h; cases h
    · split
      · rename_i h; intro _; subst h; simp
      · intro _; dsimp only; rw [total_snoc]; omega
structure AddOk (gs : List (List Sb)) (ids : List Int) (g : List Sb) (A : List Int × Int × List (List Sb)) : Prop where
  inn : ∀ i ∈ A.1, inTab A.2.2 i = true
  len : A.1.length = ids.length + g.length
theorem inTab_mono {gs gs' : List (List Sb)} (h : total gs ≤ total gs') {i : Int} (hi : inTab gs i = true) : inTab gs' i = true := by
  simp [inTab] at hi ⊢; omega
theorem addG_fact (gs : List (List Sb)) (ids : List Int) (g : List Sb) : ((addG gs ids g).2.1 ≠ 0 ∧ (addG gs ids g).1 = [] ∧ (addG gs ids g).2.2 = gs) ∨ ((addG gs ids g).2.1 = 0 ∧ AddOk gs ids g (addG gs ids g)) := by
  unfold addG
  split
  · exact .inl ⟨by simp, rfl, rfl⟩
  · split
    · exact .inl ⟨by simp, rfl, rfl⟩
    · rename_i h2
      split
      · exact .inl ⟨by simp, rfl, rfl⟩
      · split
        · rename_i h4
          exact .inl ⟨h4, rfl, rfl⟩
        · rename_i h4
          have h4 : (enterG gs (rollG ids g).1).2.1 = 0 := by simpa using h4
          obtain ⟨f1, f2⟩ := enterG_fit h4
          rw [rollG_len] at f1
          have f0 := enterG_first (gs := gs) (g := (rollG ids g).1)
          refine .inr ⟨rfl, ⟨fun i hi => ?_, by simp⟩⟩
          simp only [List.mem_append, List.mem_map, List.mem_range] at hi
          rcases hi with hi | ⟨k, hk, rfl⟩
          · have h := h2
            simp only [Decidable.not_not, List.all_eq_true] at h
            exact inTab_mono f2 (h i hi)
          · simp [inTab]; omega
end
section
open Go.RowKit Go.Maps Go.WideMaps
def unroll (first : Int) (h : Hp) : Hp := if h.k = 14 then ⟨15, first + h.n⟩ else h
def DRec (h : Hp) : Prop := h.k = 14 → 0 ≤ h.n ∧ h.n ≤ 4294967295
structure PureJ (W0 : World) (B : Nat) (u : Unit) (n : Nat) (T : Nat → Prop) (w : World) : Prop where
  be : Below B W0 w
  t : ∀ b, ¬ T b
  le : B ≤ w.heap.size
set_option maxRecDepth 100000 in
set_option maxHeartbeats 8000000 in
theorem unroll_ok (W0 : World) (B b : Nat) (first : Int) (vg : Value) (hf : 0 ≤ first ∧ first ≤ 10000) (hb : W0.heap[b]? = some (.cells #[.int .i64 first, vg] 108 (0, 0))) (hB : b < B) :
    FnOk Tryz.prog cellsH DRec 44 #[.pointer (some ⟨b, 0, none⟩)] (fun (s : Unit) h => (unroll first h, s)) (PureJ W0 B) B where
  enter := fun _ _ => rfl
  lt := fun h => ⟨fun b hb => (h.t b hb).elim, h.le⟩
  keep := fun h u => ⟨h.be.trans (u.below (fun k hk => hk.1) h.le), h.t, Nat.le_trans h.le u.size⟩
  less := fun h _ => ⟨h.be, h.t, h.le⟩
  call := by
    intro s n T w x hd hj
    obtain ⟨k, m⟩ := x
    rw [show cellsH ⟨k, m⟩ = [.int .i64 k, .int .i64 m] from rfl]
    show Calls Tryz.prog 44 #[.agg #[.int .i64 k, .int .i64 m], .pointer (some ⟨b, 0, none⟩)] w _
    have zb : w.heap[b]? = some (.cells #[.int .i64 first, vg] 108 (0, 0)) := by rw [hj.be.block b hB]; exact hb
    have cb0 := heap_cell zb 0
    simp at cb0
    have cb := cell_alloc (cell_alloc cb0 (.cells #[.int .i64 k, .int .i64 m] 33)) (.cells #[.int .i64 0, .int .i64 0] 33)
    have HJ := Lib.hid hj; have HD := Lib.hid hd
    clear zb hb hj hd cb0 hB
    have fin : ∀ W', Below w.heap.size w W' → ∃ T', PureJ W0 B () n T' W' ∧ Upd T w W' ∧ Fresh T w T' := fun W' h =>
      ⟨T, ⟨HJ.out.be.trans (h.mono HJ.out.le), HJ.out.t, Nat.le_trans HJ.out.le h.size⟩, Upd.of_below h, Fresh.refl _ _⟩
    have FIN := Lib.hid fin
    clear fin
    by_cases hk : k = 14
    · subst hk
      obtain ⟨hm0, hm1⟩ := HD.out rfl
      dsimp only at hm0 hm1
      have hu : unroll first ⟨14, m⟩ = ⟨15, first + m⟩ := rfl
      obtain ⟨hf0, hf1⟩ := hf
      go_enter Tryz.func44, Tryz.ntmps44
      go_wp2
      refine bodyPost_ret (v := .agg #[.int .i64 15, .int .i64 (first + m)]) (by simp [results, Tryz.results44, go_sem]) rfl ?_
      obtain ⟨T', h1, h2, h3⟩ := FIN.out _ (((Below.refl _ w).alloc (Nat.le_refl _) (.cells #[.int .i64 14, .int .i64 m] 33)).alloc (by simp) (.cells #[.int .i64 15, .int .i64 (first + m)] 33))
      exact ⟨T', rfl, h1, h2, h3⟩
    · have hk' : (k == 14) = false := by simpa using hk
      have hu : unroll first ⟨k, m⟩ = ⟨k, m⟩ := by unfold unroll; rw [if_neg hk]
      dsimp only
      rw [hu]
      clear hk
      go_enter Tryz.func44, Tryz.ntmps44
      go_wp2
      refine bodyPost_ret (v := .agg #[.int .i64 k, .int .i64 m]) (by simp [results, Tryz.results44, go_sem]) rfl ?_
      obtain ⟨T', h1, h2, h3⟩ := FIN.out _ (((Below.refl _ w).alloc (Nat.le_refl _) (.cells #[.int .i64 k, .int .i64 m] 33)).alloc (by simp) (.cells #[.int .i64 k, .int .i64 m] 33))
      exact ⟨T', rfl, h1, h2, h3⟩
variable {S R : Nat → Prop} {w : World} {t : Nat} {gs : List (List Sb)}
structure Read (R : Nat → Prop) (w : World) (t id j : Nat) (g : List Sb) (gs : List (List Sb)) : Prop where
  ex : ∃ (be bo ce co cg : Nat) (ag : Option Addr) (_ : Option Nat), w.cell? ⟨t, 0, none⟩ = some (.slice (some ⟨be, 0, none⟩) gs.length ce) ∧ w.cell? ⟨t, 1, none⟩ = some (.slice (some ⟨bo, 0, none⟩) (total gs) co) ∧ w.cell? ⟨bo, id, none⟩ = some (.int .i64 j) ∧
    w.cell? ⟨be, j * 2, none⟩ = some (.int .i64 (firstOf gs j)) ∧ w.cell? ⟨be, j * 2 + 1, none⟩ = some (.slice ag g.length cg) ∧ ∀ w', Below w.heap.size w w' → GrpAt w' (.slice ag g.length cg) g
theorem read_of (ht : TabAt S R w t gs) {id j : Nat} {g : List Sb} (hj : gs[j]? = some g) (ho : (ofL gs)[id]? = some (j : Int)) (hid : id < total gs) : Read R w t id j g gs := by
  obtain ⟨ev, ov, M, h1, h2, h3, _⟩ := ht.ex
  obtain ⟨ae, ce, rfl⟩ : ∃ ae ce, ev = .slice ae gs.length ce := by
    obtain ⟨vs, e1, e2, e3⟩ := h2.ex
    obtain ⟨ae, ce, rfl, _⟩ := ownsRow_form e2
    exact ⟨ae, ce, rfl⟩
  obtain ⟨be, ag, cg, rfl, p0, p1, hgr⟩ := h2.at hj
  rw [ofL_len] at h3
  obtain ⟨bo, co, cur, rfl, _, _, _, hc⟩ := ownsRow_some h3 (by omega)
  have c0 := heap_cell h1 0; have c1 := heap_cell h1 1
  refine ⟨be, bo, ce, co, cg, ag, some M, by simpa using c0, by simpa using c1, ?_, p0, p1, fun w' hb => hgr w' ((Upd.of_below hb : Upd (fun _ => False) w w').mono fun _ _ h => h.elim)⟩
  rw [hc id (by omega), List.getElem?_map, ho]; rfl
def getG (gs : List (List Sb)) (j : Nat) (x : Sb) : Sb := (mapSub (fun (s : Unit) h => (unroll (firstOf gs j) h, s)) () x).1
set_option maxRecDepth 100000 in
set_option maxHeartbeats 8000000 in
theorem get_own (ht : TabAt S R w t gs) (hok : TabOk gs) {id j k : Nat} {g : List Sb} {x : Sb} (hj : gs[j]? = some g) (ho : (ofL gs)[id]? = some (j : Int)) (hid : id < total gs) (hk : id = firstOf gs j + k) (hx : g[k]? = some x) (hd : DS DRec x) :
    Calls Tryz.prog 20 #[.pointer (some ⟨t, 0, none⟩), .int .i64 id] w fun e w' => ∃ ds : List Value, e = .returned (.tuple #[.agg ds.toArray, .int .i64 0]) ∧ (∀ w'', Upd (fun b => b < w.heap.size) w' w'' → SubAt w'' ds (getG gs j x)) ∧ Below w.heap.size w w' := by
  obtain ⟨W1, hW1⟩ : ∃ W1, W1 = w.alloc (.cells #[.bool false, .slice none 0 0, .int .i64 0, .slice none 0 0, .slice none 0 0, .slice none 0 0] 46) := ⟨_, rfl⟩
  have hb1 : Below w.heap.size w W1 := by rw [hW1]; exact (Below.refl _ _).alloc (Nat.le_refl _) _
  have z4 : W1.heap[w.heap.size]? = some (.cells #[.bool false, .slice none 0 0, .int .i64 0, .slice none 0 0, .slice none 0 0, .slice none 0 0] 46 (0, 0)) := by rw [hW1]; exact heap_alloc_at _ _ rfl
  have ht1 := ht.below hb1
  have CM := Lib.hid (made_any ht1)
  have CH := has_any ht1 id hok.total
  rw [show (decide (0 ≤ (id : Int)) && decide ((id : Int) < total gs)) = true by simp; omega] at CH
  have HCH := Lib.hid CH
  obtain ⟨be, bo, ce, co, cg, ag, M, r0, r1, r2, r3, r4, hgr⟩ := (read_of ht1 hj ho hid).ex
  have hjl := (List.getElem?_eq_some_iff.1 hj).1
  have hkl := (List.getElem?_eq_some_iff.1 hx).1
  have hj2 : (j : Int) < gs.length := by omega
  have hid2 : (id : Int) < total gs := by omega
  have hfk : (id : Int) - (firstOf gs j : Nat) = k := by omega
  have hkl2 : (k : Int) < g.length := by omega
  have hgood := hok.good g (List.mem_of_getElem? hj)
  have hfl := firstOf_le gs j
  have htl := hok.total
  have R0 := Lib.hid r0; have R1 := Lib.hid r1; have R2 := Lib.hid r2; have R3 := Lib.hid r3; have R4 := Lib.hid r4; have HGR := Lib.hid hgr; have HX := Lib.hid hx; have HD := Lib.hid hd; have HGD := Lib.hid hgood; have HFK := Lib.hid hfk; have HFL := Lib.hid hfl; have HTL := Lib.hid htl; have HW1 := Lib.hid hW1; have HB1 := Lib.hid hb1; have Z4 := Lib.hid z4
  clear CH ht hok hj ho hid r0 r1 r2 r3 r4 hjl hgr hx hd hgood ht1 hfl htl hW1 hb1 z4 hkl hfk hk
  have hmf : ∀ (fn : Fn) (first cap : Array Value) (w : World), (Instr.makeFunc fn first cap).run Tryz.prog w = .ok (.func fn first cap) w := fun _ _ _ _ => rfl
  go_enter Tryz.func20, Tryz.ntmps20
  go_wp2_with fail
  rw [← HW1.out]
  refine CM.out.mono ?_
  rintro e x1 ⟨rfl, rfl⟩
  go_wp2_with fail
  refine HCH.out.mono ?_
  rintro e x1 ⟨rfl, rfl⟩
  go_wp2
  go_region_held_law (fun w' => w'.cell? ⟨t, 0, none⟩ = some (.slice (some ⟨be, 0, none⟩) gs.length ce) ∧ w'.cell? ⟨t, 1, none⟩ = some (.slice (some ⟨bo, 0, none⟩) (total gs) co) ∧ w'.cell? ⟨bo, id, none⟩ = some (.int .i64 j) ∧ w'.cell? ⟨be, j * 2, none⟩ = some (.int .i64 (firstOf gs j)) ∧ w'.cell? ⟨be, j * 2 + 1, none⟩ = some (.slice ag g.length cg)) (first | exact ⟨R0.out, R1.out, R2.out, R3.out, R4.out⟩ | exact ⟨cell_alloc R0.out _, cell_alloc R1.out _, cell_alloc R2.out _, cell_alloc R3.out _, cell_alloc R4.out _⟩) (fail)
  obtain ⟨W2, hW2⟩ : ∃ W2, W2 = (x1.alloc (.cells #[.int .i64 (firstOf gs j : Nat), .slice ag g.length cg] 108)).drew := ⟨_, rfl⟩
  rw [← hW2]
  have hb2 : Below x1.heap.size x1 W2 := by
    have h := (Below.refl x1.heap.size x1).alloc (Nat.le_refl _) (.cells #[.int .i64 (firstOf gs j : Nat), .slice ag g.length cg] 108)
    rw [hW2]; exact ⟨h.os, h.tape, h.output, h.size, h.block⟩
  have z6 : W2.heap[x1.heap.size]? = some (.cells #[.int .i64 (firstOf gs j : Nat), .slice ag g.length cg] 108 (0, 0)) := by
    rw [hW2]; exact heap_alloc_at x1 _ rfl
  have hbw : Below w.heap.size w W2 := HB1.out.trans (hb2.mono HB1.out.size)
  have y4 := (hb2.block _ (heap_lt Z4.out)).trans Z4.out
  obtain ⟨b2, o2, e2, hbl, d1, f1, d2, f2, d3, f3, d4, f4, sb, q0, q1, q2, q3, q4, q5⟩ := (HGR.out W2 hb2).at HX.out
  subst e2
  have c60 := heap_cell z6 0; have c61 := heap_cell z6 1
  simp at c60 c61
  have hfl := HFL.out; have htl := HTL.out
  have hmem := List.mem_of_getElem? HX.out
  have FN := unroll_ok W2 W2.heap.size x1.heap.size (firstOf gs j) _ (by omega) z6 (heap_lt z6)
  have hsm := HGD.out.sm x hmem
  have C := map_any FN _ x () 0 (fun _ => False) W2 (fun w' hu => sb.below (hu.toBelow (fun _ h => h)) (Nat.le_refl _)) hsm.small HD.out ⟨Below.refl _ _, fun _ h => h, Nat.le_refl _⟩
  have HC := Lib.hid C; have HBW := Lib.hid hbw; have Y4 := Lib.hid y4
  clear C FN hsm hmem hfl htl hbw y4 hb2 sb z6 hW2
  have hfk := HFK.out
  have hwk : wrap64 (k : Int) = k := by have := HGD.out.len; unfold wrap64; omega
  go_wp2_with fail
  refine HC.out.mono ?_
  rintro e w3 ⟨ds, rfl, T3, hsub, hj3, hu3, _⟩
  have hsub3 := hsub w3 (Upd.refl _ _)
  have hb3 : Below W2.heap.size W2 w3 := hu3.toBelow (fun _ h => h)
  have hT3 := hj3.t
  obtain ⟨vs, vp, vr, vf, rfl, k1, k2, k3, k4⟩ := hsub3.ex
  obtain ⟨a5, c5, rfl⟩ := RowAt.form k1
  obtain ⟨a6, c6, rfl⟩ := RowAt.form k2
  obtain ⟨a7, c7, rfl⟩ := RowAt.form k3
  obtain ⟨a8, c8, rfl⟩ := RowAt.form k4
  have y5 := (hb3.block _ (heap_lt Y4.out)).trans Y4.out
  have g0 := heap_cell y5 0; have g1 := heap_cell y5 1; have g2 := heap_cell y5 2; have g3 := heap_cell y5 3; have g4 := heap_cell y5 4; have g5 := heap_cell y5 5
  have fz := fun i => heap_frozen y5 i
  simp at g0 g1 g2 g3 g4 g5
  have HSUB := Lib.hid hsub; have HB3 := Lib.hid (HBW.out.trans (hb3.mono HBW.out.size)); have Y5 := Lib.hid y5; have HS4 := Lib.hid (heap_lt Y4.out)
  clear hsub hj3 hu3 hsub3 hb3 k1 k2 k3 k4 y5 hT3 q0 q1 q2 q3 q4 q5 c60 c61 hfk hwk
  go_wp2
  refine bodyPost_ret (v := .tuple #[.agg #[.bool (mapSub (fun (s : Unit) h => (unroll (firstOf gs j) h, s)) () x).1.fin, .slice a5 (mapSub (fun (s : Unit) h => (unroll (firstOf gs j) h, s)) () x).1.sups.length c5, .int .i64 (mapSub (fun (s : Unit) h => (unroll (firstOf gs j) h, s)) () x).1.k, .slice a6 (mapSub (fun (s : Unit) h => (unroll (firstOf gs j) h, s)) () x).1.ps.length c6, .slice a7 (mapSub (fun (s : Unit) h => (unroll (firstOf gs j) h, s)) () x).1.rs.length c7, .slice a8 (mapSub (fun (s : Unit) h => (unroll (firstOf gs j) h, s)) () x).1.fs.length c8], .int .i64 0]) (by simp [results, Tryz.results20, go_sem, g0, g1, g2, g3, g4, g5]) rfl ?_
  refine ⟨_, rfl, fun w'' hu => HSUB.out _ (Upd.trans' ((((((((Upd.refl _ w3).setCell (.inl (.inl HS4.out)) _).setCell (.inl (.inl HS4.out)) _).setCell (.inl (.inl HS4.out)) _).setCell (.inl (.inl HS4.out)) _).setCell (.inl (.inl HS4.out)) _).setCell (.inl (.inl HS4.out)) _)) (hu.mono (fun b _ hb => .inl (Nat.lt_trans hb HS4.out)))), ?_⟩
  exact (((((HB3.out.setCell (Nat.le_refl _) _).setCell (Nat.le_refl _) _).setCell (Nat.le_refl _) _).setCell (Nat.le_refl _) _).setCell (Nat.le_refl _) _).setCell (Nat.le_refl _) _
theorem get_any (ht : TabAt S R w t gs) (hok : TabOk gs) {id j k : Nat} {g : List Sb} {x : Sb} (hj : gs[j]? = some g) (ho : (ofL gs)[id]? = some (j : Int)) (hid : id < total gs) (hk : id = firstOf gs j + k) (hx : g[k]? = some x) (hd : DS DRec x) :
    Calls Tryz.prog 20 #[.pointer (some ⟨t, 0, none⟩), .int .i64 id] w fun e w' => ∃ ds : List Value, e = .returned (.tuple #[.agg ds.toArray, .int .i64 0]) ∧ SubAt w' ds (getG gs j x) ∧ Below w.heap.size w w' :=
  (get_own ht hok hj ho hid hk hx hd).mono fun _ _ ⟨ds, h1, h2, h3⟩ => ⟨ds, h1, h2 _ (Upd.refl _ _), h3⟩
end
section
open Go.RowKit Go.Maps Go.WideMaps
def vf (f : Hp → Hp) (v : Vl) : Vl := if v.k = 3 then ⟨v.k, v.nl, (f ⟨v.h, v.n⟩).k, (f ⟨v.h, v.n⟩).n⟩ else v
def ff (f : Hp → Hp) (x : Fl) : Fl := ⟨x.p, vf f x.v, x.m⟩
def mapP (f : Hp → Hp) (x : Sb) : Sb := ⟨x.fin, x.sups.map f, x.k, x.ps.map (vf f), x.rs.map (vf f), x.fs.map (ff f)⟩
theorem mapS_map {σ α : Type} {φ : σ → α → α × σ} {f : α → α} (h : ∀ s x, (φ s x).1 = f x) : ∀ (l : List α) (s : σ), (mapS φ s l).1 = l.map f
  | [], _ => rfl
  | x :: l, s => by simp only [mapS, List.map_cons, h, mapS_map h l]
theorem mapSub_mapP {σ : Type} {φ : σ → Hp → Hp × σ} {f : Hp → Hp} (h : ∀ s x, (φ s x).1 = f x) (s : σ) (x : Sb) : (mapSub φ s x).1 = mapP f x := by
  have hv : ∀ s v, (phiV φ s v).1 = vf f v := fun s v => by
    unfold phiV vf
    split
    · rw [h]
    · rfl
  have hf : ∀ s y, (phiF φ s y).1 = ff f y := fun s y => by unfold phiF ff; rw [hv]
  simp only [mapSub, mapS_map h, mapS_map hv, mapS_map hf, mapP]
def shutP (ids : List Int) (h : Hp) : Hp := if h.k ≠ 13 then h else if h.n < ids.length then ⟨15, ids.getD h.n.toNat 0⟩ else ⟨14, h.n - ids.length⟩
theorem shut_fst (ids : List Int) (gn : Nat) (ok : Bool) (h : Hp) : (shut ids gn ok h).1 = shutP ids h := by
  unfold shut shutP; split
  · rfl
  · split <;> rfl
def CanH (ids : List Int) (gn : Nat) (h : Hp) : Prop := h.k = 13 → ¬ h.n < ids.length → h.n - ids.length < gn
theorem shut_can {ids : List Int} {gn : Nat} (ok : Bool) (h : Hp) (he : (shut ids gn ok h).2 = true) : ok = true ∧ CanH ids gn h := by
  unfold shut at he
  split at he
  · rename_i hk; exact ⟨he, fun h13 => absurd h13 hk⟩
  · split at he
    · rename_i hlt; exact ⟨he, fun _ hn => absurd hlt hn⟩
    · simp at he; exact ⟨he.1, fun _ _ => he.2⟩
theorem mapS_can {α : Type} {φ : Bool → α → α × Bool} {C : α → Prop} (h : ∀ s x, (φ s x).2 = true → s = true ∧ C x) : ∀ (l : List α) (s : Bool), (mapS φ s l).2 = true → s = true ∧ ∀ x ∈ l, C x
  | [], s, he => ⟨he, by simp⟩
  | x :: l, s, he => by
    obtain ⟨h1, h2⟩ := mapS_can h l _ he
    obtain ⟨h3, h4⟩ := h s x h1
    exact ⟨h3, fun y hy => (List.mem_cons.1 hy).elim (fun e => e ▸ h4) (h2 y)⟩
theorem mapSub_can {ids : List Int} {gn : Nat} (s : Bool) (x : Sb) (he : (mapSub (shut ids gn) s x).2 = true) : s = true ∧ DS (CanH ids gn) x := by
  have hv : ∀ s v, (phiV (shut ids gn) s v).2 = true → s = true ∧ DV (CanH ids gn) v := fun s v he => by
    unfold phiV at he
    split at he
    · have := shut_can s _ he
      exact ⟨this.1, fun _ => this.2⟩
    · rename_i hk; exact ⟨he, fun h => absurd h hk⟩
  have hf : ∀ s (y : Fl), (phiF (shut ids gn) s y).2 = true → s = true ∧ DV (CanH ids gn) y.v := fun s y he => hv s y.v he
  simp only [mapSub] at he
  obtain ⟨h1, k4⟩ := mapS_can hf _ _ he
  obtain ⟨h2, k3⟩ := mapS_can hv _ _ h1
  obtain ⟨h3, k2⟩ := mapS_can hv _ _ h2
  obtain ⟨h4, k1⟩ := mapS_can shut_can _ _ h3
  exact ⟨h4, ⟨k1, k2, k3, k4⟩⟩
theorem rollG_can {ids : List Int} {g : List Sb} (he : (rollG ids g).2 = true) : ∀ x ∈ g, DS (CanH ids g.length) x := (mapS_can mapSub_can g true he).2
end
section
open Go.RowKit
theorem rollG_map (ids : List Int) (g : List Sb) : (rollG ids g).1 = g.map (mapP (shutP ids)) := mapS_map (fun s y => mapSub_mapP (shut_fst ids g.length) s y) g true
end
section
open Go.RowKit
def tabL (gs : List (List Sb)) : List Sb := (gs.zipIdx).flatMap fun p => p.1.map (mapP (unroll (firstOf gs p.2)))
def WfV (D : Hp → Prop) (v : Vl) : Prop := ((v.k = 1 ∨ v.k = 2) ∧ v = ⟨v.k, false, 0, 0⟩) ∨ (v.k = 3 ∧ D ⟨v.h, v.n⟩)
def WfF (D : Hp → Prop) (f : Fl) : Prop := (f.p = 0 ∧ WfV D f.v) ∨ ((f.p = 8 ∨ f.p = 16) ∧ f.v = ⟨1, false, 0, 0⟩)
structure WfS (U D : Hp → Prop) (x : Sb) : Prop where
  sups : ∀ h ∈ x.sups, U h
  ps : ∀ v ∈ x.ps, WfV D v
  rs : ∀ v ∈ x.rs, WfV D v
  fs : ∀ f ∈ x.fs, WfF D f
  kind : (x.k = 1 ∧ x.fs = []) ∨ (x.k = 2 ∧ x.ps = [] ∧ x.rs = []) ∨ (x.k = 3 ∧ x.ps = [] ∧ x.rs = [] ∧ x.fs.length = 1)
theorem WfV.map {D E : Hp → Prop} {f : Hp → Hp} (h : ∀ y, D y → E (f y)) {v : Vl} (hv : WfV D v) : WfV E (vf f v) := by
  rcases hv with ⟨hk, e⟩ | ⟨hk, hd⟩
  · have : vf f v = v := by unfold vf; rw [if_neg (by omega)]
    rw [this]; exact .inl ⟨hk, e⟩
  · have : vf f v = ⟨v.k, v.nl, (f ⟨v.h, v.n⟩).k, (f ⟨v.h, v.n⟩).n⟩ := by unfold vf; rw [if_pos hk]
    rw [this]; exact .inr ⟨hk, h _ hd⟩
theorem WfF.map {D E : Hp → Prop} {f : Hp → Hp} (h : ∀ y, D y → E (f y)) {x : Fl} (hv : WfF D x) : WfF E (ff f x) := by
  rcases hv with ⟨hp, hv⟩ | ⟨hp, e⟩
  · exact .inl ⟨hp, hv.map h⟩
  · refine .inr ⟨hp, ?_⟩
    show vf f x.v = _
    rw [e]; rfl
theorem WfS.map {U V D E : Hp → Prop} {f : Hp → Hp} (hu : ∀ y, U y → V (f y)) (h : ∀ y, D y → E (f y)) {x : Sb} (hx : WfS U D x) : WfS V E (mapP f x) := by
  refine ⟨fun y hy => ?_, fun v hv => ?_, fun v hv => ?_, fun y hy => ?_, ?_⟩
  · obtain ⟨z, hz, rfl⟩ := List.mem_map.1 hy; exact hu z (hx.sups z hz)
  · obtain ⟨z, hz, rfl⟩ := List.mem_map.1 hv; exact (hx.ps z hz).map h
  · obtain ⟨z, hz, rfl⟩ := List.mem_map.1 hv; exact (hx.rs z hz).map h
  · obtain ⟨z, hz, rfl⟩ := List.mem_map.1 hy; exact (hx.fs z hz).map h
  · simpa [mapP] using hx.kind
def GivenP (h : Hp) : Prop := 1 ≤ h.k ∧ h.k ≤ 12 ∧ h.n = 0
def IdxP (h : Hp) : Prop := h.k = 13 ∧ 0 ≤ h.n ∧ h.n ≤ 4294967295
theorem given_iff {h : Hp} : givenB h = true ↔ GivenP h := by
  simp [givenB, GivenP, and_assoc]
theorem indexed_iff {h : Hp} : indexedB h = true ↔ IdxP h := by
  simp [indexedB, IdxP, and_assoc]
theorem plainV_wf {v : Vl} (h : plainV v = true) : WfV (fun h => GivenP h ∨ IdxP h) v := by
  unfold plainV at h
  split at h
  · rename_i hk; exact .inl ⟨hk, by simpa using h⟩
  · split at h
    · rename_i hk
      simp only [Bool.or_eq_true, given_iff, indexed_iff] at h
      exact .inr ⟨hk, h⟩
    · cases h
theorem plainF_wf {f : Fl} (h : plainF f = true) : WfF (fun h => GivenP h ∨ IdxP h) f := by
  unfold plainF at h
  split at h
  · rename_i hp; exact .inl ⟨hp, plainV_wf h⟩
  · split at h
    · rename_i hp; exact .inr ⟨hp, by simpa using h⟩
    · cases h
theorem plainS_wf {x : Sb} (h : plainS x = true) : WfS IdxP (fun h => GivenP h ∨ IdxP h) x := by
  unfold plainS at h
  simp only [Bool.and_eq_true, List.all_eq_true] at h
  obtain ⟨⟨⟨⟨q1, q2⟩, q3⟩, q4⟩, q5⟩ := h
  refine ⟨fun y hy => indexed_iff.1 (q1 y hy), fun v hv => plainV_wf (q2 v hv), fun v hv => plainV_wf (q3 v hv), fun y hy => plainF_wf (q4 y hy), ?_⟩
  split at q5
  · rename_i hk; exact .inl ⟨hk, List.length_eq_zero_iff.1 (by simpa using q5)⟩
  · split at q5
    · rename_i hk
      have : x.ps.length + x.rs.length = 0 := by simpa using q5
      exact .inr (.inl ⟨hk, List.length_eq_zero_iff.1 (by omega), List.length_eq_zero_iff.1 (by omega)⟩)
    · split at q5
      · rename_i hk
        have : x.ps.length + x.rs.length = 0 ∧ x.fs.length = 1 := by simpa using q5
        exact .inr (.inr ⟨hk, List.length_eq_zero_iff.1 (by omega), List.length_eq_zero_iff.1 (by omega), this.2⟩)
      · cases q5
def NumR (first gl : Nat) (h : Hp) : Prop := (h.k = 14 ∧ 0 ≤ h.n ∧ h.n < gl) ∨ (h.k = 15 ∧ 0 ≤ h.n ∧ h.n < first)
def NumC (n : Nat) (h : Hp) : Prop := h.k = 15 ∧ 0 ≤ h.n ∧ h.n < n
structure TabC (gs : List (List Sb)) : Prop where
  ex : ∀ (j : Nat) g, gs[j]? = some g → ∀ x ∈ g, WfS (NumR (firstOf gs j) g.length) (fun h => GivenP h ∨ NumR (firstOf gs j) g.length h) x
theorem tabC_nil : TabC [] := ⟨fun j g h => by simp at h⟩
theorem shut_num {gs : List (List Sb)} {ids : List Int} {gn : Nat} (hids : ∀ i ∈ ids, inTab gs i = true) {h : Hp} (hi : IdxP h) (hc : CanH ids gn h) : NumR (total gs) gn (shutP ids h) := by
  obtain ⟨hk, h0, _⟩ := hi
  unfold shutP
  rw [if_neg (by simp [hk])]
  split
  · rename_i hlt
    have hm : ids.getD h.n.toNat 0 ∈ ids := by
      rw [List.getD_eq_getElem?_getD, List.getElem?_eq_getElem (by omega)]; exact List.getElem_mem _
    have := hids _ hm
    simp [inTab] at this
    exact .inr ⟨rfl, this.1, this.2⟩
  · rename_i hlt
    exact .inl ⟨rfl, by dsimp only; omega, hc hk hlt⟩
theorem wf_and {U D E : Hp → Prop} {x : Sb} (h : WfS U D x) (d : DS E x) : WfS (fun y => U y ∧ E y) (fun y => D y ∧ E y) x := by
  refine ⟨fun y hy => ⟨h.sups y hy, d.sups y hy⟩, fun v hv => (h.ps v hv).imp id (fun q => ⟨q.1, q.2, d.ps v hv q.1⟩), fun v hv => (h.rs v hv).imp id (fun q => ⟨q.1, q.2, d.rs v hv q.1⟩),
   fun y hy => (h.fs y hy).imp (fun q => ⟨q.1, q.2.imp id (fun r => ⟨r.1, r.2, d.fs y hy r.1⟩)⟩) id, h.kind⟩
theorem tabC_add {gs : List (List Sb)} {ids : List Int} {g : List Sb} (h : TabC gs) : TabC (addG gs ids g).2.2 := by
  unfold addG
  split
  · exact h
  rename_i p1
  split
  · exact h
  rename_i p2
  split
  · exact h
  rename_i p3
  split
  · exact h
  have p3 : (rollG ids g).2 = true := by simpa using p3
  simp only [Decidable.not_not, List.all_eq_true] at p1 p2
  dsimp only
  unfold enterG
  cases hf : findG gs (rollG ids g).1 with
  | some i => exact h
  | none =>
    dsimp only
    split
    · exact h
    · split
      · exact h
      · refine ⟨fun j g' hj x hx => ?_⟩
        by_cases hlt : j < gs.length
        · rw [List.getElem?_append_left hlt] at hj
          rw [firstOf_snoc (by omega)]
          exact h.ex j g' hj x hx
        · have h1 := (List.getElem?_eq_some_iff.1 hj).1
          simp at h1
          obtain rfl : j = gs.length := by omega
          simp at hj
          subst hj
          rw [firstOf_snoc (Nat.le_refl _), firstOf_len, rollG_len]
          rw [rollG_map] at hx
          obtain ⟨z, hz, rfl⟩ := List.mem_map.1 hx
          have hw := wf_and (plainS_wf (p1 z hz)) (rollG_can p3 z hz)
          refine hw.map (fun y hy => shut_num p2 hy.1 hy.2) (fun y hy => ?_)
          rcases hy with ⟨hy | hy, hc⟩
          · have : shutP ids y = y := by unfold shutP; rw [if_pos (by have := hy.2.1; omega)]
            rw [this]; exact .inl hy
          · exact .inr (shut_num p2 hy hc)
end
end Go.Proofs.YtlcfkfijomnmnaaGreatDoor
