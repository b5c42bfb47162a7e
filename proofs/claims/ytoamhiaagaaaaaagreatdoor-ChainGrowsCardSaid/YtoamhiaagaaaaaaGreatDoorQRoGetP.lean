/- package roll: Close; what Add keeps of numbers. -/
import Derived.Test.YtoamhiaagaaaaaaGreatDoorQRoKnP
import Derived.Deep.RegionLaw
import Derived.Deep.RegionHeldLaw
import Derived.BigRegion
namespace Go.Proofs.YtoamhiaagaaaaaaGreatDoor
open Go.RowKit Go.Maps Go.WideMaps

def zeroVl : Vl := ⟨0, false, 0, 0⟩
def closeG (gs : List (List Sb)) (ids : List Int) (v : Vl) : Vl × Int :=
  if ¬ plainV v = true then (zeroVl, 2)
  else if v.h ≠ 13 then (v, 0)
  else if ¬ v.n < ids.length then (zeroVl, 2)
  else if ¬ inTab gs (ids.getD v.n.toNat 0) = true then (zeroVl, 2)
  else (⟨v.k, v.nl, 15, ids.getD v.n.toNat 0⟩, 0)
theorem plainV_13 {v : Vl} (hp : plainV v = true) (h : v.h = 13) : 0 ≤ v.n ∧ v.n ≤ 4294967295 := by
  unfold plainV at hp
  split at hp
  · have e : v = ⟨v.k, false, 0, 0⟩ := by simpa using hp
    rw [e] at h; simp at h
  · split at hp
    · simp [givenB, indexedB] at hp; omega
    · cases hp
variable {S R : Nat → Prop} {w : World} {t : Nat} {gs : List (List Sb)}
set_option maxRecDepth 100000 in
set_option maxHeartbeats 8000000 in
theorem close_any (ht : TabAt S R w t gs) (hok : TabOk gs) (v1 : Value) (ids : List Int) (v : Vl) (h1 : IntsAt w v1 ids) (hl : ids.length ≤ 100000) :
    Calls Tryz.prog 17 #[.pointer (some ⟨t, 0, none⟩), v1, .agg (cellsV v).toArray] w fun e w' => e = .returned (.tuple #[.agg (cellsV (closeG gs ids v).1).toArray, .int .i64 (closeG gs ids v).2]) ∧ Below w.heap.size w w' := by
  obtain ⟨a1, c1, rfl⟩ := RowAt.form h1
  obtain ⟨A, hA⟩ : ∃ A, closeG gs ids v = A := ⟨_, rfl⟩
  rw [hA]
  have HA := Lib.hid hA
  have HP13 := Lib.hid (plainV_13 (v := v))
  obtain ⟨bp, hbp⟩ : ∃ bp, plainV v = bp := ⟨_, rfl⟩
  have HBP := Lib.hid hbp
  clear hA
  obtain ⟨k, nl, hh, n⟩ := v
  obtain ⟨W0, hW⟩ : ∃ W0 : World, W0 = ((w.alloc (.cells #[.int .i64 k, .bool nl, .int .i64 hh, .int .i64 n] 28)).alloc (.cells #[.int .i64 0, .bool false, .int .i64 0, .int .i64 0] 28)) := ⟨_, rfl⟩
  have hb0 : Below w.heap.size w W0 := by rw [hW]; exact ((Below.refl _ _).alloc (Nat.le_refl _) _).alloc (by simp) _
  have z0 : W0.heap[w.heap.size]? = some (.cells #[.int .i64 k, .bool nl, .int .i64 hh, .int .i64 n] 28 (0, 0)) := by rw [hW]; exact heap_alloc_keep (heap_alloc_at _ _ rfl) _
  have z1 : W0.heap[w.heap.size + 1]? = some (.cells #[.int .i64 0, .bool false, .int .i64 0, .int .i64 0] 28 (0, 0)) := by rw [hW]; exact heap_alloc_at _ _ (by simp)
  have CM := Lib.hid (made_any (ht.below hb0))
  have CP := plainVal_any ⟨k, nl, hh, n⟩ W0
  rw [hbp] at CP
  have HCP := Lib.hid CP
  have HT := Lib.hid ht; have HOK := Lib.hid hok; have H1 := Lib.hid h1; have HL := Lib.hid hl; have HW := Lib.hid hW; have HB0 := Lib.hid hb0; have Z0 := Lib.hid z0; have Z1 := Lib.hid z1
  have c00 := heap_cell z0 0; have c01 := heap_cell z0 1; have c02 := heap_cell z0 2; have c03 := heap_cell z0 3
  simp at c00 c01 c02 c03
  rw [hW] at c00 c01 c02 c03
  clear CP ht hok h1 hl hW hb0 z0 z1 hbp
  rw [show cellsV ⟨k, nl, hh, n⟩ = [.int .i64 k, .bool nl, .int .i64 hh, .int .i64 n] from rfl]
  go_enter Tryz.func17, Tryz.ntmps17
  go_wp2_with fail
  rw [← HW.out]
  refine CM.out.mono ?_
  rintro e x1 ⟨rfl, hx1⟩
  rw [hx1, HW.out]
  clear hx1
  go_wp2_with fail
  rw [← HW.out]
  refine HCP.out.mono ?_
  rintro e x2 ⟨rfl, hb2⟩
  have y0 := (hb2.block _ (heap_lt Z0.out)).trans Z0.out
  have y1 := (hb2.block _ (heap_lt Z1.out)).trans Z1.out
  have d0 := heap_cell y0 0; have d1 := heap_cell y0 1; have d2 := heap_cell y0 2; have d3 := heap_cell y0 3
  have e0 := heap_cell y1 0; have e1 := heap_cell y1 1; have e2 := heap_cell y1 2; have e3 := heap_cell y1 3
  have f1 := fun i => heap_frozen y1 i
  have f0 := fun i => heap_frozen y0 i
  simp at d0 d1 d2 d3 e0 e1 e2 e3
  have hbw : Below w.heap.size w x2 := HB0.out.trans (hb2.mono HB0.out.size)
  have HBW := Lib.hid hbw; have Y0 := Lib.hid y0; have Y1 := Lib.hid y1
  clear hb2 hbw y0 y1 c00 c01 c02 c03
  have fin : ∀ W', Upd (fun b => w.heap.size ≤ b) x2 W' → Below w.heap.size w W' := fun W' u => HBW.out.trans (u.below (fun k hk => hk) HBW.out.size)
  have FIN := Lib.hid fin
  clear fin
  cases bp
  · have hA : A = (zeroVl, 2) := by rw [← HA.out]; unfold closeG; rw [HBP.out]; rfl
    go_wp2
    refine bodyPost_ret (v := .tuple #[.agg #[.int .i64 0, .bool false, .int .i64 0, .int .i64 0], .int .i64 2]) (by simp [results, Tryz.results17, go_sem, e0, e1, e2, e3]) rfl ?_
    subst hA
    exact ⟨rfl, FIN.out _ (((((Upd.refl _ x2).setCell (.inl (by simp)) _).setCell (.inl (by simp)) _).setCell (.inl (by simp)) _).setCell (.inl (by simp)) _)⟩
  by_cases h13 : hh = 13
  · subst h13
    obtain ⟨hn0, hn1⟩ := HP13.out HBP.out rfl
    obtain ⟨m, rfl⟩ : ∃ m : Nat, n = m := ⟨n.toNat, by omega⟩
    by_cases hlt : (m : Int) < ids.length
    · obtain ⟨y, hy⟩ : ∃ y, ids[m]? = some y := ⟨ids[m]'(by omega), by simp⟩
      obtain ⟨b1, o1, ea, _, p0⟩ := IntsAt.at (RowAt.below H1.out HBW.out (Nat.le_refl _) : IntsAt x2 (.slice a1 ids.length c1) ids) hy
      subst ea
      have hgd : ids.getD (m : Int).toNat 0 = y := by rw [List.getD_eq_getElem?_getD, Int.toNat_natCast, hy]; rfl
      obtain ⟨bq, hbq⟩ : ∃ bq, inTab gs y = bq := ⟨_, rfl⟩
      have CH := has_any (HT.out.below HBW.out) y HOK.out.total
      rw [show (decide (0 ≤ y) && decide (y < total gs)) = bq from hbq] at CH
      have HCH := Lib.hid CH; have HGD := Lib.hid hgd; have HBQ := Lib.hid hbq
      clear CH hgd hbq hy
      have HLT := Lib.hid hlt
      go_wp2_with fail
      refine HCH.out.mono ?_
      rintro e x3 ⟨rfl, rfl⟩
      cases bq
      · have hA : A = (zeroVl, 2) := by rw [← HA.out]; unfold closeG; rw [HBP.out, if_neg (by simp), if_neg (by simp), if_neg (by simpa using HLT.out), if_pos (by rw [HGD.out, HBQ.out]; simp)]
        subst hA
        go_wp2
        refine bodyPost_ret (v := .tuple #[.agg #[.int .i64 0, .bool false, .int .i64 0, .int .i64 0], .int .i64 2]) (by simp [results, Tryz.results17, go_sem, e0, e1, e2, e3]) rfl ?_
        exact ⟨rfl, FIN.out _ (((((Upd.refl _ _).setCell (.inl (by simp)) _).setCell (.inl (by simp)) _).setCell (.inl (by simp)) _).setCell (.inl (by simp)) _)⟩
      · have hA : A = (⟨k, nl, 15, y⟩, 0) := by rw [← HA.out]; unfold closeG; rw [HBP.out, if_neg (by simp), if_neg (by simp), if_neg (by simpa using HLT.out), if_neg (by rw [HGD.out, HBQ.out]; simp), HGD.out]
        subst hA
        go_wp2
        refine bodyPost_ret (v := .tuple #[.agg #[.int .i64 k, .bool nl, .int .i64 15, .int .i64 y], .int .i64 0]) (by simp [results, Tryz.results17, go_sem, e0, e1, e2, e3]) rfl ?_
        exact ⟨rfl, FIN.out _ (((((((Upd.refl _ _).setCell (.inl (by simp)) _).setCell (.inl (by simp)) _).setCell (.inl (by simp)) _).setCell (.inl (by simp)) _).setCell (.inl (by simp)) _).setCell (.inl (by simp)) _)⟩
    · have hA : A = (zeroVl, 2) := by rw [← HA.out]; unfold closeG; rw [HBP.out, if_neg (by simp), if_neg (by simp), if_pos hlt]
      subst hA
      go_wp2
      refine bodyPost_ret (v := .tuple #[.agg #[.int .i64 0, .bool false, .int .i64 0, .int .i64 0], .int .i64 2]) (by simp [results, Tryz.results17, go_sem, e0, e1, e2, e3]) rfl ?_
      exact ⟨rfl, FIN.out _ (((((Upd.refl _ _).setCell (.inl (by simp)) _).setCell (.inl (by simp)) _).setCell (.inl (by simp)) _).setCell (.inl (by simp)) _)⟩
  · have h13' : (hh == 13) = false := by simpa using h13
    have h13'' : (hh != 13) = true := by simpa using h13
    have hA : A = (⟨k, nl, hh, n⟩, 0) := by rw [← HA.out]; unfold closeG; rw [HBP.out, if_neg (by simp), if_pos h13]
    subst hA
    clear h13
    go_wp2
    refine bodyPost_ret (v := .tuple #[.agg #[.int .i64 k, .bool nl, .int .i64 hh, .int .i64 n], .int .i64 0]) (by simp [results, Tryz.results17, go_sem, e0, e1, e2, e3]) rfl ?_
    exact ⟨rfl, FIN.out _ (((((Upd.refl _ x2).setCell (.inl (by simp)) _).setCell (.inl (by simp)) _).setCell (.inl (by simp)) _).setCell (.inl (by simp)) _)⟩
end Go.Proofs.YtoamhiaagaaaaaaGreatDoor

/- package roll: which numbers Add tells (no program in sight); lists of groups in memory. -/
namespace Go.Proofs.YtoamhiaagaaaaaaGreatDoor
open Go.RowKit Go.Maps Go.WideMaps

theorem firstOf_add {gs : List (List Sb)} {i : Nat} {g : List Sb} (h : gs[i]? = some g) : firstOf gs i + g.length ≤ total gs := by
  have h1 := firstOf_le gs (i + 1)
  have h2 : firstOf gs (i + 1) = firstOf gs i + g.length := by
    unfold firstOf
    rw [List.take_add_one, h]
    exact total_snoc _ _
  omega
theorem enterG_fit {gs : List (List Sb)} {g : List Sb} (he : (enterG gs g).2.1 = 0) : (enterG gs g).1 + g.length ≤ total (enterG gs g).2.2 ∧ total gs ≤ total (enterG gs g).2.2 := by
  revert he
  unfold enterG
  cases hf : findG gs g with
  | some i =>
    intro _
    obtain ⟨hlt, hx, _⟩ := List.findIdx?_eq_some_iff_getElem.1 hf
    have hgi : gs[i]? = some g := by rw [List.getElem?_eq_getElem hlt]; simpa using hx
    have := firstOf_add hgi
    dsimp only; omega
  | none =>
    dsimp only
    split
    · intro h; cases h
    · split
      · rename_i h; intro _; subst h; simp
      · intro _; dsimp only; rw [total_snoc]; omega
structure AddOk (gs : List (List Sb)) (ids : List Int) (g : List Sb) (A : List Int × Int × List (List Sb)) : Prop where
  inn : ∀ i ∈ A.1, inTab A.2.2 i = true
  len : A.1.length = ids.length + g.length
theorem inTab_mono {gs gs' : List (List Sb)} (h : total gs ≤ total gs') {i : Int} (hi : inTab gs i = true) : inTab gs' i = true := by
  simp [inTab] at hi ⊢; omega
theorem addG_fact (gs : List (List Sb)) (ids : List Int) (g : List Sb) : ((addG gs ids g).2.1 ≠ 0 ∧ (addG gs ids g).1 = [] ∧ (addG gs ids g).2.2 = gs) ∨ ((addG gs ids g).2.1 = 0 ∧ AddOk gs ids g (addG gs ids g)) := by
  unfold addG
  split
  · exact .inl ⟨by simp, rfl, rfl⟩
  · split
    · exact .inl ⟨by simp, rfl, rfl⟩
    · rename_i h2
      split
      · exact .inl ⟨by simp, rfl, rfl⟩
      · split
        · rename_i h4
          exact .inl ⟨h4, rfl, rfl⟩
        · rename_i h4
          have h4 : (enterG gs (rollG ids g).1).2.1 = 0 := by simpa using h4
          obtain ⟨f1, f2⟩ := enterG_fit h4
          rw [rollG_len] at f1
          have f0 := enterG_first (gs := gs) (g := (rollG ids g).1)
          refine .inr ⟨rfl, ⟨fun i hi => ?_, by simp⟩⟩
          simp only [List.mem_append, List.mem_map, List.mem_range] at hi
          rcases hi with hi | ⟨k, hk, rfl⟩
          · have h := h2
            simp only [Decidable.not_not, List.all_eq_true] at h
            exact inTab_mono f2 (h i hi)
          · simp [inTab]; omega
/-- A list of groups in memory. -/
structure GrpsAt (w : World) (v : Value) (l : List (List Sb)) : Prop where
  ex : ∃ vs : List Value, vs.length = l.length ∧ RowAt w 1 v l.length vs ∧ ∀ (i : Nat) x g, vs[i]? = some x → l[i]? = some g → GrpAt w x g
theorem GrpsAt.form {w : World} {v : Value} {l : List (List Sb)} (h : GrpsAt w v l) : ∃ ao cap, v = .slice ao l.length cap := by
  obtain ⟨_, _, h, _⟩ := h.ex; exact RowAt.form h
theorem GrpsAt.keep {w w' : World} {v : Value} {l : List (List Sb)} (h : GrpsAt w v l) (hk : ∀ p u, w.cell? p = some u → w'.cell? p = some u) : GrpsAt w' v l := by
  obtain ⟨vs, h1, h2, h3⟩ := h.ex
  exact ⟨vs, h1, h2.keep hk, fun i x g hx hg => (h3 i x g hx hg).keep hk⟩
theorem GrpsAt.below {w w' : World} {B : Nat} {v : Value} {l : List (List Sb)} (h : GrpsAt w v l) (hb : Below B w w') (hB : w.heap.size ≤ B) : GrpsAt w' v l :=
  h.keep fun p u hp => by rw [hb.cell (Nat.lt_of_lt_of_le (World.block_lt_of_cell? _ _ hp) hB)]; exact hp
theorem GrpsAt.at {w : World} {ao : Option Addr} {cap : Nat} {l : List (List Sb)} (h : GrpsAt w (.slice ao l.length cap) l) {i : Nat} {g : List Sb} (hi : l[i]? = some g) : ∃ b off a c, ao = some ⟨b, off, none⟩ ∧ w.cell? ⟨b, off + i, none⟩ = some (.slice a g.length c) ∧ GrpAt w (.slice a g.length c) g := by
  have hlt := (List.getElem?_eq_some_iff.1 hi).1
  obtain ⟨vs, h1, h2, h3⟩ := h.ex
  obtain ⟨b, off, rfl, _, _, hc⟩ := RowAt.at h2 (by decide) (by omega)
  obtain ⟨x, hx⟩ : ∃ x, vs[i]? = some x := ⟨vs[i]'(by omega), by simp⟩
  have hg := h3 i x g hx hi
  obtain ⟨a, c, rfl⟩ := hg.form
  exact ⟨b, off, a, c, rfl, by rw [hc i (by omega), hx], hg⟩
/-- Groups that came in. -/
def RawL (l : List (List Sb)) : Prop := ∀ g ∈ l, ∀ x ∈ g, Fits x ∧ cnt x ≤ 1000000
end Go.Proofs.YtoamhiaagaaaaaaGreatDoor

/- package roll: Get and Group. -/
namespace Go.Proofs.YtoamhiaagaaaaaaGreatDoor
open Go.RowKit Go.Maps Go.WideMaps

/-- What the closure of Get gives of a heap type. -/
def unroll (first : Int) (h : Hp) : Hp := if h.k = 14 then ⟨15, first + h.n⟩ else h
def DRec (h : Hp) : Prop := h.k = 14 → 0 ≤ h.n ∧ h.n ≤ 4294967295
structure PureJ (W0 : World) (B : Nat) (u : Unit) (n : Nat) (T : Nat → Prop) (w : World) : Prop where
  be : Below B W0 w
  t : ∀ b, ¬ T b
  le : B ≤ w.heap.size
set_option maxRecDepth 100000 in
set_option maxHeartbeats 8000000 in
theorem unroll_ok (W0 : World) (B b : Nat) (first : Int) (vg : Value) (hf : 0 ≤ first ∧ first ≤ 10000) (hb : W0.heap[b]? = some (.cells #[.int .i64 first, vg] 102 (0, 0))) (hB : b < B) :
    FnOk Tryz.prog cellsH DRec 79 #[.pointer (some ⟨b, 0, none⟩)] (fun (s : Unit) h => (unroll first h, s)) (PureJ W0 B) B where
  enter := fun _ _ => rfl
  lt := fun h => ⟨fun b hb => (h.t b hb).elim, h.le⟩
  keep := fun h u => ⟨h.be.trans (u.below (fun k hk => hk.1) h.le), h.t, Nat.le_trans h.le u.size⟩
  less := fun h _ => ⟨h.be, h.t, h.le⟩
  call := by
    intro s n T w x hd hj
    obtain ⟨k, m⟩ := x
    rw [show cellsH ⟨k, m⟩ = [.int .i64 k, .int .i64 m] from rfl]
    show Calls Tryz.prog 79 #[.agg #[.int .i64 k, .int .i64 m], .pointer (some ⟨b, 0, none⟩)] w _
    have zb : w.heap[b]? = some (.cells #[.int .i64 first, vg] 102 (0, 0)) := by rw [hj.be.block b hB]; exact hb
    have cb0 := heap_cell zb 0
    simp at cb0
    have cb := cell_alloc (cell_alloc cb0 (.cells #[.int .i64 k, .int .i64 m] 26)) (.cells #[.int .i64 0, .int .i64 0] 26)
    have HJ := Lib.hid hj; have HD := Lib.hid hd
    clear zb hb hj hd cb0 hB
    have fin : ∀ W', Below w.heap.size w W' → ∃ T', PureJ W0 B () n T' W' ∧ Upd T w W' ∧ Fresh T w T' := fun W' h =>
      ⟨T, ⟨HJ.out.be.trans (h.mono HJ.out.le), HJ.out.t, Nat.le_trans HJ.out.le h.size⟩, Upd.of_below h, Fresh.refl _ _⟩
    have FIN := Lib.hid fin
    clear fin
    by_cases hk : k = 14
    · subst hk
      obtain ⟨hm0, hm1⟩ := HD.out rfl
      dsimp only at hm0 hm1
      have hu : unroll first ⟨14, m⟩ = ⟨15, first + m⟩ := rfl
      obtain ⟨hf0, hf1⟩ := hf
      go_enter Tryz.func79, Tryz.ntmps79
      go_wp2
      refine bodyPost_ret (v := .agg #[.int .i64 15, .int .i64 (first + m)]) (by simp [results, Tryz.results79, go_sem]) rfl ?_
      obtain ⟨T', h1, h2, h3⟩ := FIN.out _ (((Below.refl _ w).alloc (Nat.le_refl _) (.cells #[.int .i64 14, .int .i64 m] 26)).alloc (by simp) (.cells #[.int .i64 15, .int .i64 (first + m)] 26))
      exact ⟨T', rfl, h1, h2, h3⟩
    · have hk' : (k == 14) = false := by simpa using hk
      have hu : unroll first ⟨k, m⟩ = ⟨k, m⟩ := by unfold unroll; rw [if_neg hk]
      dsimp only
      rw [hu]
      clear hk
      go_enter Tryz.func79, Tryz.ntmps79
      go_wp2
      refine bodyPost_ret (v := .agg #[.int .i64 k, .int .i64 m]) (by simp [results, Tryz.results79, go_sem]) rfl ?_
      obtain ⟨T', h1, h2, h3⟩ := FIN.out _ (((Below.refl _ w).alloc (Nat.le_refl _) (.cells #[.int .i64 k, .int .i64 m] 26)).alloc (by simp) (.cells #[.int .i64 k, .int .i64 m] 26))
      exact ⟨T', rfl, h1, h2, h3⟩
theorem ofL_at (gs : List (List Sb)) (id : Nat) (h : id < total gs) : ∃ (j : Nat) (g : List Sb), gs[j]? = some g ∧ (ofL gs)[id]? = some (j : Int) ∧ firstOf gs j ≤ id ∧ id < firstOf gs j + g.length := by
  have key : ∀ (gs : List (List Sb)) (n id : Nat), id < total gs → ∃ (j : Nat) (g : List Sb), gs[j]? = some g ∧ ((gs.zipIdx n).flatMap fun p => List.replicate p.1.length (p.2 : Int))[id]? = some ((n + j : Nat) : Int) ∧ total (gs.take j) ≤ id ∧ id < total (gs.take j) + g.length := by
    intro gs
    induction gs with
    | nil => intro n id h; simp [total] at h
    | cons g gs ih =>
      intro n id h
      have ht : total (g :: gs) = g.length + total gs := by simp [total]
      rw [List.zipIdx_cons, List.flatMap_cons]
      by_cases hlt : id < g.length
      · refine ⟨0, g, rfl, ?_, by simp [total], by simp [total]; exact hlt⟩
        rw [List.getElem?_append_left (by simpa using hlt)]
        simp [hlt]
      · obtain ⟨j, g', h1, h2, h3, h4⟩ := ih (n + 1) (id - g.length) (by omega)
        have ht2 : total ((g :: gs).take (j + 1)) = g.length + total (gs.take j) := by simp [total]
        refine ⟨j + 1, g', by simpa using h1, ?_, by omega, by omega⟩
        rw [List.getElem?_append_right (by simp; omega), List.length_replicate, h2]
        congr 2; omega
  obtain ⟨j, g, h1, h2, h3, h4⟩ := key gs 0 id h
  exact ⟨j, g, h1, by simpa [ofL] using h2, h3, h4⟩
variable {S R : Nat → Prop} {w : World} {t : Nat} {gs : List (List Sb)}
/-- What Get and Group read of a table. -/
structure Read (R : Nat → Prop) (w : World) (t id j : Nat) (g : List Sb) (gs : List (List Sb)) : Prop where
  ex : ∃ (be bo ce co cg : Nat) (ag : Option Addr) (_ : Option Nat), w.cell? ⟨t, 0, none⟩ = some (.slice (some ⟨be, 0, none⟩) gs.length ce) ∧ w.cell? ⟨t, 1, none⟩ = some (.slice (some ⟨bo, 0, none⟩) (total gs) co) ∧ w.cell? ⟨bo, id, none⟩ = some (.int .i64 j) ∧
    w.cell? ⟨be, j * 2, none⟩ = some (.int .i64 (firstOf gs j)) ∧ w.cell? ⟨be, j * 2 + 1, none⟩ = some (.slice ag g.length cg) ∧ ∀ w', Below w.heap.size w w' → GrpAt w' (.slice ag g.length cg) g
theorem read_of (ht : TabAt S R w t gs) {id j : Nat} {g : List Sb} (hj : gs[j]? = some g) (ho : (ofL gs)[id]? = some (j : Int)) (hid : id < total gs) : Read R w t id j g gs := by
  obtain ⟨ev, ov, M, h1, h2, h3, _⟩ := ht.ex
  obtain ⟨ae, ce, rfl⟩ : ∃ ae ce, ev = .slice ae gs.length ce := by
    obtain ⟨vs, e1, e2, e3⟩ := h2.ex
    obtain ⟨ae, ce, rfl, _⟩ := ownsRow_form e2
    exact ⟨ae, ce, rfl⟩
  obtain ⟨be, ag, cg, rfl, p0, p1, hgr⟩ := h2.at hj
  rw [ofL_len] at h3
  obtain ⟨bo, co, cur, rfl, _, _, _, hc⟩ := ownsRow_some h3 (by omega)
  have c0 := heap_cell h1 0; have c1 := heap_cell h1 1
  refine ⟨be, bo, ce, co, cg, ag, some M, by simpa using c0, by simpa using c1, ?_, p0, p1, fun w' hb => hgr w' ((Upd.of_below hb : Upd (fun _ => False) w w').mono fun _ _ h => h.elim)⟩
  rw [hc id (by omega), List.getElem?_map, ho]; rfl
set_option maxRecDepth 100000 in
set_option maxHeartbeats 8000000 in
theorem group_any (ht : TabAt S R w t gs) (hok : TabOk gs) {id j : Nat} {g : List Sb} (hj : gs[j]? = some g) (ho : (ofL gs)[id]? = some (j : Int)) (hid : id < total gs) :
    Calls Tryz.prog 54 #[.pointer (some ⟨t, 0, none⟩), .int .i64 id] w fun e w' => e = .returned (.tuple #[.int .i64 (firstOf gs j), .int .i64 g.length, .int .i64 0]) ∧ Below w.heap.size w w' := by
  have CM := Lib.hid (made_any ht)
  have CH := has_any ht id hok.total
  rw [show (decide (0 ≤ (id : Int)) && decide ((id : Int) < total gs)) = true by simp; omega] at CH
  have HCH := Lib.hid CH
  obtain ⟨be, bo, ce, co, cg, ag, M, r0, r1, r2, r3, r4, _⟩ := (read_of ht hj ho hid).ex
  have hjl := (List.getElem?_eq_some_iff.1 hj).1
  have hj2 : (j : Int) < gs.length := by omega
  have hid2 : (id : Int) < total gs := by omega
  have R0 := Lib.hid r0; have R1 := Lib.hid r1; have R2 := Lib.hid r2; have R3 := Lib.hid r3; have R4 := Lib.hid r4
  clear CH ht hok hj ho hid r0 r1 r2 r3 r4 hjl
  go_enter Tryz.func54, Tryz.ntmps54
  go_wp2_with fail
  refine CM.out.mono ?_
  rintro e x1 ⟨rfl, rfl⟩
  go_wp2_with fail
  refine HCH.out.mono ?_
  rintro e x1 ⟨rfl, rfl⟩
  go_wp2
  go_region_held_law (fun w' => w'.cell? ⟨t, 0, none⟩ = some (.slice (some ⟨be, 0, none⟩) gs.length ce) ∧ w'.cell? ⟨t, 1, none⟩ = some (.slice (some ⟨bo, 0, none⟩) (total gs) co) ∧ w'.cell? ⟨bo, id, none⟩ = some (.int .i64 j) ∧ w'.cell? ⟨be, j * 2, none⟩ = some (.int .i64 (firstOf gs j)) ∧ w'.cell? ⟨be, j * 2 + 1, none⟩ = some (.slice ag g.length cg)) (first | exact ⟨R0.out, R1.out, R2.out, R3.out, R4.out⟩ | exact ⟨cell_alloc R0.out _, cell_alloc R1.out _, cell_alloc R2.out _, cell_alloc R3.out _, cell_alloc R4.out _⟩) (fail)
  go_wp2
  go_quiet (fail)
  go_wp2
  refine bodyPost_ret (v := .tuple #[.int .i64 (firstOf gs j), .int .i64 g.length, .int .i64 0]) (by simp [results, Tryz.results54, go_sem]) rfl ⟨rfl, ?_⟩
  have h := (Below.refl x1.heap.size x1).alloc (Nat.le_refl _) (.cells #[.int .i64 (firstOf gs j : Nat), .slice ag g.length cg] 102)
  exact ⟨h.os, h.tape, h.output, h.size, h.block⟩
/-- What Get tells of a number. -/
def getG (gs : List (List Sb)) (j : Nat) (x : Sb) : Sb := (mapSub (fun (s : Unit) h => (unroll (firstOf gs j) h, s)) () x).1
set_option maxRecDepth 100000 in
set_option maxHeartbeats 8000000 in
theorem get_own (ht : TabAt S R w t gs) (hok : TabOk gs) {id j k : Nat} {g : List Sb} {x : Sb} (hj : gs[j]? = some g) (ho : (ofL gs)[id]? = some (j : Int)) (hid : id < total gs) (hk : id = firstOf gs j + k) (hx : g[k]? = some x) (hd : DS DRec x) :
    Calls Tryz.prog 38 #[.pointer (some ⟨t, 0, none⟩), .int .i64 id] w fun e w' => ∃ ds : List Value, e = .returned (.tuple #[.agg ds.toArray, .int .i64 0]) ∧ (∀ w'', Upd (fun b => b < w.heap.size) w' w'' → SubAt w'' ds (getG gs j x)) ∧ Below w.heap.size w w' := by
  obtain ⟨W1, hW1⟩ : ∃ W1, W1 = w.alloc (.cells #[.bool false, .slice none 0 0, .int .i64 0, .slice none 0 0, .slice none 0 0, .slice none 0 0] 48) := ⟨_, rfl⟩
  have hb1 : Below w.heap.size w W1 := by rw [hW1]; exact (Below.refl _ _).alloc (Nat.le_refl _) _
  have z4 : W1.heap[w.heap.size]? = some (.cells #[.bool false, .slice none 0 0, .int .i64 0, .slice none 0 0, .slice none 0 0, .slice none 0 0] 48 (0, 0)) := by rw [hW1]; exact heap_alloc_at _ _ rfl
  have ht1 := ht.below hb1
  have CM := Lib.hid (made_any ht1)
  have CH := has_any ht1 id hok.total
  rw [show (decide (0 ≤ (id : Int)) && decide ((id : Int) < total gs)) = true by simp; omega] at CH
  have HCH := Lib.hid CH
  obtain ⟨be, bo, ce, co, cg, ag, M, r0, r1, r2, r3, r4, hgr⟩ := (read_of ht1 hj ho hid).ex
  have hjl := (List.getElem?_eq_some_iff.1 hj).1
  have hkl := (List.getElem?_eq_some_iff.1 hx).1
  have hj2 : (j : Int) < gs.length := by omega
  have hid2 : (id : Int) < total gs := by omega
  have hfk : (id : Int) - (firstOf gs j : Nat) = k := by omega
  have hkl2 : (k : Int) < g.length := by omega
  have hgood := hok.good g (List.mem_of_getElem? hj)
  have hfl := firstOf_le gs j
  have htl := hok.total
  have R0 := Lib.hid r0; have R1 := Lib.hid r1; have R2 := Lib.hid r2; have R3 := Lib.hid r3; have R4 := Lib.hid r4; have HGR := Lib.hid hgr; have HX := Lib.hid hx; have HD := Lib.hid hd; have HGD := Lib.hid hgood; have HFK := Lib.hid hfk; have HFL := Lib.hid hfl; have HTL := Lib.hid htl; have HW1 := Lib.hid hW1; have HB1 := Lib.hid hb1; have Z4 := Lib.hid z4
  clear CH ht hok hj ho hid r0 r1 r2 r3 r4 hjl hgr hx hd hgood ht1 hfl htl hW1 hb1 z4 hkl hfk hk
  have hmf : ∀ (fn : Fn) (first cap : Array Value) (w : World), (Instr.makeFunc fn first cap).run Tryz.prog w = .ok (.func fn first cap) w := fun _ _ _ _ => rfl
  go_enter Tryz.func38, Tryz.ntmps38
  go_wp2_with fail
  rw [← HW1.out]
  refine CM.out.mono ?_
  rintro e x1 ⟨rfl, rfl⟩
  go_wp2_with fail
  refine HCH.out.mono ?_
  rintro e x1 ⟨rfl, rfl⟩
  go_wp2
  go_region_held_law (fun w' => w'.cell? ⟨t, 0, none⟩ = some (.slice (some ⟨be, 0, none⟩) gs.length ce) ∧ w'.cell? ⟨t, 1, none⟩ = some (.slice (some ⟨bo, 0, none⟩) (total gs) co) ∧ w'.cell? ⟨bo, id, none⟩ = some (.int .i64 j) ∧ w'.cell? ⟨be, j * 2, none⟩ = some (.int .i64 (firstOf gs j)) ∧ w'.cell? ⟨be, j * 2 + 1, none⟩ = some (.slice ag g.length cg)) (first | exact ⟨R0.out, R1.out, R2.out, R3.out, R4.out⟩ | exact ⟨cell_alloc R0.out _, cell_alloc R1.out _, cell_alloc R2.out _, cell_alloc R3.out _, cell_alloc R4.out _⟩) (fail)
  obtain ⟨W2, hW2⟩ : ∃ W2, W2 = (x1.alloc (.cells #[.int .i64 (firstOf gs j : Nat), .slice ag g.length cg] 102)).drew := ⟨_, rfl⟩
  rw [← hW2]
  have hb2 : Below x1.heap.size x1 W2 := by
    have h := (Below.refl x1.heap.size x1).alloc (Nat.le_refl _) (.cells #[.int .i64 (firstOf gs j : Nat), .slice ag g.length cg] 102)
    rw [hW2]; exact ⟨h.os, h.tape, h.output, h.size, h.block⟩
  have z6 : W2.heap[x1.heap.size]? = some (.cells #[.int .i64 (firstOf gs j : Nat), .slice ag g.length cg] 102 (0, 0)) := by
    rw [hW2]; exact heap_alloc_at x1 _ rfl
  have hbw : Below w.heap.size w W2 := HB1.out.trans (hb2.mono HB1.out.size)
  have y4 := (hb2.block _ (heap_lt Z4.out)).trans Z4.out
  obtain ⟨b2, o2, e2, hbl, d1, f1, d2, f2, d3, f3, d4, f4, sb, q0, q1, q2, q3, q4, q5⟩ := (HGR.out W2 hb2).at HX.out
  subst e2
  have c60 := heap_cell z6 0; have c61 := heap_cell z6 1
  simp at c60 c61
  have hfl := HFL.out; have htl := HTL.out
  have hmem := List.mem_of_getElem? HX.out
  have FN := unroll_ok W2 W2.heap.size x1.heap.size (firstOf gs j) _ (by omega) z6 (heap_lt z6)
  have hsm := HGD.out.sm x hmem
  have C := map_any FN _ x () 0 (fun _ => False) W2 (fun w' hu => sb.below (hu.toBelow (fun _ h => h)) (Nat.le_refl _)) hsm.small HD.out ⟨Below.refl _ _, fun _ h => h, Nat.le_refl _⟩
  have HC := Lib.hid C; have HBW := Lib.hid hbw; have Y4 := Lib.hid y4
  clear C FN hsm hmem hfl htl hbw y4 hb2 sb z6 hW2
  have hfk := HFK.out
  have hwk : wrap64 (k : Int) = k := by have := HGD.out.len; unfold wrap64; omega
  go_wp2_with fail
  refine HC.out.mono ?_
  rintro e w3 ⟨ds, rfl, T3, hsub, hj3, hu3, _⟩
  have hsub3 := hsub w3 (Upd.refl _ _)
  have hb3 : Below W2.heap.size W2 w3 := hu3.toBelow (fun _ h => h)
  have hT3 := hj3.t
  obtain ⟨vs, vp, vr, vf, rfl, k1, k2, k3, k4⟩ := hsub3.ex
  obtain ⟨a5, c5, rfl⟩ := RowAt.form k1
  obtain ⟨a6, c6, rfl⟩ := RowAt.form k2
  obtain ⟨a7, c7, rfl⟩ := RowAt.form k3
  obtain ⟨a8, c8, rfl⟩ := RowAt.form k4
  have y5 := (hb3.block _ (heap_lt Y4.out)).trans Y4.out
  have g0 := heap_cell y5 0; have g1 := heap_cell y5 1; have g2 := heap_cell y5 2; have g3 := heap_cell y5 3; have g4 := heap_cell y5 4; have g5 := heap_cell y5 5
  have fz := fun i => heap_frozen y5 i
  simp at g0 g1 g2 g3 g4 g5
  have HSUB := Lib.hid hsub; have HB3 := Lib.hid (HBW.out.trans (hb3.mono HBW.out.size)); have Y5 := Lib.hid y5; have HS4 := Lib.hid (heap_lt Y4.out)
  clear hsub hj3 hu3 hsub3 hb3 k1 k2 k3 k4 y5 hT3 q0 q1 q2 q3 q4 q5 c60 c61 hfk hwk
  go_wp2
  refine bodyPost_ret (v := .tuple #[.agg #[.bool (mapSub (fun (s : Unit) h => (unroll (firstOf gs j) h, s)) () x).1.fin, .slice a5 (mapSub (fun (s : Unit) h => (unroll (firstOf gs j) h, s)) () x).1.sups.length c5, .int .i64 (mapSub (fun (s : Unit) h => (unroll (firstOf gs j) h, s)) () x).1.k, .slice a6 (mapSub (fun (s : Unit) h => (unroll (firstOf gs j) h, s)) () x).1.ps.length c6, .slice a7 (mapSub (fun (s : Unit) h => (unroll (firstOf gs j) h, s)) () x).1.rs.length c7, .slice a8 (mapSub (fun (s : Unit) h => (unroll (firstOf gs j) h, s)) () x).1.fs.length c8], .int .i64 0]) (by simp [results, Tryz.results38, go_sem, g0, g1, g2, g3, g4, g5]) rfl ?_
  refine ⟨_, rfl, fun w'' hu => HSUB.out _ (Upd.trans' ((((((((Upd.refl _ w3).setCell (.inl (.inl HS4.out)) _).setCell (.inl (.inl HS4.out)) _).setCell (.inl (.inl HS4.out)) _).setCell (.inl (.inl HS4.out)) _).setCell (.inl (.inl HS4.out)) _).setCell (.inl (.inl HS4.out)) _)) (hu.mono (fun b _ hb => .inl (Nat.lt_trans hb HS4.out)))), ?_⟩
  exact (((((HB3.out.setCell (Nat.le_refl _) _).setCell (Nat.le_refl _) _).setCell (Nat.le_refl _) _).setCell (Nat.le_refl _) _).setCell (Nat.le_refl _) _).setCell (Nat.le_refl _) _
theorem get_any (ht : TabAt S R w t gs) (hok : TabOk gs) {id j k : Nat} {g : List Sb} {x : Sb} (hj : gs[j]? = some g) (ho : (ofL gs)[id]? = some (j : Int)) (hid : id < total gs) (hk : id = firstOf gs j + k) (hx : g[k]? = some x) (hd : DS DRec x) :
    Calls Tryz.prog 38 #[.pointer (some ⟨t, 0, none⟩), .int .i64 id] w fun e w' => ∃ ds : List Value, e = .returned (.tuple #[.agg ds.toArray, .int .i64 0]) ∧ SubAt w' ds (getG gs j x) ∧ Below w.heap.size w w' :=
  (get_own ht hok hj ho hid hk hx hd).mono fun _ _ ⟨ds, h1, h2, h3⟩ => ⟨ds, h1, h2 _ (Upd.refl _ _), h3⟩
end Go.Proofs.YtoamhiaagaaaaaaGreatDoor
