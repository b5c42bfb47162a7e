/- package roll: Close; what Add keeps of numbers. -/
import Derived.Test.YtmjehnjodaicfaaDoorQRoKn
namespace Go.Proofs.YtmjehnjodaicfaaDoor
open Go.RowKit Go.Maps Go.WideMaps

def zeroVl : Vl := ⟨0, false, 0, 0⟩
def closeG (gs : List (List Sb)) (ids : List Int) (v : Vl) : Vl × Int :=
  if ¬ plainV v = true then (zeroVl, 2)
  else if v.h ≠ 13 then (v, 0)
  else if ¬ v.n < ids.length then (zeroVl, 2)
  else if ¬ inTab gs (ids.getD v.n.toNat 0) = true then (zeroVl, 2)
  else (⟨v.k, v.nl, 15, ids.getD v.n.toNat 0⟩, 0)
theorem plainV_13 {v : Vl} (hp : plainV v = true) (h : v.h = 13) : 0 ≤ v.n ∧ v.n ≤ 4294967295 := by
  unfold plainV at hp
  split at hp
  · have e : v = ⟨v.k, false, 0, 0⟩ := by simpa using hp
    rw [e] at h; simp at h
  · split at hp
    · simp [givenB, indexedB] at hp; omega
    · cases hp
variable {S R : Nat → Prop} {w : World} {t : Nat} {gs : List (List Sb)}
set_option maxRecDepth 100000 in
set_option maxHeartbeats 8000000 in
theorem close_any (ht : TabAt S R w t gs) (hok : TabOk gs) (v1 : Value) (ids : List Int) (v : Vl) (h1 : IntsAt w v1 ids) (hl : ids.length ≤ 100000) :
    Calls Tryd.prog 10 #[.pointer (some ⟨t, 0, none⟩), v1, .agg (cellsV v).toArray] w fun e w' => e = .returned (.tuple #[.agg (cellsV (closeG gs ids v).1).toArray, .int .i64 (closeG gs ids v).2]) ∧ Below w.heap.size w w' := by
  obtain ⟨a1, c1, rfl⟩ := RowAt.form h1
  obtain ⟨A, hA⟩ : ∃ A, closeG gs ids v = A := ⟨_, rfl⟩
  rw [hA]
  have HA := Lib.hid hA
  have HP13 := Lib.hid (plainV_13 (v := v))
  obtain ⟨bp, hbp⟩ : ∃ bp, plainV v = bp := ⟨_, rfl⟩
  have HBP := Lib.hid hbp
  clear hA
  obtain ⟨k, nl, hh, n⟩ := v
  obtain ⟨W0, hW⟩ : ∃ W0 : World, W0 = ((w.alloc (.cells #[.int .i64 k, .bool nl, .int .i64 hh, .int .i64 n] 28)).alloc (.cells #[.int .i64 0, .bool false, .int .i64 0, .int .i64 0] 28)) := ⟨_, rfl⟩
  have hb0 : Below w.heap.size w W0 := by rw [hW]; exact ((Below.refl _ _).alloc (Nat.le_refl _) _).alloc (by simp) _
  have z0 : W0.heap[w.heap.size]? = some (.cells #[.int .i64 k, .bool nl, .int .i64 hh, .int .i64 n] 28 (0, 0)) := by rw [hW]; exact heap_alloc_keep (heap_alloc_at _ _ rfl) _
  have z1 : W0.heap[w.heap.size + 1]? = some (.cells #[.int .i64 0, .bool false, .int .i64 0, .int .i64 0] 28 (0, 0)) := by rw [hW]; exact heap_alloc_at _ _ (by simp)
  have CM := Lib.hid (made_any (ht.below hb0))
  have CP := plainVal_any ⟨k, nl, hh, n⟩ W0
  rw [hbp] at CP
  have HCP := Lib.hid CP
  have HT := Lib.hid ht; have HOK := Lib.hid hok; have H1 := Lib.hid h1; have HL := Lib.hid hl; have HW := Lib.hid hW; have HB0 := Lib.hid hb0; have Z0 := Lib.hid z0; have Z1 := Lib.hid z1
  have c00 := heap_cell z0 0; have c01 := heap_cell z0 1; have c02 := heap_cell z0 2; have c03 := heap_cell z0 3
  simp at c00 c01 c02 c03
  rw [hW] at c00 c01 c02 c03
  clear CP ht hok h1 hl hW hb0 z0 z1 hbp
  rw [show cellsV ⟨k, nl, hh, n⟩ = [.int .i64 k, .bool nl, .int .i64 hh, .int .i64 n] from rfl]
  go_enter Tryd.func10, Tryd.ntmps10
  go_wp2_with fail
  rw [← HW.out]
  refine CM.out.mono ?_
  rintro e x1 ⟨rfl, hx1⟩
  rw [hx1, HW.out]
  clear hx1
  go_wp2_with fail
  rw [← HW.out]
  refine HCP.out.mono ?_
  rintro e x2 ⟨rfl, hb2⟩
  have y0 := (hb2.block _ (heap_lt Z0.out)).trans Z0.out
  have y1 := (hb2.block _ (heap_lt Z1.out)).trans Z1.out
  have d0 := heap_cell y0 0; have d1 := heap_cell y0 1; have d2 := heap_cell y0 2; have d3 := heap_cell y0 3
  have e0 := heap_cell y1 0; have e1 := heap_cell y1 1; have e2 := heap_cell y1 2; have e3 := heap_cell y1 3
  have f1 := fun i => heap_frozen y1 i
  have f0 := fun i => heap_frozen y0 i
  simp at d0 d1 d2 d3 e0 e1 e2 e3
  have hbw : Below w.heap.size w x2 := HB0.out.trans (hb2.mono HB0.out.size)
  have HBW := Lib.hid hbw; have Y0 := Lib.hid y0; have Y1 := Lib.hid y1
  clear hb2 hbw y0 y1 c00 c01 c02 c03
  have fin : ∀ W', Upd (fun b => w.heap.size ≤ b) x2 W' → Below w.heap.size w W' := fun W' u => HBW.out.trans (u.below (fun k hk => hk) HBW.out.size)
  have FIN := Lib.hid fin
  clear fin
  cases bp
  · have hA : A = (zeroVl, 2) := by rw [← HA.out]; unfold closeG; rw [HBP.out]; rfl
    go_wp2
    refine bodyPost_ret (v := .tuple #[.agg #[.int .i64 0, .bool false, .int .i64 0, .int .i64 0], .int .i64 2]) (by simp [results, Tryd.results10, go_sem, e0, e1, e2, e3]) rfl ?_
    subst hA
    exact ⟨rfl, FIN.out _ (((((Upd.refl _ x2).setCell (.inl (by simp)) _).setCell (.inl (by simp)) _).setCell (.inl (by simp)) _).setCell (.inl (by simp)) _)⟩
  by_cases h13 : hh = 13
  · subst h13
    obtain ⟨hn0, hn1⟩ := HP13.out HBP.out rfl
    obtain ⟨m, rfl⟩ : ∃ m : Nat, n = m := ⟨n.toNat, by omega⟩
    by_cases hlt : (m : Int) < ids.length
    · obtain ⟨y, hy⟩ : ∃ y, ids[m]? = some y := ⟨ids[m]'(by omega), by simp⟩
      obtain ⟨b1, o1, ea, _, p0⟩ := IntsAt.at (RowAt.below H1.out HBW.out (Nat.le_refl _) : IntsAt x2 (.slice a1 ids.length c1) ids) hy
      subst ea
      have hgd : ids.getD (m : Int).toNat 0 = y := by rw [List.getD_eq_getElem?_getD, Int.toNat_natCast, hy]; rfl
      obtain ⟨bq, hbq⟩ : ∃ bq, inTab gs y = bq := ⟨_, rfl⟩
      have CH := has_any (HT.out.below HBW.out) y HOK.out.total
      rw [show (decide (0 ≤ y) && decide (y < total gs)) = bq from hbq] at CH
      have HCH := Lib.hid CH; have HGD := Lib.hid hgd; have HBQ := Lib.hid hbq
      clear CH hgd hbq hy
      have HLT := Lib.hid hlt
      go_wp2_with fail
      refine HCH.out.mono ?_
      rintro e x3 ⟨rfl, rfl⟩
      cases bq
      · have hA : A = (zeroVl, 2) := by rw [← HA.out]; unfold closeG; rw [HBP.out, if_neg (by simp), if_neg (by simp), if_neg (by simpa using HLT.out), if_pos (by rw [HGD.out, HBQ.out]; simp)]
        subst hA
        go_wp2
        refine bodyPost_ret (v := .tuple #[.agg #[.int .i64 0, .bool false, .int .i64 0, .int .i64 0], .int .i64 2]) (by simp [results, Tryd.results10, go_sem, e0, e1, e2, e3]) rfl ?_
        exact ⟨rfl, FIN.out _ (((((Upd.refl _ _).setCell (.inl (by simp)) _).setCell (.inl (by simp)) _).setCell (.inl (by simp)) _).setCell (.inl (by simp)) _)⟩
      · have hA : A = (⟨k, nl, 15, y⟩, 0) := by rw [← HA.out]; unfold closeG; rw [HBP.out, if_neg (by simp), if_neg (by simp), if_neg (by simpa using HLT.out), if_neg (by rw [HGD.out, HBQ.out]; simp), HGD.out]
        subst hA
        go_wp2
        refine bodyPost_ret (v := .tuple #[.agg #[.int .i64 k, .bool nl, .int .i64 15, .int .i64 y], .int .i64 0]) (by simp [results, Tryd.results10, go_sem, e0, e1, e2, e3]) rfl ?_
        exact ⟨rfl, FIN.out _ (((((((Upd.refl _ _).setCell (.inl (by simp)) _).setCell (.inl (by simp)) _).setCell (.inl (by simp)) _).setCell (.inl (by simp)) _).setCell (.inl (by simp)) _).setCell (.inl (by simp)) _)⟩
    · have hA : A = (zeroVl, 2) := by rw [← HA.out]; unfold closeG; rw [HBP.out, if_neg (by simp), if_neg (by simp), if_pos hlt]
      subst hA
      go_wp2
      refine bodyPost_ret (v := .tuple #[.agg #[.int .i64 0, .bool false, .int .i64 0, .int .i64 0], .int .i64 2]) (by simp [results, Tryd.results10, go_sem, e0, e1, e2, e3]) rfl ?_
      exact ⟨rfl, FIN.out _ (((((Upd.refl _ _).setCell (.inl (by simp)) _).setCell (.inl (by simp)) _).setCell (.inl (by simp)) _).setCell (.inl (by simp)) _)⟩
  · have h13' : (hh == 13) = false := by simpa using h13
    have h13'' : (hh != 13) = true := by simpa using h13
    have hA : A = (⟨k, nl, hh, n⟩, 0) := by rw [← HA.out]; unfold closeG; rw [HBP.out, if_neg (by simp), if_pos h13]
    subst hA
    clear h13
    go_wp2
    refine bodyPost_ret (v := .tuple #[.agg #[.int .i64 k, .bool nl, .int .i64 hh, .int .i64 n], .int .i64 0]) (by simp [results, Tryd.results10, go_sem, e0, e1, e2, e3]) rfl ?_
    exact ⟨rfl, FIN.out _ (((((Upd.refl _ x2).setCell (.inl (by simp)) _).setCell (.inl (by simp)) _).setCell (.inl (by simp)) _).setCell (.inl (by simp)) _)⟩
end Go.Proofs.YtmjehnjodaicfaaDoor

/- package roll: which numbers Add tells (no program in sight); lists of groups in memory. -/
namespace Go.Proofs.YtmjehnjodaicfaaDoor
open Go.RowKit Go.Maps Go.WideMaps

theorem firstOf_add {gs : List (List Sb)} {i : Nat} {g : List Sb} (h : gs[i]? = some g) : firstOf gs i + g.length ≤ total gs := by
  have h1 := firstOf_le gs (i + 1)
  have h2 : firstOf gs (i + 1) = firstOf gs i + g.length := by
    unfold firstOf
    rw [List.take_add_one, h]
    exact total_snoc _ _
  omega
theorem enterG_fit {gs : List (List Sb)} {g : List Sb} (he : (enterG gs g).2.1 = 0) : (enterG gs g).1 + g.length ≤ total (enterG gs g).2.2 ∧ total gs ≤ total (enterG gs g).2.2 := by
  revert he
  unfold enterG
  cases hf : findG gs g with
  | some i =>
    intro _
    obtain ⟨hlt, hx, _⟩ := List.findIdx?_eq_some_iff_getElem.1 hf
    have hgi : gs[i]? = some g := by rw [List.getElem?_eq_getElem hlt]; simpa using hx
    have := firstOf_add hgi
    dsimp only; omega
  | none =>
    dsimp only
    split
    · intro h; cases h
    · split
      · rename_i h; intro _; subst h; simp
      · intro _; dsimp only; rw [total_snoc]; omega
structure AddOk (gs : List (List Sb)) (ids : List Int) (g : List Sb) (A : List Int × Int × List (List Sb)) : Prop where
  inn : ∀ i ∈ A.1, inTab A.2.2 i = true
  len : A.1.length = ids.length + g.length
theorem inTab_mono {gs gs' : List (List Sb)} (h : total gs ≤ total gs') {i : Int} (hi : inTab gs i = true) : inTab gs' i = true := by
  simp [inTab] at hi ⊢; omega
theorem addG_fact (gs : List (List Sb)) (ids : List Int) (g : List Sb) : ((addG gs ids g).2.1 ≠ 0 ∧ (addG gs ids g).1 = [] ∧ (addG gs ids g).2.2 = gs) ∨ ((addG gs ids g).2.1 = 0 ∧ AddOk gs ids g (addG gs ids g)) := by
  unfold addG
  split
  · exact .inl ⟨by simp, rfl, rfl⟩
  · split
    · exact .inl ⟨by simp, rfl, rfl⟩
    · rename_i h2
      split
      · exact .inl ⟨by simp, rfl, rfl⟩
      · split
        · rename_i h4
          exact .inl ⟨h4, rfl, rfl⟩
        · rename_i h4
          have h4 : (enterG gs (rollG ids g).1).2.1 = 0 := by simpa using h4
          obtain ⟨f1, f2⟩ := enterG_fit h4
          rw [rollG_len] at f1
          have f0 := enterG_first (gs := gs) (g := (rollG ids g).1)
          refine .inr ⟨rfl, ⟨fun i hi => ?_, by simp⟩⟩
          simp only [List.mem_append, List.mem_map, List.mem_range] at hi
          rcases hi with hi | ⟨k, hk, rfl⟩
          · have h := h2
            simp only [Decidable.not_not, List.all_eq_true] at h
            exact inTab_mono f2 (h i hi)
          · simp [inTab]; omega
/-- A list of groups in memory. -/
structure GrpsAt (w : World) (v : Value) (l : List (List Sb)) : Prop where
  ex : ∃ vs : List Value, vs.length = l.length ∧ RowAt w 1 v l.length vs ∧ ∀ (i : Nat) x g, vs[i]? = some x → l[i]? = some g → GrpAt w x g
theorem GrpsAt.form {w : World} {v : Value} {l : List (List Sb)} (h : GrpsAt w v l) : ∃ ao cap, v = .slice ao l.length cap := by
  obtain ⟨_, _, h, _⟩ := h.ex; exact RowAt.form h
theorem GrpsAt.keep {w w' : World} {v : Value} {l : List (List Sb)} (h : GrpsAt w v l) (hk : ∀ p u, w.cell? p = some u → w'.cell? p = some u) : GrpsAt w' v l := by
  obtain ⟨vs, h1, h2, h3⟩ := h.ex
  exact ⟨vs, h1, h2.keep hk, fun i x g hx hg => (h3 i x g hx hg).keep hk⟩
theorem GrpsAt.below {w w' : World} {B : Nat} {v : Value} {l : List (List Sb)} (h : GrpsAt w v l) (hb : Below B w w') (hB : w.heap.size ≤ B) : GrpsAt w' v l :=
  h.keep fun p u hp => by rw [hb.cell (Nat.lt_of_lt_of_le (World.block_lt_of_cell? _ _ hp) hB)]; exact hp
theorem GrpsAt.at {w : World} {ao : Option Addr} {cap : Nat} {l : List (List Sb)} (h : GrpsAt w (.slice ao l.length cap) l) {i : Nat} {g : List Sb} (hi : l[i]? = some g) : ∃ b off a c, ao = some ⟨b, off, none⟩ ∧ w.cell? ⟨b, off + i, none⟩ = some (.slice a g.length c) ∧ GrpAt w (.slice a g.length c) g := by
  have hlt := (List.getElem?_eq_some_iff.1 hi).1
  obtain ⟨vs, h1, h2, h3⟩ := h.ex
  obtain ⟨b, off, rfl, _, _, hc⟩ := RowAt.at h2 (by decide) (by omega)
  obtain ⟨x, hx⟩ : ∃ x, vs[i]? = some x := ⟨vs[i]'(by omega), by simp⟩
  have hg := h3 i x g hx hi
  obtain ⟨a, c, rfl⟩ := hg.form
  exact ⟨b, off, a, c, rfl, by rw [hc i (by omega), hx], hg⟩
/-- Groups that came in. -/
def RawL (l : List (List Sb)) : Prop := ∀ g ∈ l, ∀ x ∈ g, Fits x ∧ cnt x ≤ 1000000
end Go.Proofs.YtmjehnjodaicfaaDoor
