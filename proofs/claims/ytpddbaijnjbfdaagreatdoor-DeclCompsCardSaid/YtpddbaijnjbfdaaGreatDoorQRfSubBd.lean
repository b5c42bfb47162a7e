import Derived.Test.YtpddbaijnjbfdaaGreatDoorQDrGivenBd
namespace Go.Proofs.YtpddbaijnjbfdaaGreatDoor
open Lib (hid)
section
open Go.RowKit
def refsV (l : List Vl) : List Hp := (l.filter fun v => decide (v.k = 3)).map fun v => ⟨v.h, v.n⟩
def valsR (x : Sb) : List Vl := x.ps ++ x.rs ++ x.fs.map Fl.v
def heapsR (x : Sb) : List Hp := x.sups ++ refsV (valsR x)
theorem refsV_append (l m : List Vl) : refsV (l ++ m) = refsV l ++ refsV m := by simp [refsV]
theorem refsV_snoc (l : List Vl) (v : Vl) : refsV (l ++ [v]) = if v.k = 3 then refsV l ++ [⟨v.h, v.n⟩] else refsV l := by
  rw [refsV_append]
  by_cases h : v.k = 3
  · simp [refsV, h]
  · simp [refsV, h]
theorem refsV_take {l : List Vl} {i : Nat} {v : Vl} (hv : l[i]? = some v) : refsV (l.take (i + 1)) = if v.k = 3 then refsV (l.take i) ++ [⟨v.h, v.n⟩] else refsV (l.take i) := by
  rw [List.take_add_one, hv]
  exact refsV_snoc _ v
theorem refsV_at {l : List Vl} {i : Nat} {v : Vl} (hv : l[i]? = some v) (hk : v.k = 3) : (refsV l)[(refsV (l.take i)).length]? = some ⟨v.h, v.n⟩ := by
  have h1 := refsV_take hv
  rw [if_pos hk] at h1
  have h2 : refsV l = refsV (l.take (i + 1)) ++ refsV (l.drop (i + 1)) := by rw [← refsV_append, List.take_append_drop]
  rw [h2, h1, List.append_assoc, List.getElem?_append_right (Nat.le_refl _), Nat.sub_self]
  rfl
theorem refsV_len (l : List Vl) : (refsV l).length ≤ l.length := by
  unfold refsV; rw [List.length_map]; exact List.length_filter_le _ _
theorem heapsR_len (x : Sb) : (heapsR x).length ≤ cnt x := by
  unfold heapsR valsR cnt
  have h1 := refsV_len (x.ps ++ x.rs ++ x.fs.map Fl.v)
  simp at h1 ⊢; omega
theorem ds_heaps {D : Hp → Prop} {x : Sb} : DS D x ↔ ∀ h ∈ heapsR x, D h := by
  have hv : ∀ {l : List Vl}, (∀ v ∈ l, DV D v) ↔ ∀ h ∈ refsV l, D h := fun {l} => by
    constructor
    · intro h y hy
      obtain ⟨v, hv, rfl⟩ := List.mem_map.1 hy
      obtain ⟨h1, h2⟩ := List.mem_filter.1 hv
      exact h v h1 (by simpa using h2)
    · intro h v hv hk
      exact h _ (List.mem_map.2 ⟨v, List.mem_filter.2 ⟨hv, by simpa using hk⟩, rfl⟩)
  unfold heapsR valsR
  constructor
  · rintro ⟨h1, h2, h3, h4⟩ y hy
    rw [refsV_append, refsV_append] at hy
    simp only [List.mem_append] at hy
    rcases hy with hy | (hy | hy) | hy
    · exact h1 y hy
    · exact hv.1 h2 y hy
    · exact hv.1 h3 y hy
    · exact (hv (l := x.fs.map Fl.v)).1 (fun v hv => by obtain ⟨f, hf, rfl⟩ := List.mem_map.1 hv; exact h4 f hf) y hy
  · intro h
    rw [refsV_append, refsV_append] at h
    simp only [List.mem_append] at h
    exact ⟨fun y hy => h y (.inl hy), hv.2 fun y hy => h y (.inr (.inl (.inl hy))), hv.2 fun y hy => h y (.inr (.inl (.inr hy))), fun f hf => (hv (l := x.fs.map Fl.v)).2 (fun y hy => h y (.inr (.inr hy))) f.v (List.mem_map.2 ⟨f, hf, rfl⟩)⟩
def canB (ids : List Int) (gn : Nat) (h : Hp) : Bool := !decide (h.k = 13) || decide (h.n < ids.length) || decide (h.n - ids.length < gn)
theorem canB_iff {ids : List Int} {gn : Nat} {h : Hp} : canB ids gn h = true ↔ CanH ids gn h := by
  unfold canB CanH
  by_cases h1 : h.k = 13 <;> by_cases h2 : h.n < ids.length <;> simp [h1, h2]
def rollB (ids : List Int) (gn : Nat) (x : Sb) : Bool := plainS x && (heapsR x).all (canB ids gn)
def rollR (ids : List Int) (g : List Sb) : Option (List Sb) := if g.all (rollB ids g.length) = true then some (g.map (mapP (shutP ids))) else none
theorem rollR_eq (ids : List Int) (g : List Sb) : rollR ids g = if g.all plainS = true ∧ (rollG ids g).2 = true then some (rollG ids g).1 else none := by
  unfold rollR
  rw [rollG_map]
  have : g.all (rollB ids g.length) = true ↔ (g.all plainS = true ∧ (rollG ids g).2 = true) := by
    simp only [List.all_eq_true, rollB, Bool.and_eq_true]
    constructor
    · intro h
      exact ⟨fun x hx => (h x hx).1, rollG_can2 fun x hx => ds_heaps.2 fun y hy => canB_iff.1 ((h x hx).2 y hy)⟩
    · rintro ⟨h1, h2⟩ x hx
      exact ⟨h1 x hx, fun y hy => canB_iff.2 (ds_heaps.1 (rollG_can h2 x hx) y hy)⟩
  by_cases hc : g.all (rollB ids g.length) = true
  · rw [if_pos hc, if_pos (this.1 hc)]
  · rw [if_neg hc, if_neg (fun h => hc (this.2 h))]
def addR (rs : List (List Sb)) (ids : List Int) (g : List Sb) : List Int × Int × List (List Sb) :=
  if ¬ ids.all (inTab rs) = true then ([], 2, rs)
  else match rollR ids g with
    | none => ([], 2, rs)
    | some r => match findG rs r with
      | some i => (ids ++ (List.range r.length).map (fun k : Nat => (firstOf rs i : Int) + (k : Int)), 0, rs)
      | none => if 10000 < total rs + r.length then ([], 5, rs) else (ids ++ (List.range r.length).map (fun k : Nat => (total rs : Int) + (k : Int)), 0, rs ++ [r])
def RefOk (gs rs : List (List Sb)) : Prop := rs.filter (fun g => decide (g ≠ [])) = gs
theorem total_filter (rs : List (List Sb)) : total (rs.filter fun g => decide (g ≠ [])) = total rs := by
  induction rs with
  | nil => rfl
  | cons g rs ih =>
    by_cases hg : g = []
    · subst hg
      rw [List.filter_cons_of_neg (by simp), ih]; simp [total]
    · rw [List.filter_cons_of_pos (by simpa using hg)]
      simp only [total, List.map_cons, List.sum_cons] at ih ⊢
      omega
theorem RefOk.total {gs rs : List (List Sb)} (h : RefOk gs rs) : total rs = total gs := by rw [← h, total_filter]
theorem RefOk.inTab {gs rs : List (List Sb)} (h : RefOk gs rs) : inTab rs = inTab gs := by
  funext i; unfold Proofs.YtpddbaijnjbfdaaGreatDoor.inTab; rw [h.total]
theorem find_filter (rs : List (List Sb)) {r : List Sb} (hr : r ≠ []) : (findG rs r).map (firstOf rs) = (findG (rs.filter fun g => decide (g ≠ [])) r).map (firstOf (rs.filter fun g => decide (g ≠ []))) := by
  have h0 : ∀ (a : List Sb) (l : List (List Sb)) (i : Nat), firstOf (a :: l) (i + 1) = a.length + firstOf l i := fun a l i => by simp [firstOf, Proofs.YtpddbaijnjbfdaaGreatDoor.total]
  have hc : ∀ (a : List Sb) (l : List (List Sb)), (findG (a :: l) r).map (firstOf (a :: l)) = if a = r then some 0 else ((findG l r).map (firstOf l)).map (a.length + ·) := fun a l => by
    unfold findG
    rw [List.findIdx?_cons]
    by_cases ha : a = r
    · rw [if_pos ha]; simp [ha, firstOf, Proofs.YtpddbaijnjbfdaaGreatDoor.total]
    · rw [if_neg ha, if_neg (by simpa using ha), Option.map_map, Option.map_map]
      congr 1
  induction rs with
  | nil => rfl
  | cons a rs ih =>
    by_cases ha : a = []
    · subst ha
      rw [List.filter_cons_of_neg (by simp), hc, if_neg (Ne.symm hr), ih, Option.map_map]
      congr 1
      funext i; simp
    · rw [List.filter_cons_of_pos (by simpa using ha), hc, hc, ih]
theorem addR_eq {gs rs : List (List Sb)} (h : RefOk gs rs) (hok : TabOk gs) (ids : List Int) (g : List Sb) :
    (addR rs ids g).1 = (addG gs ids g).1 ∧ (addR rs ids g).2.1 = (addG gs ids g).2.1 ∧ RefOk (addG gs ids g).2.2 (addR rs ids g).2.2 := by
  unfold addR addG
  rw [h.inTab, rollR_eq]
  by_cases h1 : g.all plainS = true
  · by_cases h2 : ids.all (inTab gs) = true
    · by_cases h3 : (rollG ids g).2 = true
      · rw [if_neg (by simpa using h2), if_pos ⟨h1, h3⟩, if_neg (by simpa using h1), if_neg (by simpa using h2), if_neg (by simpa using h3)]
        dsimp only
        obtain ⟨r, hr⟩ : ∃ r, (rollG ids g).1 = r := ⟨_, rfl⟩
        have hl : r.length = g.length := by rw [← hr, rollG_len]
        rw [hr]
        unfold enterG
        by_cases hn : r = []
        · subst hn
          have hnone : findG gs [] = none := by
            unfold findG
            rw [List.findIdx?_eq_none_iff]
            intro x hx
            have := hok.ne x hx
            simpa using this
          have ht := hok.total
          have hg : g = [] := List.length_eq_zero_iff.1 hl.symm
          subst hg
          rw [hnone]
          dsimp only
          rw [if_neg (show ¬ 10000 < total gs + ([] : List Sb).length by simp; omega), if_pos rfl]
          cases hf : findG rs [] with
          | some i => exact ⟨by simp, rfl, h⟩
          | none =>
            dsimp only
            rw [if_neg (by rw [h.total]; simp; omega)]
            refine ⟨by simp, rfl, ?_⟩
            unfold RefOk at h ⊢
            rw [List.filter_append]
            simpa using h
        · have hf := find_filter rs hn
          rw [h] at hf
          cases hg1 : findG gs r with
          | some j =>
            rw [hg1] at hf
            cases hr1 : findG rs r with
            | none => rw [hr1] at hf; simp at hf
            | some i =>
              rw [hr1] at hf
              simp at hf
              dsimp only
              simp only [ne_eq, not_true, if_false]
              rw [hl, hf]
              exact ⟨by first | rfl | trivial, by first | rfl | trivial, h⟩
          | none =>
            rw [hg1] at hf
            cases hr1 : findG rs r with
            | some i => rw [hr1] at hf; simp at hf
            | none =>
              dsimp only
              rw [h.total]
              by_cases hfull : 10000 < total gs + r.length
              · rw [if_pos hfull, if_pos hfull]
                simp only [ne_eq]
                exact ⟨rfl, rfl, h⟩
              · rw [if_neg hfull, if_neg hfull, if_neg hn]
                simp only [ne_eq, not_true, if_false]
                rw [hl]
                refine ⟨by first | rfl | trivial, by first | rfl | trivial, ?_⟩
                unfold RefOk at h ⊢
                rw [List.filter_append, h]
                simp [hn]
      · rw [if_neg (by simpa using h2), if_neg (fun q => h3 q.2), if_neg (by simpa using h1), if_neg (by simpa using h2), if_pos (by simpa using h3)]
        exact ⟨rfl, rfl, h⟩
    · rw [if_pos (by simpa using h2), if_neg (by simpa using h1), if_pos (by simpa using h2)]
      exact ⟨rfl, rfl, h⟩
  · have hn : ¬ (g.all plainS = true ∧ (rollG ids g).2 = true) := fun q => h1 q.1
    rw [if_neg hn]
    have e : (if ¬ g.all plainS = true then (([], 2, gs) : List Int × Int × List (List Sb)) else if ¬ ids.all (inTab gs) = true then ([], 2, gs) else if ¬ (rollG ids g).2 = true then ([], 2, gs) else if (enterG gs (rollG ids g).1).2.1 ≠ 0 then ([], (enterG gs (rollG ids g).1).2.1, gs) else (ids ++ (List.range g.length).map (fun k : Nat => (enterG gs (rollG ids g).1).1 + (k : Int)), 0, (enterG gs (rollG ids g).1).2.2)) = ([], 2, gs) := if_pos h1
    rw [e]
    dsimp only
    split
    · exact ⟨rfl, rfl, h⟩
    · exact ⟨rfl, rfl, h⟩
theorem tabL_filter (rs : List (List Sb)) : tabL (rs.filter fun g => decide (g ≠ [])) = tabL rs := by
  refine snocRec (P := fun rs => tabL (rs.filter fun g => decide (g ≠ [])) = tabL rs) rfl (fun rs g ih => ?_) rs
  rw [List.filter_append, tabL_snoc]
  by_cases hg : g = []
  · subst hg
    rw [List.filter_cons_of_neg (by simp), List.filter_nil, List.append_nil, ih]; simp
  · rw [List.filter_cons_of_pos (by simpa using hg), List.filter_nil, tabL_snoc, ih, total_filter]
theorem RefOk.tabL {gs rs : List (List Sb)} (h : RefOk gs rs) : tabL rs = tabL gs := by rw [← h, tabL_filter]
theorem RefOk.mem {gs rs : List (List Sb)} (h : RefOk gs rs) {g : List Sb} (hg : g ∈ rs) : g = [] ∨ g ∈ gs := by
  by_cases hn : g = []
  · exact .inl hn
  · exact .inr (by rw [← h, List.mem_filter]; exact ⟨hg, by simpa using hn⟩)
end
section
open Go.RowKit
structure RefAt (R : Nat → Prop) (w : World) (t : Nat) (rs : List (List Sb)) : Prop where
  ex : ∃ a c, ∃ vs : List Value, w.heap[t]? = some (.cells #[.slice a rs.length c] 31 (0, 0)) ∧ vs.length = rs.length ∧ (∀ w'', Upd (fun b => ¬ R b) w w'' → RowAt w'' 1 (.slice a rs.length c) rs.length vs) ∧ ∀ (i : Nat) v g, vs[i]? = some v → rs[i]? = some g → ∀ w'', Upd (fun b => ¬ R b) w w'' → GrpAt w'' v g
  rt : ¬ R t
  lt : ∀ k, R k → k < w.heap.size
theorem RefAt.tlt {R : Nat → Prop} {w : World} {t : Nat} {rs : List (List Sb)} (h : RefAt R w t rs) : t < w.heap.size := by
  obtain ⟨_, _, _, h, _⟩ := h.ex; exact heap_lt h
theorem RefAt.grps {R : Nat → Prop} {w : World} {t : Nat} {rs : List (List Sb)} (h : RefAt R w t rs) : ∃ a c, w.heap[t]? = some (.cells #[.slice a rs.length c] 31 (0, 0)) ∧ ∀ w'', Upd (fun b => ¬ R b) w w'' → GrpsAt w'' (.slice a rs.length c) rs := by
  obtain ⟨a, c, vs, h1, h2, h3, h4⟩ := h.ex
  exact ⟨a, c, h1, fun w'' u => ⟨vs, h2, h3 w'' u, fun i v g hv hg => h4 i v g hv hg w'' u⟩⟩
theorem RefAt.keep {R : Nat → Prop} {w w' : World} {t : Nat} {rs : List (List Sb)} (h : RefAt R w t rs) (u : Upd (fun b => ¬ R b ∧ b ≠ t) w w') : RefAt R w' t rs := by
  obtain ⟨a, c, vs, h1, h2, h3, h4⟩ := h.ex
  exact ⟨⟨a, c, vs, u.heap_some h1 (fun q => q.2 rfl), h2, fun w'' u'' => h3 w'' ((u.mono fun _ _ q => q.1).trans' u''), fun i v g hv hg w'' u'' => h4 i v g hv hg w'' ((u.mono fun _ _ q => q.1).trans' u'')⟩, h.rt, fun k hk => Nat.lt_of_lt_of_le (h.lt k hk) u.size⟩
theorem RefAt.below {R : Nat → Prop} {w w' : World} {t : Nat} {rs : List (List Sb)} (h : RefAt R w t rs) (u : Below w.heap.size w w') : RefAt R w' t rs := h.keep ((Upd.of_below u : Upd (fun _ => False) w w').mono fun _ _ q => q.elim)
theorem firstOf_succ {rs : List (List Sb)} {i : Nat} {g : List Sb} (h : rs[i]? = some g) : firstOf rs (i + 1) = firstOf rs i + g.length := by
  unfold firstOf
  rw [List.take_add_one, h]
  exact total_snoc _ _
theorem firstOf_full {rs : List (List Sb)} {i : Nat} (h : rs.length ≤ i) : firstOf rs i = total rs := by
  unfold firstOf; rw [List.take_of_length_le h]
def FindP (rs : List (List Sb)) (id i first k : Int) : Prop :=
  (∃ (j m : Nat) (g : List Sb), rs[j]? = some g ∧ m < g.length ∧ id = ((firstOf rs j + m : Nat) : Int) ∧ i = (j : Int) ∧ first = (firstOf rs j : Int) ∧ k = (m : Int)) ∨ (inTab rs id = false ∧ i = -1 ∧ first = 0 ∧ k = 0)
set_option maxRecDepth 100000 in
set_option maxHeartbeats 4000000 in
theorem rLen_dr {R : Nat → Prop} {w : World} {t : Nat} {rs : List (List Sb)} (ht : RefAt R w t rs) (htot : total rs ≤ 10000) (hl : rs.length ≤ 1000000) :
    Calls Tryz.prog 31 #[.pointer (some ⟨t, 0, none⟩)] w fun e w' => e = .returned (.int .i64 (total rs)) ∧ ∃ m, w' = w.drewN m := by
  obtain ⟨a, c, ht1, ht2⟩ := ht.grps
  have hc : ∀ m, (w.drewN m).cell? ⟨t, 0, none⟩ = some (.slice a rs.length c) := fun _ => heap_cell ht1 0
  have H2 := hid (ht2 w (Upd.refl _ _))
  have HL := hid hl; have HTOT := hid htot
  obtain ⟨n, hn⟩ : ∃ n, rs.length = n := ⟨_, rfl⟩
  have HN := hid hn
  rw [hn] at hc
  clear ht ht1 ht2 htot hn hl
  go_enter Tryz.func31, Tryz.ntmps31
  go_wp2
  go_loopw [3, 4] (fun t3 t4 wr => ∃ i : Nat, t4 = .int .i64 i ∧ t3 = .int .i64 (firstOf rs i : Nat) ∧ i ≤ n ∧ ∃ m, wr = w.drewN m) (fun _ t4 _ => n - (intOf t4).toNat)
  case atStart => exact ⟨0, rfl, rfl, Nat.zero_le _, 0, rfl⟩
  case round =>
    obtain ⟨i, rfl, rfl, hi, nd, rfl⟩ := hrel
    by_cases hlt : i < n
    · obtain ⟨g, hg⟩ : ∃ g, rs[i]? = some g := ⟨rs[i]'(by rw [HN.out]; exact hlt), by simp⟩
      obtain ⟨b, off, a1, c1, rfl, q0, _⟩ := GrpsAt.at H2.out hg
      have h1 := firstOf_add hg
      have h2 := firstOf_succ hg
      have HS := hid h2; have HLT := hid hlt
      obtain ⟨f, hf⟩ : ∃ f, firstOf rs i = f := ⟨_, rfl⟩
      obtain ⟨gl, hgl⟩ : ∃ gl, g.length = gl := ⟨_, rfl⟩
      have HF := hid hf; have HGL := hid hgl
      have hlt' : (i : Int) < n := by omega
      have hi6 : (i : Int) < 1000000 := by have := HL.out; have := HN.out; omega
      have hf6 : (f : Int) ≤ 10000 := by have := HTOT.out; omega
      have hg6 : (gl : Int) ≤ 10000 := by have := HTOT.out; omega
      have hc' := hc nd
      rw [hf]
      rw [hgl] at q0
      clear hg h1 h2 hlt hf hgl hi
      go_wp2
      go_roundw
      case rel => exact ⟨i + 1, by go_num, by rw [HS.out, HF.out, HGL.out]; go_num, HLT.out, _, rfl⟩
      case measure => have := HLT.out; simp [intOf]; omega
    · obtain rfl : i = n := by omega
      have hlt' : ¬ (i : Int) < i := by omega
      have hc' := hc nd
      clear hlt hi
      go_wp2
      go_ret
      refine ⟨?_, _, rfl⟩
      rw [firstOf_full (by rw [HN.out]; exact Nat.le_refl _)]
      rfl
set_option maxRecDepth 100000 in
set_option maxHeartbeats 4000000 in
theorem rFind_any {R : Nat → Prop} {w : World} {t : Nat} {rs : List (List Sb)} (ht : RefAt R w t rs) (htot : total rs ≤ 10000) (hl : rs.length ≤ 1000000) (id : Int) :
    Calls Tryz.prog 60 #[.pointer (some ⟨t, 0, none⟩), .int .i64 id] w fun e w' => ∃ i first k, e = .returned (.tuple #[.int .i64 i, .int .i64 first, .int .i64 k]) ∧ FindP rs id i first k ∧ Below w.heap.size w w' := by
  obtain ⟨a, c, ht1, ht2⟩ := ht.grps
  have hc : ∀ x : Ext w, x.val.cell? ⟨t, 0, none⟩ = some (.slice a rs.length c) := Ext.cells (heap_cell ht1 0)
  have H2 := hid (ht2 w (Upd.refl _ _))
  have HL := hid hl; have HTOT := hid htot
  obtain ⟨n, hn⟩ : ∃ n, rs.length = n := ⟨_, rfl⟩
  have HN := hid hn
  rw [hn] at hc
  clear ht ht1 ht2 htot hn hl
  go_enter Tryz.func60, Tryz.ntmps60
  go_wp2
  go_loopw [7, 8] (fun t3 t4 wr => ∃ i : Nat, t4 = .int .i64 i ∧ t3 = .int .i64 (firstOf rs i : Nat) ∧ i ≤ n ∧ (id < 0 ∨ (firstOf rs i : Int) ≤ id) ∧ ∃ x : Ext w, wr = x.val) (fun _ t4 _ => n - (intOf t4).toNat)
  case atStart => exact ⟨0, rfl, rfl, Nat.zero_le _, by rw [show firstOf rs 0 = 0 from rfl]; omega, ⟨_, Below.refl _ _⟩, rfl⟩
  case round =>
    obtain ⟨i, rfl, rfl, hi, hno, x, rfl⟩ := hrel
    by_cases hlt : i < n
    · obtain ⟨g, hg⟩ : ∃ g, rs[i]? = some g := ⟨rs[i]'(by rw [HN.out]; exact hlt), by simp⟩
      obtain ⟨b, off, a1, c1, rfl, q0, _⟩ := GrpsAt.at (H2.out.below x.2 (Nat.le_refl _)) hg
      have h1 := firstOf_add hg
      have h2 := firstOf_succ hg
      have HS := hid h2; have HLT := hid hlt; have HG := hid hg
      obtain ⟨f, hf⟩ : ∃ f, firstOf rs i = f := ⟨_, rfl⟩
      obtain ⟨gl, hgl⟩ : ∃ gl, g.length = gl := ⟨_, rfl⟩
      have HF := hid hf; have HGL := hid hgl
      have hlt' : (i : Int) < n := by omega
      have hi6 : (i : Int) < 1000000 := by have := HL.out; have := HN.out; omega
      have hf6 : (f : Int) ≤ 10000 := by have := HTOT.out; omega
      have hg6 : (gl : Int) ≤ 10000 := by have := HTOT.out; omega
      have hc' := hc x
      rw [hf] at hno ⊢
      rw [hgl] at q0
      have HNO := hid hno
      clear hg h1 h2 hlt hf hgl hi hno
      by_cases k1 : (f : Int) ≤ id
      · by_cases k2 : id < (f : Int) + gl
        · have K1 := hid k1; have K2 := hid k2
          go_wp2
          refine bodyPost_ret (v := .tuple #[.int .i64 (i : Nat), .int .i64 (f : Nat), .int .i64 (id - f)]) (by simp [results, Tryz.results60, go_sem]) rfl ?_
          refine ⟨_, _, _, rfl, .inl ⟨i, (id - f).toNat, g, HG.out, ?_, ?_, rfl, by rw [HF.out], ?_⟩, x.2⟩
          · have := HGL.out; have := K1.out; have := K2.out; omega
          · have := HF.out; have := K1.out; omega
          · have := K1.out; omega
        · have K2 := hid k2
          go_wp2
          go_roundw
          case rel => exact ⟨i + 1, by go_num, by rw [HS.out, HF.out, HGL.out]; go_num, HLT.out, by rw [HS.out, HF.out, HGL.out]; have := K2.out; omega, x, rfl⟩
          case measure => have := HLT.out; simp [intOf]; omega
      · have K1 := hid k1
        go_wp2
        go_roundw
        case rel => exact ⟨i + 1, by go_num, by rw [HS.out, HF.out, HGL.out]; go_num, HLT.out, by have := K1.out; have := HNO.out; left; omega, x, rfl⟩
        case measure => have := HLT.out; simp [intOf]; omega
    · obtain rfl : i = n := by omega
      have hlt' : ¬ (i : Int) < i := by omega
      have hc' := hc x
      clear hlt hi
      have HNO := hid hno
      clear hno
      go_wp2
      refine bodyPost_ret (v := .tuple #[.int .i64 (-1), .int .i64 0, .int .i64 0]) (by simp [results, Tryz.results60, go_sem]) rfl ?_
      refine ⟨_, _, _, rfl, .inr ⟨?_, rfl, rfl, rfl⟩, x.2⟩
      have h := HNO.out
      rw [firstOf_full (by rw [HN.out]; exact Nat.le_refl _)] at h
      simp only [inTab, Bool.and_eq_false_iff, decide_eq_false_iff_not]
      omega
end
section
open Go.RowKit
def plainH (h : Hp) : Bool := givenB h || indexedB h
set_option maxHeartbeats 1000000 in
theorem rHeap_any (k n : Int) (w : World) : Calls Tryz.prog 94 #[.agg #[.int .i64 k, .int .i64 n]] w fun e w' => e = .returned (.bool (plainH ⟨k, n⟩)) ∧ Below w.heap.size w w' := by
  unfold plainH givenB indexedB
  go_enter Tryz.func94, Tryz.ntmps94
  go_wp2
  all_goals
    go_ret
    exact ⟨retb (by first | (simp_all; done) | (simp_all; omega) | (rw [Bool.eq_iff_iff]; simp_all; done) | (rw [Bool.eq_iff_iff]; simp_all; omega)), (Below.refl _ _).alloc (Nat.le_refl _) _⟩
set_option maxHeartbeats 1000000 in
theorem rVal_any (v : Vl) (w : World) : Calls Tryz.prog 70 #[.agg (cellsV v).toArray] w fun e w' => e = .returned (.bool (plainV v)) ∧ Below w.heap.size w w' := by
  obtain ⟨k, nl, h, n⟩ := v
  simp only [cellsV]
  by_cases h3 : k = 3
  · subst h3
    go_enter Tryz.func70, Tryz.ntmps70
    go_wp2_with fail
    refine (rHeap_any h n _).mono ?_
    rintro e w1 ⟨rfl, hb1⟩
    go_wp2
    go_ret
    exact ⟨retb (by simp [plainV, plainH]), ((Below.refl _ _).alloc (Nat.le_refl _) _).trans (hb1.mono (by simp))⟩
  · go_enter Tryz.func70, Tryz.ntmps70
    go_wp2
    all_goals
      go_ret
      exact ⟨retb (by first | (simp_all [plainV]; done) | (simp_all [plainV]; omega) | (rw [Bool.eq_iff_iff]; simp_all [plainV]; done) | (rw [Bool.eq_iff_iff]; simp_all [plainV]; omega)), (Below.refl _ _).alloc (Nat.le_refl _) _⟩
set_option maxRecDepth 100000 in
set_option maxHeartbeats 1000000 in
theorem rVals_any (v : Value) (l : List Vl) (w : World) (hv : ValsAt w v l) (hl : l.length ≤ 1000000) : Calls Tryz.prog 105 #[v] w fun e w' => e = .returned (.bool (l.all plainV)) ∧ Below w.heap.size w w' := by
  obtain ⟨ao, cap, rfl⟩ := RowAt.form hv
  obtain ⟨n, hn⟩ : ∃ n, l.length = n := ⟨_, rfl⟩
  have HV := hid hv; have HN := hid hn
  rw [hn] at hl ⊢
  clear hv hn
  go_enter Tryz.func105, Tryz.ntmps105
  go_wp2
  go_loopw [3] (fun t9 wr => ∃ i : Nat, t9 = .int .i64 (i : Nat) ∧ i ≤ n ∧ (l.take i).all plainV = true ∧ Below w.heap.size w wr) (fun t9 _ => n - (intOf t9).toNat)
  case atStart => exact ⟨0, rfl, Nat.zero_le _, rfl, Below.refl _ _⟩
  case round =>
    obtain ⟨i, rfl, hi, htk, hb⟩ := hrel
    have HT := hid htk; have HB := hid hb
    clear htk hb
    by_cases hlt : i < n
    · obtain ⟨x, hx⟩ : ∃ x, l[i]? = some x := ⟨l[i]'(by rw [HN.out]; exact hlt), by simp⟩
      have hvr : ValsAt wr (.slice ao l.length cap) l := RowAt.below HV.out HB.out (Nat.le_refl _)
      rw [HN.out] at hvr
      obtain ⟨b, off, rfl, hbl, p0, p1, p2, p3⟩ := vals_at (by rw [HN.out]; exact hvr) hx
      have HX := hid hx
      obtain ⟨r, hr⟩ : ∃ r, plainV x = r := ⟨_, rfl⟩
      have HR := hid hr
      have hlt' : (i : Int) < n := by omega
      have hi6 : (i : Int) < 1000000 := by omega
      have HI := hid hlt
      clear hx hr hvr hbl hl hi hlt
      go_wp2_with fail
      refine (rVal_any x _).mono ?_
      rintro e w1 ⟨rfl, hb1⟩
      rw [HR.out]
      have HB1 := hid (HB.out.trans (hb1.mono HB.out.size))
      clear hb1
      cases r
      · go_wp2
        go_ret
        exact ⟨retb (all_not HX.out HR.out).symm, HB1.out⟩
      · go_wp2
        go_roundw
        case rel => exact ⟨i + 1, by go_num, HI.out, by rw [take_all HX.out, HT.out, HR.out]; rfl, HB1.out⟩
        case measure => have := HI.out; simp [intOf]; omega
    · have hlt' : ¬ (i : Int) < n := by omega
      have h0 := HT.out
      have HA := hid (show l.all plainV = true by rw [List.take_of_length_le (by rw [HN.out]; omega)] at h0; exact h0)
      clear h0
      go_wp2
      go_ret
      exact ⟨retb HA.out.symm, HB.out⟩
theorem plainH13 {x : Hp} (h : x.k = 13) : plainH x = indexedB x := by
  obtain ⟨k, n⟩ := x
  dsimp only at h
  subst h
  simp [plainH, givenB]
set_option maxRecDepth 100000 in
set_option maxHeartbeats 4000000 in
theorem rSub_any (cs : List Value) (s : Sb) (w : World) (hs : SubAt w cs s) (hm : Small s) : Calls Tryz.prog 85 #[.agg cs.toArray] w fun e w' => e = .returned (.bool (plainS s)) ∧ Below w.heap.size w w' := by
  have HM := hid hm
  obtain ⟨vs, vp, vr, vf, rfl, h1, h2, h3, h4⟩ := hs.ex
  obtain ⟨so, sc, rfl⟩ := RowAt.form h1
  obtain ⟨ps, pc, rfl⟩ := RowAt.form h2
  obtain ⟨rs, rc, rfl⟩ := RowAt.form h3
  obtain ⟨fs, fc, rfl⟩ := RowAt.form h4
  obtain ⟨fin, sups, k, lp, lr, lf⟩ := s
  dsimp only at h1 h2 h3 h4 ⊢
  obtain ⟨ns, hns⟩ : ∃ n, sups.length = n := ⟨_, rfl⟩
  obtain ⟨np, hnp⟩ : ∃ n, lp.length = n := ⟨_, rfl⟩
  obtain ⟨nr, hnr⟩ : ∃ n, lr.length = n := ⟨_, rfl⟩
  obtain ⟨nf, hnf⟩ : ∃ n, lf.length = n := ⟨_, rfl⟩
  have H1 := hid h1; have H2 := hid h2; have H3 := hid h3; have H4 := hid h4
  have HNS := hid hns; have HNF := hid hnf; have HNP := hid hnp; have HNR := hid hnr
  have hM0 := hm.sups; have hM1 := hm.ps; have hM2 := hm.rs; have hM3 := hm.fs
  dsimp only at hM0 hM1 hM2 hM3
  rw [hns] at H1 hM0; rw [hnp] at H2 hM1; rw [hnr] at H3 hM2; rw [hnf] at H4 hM3
  rw [plainS_eq]
  dsimp only
  rw [hnp, hnr, hnf, hns]
  obtain ⟨b1, hb1⟩ : ∃ b, lp.all plainV = b := ⟨_, rfl⟩
  obtain ⟨b2, hb2⟩ : ∃ b, lr.all plainV = b := ⟨_, rfl⟩
  rw [show midS ⟨fin, sups, k, lp, lr, lf⟩ = (b1 && b2 && lf.all plainF) by unfold midS; rw [hb1, hb2]]
  have A1 := hid hb1; have A2 := hid hb2
  obtain ⟨W0, hW⟩ : ∃ W0 : World, W0 = (w.alloc (.cells #[.bool fin, .slice so ns sc, .int .i64 k, .slice ps np pc, .slice rs nr rc, .slice fs nf fc] 46)) := ⟨_, rfl⟩
  have hB : Below w.heap.size w W0 := by rw [hW]; exact ((Below.refl _ _).alloc (by simp) _)
  have b0_0 : ∀ x : Ext W0, x.val.cell? ⟨w.heap.size, 0, none⟩ = some (.bool fin) := Ext.cells (by rw [hW]; exact heap_cell (heap_alloc_at _ _ (by simp)) 0)
  have b0_1 : ∀ x : Ext W0, x.val.cell? ⟨w.heap.size, 1, none⟩ = some (.slice so ns sc) := Ext.cells (by rw [hW]; exact heap_cell (heap_alloc_at _ _ (by simp)) 1)
  have b0_2 : ∀ x : Ext W0, x.val.cell? ⟨w.heap.size, 2, none⟩ = some (.int .i64 k) := Ext.cells (by rw [hW]; exact heap_cell (heap_alloc_at _ _ (by simp)) 2)
  have b0_3 : ∀ x : Ext W0, x.val.cell? ⟨w.heap.size, 3, none⟩ = some (.slice ps np pc) := Ext.cells (by rw [hW]; exact heap_cell (heap_alloc_at _ _ (by simp)) 3)
  have b0_4 : ∀ x : Ext W0, x.val.cell? ⟨w.heap.size, 4, none⟩ = some (.slice rs nr rc) := Ext.cells (by rw [hW]; exact heap_cell (heap_alloc_at _ _ (by simp)) 4)
  have b0_5 : ∀ x : Ext W0, x.val.cell? ⟨w.heap.size, 5, none⟩ = some (.slice fs nf fc) := Ext.cells (by rw [hW]; exact heap_cell (heap_alloc_at _ _ (by simp)) 5)
  have HW := hid hW; have HB := hid hB
  clear hW hB
  have R1 := hid (RowAt.below h1 HB.out (Nat.le_refl _)); have R2 := hid (RowAt.below h2 HB.out (Nat.le_refl _)); have R3 := hid (RowAt.below h3 HB.out (Nat.le_refl _)); have R4 := hid (RowAt.below h4 HB.out (Nat.le_refl _))
  rw [hns] at R1; rw [hnp] at R2; rw [hnr] at R3; rw [hnf] at R4
  have hs0 : (np : Int) ≤ 1000000 := by omega
  have hs1 : (nr : Int) ≤ 1000000 := by omega
  have hs2 : (ns : Int) ≤ 1000000 := by omega
  have hs3 : (nf : Int) ≤ 1000000 := by omega
  clear h1 h2 h3 h4 hs hm hnp hnr hnf hns hb1 hb2 hM0 hM1 hM2 hM3 H1 H2 H3 H4
  go_enter Tryz.func85, Tryz.ntmps85
  go_wp2
  rw [← HW.out]
  go_loopw [3] (fun t3 wr => ∃ i : Nat, t3 = .int .i64 i ∧ i ≤ ns ∧ (sups.take i).all indexedB = true ∧ ∃ x : Ext W0, wr = x.val) (fun t3 _ => ns - (intOf t3).toNat)
  case atStart => exact ⟨0, rfl, Nat.zero_le _, rfl, ⟨_, Below.refl _ _⟩, rfl⟩
  case round =>
    obtain ⟨i, rfl, hi, htk, x, rfl⟩ := hrel
    have HT := hid htk
    clear htk
    by_cases hlt : i < ns
    · obtain ⟨⟨yk, yn⟩, hy⟩ : ∃ y, sups[i]? = some y := ⟨sups[i]'(by rw [HNS.out]; exact hlt), by simp⟩
      have hvr := RowAt.ext R1.out x
      rw [← HNS.out] at hvr
      obtain ⟨b, off, rfl, _, p0, p1⟩ := hps_at hvr hy
      have HY := hid hy; have HI := hid hlt
      have hlt' : (i : Int) < ns := by omega
      clear hvr hy hlt hi
      dsimp only at p0 p1
      by_cases hk : yk = 13
      · subst hk
        obtain ⟨r, hr⟩ : ∃ r, indexedB ⟨13, yn⟩ = r := ⟨_, rfl⟩
        have HR := hid ((plainH13 (x := ⟨13, yn⟩) rfl).trans hr); have HR0 := hid hr
        clear hr
        go_wp2_with fail
        refine (Ext.call x (rHeap_any 13 yn _)).mono ?_
        rintro e _ ⟨rfl, x2, rfl⟩
        rw [HR.out]
        cases r
        · go_wp2
          go_ret
          exact ⟨retb (by rw [all_not HY.out HR0.out]; rfl), HB.out.trans (x2.2.mono HB.out.size)⟩
        · go_wp2
          go_roundw
          case rel => exact ⟨i + 1, by go_num, HI.out, by rw [take_all HY.out, HT.out, HR0.out]; rfl, x2, rfl⟩
          case measure => have := HI.out; simp [intOf]; omega
      · have e13 : (yk == 13) = false := by simpa using hk
        have e13n : (yk != 13) = true := by simpa using hk
        have HK := hid (show indexedB ⟨yk, yn⟩ = false by simp [indexedB, hk])
        clear hk
        go_wp2
        go_ret
        exact ⟨retb (by rw [all_not HY.out HK.out]; rfl), HB.out.trans (x.2.mono HB.out.size)⟩
    · have hlt' : ¬ (i : Int) < ns := by omega
      have h0 := HT.out
      have HA := hid (show sups.all indexedB = true by rw [List.take_of_length_le (by rw [HNS.out]; omega)] at h0; exact h0)
      clear h0
      go_wp2
      obtain ⟨W1, hW1⟩ : ∃ W1 : World, W1 = (x.val.alloc (.cells #[.int .i64 k, .slice ps np pc, .slice rs nr rc, .slice fs nf fc] 39)) := ⟨_, rfl⟩
      have hB1 : Below W0.heap.size W0 W1 := by rw [hW1]; exact x.2.alloc x.2.size _
      have d0 : ∀ z : Ext W1, z.val.cell? ⟨x.val.heap.size, 0, none⟩ = some (.int .i64 k) := Ext.cells (by rw [hW1]; exact heap_cell (heap_alloc_at _ _ (by simp)) 0)
      have d1 : ∀ z : Ext W1, z.val.cell? ⟨x.val.heap.size, 1, none⟩ = some (.slice ps np pc) := Ext.cells (by rw [hW1]; exact heap_cell (heap_alloc_at _ _ (by simp)) 1)
      have d2 : ∀ z : Ext W1, z.val.cell? ⟨x.val.heap.size, 2, none⟩ = some (.slice rs nr rc) := Ext.cells (by rw [hW1]; exact heap_cell (heap_alloc_at _ _ (by simp)) 2)
      have d3 : ∀ z : Ext W1, z.val.cell? ⟨x.val.heap.size, 3, none⟩ = some (.slice fs nf fc) := Ext.cells (by rw [hW1]; exact heap_cell (heap_alloc_at _ _ (by simp)) 3)
      have HW1 := hid hW1; have HB1 := hid (HB.out.trans (hB1.mono HB.out.size))
      have Q2 := hid (RowAt.below R2.out hB1 (Nat.le_refl _)); have Q3 := hid (RowAt.below R3.out hB1 (Nat.le_refl _)); have Q4 := hid (RowAt.below R4.out hB1 (Nat.le_refl _))
      rw [← HW1.out]
      clear hW1 hB1 b0_0 b0_1 b0_2 b0_3 b0_4 b0_5 hlt hi
      go_loopw [5] (fun t5 wr => ∃ i : Nat, t5 = .int .i64 i ∧ i ≤ nf ∧ (lf.take i).all plainF = true ∧ ∃ z : Ext W1, wr = z.val) (fun t5 _ => nf - (intOf t5).toNat)
      case atStart => exact ⟨0, rfl, Nat.zero_le _, rfl, ⟨_, Below.refl _ _⟩, rfl⟩
      case round =>
        obtain ⟨i, rfl, hi, htk, z, rfl⟩ := hrel
        have HT := hid htk
        clear htk
        by_cases hlt : i < nf
        · obtain ⟨⟨yp, ⟨yk, yl, yh, yn⟩, ym⟩, hy⟩ : ∃ y, lf[i]? = some y := ⟨lf[i]'(by rw [HNF.out]; exact hlt), by simp⟩
          have hvr := RowAt.ext Q4.out z
          rw [← HNF.out] at hvr
          obtain ⟨b, off, rfl, _, p0, p1, p2, p3, p4, p5⟩ := fls_at hvr hy
          dsimp only at p0 p1 p2 p3 p4 p5
          have HY := hid hy; have HI := hid hlt
          have hlt' : (i : Int) < nf := by omega
          clear hvr hy hlt hi
          obtain ⟨r, hr⟩ : ∃ r, plainV ⟨yk, yl, yh, yn⟩ = r := ⟨_, rfl⟩
          have HR := hid hr
          have C := rVal_any ⟨yk, yl, yh, yn⟩ (z.val.alloc (.cells #[.int .i64 yp, .int .i64 yk, .bool yl, .int .i64 yh, .int .i64 yn] 113))
          rw [hr] at C
          have HC := hid C
          have e0 : ∀ q : Ext (z.val.alloc (.cells #[.int .i64 yp, .int .i64 yk, .bool yl, .int .i64 yh, .int .i64 yn] 113)), q.val.cell? ⟨z.val.heap.size, 0, none⟩ = some (.int .i64 yp) := Ext.cells (heap_cell (heap_alloc_at _ _ (by simp)) 0)
          have e1 : ∀ q : Ext (z.val.alloc (.cells #[.int .i64 yp, .int .i64 yk, .bool yl, .int .i64 yh, .int .i64 yn] 113)), q.val.cell? ⟨z.val.heap.size, 1, none⟩ = some (.int .i64 yk) := Ext.cells (heap_cell (heap_alloc_at _ _ (by simp)) 1)
          have hz : Below W1.heap.size W1 (z.val.alloc (.cells #[.int .i64 yp, .int .i64 yk, .bool yl, .int .i64 yh, .int .i64 yn] 113)) := z.2.alloc z.2.size _
          have HZ := hid hz
          clear hr C hz
          go_wp2_with fail
          refine (Ext.call0 HC.out).mono ?_
          rintro e _ ⟨rfl, q, rfl⟩
          have HZ2 := hid (HZ.out.trans (q.2.mono HZ.out.size))
          cases r
          · have HF := hid (show plainF ⟨yp, ⟨yk, yl, yh, yn⟩, ym⟩ = false by
              unfold plainF; dsimp only
              split
              · exact HR.out
              · split
                · rw [decide_eq_false_iff_not]; intro e; rw [e] at HR; exact absurd HR.out (by decide)
                · rfl)
            go_wp2
            go_ret
            exact ⟨retb (by rw [all_not HY.out HF.out]; simp), HB1.out.trans (HZ2.out.mono HB1.out.size)⟩
          · by_cases hp0 : yp = 0
            · subst hp0
              have HF := hid (show plainF ⟨0, ⟨yk, yl, yh, yn⟩, ym⟩ = true by unfold plainF; dsimp only; rw [if_pos rfl]; exact HR.out)
              go_wp2
              go_roundw
              case rel => exact ⟨i + 1, by go_num, HI.out, by rw [take_all HY.out, HT.out, HF.out]; rfl, ⟨_, HZ2.out⟩, rfl⟩
              case measure => have := HI.out; simp [intOf]; omega
            · by_cases hp8 : yp = 8 ∨ yp = 16
              · by_cases hk1 : yk = 1
                · subst hk1
                  have HF := hid (show plainF ⟨yp, ⟨1, yl, yh, yn⟩, ym⟩ = true by
                    unfold plainF; dsimp only
                    rw [if_neg hp0, if_pos hp8]
                    have := HR.out
                    simpa [plainV] using this)
                  rcases hp8 with rfl | rfl
                  all_goals
                    clear hp0
                    go_wp2
                    go_roundw
                    case rel => exact ⟨i + 1, by go_num, HI.out, by rw [take_all HY.out, HT.out, HF.out]; rfl, ⟨_, HZ2.out⟩, rfl⟩
                    case measure => have := HI.out; simp [intOf]; omega
                · have HF := hid (show plainF ⟨yp, ⟨yk, yl, yh, yn⟩, ym⟩ = false by
                    unfold plainF; dsimp only
                    rw [if_neg hp0, if_pos hp8, decide_eq_false_iff_not]
                    intro e; cases e; exact hk1 rfl)
                  have ek : (yk == 1) = false := by simpa using hk1
                  have ekn : (yk != 1) = true := by simpa using hk1
                  clear hk1
                  rcases hp8 with rfl | rfl
                  all_goals
                    clear hp0
                    go_wp2
                    go_ret
                    exact ⟨retb (by rw [all_not HY.out HF.out]; simp), HB1.out.trans (HZ2.out.mono HB1.out.size)⟩
              · have HF := hid (show plainF ⟨yp, ⟨yk, yl, yh, yn⟩, ym⟩ = false by
                  unfold plainF; dsimp only
                  rw [if_neg hp0, if_neg hp8])
                have q0 : (yp == 0) = false := by simpa using hp0
                have q8 : (yp == 8) = false := by simp; omega
                have q16 : (yp == 16) = false := by simp; omega
                have q0n : (yp != 0) = true := by simpa using hp0
                have q8n : (yp != 8) = true := by simp; omega
                have q16n : (yp != 16) = true := by simp; omega
                clear hp0 hp8
                go_wp2
                go_ret
                exact ⟨retb (by rw [all_not HY.out HF.out]; simp), HB1.out.trans (HZ2.out.mono HB1.out.size)⟩
        · have hlt' : ¬ (i : Int) < nf := by omega
          have h0 := HT.out
          have HAF := hid (show lf.all plainF = true by rw [List.take_of_length_le (by rw [HNF.out]; omega)] at h0; exact h0)
          clear h0 hlt hi
          have CP := rVals_any (.slice ps np pc) lp z.val (by have h := RowAt.ext Q2.out z; show RowAt z.val 4 (.slice ps np pc) lp.length (flatV lp); rw [HNP.out]; exact h) HM.out.ps
          have CR : ∀ z2 : Ext W1, Calls Tryz.prog 105 #[.slice rs nr rc] z2.val fun e w' => e = .returned (.bool (lr.all plainV)) ∧ Below z2.val.heap.size z2.val w' := fun z2 => rVals_any (.slice rs nr rc) lr z2.val (by have h := RowAt.ext Q3.out z2; show RowAt z2.val 4 (.slice rs nr rc) lr.length (flatV lr); rw [HNR.out]; exact h) HM.out.rs
          rw [A1.out] at CP
          simp only [A2.out] at CR
          have HCP := hid CP; have HCR := hid CR
          have B1 : np = 0 → b1 = true := fun h0 => by rw [← A1.out, List.length_eq_zero_iff.1 (HNP.out.trans h0)]; rfl
          have B2 : nr = 0 → b2 = true := fun h0 => by rw [← A2.out, List.length_eq_zero_iff.1 (HNR.out.trans h0)]; rfl
          have FIN : ∀ r : Bool, (r = (b1 && b2 && endS k np nr nf)) → ∀ w', Below w.heap.size w w' → (Ending.returned (.bool r) = .returned (.bool (sups.all indexedB && (b1 && b2 && lf.all plainF) && endS k np nr nf)) ∧ Below w.heap.size w w') := fun r hr w' hb => ⟨retb (by rw [HA.out, HAF.out, hr]; simp), hb⟩
          have HFIN := hid FIN; have HB1' := hid B1; have HB2' := hid B2
          have HBZ := hid (HB1.out.trans (z.2.mono HB1.out.size))
          clear CP CR FIN B1 B2
          by_cases k1 : k = 1
          · subst k1
            by_cases hf0 : nf = 0
            · subst hf0
              go_wp2_with fail
              refine (Ext.call z HCP.out).mono ?_
              rintro e _ ⟨rfl, z1, rfl⟩
              cases b1
              · go_wp2
                go_ret
                exact HFIN.out _ (by simp) _ (HB1.out.trans (z1.2.mono HB1.out.size))
              · go_wp2_with fail
                refine (Ext.call z1 (HCR.out z1)).mono ?_
                rintro e _ ⟨rfl, z2, rfl⟩
                go_wp2
                go_ret
                exact HFIN.out _ (by simp [endS]) _ (HB1.out.trans (z2.2.mono HB1.out.size))
            · have hfi : ¬ (nf : Int) = 0 := by omega
              have hfb : ((nf : Int) == 0) = false := by simpa using hf0
              have HE := hid (show endS 1 np nr nf = false by simp [endS, hf0])
              clear hf0
              go_wp2
              go_ret
              exact HFIN.out _ (by rw [HE.out]; simp) _ HBZ.out
          have HK1 := hid k1
          have k1b : (k == 1) = false := by simpa using k1
          by_cases hp : np = 0
          · by_cases hr : nr = 0
            · subst hp hr
              have T1 := HB1'.out rfl
              have T2 := HB2'.out rfl
              subst T1 T2
              by_cases k2 : k = 2
              · subst k2
                go_wp2
                go_ret
                exact HFIN.out _ (by simp [endS]) _ HBZ.out
              · have k2b : (k == 2) = false := by simpa using k2
                have HK2 := hid k2
                clear k2
                by_cases k3 : k = 3
                · subst k3
                  by_cases hf1 : nf = 1
                  · subst hf1
                    go_wp2
                    go_ret
                    exact HFIN.out _ (by simp [endS]) _ HBZ.out
                  · have hfi : ¬ (nf : Int) = 1 := by omega
                    have hfb : ((nf : Int) == 1) = false := by simp; omega
                    have HE := hid (show endS 3 0 0 nf = false by simp [endS, hf1])
                    clear hf1
                    go_wp2
                    go_ret
                    exact HFIN.out _ (by rw [HE.out]; simp) _ HBZ.out
                · have k3b : (k == 3) = false := by simpa using k3
                  have HE := hid (show endS k 0 0 nf = false by unfold endS; rw [if_neg HK1.out, if_neg HK2.out, if_neg k3])
                  clear k3
                  go_wp2
                  go_ret
                  exact HFIN.out _ (by rw [HE.out]; simp) _ HBZ.out
            · have HE := hid (show endS k np nr nf = false by unfold endS; rw [if_neg HK1.out]; simp [hp, hr])
              have hri : (0 : Int) < nr := by omega
              subst hp
              clear hr k1
              go_wp2
              go_ret
              exact HFIN.out _ (by rw [HE.out]; simp) _ HBZ.out
          · have HE := hid (show endS k np nr nf = false by unfold endS; rw [if_neg HK1.out]; simp [hp])
            have hpi : (0 : Int) < np := by omega
            clear hp k1
            go_wp2
            go_ret
            exact HFIN.out _ (by rw [HE.out]; simp) _ HBZ.out
end
end Go.Proofs.YtpddbaijnjbfdaaGreatDoor
