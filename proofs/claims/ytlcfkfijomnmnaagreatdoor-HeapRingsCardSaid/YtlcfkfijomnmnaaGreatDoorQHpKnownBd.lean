import Derived.Test.YtlcfkfijomnmnaaGreatDoorQHpHeadBd
namespace Go.Proofs.YtlcfkfijomnmnaaGreatDoor
open Lib (hid)
section
open Go.RowKit Go.Maps Go.WideMaps
variable {w0 w w' W : World} {x : Sb} {hk hn : Int} {t : Nat} {S R : Nat → Prop}
def NotT (w : World) (S R : Nat → Prop) (b : Nat) : Prop := b < w.heap.size ∧ ¬ S b ∧ ¬ R b
set_option maxRecDepth 100000 in
set_option maxHeartbeats 4000000 in
theorem new_h (ht : TabN w0 S R w t [[x]]) (hr : ∀ b, R b → w0.heap.size ≤ b) (q : Int) (k : Nat) (hk6 : k ≤ 1048576) (hq : max 0 (min q 1048576) = (k : Int)) :
    Calls Tryz.prog 8 #[.pointer (some ⟨t, 0, none⟩), .int .i64 q] w fun e w' => ∃ hb, e = .returned (.pointer (some ⟨hb, 0, none⟩)) ∧ HpZ (NotT w S R) w0 hb x hk hn false 0 k (newBs k) w' ∧ Below w.heap.size w w' := by
  have C0 := hid (get_out ht.tab ht.ok.total (-1) (by omega))
  have HT := hid ht; have HR := hid hr; have HK6 := hid hk6; have HQ := hid hq
  have hmm := @run_makeMap Tryz.prog
  clear ht hr hk6 hq
  go_enter Tryz.func8, Tryz.ntmps8
  go_wp2_with fail
  refine C0.out.mono ?_
  rintro e w1 ⟨rfl, hb1⟩
  have HB1 := hid hb1
  clear hb1
  go_wp2_with fail
  obtain ⟨W2, hW2⟩ : ∃ W2, W2 = w1.alloc (.cells #[.bool false, .slice none 0 0, .int .i64 0, .slice none 0 0, .slice none 0 0, .slice none 0 0] 46) := ⟨_, rfl⟩
  rw [← hW2]
  have HB2 := hid (show Below w.heap.size w W2 by rw [hW2]; exact HB1.out.alloc HB1.out.size _)
  clear hW2
  refine (New_at W2 q k HK6.out HQ.out).mono ?_
  rintro e w3 ⟨p, Sa, rfl, ha, hsa, hb3⟩
  have HA := hid ha.cut; have HSA := hid hsa; have HB3 := hid hb3
  clear ha hsa hb3
  go_wp2
  go_ret
  obtain ⟨W4, hW4⟩ : ∃ W4, W4 = (w3.alloc (.map #[] 0)).alloc (.cells #[.pointer (some ⟨t, 0, none⟩), .pointer (some ⟨p, 0, none⟩), .slice none 0 0, .int .i64 0, .map (some w3.heap.size)] 84) := ⟨_, rfl⟩
  rw [← hW4]
  have b34 : Below w3.heap.size w3 W4 := by rw [hW4]; exact ((Below.refl _ _).alloc (Nat.le_refl _) _).alloc (by simp) _
  have hz4 : W4.heap.size = w3.heap.size + 2 := by rw [hW4]; simp
  have q4 : W4.heap[w3.heap.size + 1]? = some (.cells #[.pointer (some ⟨t, 0, none⟩), .pointer (some ⟨p, 0, none⟩), .slice none 0 0, .int .i64 0, .map (some w3.heap.size)] 84 (0, 0)) := by rw [hW4]; exact heap_alloc_at _ _ (by simp)
  have hm4 : W4.ownsMap Tryz.prog 3 RV w3.heap.size 0 (.map []) := by rw [hW4]; exact (World.ownsMap_made w3 Tryz.prog 3 RV).alloc _
  clear hW4
  have b04 : Below w.heap.size w W4 := (HB2.out.trans (HB3.out.mono HB2.out.size)).trans (b34.mono (by have := HB2.out.size; have := HB3.out.size; omega))
  have s2 := HB2.out.size; have s3 := HB3.out.size; have s0 := HT.out.be.size
  have hS : ∀ b, S b → w0.heap.size ≤ b ∧ b < w.heap.size := fun b h => ⟨HT.out.base b h, (HT.out.tab.lt b h).1⟩
  have hR : ∀ b, R b → w0.heap.size ≤ b ∧ b < w.heap.size := fun b h => ⟨HR.out b h, HT.out.tab.rlt b h⟩
  have hA : ∀ b, (Sa b ∧ b < w3.heap.size) → w.heap.size ≤ b ∧ b < w3.heap.size := fun b h => ⟨Nat.le_trans s2 (HSA.out b h.1), h.2⟩
  refine ⟨w3.heap.size + 1, rfl, ⟨t, p, w3.heap.size, S, R, _, fun _ => False, ⟨q4, HT.out.below b04, HA.out.below b34, ⟨0, hm4, by decide⟩, fun b q k => ?_, ⟨by omega, fun h => by have := hS _ h; omega, fun h => by have := hR _ h; omega, fun h => h, fun h => by have := hS _ h; omega, fun h => by have := hR _ h; omega, fun h => h⟩, fun b h => h.elim, fun b q => ?_, HT.out.be.trans (b04.mono s0)⟩, fun b q z => ?_⟩, b04⟩
  · have := hA b k
    rcases q with q | q | q | q | q
    · omega
    · omega
    · have := hS b q; omega
    · have := hR b q; omega
    · exact q
  · rcases q with q | q | q | q | q | q
    · omega
    · omega
    · have := hS b q; omega
    · have := hR b q; omega
    · exact q.elim
    · have := hA b q; omega
  · obtain ⟨z1, z2, z3⟩ := z
    rcases q with q | q | q | q | q | q
    · omega
    · omega
    · exact z2 q
    · exact z3 q
    · exact q
    · have := hA b q; omega
end
section
open Go.RowKit
theorem matchesD_naught {ts : List Sb} {ids ds : List Int} {s : Sb} {n : Nat} (h : superD s = none) : matchesD ts ids ds s n = (0, ds ++ [0]) := by
  unfold matchesD; rw [h]
theorem addD_uno {d : DcS} {s : Sb} {is : List Int} {gs : List (List Sb)} (h : addG d.gs d.ids [s] = (is, 0, gs)) :
    addD d [s] = if standsD (d.types ++ [s]) s d.ids.length ≠ 0 then (standsD (d.types ++ [s]) s d.ids.length, d.ids.length, ⟨is, d.types ++ [s], d.depths, gs⟩) else ((matchesD (tabL gs) is d.depths s d.ids.length).1, (if (matchesD (tabL gs) is d.depths s d.ids.length).1 ≠ 0 then d.ids.length else 0), ⟨is, d.types ++ [s], (matchesD (tabL gs) is d.depths s d.ids.length).2, gs⟩) := by
  unfold addD
  rw [h]
  dsimp only
  rw [if_neg (by simp)]
  by_cases h1 : standsD (d.types ++ [s]) s d.ids.length ≠ 0
  · rw [if_pos h1, standAll, if_pos h1, if_pos h1]
  · rw [if_neg h1, standAll, if_neg h1, standAll, if_neg (by simp), matchAll]
    by_cases h2 : (matchesD (tabL gs) is d.depths s d.ids.length).1 ≠ 0
    · rw [if_pos h2]
    · rw [if_neg h2, matchAll]
      have h3 : (matchesD (tabL gs) is d.depths s d.ids.length).1 = 0 := by simpa using h2
      simp [h3]
def tyS (hk : Int) : Sb := ⟨false, [], 2, [], [], [⟨0, ⟨3, true, hk, 0⟩, true⟩]⟩
theorem ty_addI : addG [] [] [tyS 13] = ([0], 0, [[tyS 14]]) := by decide +kernel
theorem ty_addA : addG [] [] [tyS 1] = ([0], 0, [[tyS 1]]) := by decide +kernel
theorem ty_checkI : (checkD ⟨[], [], [], []⟩ [[tyS 13]]).1 = 0 ∧ (checkD ⟨[], [], [], []⟩ [[tyS 13]]).2.2.gs = [[tyS 14]] := by
  have e : addD ⟨[], [], [], []⟩ [tyS 13] = (0, 0, ⟨[0], [tyS 13], [0], [[tyS 14]]⟩) := by
    rw [addD_uno (show addG (⟨[], [], [], []⟩ : DcS).gs (⟨[], [], [], []⟩ : DcS).ids [tyS 13] = ([0], 0, [[tyS 14]]) from ty_addI), if_neg (by decide), matchesD_naught rfl]
    rfl
  rw [checkD, e, if_neg (by simp), checkD]
  exact ⟨rfl, rfl⟩
theorem ty_checkA : (checkD ⟨[], [], [], []⟩ [[tyS 1]]).1 = 0 ∧ (checkD ⟨[], [], [], []⟩ [[tyS 1]]).2.2.gs = [[tyS 1]] := by
  have e : addD ⟨[], [], [], []⟩ [tyS 1] = (0, 0, ⟨[0], [tyS 1], [0], [[tyS 1]]⟩) := by
    rw [addD_uno (show addG (⟨[], [], [], []⟩ : DcS).gs (⟨[], [], [], []⟩ : DcS).ids [tyS 1] = ([0], 0, [[tyS 1]]) from ty_addA), if_neg (by decide), matchesD_naught rfl]
    rfl
  rw [checkD, e, if_neg (by simp), checkD]
  exact ⟨rfl, rfl⟩
theorem ty_okI : TyOk (tyS 14) 15 0 := by
  refine ⟨⟨by simp [tyS], by simp [tyS], by simp [tyS], ?_⟩, by decide +kernel⟩
  intro f hf
  simp only [tyS, List.mem_singleton] at hf
  subst hf
  intro _
  intro _
  decide
theorem ty_okA : TyOk (tyS 1) 1 0 := by
  refine ⟨⟨by simp [tyS], by simp [tyS], by simp [tyS], ?_⟩, by decide +kernel⟩
  intro f hf
  simp only [tyS, List.mem_singleton] at hf
  subst hf
  intro _
  intro _
  decide
theorem ty_noI : ∀ g ∈ [[tyS 13]], ∀ x ∈ g, superD x = none := by simp [tyS, superD]
theorem ty_noA : ∀ g ∈ [[tyS 1]], ∀ x ∈ g, superD x = none := by simp [tyS, superD]
end
section
variable {bs' : List Blk}
def kh1 : List Blk := [⟨1, [1, 0], true, false⟩, ⟨4, zeros 6, false, false⟩]
def kh2 : List Blk := [⟨1, [1, 0], true, false⟩, ⟨4, [1, 0], true, false⟩, ⟨7, zeros 3, false, false⟩]
def kh3 : List Blk := [⟨1, [1, 0], true, false⟩, ⟨4, [1, 0], true, false⟩, ⟨7, [1, 0, 0], true, false⟩]
def kh4 : List Blk := [⟨1, zeros 2, false, false⟩, ⟨4, [1, 0], true, false⟩, ⟨7, zeros 3, false, false⟩]
def kh5 : List Blk := [⟨1, [1, 0], true, false⟩, ⟨4, [1, 0], true, false⟩, ⟨7, zeros 3, false, false⟩]
def kh6 : List Blk := [⟨1, [1, 0], true, false⟩, ⟨4, [1, 10], true, false⟩, ⟨7, zeros 3, false, false⟩]
def kh7 : List Blk := [⟨1, [1, 0], true, false⟩, ⟨4, [1, 10], true, false⟩, ⟨7, [1, 0, 0], true, false⟩]
theorem kh_take1 : takeF (newBs 10) 2 = (1, 0, (takeF (newBs 10) 2).2.2) := by decide +kernel
theorem kh_put1 : setF (takeF (newBs 10) 2).2.2 ((1 : Nat) : Int) 0 1 = (0, kh1) := by decide +kernel
theorem kh_take2 : takeF kh1 2 = (4, 0, (takeF kh1 2).2.2) := by decide +kernel
theorem kh_put2 : setF (takeF kh1 2).2.2 ((4 : Nat) : Int) 0 1 = (0, kh2) := by decide +kernel
theorem kh_take3 : takeF kh2 2 = (7, 0, (takeF kh2 2).2.2) := by decide +kernel
theorem kh_put3 : setF (takeF kh2 2).2.2 ((7 : Nat) : Int) 0 1 = (0, kh3) := by decide +kernel
theorem kh_full3 : takeF kh3 2 = (0, 5, kh3) := by decide +kernel
theorem kh_take4 : takeF kh4 2 = (1, 0, (takeF kh4 2).2.2) := by decide +kernel
theorem kh_put4 : setF (takeF kh4 2).2.2 ((1 : Nat) : Int) 0 1 = (0, kh5) := by decide +kernel
theorem kh_set : setF kh5 ((4 : Nat) : Int) 1 10 = (0, kh6) := by decide +kernel
theorem kh_take6 : takeF kh6 2 = (7, 0, (takeF kh6 2).2.2) := by decide +kernel
theorem kh_put6 : setF (takeF kh6 2).2.2 ((7 : Nat) : Int) 0 1 = (0, kh7) := by decide +kernel
theorem kh_full7 : takeF kh7 2 = (0, 5, kh7) := by decide +kernel
theorem kh_used3 : usedSum kh3 = 10 := by decide +kernel
theorem kh_used5 : usedSum kh5 = 6 := by decide +kernel
theorem kh_span3 : Span 1 kh3 11 := by simp [kh3, Span, Blk.n]
theorem kh_span7 : Span 1 kh7 11 := by simp [kh7, Span, Blk.n]
theorem rch_in {U : Nat → Prop} {E : Nat → List Nat} {R : Nat → Prop} {L : List Nat} (h1 : ∀ a, R a → a ∈ L) (h2 : ∀ a ∈ L, ∀ b ∈ E a, b ∈ L) {a : Nat} (h : Rch U E R a) : a ∈ L := by
  induction h with
  | root h _ => exact h1 _ h
  | step _ hb _ ih => exact h2 _ ih _ hb
theorem kh_roots4 : ([4 * 8 + 2] : List Nat).filterMap toF = [4] := by decide +kernel
theorem kh_roots47 : ([4 * 8 + 2, 7 * 8 + 2] : List Nat).filterMap toF = [4, 7] := by decide +kernel
theorem kh_rch3 (a : Nat) : Rch (UsedC (content kh3)) (EF (edF kh3)) (fun y => y ∈ ([4 * 8 + 2] : List Nat).filterMap toF) a ↔ a = 4 := by
  rw [kh_roots4]
  constructor
  · intro h
    simpa using rch_in (L := [4]) (fun a h => h) (by decide +kernel) h
  · rintro rfl
    exact .root (by simp) ⟨[1, 0], by decide +kernel⟩
theorem kh_rch5 (a : Nat) : Rch (UsedC (content kh5)) (EF (edF kh5)) (fun y => y ∈ ([4 * 8 + 2] : List Nat).filterMap toF) a ↔ a = 4 := by
  rw [kh_roots4]
  constructor
  · intro h
    simpa using rch_in (L := [4]) (fun a h => h) (by decide +kernel) h
  · rintro rfl
    exact .root (by simp) ⟨[1, 0], by decide +kernel⟩
theorem kh_rch7 (a : Nat) : Rch (UsedC (content kh7)) (EF (edF kh7)) (fun y => y ∈ ([4 * 8 + 2, 7 * 8 + 2] : List Nat).filterMap toF) a ↔ a ∈ [1, 4, 7] := by
  rw [kh_roots47]
  constructor
  · intro h
    exact rch_in (L := [1, 4, 7]) (by intro a h; simp at h ⊢; omega) (by decide +kernel) h
  · intro h
    have h4 : Rch (UsedC (content kh7)) (EF (edF kh7)) (fun y => y ∈ [4, 7]) 4 := .root (by simp) ⟨[1, 10], by decide +kernel⟩
    simp only [List.mem_cons, List.not_mem_nil, or_false] at h
    rcases h with rfl | rfl | rfl
    · exact .step h4 (by decide +kernel) ⟨[1, 0], by decide +kernel⟩
    · exact h4
    · exact .root (by simp) ⟨[1, 0, 0], by decide +kernel⟩
theorem kh_sweep3 (h : CollOf kh3 [4 * 8 + 2] bs') : sweepF bs' = kh4 := by
  rw [coll_map (g := fun a => a == 4) (by intro b hb hu; revert b; decide +kernel) kh_span3 h (fun a _ => by rw [kh_rch3]; simp)]
  decide +kernel
theorem kh_sweep7 (h : CollOf kh7 [4 * 8 + 2, 7 * 8 + 2] bs') : sweepF bs' = kh7 := by
  rw [coll_map (g := fun a => a == 1 || a == 4 || a == 7) (by intro b hb hu; revert b; decide +kernel) kh_span7 h (fun a _ => by rw [kh_rch7]; simp [or_assoc])]
  decide +kernel
theorem kh_live5 {r : List Nat} (hs : r.Pairwise (· < ·)) (hm : ∀ a, a ∈ r ↔ Rch (UsedC (content kh5)) (EF (edF kh5)) (fun y => y ∈ ([4 * 8 + 2] : List Nat).filterMap toF) a) : liveN kh5 r = 3 := by
  have e : r = [4] := sorted_same hs (by simp) (fun a => by rw [hm, kh_rch5]; simp)
  rw [e]
  decide +kernel
end
section
open Go.RowKit Go.Maps Go.WideMaps
variable {w0 w w' : World} {hb : Nat} {x : Sb} {hk hn : Int} {kn : Bool} {tn : Int} {m : Nat} {bs bs1 bs2 : List Blk} {t p kb : Nat} {S R Sa T Z : Nat → Prop} {q l a : Nat}
theorem words0 : wordsI 0 0 0 0 1 = ((2 : Nat) : Int) := by decide
set_option maxRecDepth 100000 in
set_option maxHeartbeats 4000000 in
theorem make_h (h : HpZ Z w0 hb x hk hn kn tn m bs w) (hx : TyOk x hk hn) (hZ : ∀ b, Z b → b < w.heap.size) (ha : a ≤ 1048576) (ht : takeF bs 2 = (a, 0, bs1)) (hs : setF bs1 (a : Int) 0 1 = (0, bs2)) (rv : Value) :
    Calls Tryz.prog 9 #[.pointer (some ⟨hb, 0, none⟩), thing0, rv] w fun e w' => e = .returned (.tuple #[.int .i64 a, .int .i64 0]) ∧ HpZ Z w0 hb x hk hn true tn m bs2 w' ∧ Kept Z w w' := by
  have H := hid h; have HX := hid hx; have HZ := hid hZ; have HT := hid ht; have HS := hid hs; have HA0 := hid ha
  clear h hx hZ ht hs ha
  go_enter Tryz.func9, Tryz.ntmps9
  go_wp2_with fail
  obtain ⟨W1, hW1⟩ : ∃ W1, W1 = w.alloc (.cells #[.int .i64 0, .int .i64 0, .int .i64 1] 54) := ⟨_, rfl⟩
  rw [← hW1]
  have b1 : Below w.heap.size w W1 := by rw [hW1]; exact (Below.refl _ _).alloc (Nat.le_refl _) _
  have q0 : W1.heap[w.heap.size]? = some (.cells #[.int .i64 0, .int .i64 0, .int .i64 1] 54 (0, 0)) := by rw [hW1]; exact heap_alloc_at _ _ rfl
  have HQ0 := hid q0; have HB1 := hid b1
  have HG := hid (H.out.grow b1); have HGZ := hid (grow_lt HZ.out b1)
  have d0 := heap_cell q0 0; have d1 := heap_cell q0 1; have d2 := heap_cell q0 2
  simp at d0 d1 d2
  have hl0 := heap_lt q0
  clear hW1 b1 q0
  refine (made_h HG.out).mono ?_
  rintro e w1 ⟨rfl, rfl⟩
  go_wp2_with fail
  refine (may_h HG.out HX.out HGZ.out).mono ?_
  rintro e w2 ⟨rfl, hz2, hk2⟩
  have q2 := hk2.blk w.heap.size (.inr ⟨Nat.le_refl _, heap_lt HQ0.out⟩)
  rw [HQ0.out] at q2
  obtain ⟨t, p, kb, S, R, Sa, T, hw, hd⟩ := hz2.ex
  have k1 := heap_cell hw.box 1
  simp at k1
  have d0 := heap_cell q2 0; have d1 := heap_cell q2 1; have d2 := heap_cell q2 2
  simp at d0 d1 d2
  have hl0 := heap_lt q2
  have hlt := heap_lt hw.box
  have HZ2 := hid hz2; have HK2 := hid hk2; have HW2 := hid hw; have HD2 := hid hd
  clear hz2 hk2 hw hd q2
  go_wp2_with fail
  obtain ⟨W3, hW3⟩ : ∃ W3, W3 = w2.alloc (.cells #[.int .i64 0, .int .i64 0, .bool false, .int .i64 0, .int .i64 0] 37) := ⟨_, rfl⟩
  rw [← hW3]
  have HB3 := hid (show Below w2.heap.size w2 W3 by rw [hW3]; exact (Below.refl _ _).alloc (Nat.le_refl _) _)
  have q3 : W3.heap[w2.heap.size]? = some (.cells #[.int .i64 0, .int .i64 0, .bool false, .int .i64 0, .int .i64 0] 37 (0, 0)) := by rw [hW3]; exact heap_alloc_at _ _ rfl
  have s0 := heap_cell q3 0; have s1 := heap_cell q3 1; have s2 := heap_cell q3 2; have s3 := heap_cell q3 3; have s4 := heap_cell q3 4
  have k1 := below_cell HB3.out k1
  have d0 := below_cell HB3.out d0; have d1 := below_cell HB3.out d1; have d2 := below_cell HB3.out d2
  simp at s0 s1 s2 s3 s4
  have HA := hid (HW2.out.below HB3.out.drew)
  have C := hid (make_r HA.out.arR NotA.lt 0 0 false 0 0 0 0 1 (by decide) 2 words0 (by decide) (by decide) a HA0.out HT.out HS.out)
  clear hW3 q3 hl0 hlt
  go_region_with
    (first
      | (go_at_call 24
         refine C.out.mono ?_
         rintro e w4 ⟨rfl, hA4, hK4⟩
         have HA4 := hid hA4; have HK4 := hid hK4
         clear hA4 hK4 C
         skip))
  all_goals
    have HP4 := hid (HA.out.turn HD2.out (fun b z => Nat.lt_of_lt_of_le (by rcases z with z | z; exact Nat.lt_of_lt_of_le (HZ.out b z) HB1.out.size; exact z.2) (Nat.le_trans HK2.out.size HB3.out.drew.size)) (post_of HA.out.be HA4.out HK4.out))
    dsimp only [Exit.then]
    go_wp2
    go_ret2
    refine ⟨rfl, HP4.out.1.less (fun b z => .inl z), ⟨?_, fun b z => ?_⟩⟩
    · have := HB1.out.size; have := HK2.out.size; have := HB3.out.drew.size; have := HP4.out.2.size; omega
    · have h1 := HZ.out b z
      have := HB1.out.size; have := HK2.out.size
      rw [HP4.out.2.blk b (.inl z), HB3.out.drew.block b (by omega), HK2.out.blk b (.inl z), HB1.out.block b h1]
end
section
open Go.RowKit Go.Maps Go.WideMaps
variable {w0 w w' W : World} {hb : Nat} {x : Sb} {hk hn : Int} {kn : Bool} {tn : Int} {m : Nat} {bs bs' bs1 bs2 : List Blk} {t p kb : Nat} {S R Sa T Z : Nat → Prop} {q l a cb sb : Nat} {xs : List Nat}
set_option maxRecDepth 100000 in
set_option maxHeartbeats 2000000 in
theorem ofull_r (A : ArR R w0 w p m bs) (hR : ∀ b, R b → b < w.heap.size) (ht : takeF bs 2 = (0, 5, bs)) :
    Calls Tryz.prog 24 #[.pointer (some ⟨p, 0, none⟩), thing0, storeV 0 0 false 0 0] w fun e w' => e = .returned (.tuple #[.int .i64 0, .int .i64 5]) ∧ ArR R w0 w' p m bs ∧ Kept R w w' := by
  obtain ⟨W1, hW1⟩ : ∃ W1, W1 = (w.alloc (.cells #[.int .i64 0, .int .i64 0, .int .i64 1] 54)).alloc (.cells #[.int .i64 0, .int .i64 0, .bool false, .int .i64 0, .int .i64 0] 37) := ⟨_, rfl⟩
  have hb1 : Below w.heap.size w W1 := by rw [hW1]; exact ((Below.refl _ _).alloc (Nat.le_refl _) _).alloc (by simp) _
  have HA := hid (A.stay hb1); have HR := hid hR; have HB1 := hid hb1; have HT := hid ht
  have c0 := Ext.cells (w0 := W1) (p := ⟨w.heap.size, 0, none⟩) (v := .int .i64 0) (by rw [hW1]; simp)
  have c1 := Ext.cells (w0 := W1) (p := ⟨w.heap.size, 1, none⟩) (v := .int .i64 0) (by rw [hW1]; simp)
  have c2 := Ext.cells (w0 := W1) (p := ⟨w.heap.size, 2, none⟩) (v := .int .i64 1) (by rw [hW1]; simp)
  have HW := hid hW1
  have hwd := words0
  have HWD := hid hwd
  clear A hR hb1 ht hW1 hwd
  go_enter Tryz.func24, Tryz.ntmps24
  go_wp2_with fail
  rw [← HW.out]
  refine (words_at 0 0 false 0 0 0 0 1 W1).mono ?_
  rintro e w1 ⟨rfl, hb2⟩
  rw [HWD.out]
  have HB2 := hid hb2
  clear hb2
  go_wp2_with fail
  refine (Take_r (HA.out.stay HB2.out) (fun b h => Nat.lt_of_lt_of_le (HR.out b h) (Nat.le_trans HB1.out.size HB2.out.size)) HT.out 0 rfl (by decide) (by decide)).mono ?_
  rintro e w2 ⟨rfl, hA2, hK2⟩
  have HA2 := hid hA2; have HK2 := hid hK2
  clear hA2 hK2 c0 c1 c2
  go_wp2
  go_ret2
  exact ⟨rfl, HA2.out, (Kept.of_below HR.out (HB1.out.trans (HB2.out.mono HB1.out.size))).trans HK2.out⟩
set_option maxRecDepth 100000 in
set_option maxHeartbeats 8000000 in
theorem makec_h (h : HpZ Z w0 hb x hk hn true tn m bs w) (hx : TyOk x hk hn) (hZ : ∀ b, Z b → b < w.heap.size) (ht : takeF bs 2 = (0, 5, bs))
    (hth : Things bs) (htab : WTab w0 ∧ TzTab w0) (hnm : ∀ a, ¬ MarkX bs a) (rv : Value) (xs : List Nat) (hr : RootsOk Z w rv xs) (hxs : ∀ y ∈ xs, y < 18446744073709551616) (hl : xs.length ≤ 1000000)
    (hgo : ∀ bs', CollOf bs xs bs' → takeF (sweepF bs') 2 = (0, 5, sweepF bs') ∨ ∃ a bs1 bs2, a ≤ 1048576 ∧ takeF (sweepF bs') 2 = (a, 0, bs1) ∧ setF bs1 (a : Int) 0 1 = (0, bs2)) :
    Calls Tryz.prog 9 #[.pointer (some ⟨hb, 0, none⟩), thing0, rv] w fun e w' => ∃ bs', CollOf bs xs bs' ∧ ∃ (a : Nat) (er : Int) (bs1 bs2 : List Blk), e = .returned (.tuple #[.int .i64 a, .int .i64 er]) ∧ (takeF (sweepF bs') 2 = (0, 5, sweepF bs') ∧ a = 0 ∧ er = 5 ∧ bs2 = sweepF bs' ∨ er = 0 ∧ takeF (sweepF bs') 2 = (a, 0, bs1) ∧ setF bs1 (a : Int) 0 1 = (0, bs2)) ∧ HpZ Z w0 hb x hk hn true (wrap64 (tn + 1)) m bs2 w' ∧ Kept Z w w' := by
  have H := hid h; have HX := hid hx; have HZ := hid hZ; have HT := hid ht; have HTH := hid hth; have HTB := hid htab; have HNM := hid hnm; have HR := hid hr; have HXS := hid hxs; have HL := hid hl; have HGO := hid hgo
  clear h hx hZ ht hth htab hnm hr hxs hl hgo
  go_enter Tryz.func9, Tryz.ntmps9
  go_wp2_with fail
  obtain ⟨W1, hW1⟩ : ∃ W1, W1 = w.alloc (.cells #[.int .i64 0, .int .i64 0, .int .i64 1] 54) := ⟨_, rfl⟩
  rw [← hW1]
  have b1 : Below w.heap.size w W1 := by rw [hW1]; exact (Below.refl _ _).alloc (Nat.le_refl _) _
  have q0 : W1.heap[w.heap.size]? = some (.cells #[.int .i64 0, .int .i64 0, .int .i64 1] 54 (0, 0)) := by rw [hW1]; exact heap_alloc_at _ _ rfl
  have HQ0 := hid q0; have HB1 := hid b1
  have HG := hid (H.out.grow b1); have HGZ := hid (grow_lt HZ.out b1)
  have d0 := heap_cell q0 0; have d1 := heap_cell q0 1; have d2 := heap_cell q0 2
  simp at d0 d1 d2
  have hl0 := heap_lt q0
  clear hW1 b1 q0
  refine (made_h HG.out).mono ?_
  rintro e w1 ⟨rfl, rfl⟩
  go_wp2_with fail
  refine (may_h HG.out HX.out HGZ.out).mono ?_
  rintro e w2 ⟨rfl, hz2, hk2⟩
  have q2 := hk2.blk w.heap.size (.inr ⟨Nat.le_refl _, heap_lt HQ0.out⟩)
  rw [HQ0.out] at q2
  have hl2 := heap_lt q2
  have HZ2 := hid hz2; have HK2 := hid hk2; have HQ2 := hid q2
  clear hz2 hk2 q2
  go_wp2_with fail
  obtain ⟨W3, hW3⟩ : ∃ W3, W3 = w2.alloc (.cells #[.int .i64 0, .int .i64 0, .bool false, .int .i64 0, .int .i64 0] 37) := ⟨_, rfl⟩
  rw [← hW3]
  have b3 : Below w2.heap.size w2 W3 := by rw [hW3]; exact (Below.refl _ _).alloc (Nat.le_refl _) _
  have q3 : W3.heap[w2.heap.size]? = some (.cells #[.int .i64 0, .int .i64 0, .bool false, .int .i64 0, .int .i64 0] 37 (0, 0)) := by rw [hW3]; exact heap_alloc_at _ _ rfl
  have g3 := HZ2.out.grow b3
  have gl2 : ∀ b, (fun b => Z b ∨ (w.heap.size ≤ b ∧ b < W1.heap.size)) b → b < w2.heap.size := fun b z => Nat.lt_of_lt_of_le (HGZ.out b z) HK2.out.size
  have gz3 := grow_lt gl2 b3
  have qx := HQ2.out
  rw [← b3.block _ hl2] at qx
  obtain ⟨t, p, kb, S, R, Sa, T, hw, hd⟩ := g3.ex
  have k1 := heap_cell hw.box 1
  have d0 := heap_cell qx 0; have d1 := heap_cell qx 1; have d2 := heap_cell qx 2
  have s0 := heap_cell q3 0; have s1 := heap_cell q3 1; have s2 := heap_cell q3 2; have s3 := heap_cell q3 3; have s4 := heap_cell q3 4
  simp at k1 d0 d1 d2 s0 s1 s2 s3 s4
  have HB3 := hid b3; have HQX := hid qx; have HQ3 := hid q3; have HD3 := hid hd; have HGZ3 := hid gz3
  have HA := hid (hw.below (Below.refl _ _).drew)
  have C := hid (ofull_r HA.out.arR NotA.lt HT.out)
  clear hW3 b3 q3 g3 gz3 qx hw hd hl2
  go_cut [9, 10] from 25 to 34 (fun s9 s10 wx => s9 = .int .i64 5 ∧ s10 = .int .i64 0 ∧ HpZ (fun b => (Z b ∨ (w.heap.size ≤ b ∧ b < W1.heap.size)) ∨ (w2.heap.size ≤ b ∧ b < W3.heap.size)) w0 hb x hk hn true tn m bs wx ∧ Kept (fun b => (Z b ∨ (w.heap.size ≤ b ∧ b < W1.heap.size)) ∨ (w2.heap.size ≤ b ∧ b < W3.heap.size)) W3.drew wx)
  case first =>
    go_region_with
      (first
        | (go_at_call 24
           refine C.out.mono ?_
           rintro e w4 ⟨rfl, hA4, hK4⟩
           have HA4 := hid hA4; have HK4 := hid hK4
           clear hA4 hK4 C
           skip))
    all_goals (go_wp2_with fail)
    all_goals go_meet
    all_goals exact ⟨rfl, rfl, HA.out.turn HD3.out (fun b z => HGZ3.out b z) (post_of HA.out.be HA4.out HK4.out)⟩
  obtain ⟨rfl, rfl, hp4⟩ := hcut
  have HP4 := hid hp4
  clear hp4 HA C HD3
  have qx4 := HP4.out.2.blk w.heap.size (.inl (.inr ⟨Nat.le_refl _, heap_lt HQ0.out⟩))
  have qs4 := HP4.out.2.blk w2.heap.size (.inr ⟨Nat.le_refl _, heap_lt HQ3.out⟩)
  dsimp only [World.drew] at qx4 qs4
  rw [HQX.out] at qx4
  rw [HQ3.out] at qs4
  have hz4 : ∀ b, Z b → wc.heap[b]? = w.heap[b]? := fun b z => by
    have h1 := HP4.out.2.blk b (.inl (.inl z))
    dsimp only [World.drew] at h1
    have := HZ.out b z
    rw [h1, HB3.out.block b (by have := HB1.out.size; have := HK2.out.size; omega), HK2.out.blk b (.inl z), HB1.out.block b this]
  have hs4 : w.heap.size ≤ wc.heap.size := by
    have h1 := HP4.out.2.size
    dsimp only [World.drew] at h1
    have := HB1.out.size; have := HK2.out.size; have := HB3.out.size; omega
  have HQX4 := hid qx4; have HQS4 := hid qs4; have HZ4 := hid hz4; have HS4 := hid hs4
  clear qx4 qs4 hz4 hs4 k1 d0 d1 d2 s0 s1 s2 s3 s4
  try dsimp only [Exit.then]
  go_wp2_with fail
  refine (HR.out wc HS4.out HZ4.out).mono ?_
  rintro e w5 ⟨lv, rfl, hrow, hb5⟩
  obtain ⟨ao, c, rfl, _⟩ := ownsRow_form hrow
  have HROW := hid hrow; have HB5 := hid hb5
  have HQX5 := hid ((hb5.block _ (heap_lt HQX4.out)).trans HQX4.out)
  have HQS5 := hid ((hb5.block _ (heap_lt HQS4.out)).trans HQS4.out)
  have HP5 := hid (HP4.out.1.grow hb5)
  have HSZ34 := hid (show W3.heap.size ≤ wc.heap.size from HP4.out.2.size)
  have HPZ5 := hid (grow_lt (fun b z => Nat.lt_of_lt_of_le (HGZ3.out b z) HSZ34.out) hb5)
  clear hrow hb5
  obtain ⟨nn, hnn⟩ : ∃ nn, xs.length = nn := ⟨_, rfl⟩
  rw [hnn] at HROW ⊢
  have HNN := hid hnn
  clear hnn
  go_wp2_with fail
  have hvv : ∀ W : World, (∀ b, (((Z b ∨ (w.heap.size ≤ b ∧ b < W1.heap.size)) ∨ (w2.heap.size ≤ b ∧ b < W3.heap.size)) ∨ (wc.heap.size ≤ b ∧ b < w5.heap.size)) → W.heap[b]? = w5.heap[b]?) → U64At W (.slice ao nn c) xs := fun W hk => by
    have hr := HROW.out
    rw [← HNN.out] at hr ⊢
    exact u64At_own (ownsRow_heap hr (fun b h1 h2 => hk b (.inr ⟨h1, h2⟩)))
  refine (collect_h HP5.out HTH.out HTB.out HPZ5.out HNM.out (.slice ao nn c) xs hvv HXS.out HL.out).mono ?_
  rintro e w6 ⟨bs', hco, rfl, hz6, hk6⟩
  have qx6 := hk6.blk w.heap.size (.inl (.inl (.inr ⟨Nat.le_refl _, heap_lt HQ0.out⟩)))
  have qs6 := hk6.blk w2.heap.size (.inl (.inr ⟨Nat.le_refl _, heap_lt HQ3.out⟩))
  rw [HQX5.out] at qx6
  rw [HQS5.out] at qs6
  have HCO := hid hco; have HZ6 := hid hz6; have HK6 := hid hk6
  obtain ⟨t6, p6, kb6, S6, R6, Sa6, T6, hw6, hd6⟩ := hz6.ex
  have k1 := heap_cell hw6.box 1
  have d0 := heap_cell qx6 0; have d1 := heap_cell qx6 1; have d2 := heap_cell qx6 2
  have s0 := heap_cell qs6 0; have s1 := heap_cell qs6 1; have s2 := heap_cell qs6 2; have s3 := heap_cell qs6 3; have s4 := heap_cell qs6 4
  simp at k1 d0 d1 d2 s0 s1 s2 s3 s4
  have HW6 := hid hw6; have HD6 := hid hd6
  clear hvv hco hz6 hk6 qx6 qs6 hw6 hd6
  go_wp2_with fail
  have HA6 := hid (HW6.out.below (Below.refl _ _).drew)
  have C : Calls Tryz.prog 24 #[.pointer (some ⟨p6, 0, none⟩), thing0, storeV 0 0 false 0 0] w6.drew fun e w' => ∃ (a : Nat) (er : Int) (bs1 bs2 : List Blk), e = .returned (.tuple #[.int .i64 a, .int .i64 er]) ∧ (takeF (sweepF bs') 2 = (0, 5, sweepF bs') ∧ a = 0 ∧ er = 5 ∧ bs2 = sweepF bs' ∨ er = 0 ∧ takeF (sweepF bs') 2 = (a, 0, bs1) ∧ setF bs1 (a : Int) 0 1 = (0, bs2)) ∧ ArR (NotA Sa6 w6.drew) w0 w' p6 m bs2 ∧ Kept (NotA Sa6 w6.drew) w6.drew w' := by
    rcases HGO.out bs' HCO.out with ht | ⟨a, bs1, bs2, ha, ht, hs⟩
    · refine (ofull_r HA6.out.arR NotA.lt ht).mono ?_
      rintro e w7 ⟨rfl, hA, hK⟩
      exact ⟨0, 5, [], _, rfl, .inl ⟨ht, rfl, rfl, rfl⟩, hA, hK⟩
    · refine (make_r HA6.out.arR NotA.lt 0 0 false 0 0 0 0 1 (by decide) 2 words0 (by decide) (by decide) a ha ht hs).mono ?_
      rintro e w7 ⟨rfl, hA, hK⟩
      exact ⟨a, 0, bs1, bs2, rfl, .inr ⟨rfl, ht, hs⟩, hA, hK⟩
  have C := hid C
  go_region_with
    (first
      | (go_at_call 24
         refine C.out.mono ?_
         rintro e w7 ⟨a, er, bs1, bs2, rfl, hP, hA7, hK7⟩
         have HPC := hid hP; have HA7 := hid hA7; have HK7 := hid hK7
         clear hP hA7 hK7 C
         skip))
  all_goals
    have HP7 := hid (HA6.out.turn HD6.out (fun b z => Nat.lt_of_lt_of_le (HPZ5.out b z) HK6.out.size) (post_of HA6.out.be HA7.out HK7.out))
    dsimp only [Exit.then]
    go_wp2
    go_ret2
    refine ⟨bs', HCO.out, a, er, bs1, bs2, rfl, HPC.out, HP7.out.1.less (fun b z => .inl (.inl (.inl z))), ⟨?_, fun b z => ?_⟩⟩
    · have h1 := HP7.out.2.size
      dsimp only [World.drew] at h1
      have := HS4.out; have := HB5.out.size; have := HK6.out.size; omega
    · have h1 := HP7.out.2.blk b (.inl (.inl (.inl z)))
      dsimp only [World.drew] at h1
      have h2 := HZ.out b z
      rw [h1, HK6.out.blk b (.inl (.inl (.inl z))), HB5.out.block b (Nat.lt_of_lt_of_le h2 HS4.out), HZ4.out b z]
end
section
open Go.RowKit Go.Maps Go.WideMaps
variable {w0 w w' W : World}
theorem tabN_new {w w' : World} {t : Nat} {S : Nat → Prop} (ht : TabAt S (fun _ => False) w' t []) (hb : ∀ k, S k → w.heap.size ≤ k) (hbe : Below w.heap.size w w') : TabN w S (fun _ => False) w' t [] := ⟨ht, ⟨by simp, by simp, by simp, by simp [total]⟩, hb, hbe⟩
theorem lit_grps {S : Nat → Prop} {W : World} {b0 b1 b2 : Nat} {hk : Int} (h0 : W.heap[b0]? = some (.cells #[.int .i64 0, .int .i64 3, .bool true, .int .i64 hk, .int .i64 0, .bool true] 39 (0, 0)))
    (h1 : W.heap[b1]? = some (.cells #[.bool false, .slice none 0 0, .int .i64 2, .slice none 0 0, .slice none 0 0, .slice (some ⟨b0, 0, none⟩) 1 1] 46 (0, 0)))
    (h2 : W.heap[b2]? = some (.cells #[.slice (some ⟨b1, 0, none⟩) 1 1] 47 (0, 0))) (n0 : ¬ S b0) (n1 : ¬ S b1) (n2 : ¬ S b2) : GrpsK S W (.slice (some ⟨b2, 0, none⟩) 1 1) [[tyS hk]] := by
  refine ⟨[.slice (some ⟨b1, 0, none⟩) 1 1], rfl, fun w'' u => row_litA (u.heap_some h2 n2) rfl, fun i x g hx hg => ?_⟩
  cases i with
  | succ i => simp at hx
  | zero =>
    simp only [List.getElem?_cons_zero, Option.some.injEq] at hx hg
    subst hx hg
    refine ⟨[[.bool false, .slice none 0 0, .int .i64 2, .slice none 0 0, .slice none 0 0, .slice (some ⟨b0, 0, none⟩) 1 1]], rfl, by simp, fun w'' u => ⟨row_litA (u.heap_some h1 n1) rfl, fun i c x hc hx => ?_⟩⟩
    cases i with
    | succ i => simp at hc
    | zero =>
      simp only [List.getElem?_cons_zero, Option.some.injEq] at hc hx
      subst hc hx
      exact ⟨_, _, _, _, rfl, RowAt.nil _ 2, RowAt.nil _ 4, RowAt.nil _ 4, row_litA (u.heap_some h0 n0) rfl⟩
theorem raw_ty {hk : Int} : ∀ g ∈ [[tyS hk]], RawG g := by
  intro g hg
  simp only [List.mem_singleton] at hg
  subst hg
  refine ⟨by simp, ?_, by simp [tyS, cnt]⟩
  intro x hx
  simp only [List.mem_singleton] at hx
  subst hx
  refine ⟨by simp [tyS], by simp [tyS], by simp [tyS], by simp [tyS, B64], ?_⟩
  constructor <;> simp [tyS]
theorem own_lit {W : World} {g n : Nat} {xs : List Nat} (h : W.heap[g]? = some (.cells (u64s xs).toArray 56 (0, 0))) (hn : xs.length = n) (hm : n ≤ 1000000) : W.ownsRow g 56 1 (.slice (some ⟨g, 0, none⟩) n n) n (u64s xs) := by
  have hm' : n ≤ maxLen := Nat.le_trans hm (by decide)
  refine ⟨by simp [u64s, hn], .inr ⟨g, n, _, rfl, Nat.le_refl _, h, Nat.le_refl _, hm', by simp [u64s, hn], ?_⟩⟩
  rw [List.take_of_length_le (by simp [u64s, hn])]
theorem RootsOk.kept {Z : Nat → Prop} {w w' : World} {rv : Value} {xs : List Nat} (h : RootsOk Z w rv xs) (k : Kept Z w w') : RootsOk Z w' rv xs :=
  fun W h1 h2 => h W (Nat.le_trans k.size h1) (fun b z => (h2 b z).trans (k.blk b z))
theorem kh_things3 : Things kh3 := by
  rintro q ⟨ws, h⟩
  simp [kh3, content] at h
  rcases h with ⟨rfl, _⟩ | ⟨rfl, _⟩ | ⟨rfl, _⟩ <;> exact ⟨by decide +kernel, by decide +kernel, by decide +kernel, by decide⟩
theorem kh_things5 : Things kh5 := by
  rintro q ⟨ws, h⟩
  simp [kh5, content] at h
  rcases h with ⟨rfl, _⟩ | ⟨rfl, _⟩ <;> exact ⟨by decide +kernel, by decide +kernel, by decide +kernel, by decide⟩
theorem kh_things7 : Things kh7 := by
  rintro q ⟨ws, h⟩
  simp [kh7, content] at h
  rcases h with ⟨rfl, _⟩ | ⟨rfl, _⟩ | ⟨rfl, _⟩ <;> exact ⟨by decide +kernel, by decide +kernel, by decide +kernel, by decide⟩
theorem kh_unm3 (a : Nat) : ¬ MarkX kh3 a := by
  intro h
  obtain ⟨c, hc, q, _⟩ := markedAt_iff.1 h
  simp only [kh3, List.mem_cons, List.not_mem_nil, or_false] at hc
  rcases hc with rfl | rfl | rfl <;> simp at q
theorem kh_unm7 (a : Nat) : ¬ MarkX kh7 a := by
  intro h
  obtain ⟨c, hc, q, _⟩ := markedAt_iff.1 h
  simp only [kh7, List.mem_cons, List.not_mem_nil, or_false] at hc
  rcases hc with rfl | rfl | rfl <;> simp at q
theorem kh_make4 {a : Nat} {er : Int} {bs1 bs2 : List Blk} (h : takeF kh4 2 = (0, 5, kh4) ∧ a = 0 ∧ er = 5 ∧ bs2 = kh4 ∨ er = 0 ∧ takeF kh4 2 = (a, 0, bs1) ∧ setF bs1 (a : Int) 0 1 = (0, bs2)) : a = 1 ∧ er = 0 ∧ bs2 = kh5 := by
  rcases h with ⟨h, _⟩ | ⟨h1, h2, h3⟩
  · rw [kh_take4] at h; simp at h
  · rw [kh_take4] at h2
    simp only [Prod.mk.injEq, true_and] at h2
    obtain ⟨rfl, rfl⟩ := h2
    rw [kh_put4] at h3
    exact ⟨rfl, h1, (Prod.mk.inj h3).2.symm⟩
theorem kh_make7 {a : Nat} {er : Int} {bs1 bs2 : List Blk} (h : takeF kh7 2 = (0, 5, kh7) ∧ a = 0 ∧ er = 5 ∧ bs2 = kh7 ∨ er = 0 ∧ takeF kh7 2 = (a, 0, bs1) ∧ setF bs1 (a : Int) 0 1 = (0, bs2)) : er = 5 := by
  rcases h with ⟨_, _, h, _⟩ | ⟨_, h2, _⟩
  · exact h
  · rw [kh_full7] at h2; simp at h2
def Tri (bx : Nat) (w : World) : Prop := w.cell? ⟨bx, 0, none⟩ = some (.int .i64 0) ∧ w.cell? ⟨bx, 1, none⟩ = some (.int .i64 0) ∧ w.cell? ⟨bx, 2, none⟩ = some (.int .i64 1)
theorem Tri.below {bx : Nat} (h : Tri bx w) (hl : bx < w.heap.size) (b : Below w.heap.size w w') : Tri bx w' :=
  ⟨(b.cell hl).trans h.1, (b.cell hl).trans h.2.1, (b.cell hl).trans h.2.2⟩
theorem Tri.kept {bx : Nat} {Z : Nat → Prop} (h : Tri bx w) (k : Kept Z w w') (hz : Z bx) : Tri bx w' := by
  have e : ∀ j, w'.cell? ⟨bx, j, none⟩ = w.cell? ⟨bx, j, none⟩ := fun j => by simp only [World.cell?, k.blk bx hz]
  exact ⟨(e 0).trans h.1, (e 1).trans h.2.1, (e 2).trans h.2.2⟩
set_option maxRecDepth 100000 in
set_option maxHeartbeats 4000000 in
theorem known24_any (w : World) (htab : WTab w ∧ TzTab w) (htk : Tab w) : Calls Tryz.prog 5 #[] w fun e w' => e = .returned (.bool true) ∧ Below w.heap.size w w' := by
  have HTAB := hid htab; have HTK := hid htk
  clear htab htk
  go_enter Tryz.func5, Tryz.ntmps5
  go_wp2_with fail
  refine (new_any _).mono ?_
  rintro e w1 ⟨t, S, rfl, hta, hba, hbe⟩
  have hT := tabN_new hta hba hbe
  have HT := hid hT; have HB := hid hbe
  clear hta hba hbe hT
  go_wp2_with fail
  obtain ⟨W2, hW2⟩ : ∃ W2, W2 = (((w1.alloc (.cells #[.int .i64 0, .int .i64 3, .bool true, .int .i64 13, .int .i64 0, .bool true] 39)).alloc (.cells #[.bool false, .slice none 0 0, .int .i64 2, .slice none 0 0, .slice none 0 0, .slice (some ⟨w1.heap.size, 0, none⟩) 1 1] 46)).alloc (.cells #[.slice (some ⟨w1.heap.size + 1, 0, none⟩) 1 1] 47)) := ⟨_, rfl⟩
  have b2 : Below w1.heap.size w1 W2 := by rw [hW2]; exact (((Below.refl _ _).alloc (Nat.le_refl _) _).alloc (by simp) _).alloc (by simp; omega) _
  have hg : GrpsK S W2 (.slice (some ⟨w1.heap.size + 1 + 1, 0, none⟩) 1 1) [[tyS 13]] := by
    have hS : ∀ b, S b → b < w1.heap.size := fun b q => (HT.out.tab.lt b q).1
    refine lit_grps (b0 := w1.heap.size) (b1 := w1.heap.size + 1) ?_ ?_ ?_ (fun q => by have := hS _ q; omega) (fun q => by have := hS _ q; omega) (fun q => by have := hS _ q; omega)
    · rw [hW2]; exact heap_alloc_keep (heap_alloc_keep (heap_alloc_at _ _ rfl) _) _
    · rw [hW2]; exact heap_alloc_keep (heap_alloc_at _ _ (by simp)) _
    · rw [hW2]; exact heap_alloc_at _ _ (by simp)
  rw [← hW2]
  have HB2 := hid (HB.out.trans (b2.mono HB.out.size))
  have HT2 := hid (HT.out.below b2)
  have HG := hid hg
  clear hW2 b2 hg
  refine (check_any _ [[tyS 13]] HT2.out tabC_nil HG.out raw_ty (by simp) (by simp) HTK.out ty_noI).mono ?_
  rintro e w3 ⟨u, S3, R3, rfl, ht3, _, _, hu3, hf3, hr3⟩
  rw [ty_checkI.2] at ht3
  rw [ty_checkI.1]
  obtain ⟨cn, hcn⟩ : ∃ cn : Int, (((checkD ⟨[], [], [], []⟩ [[tyS 13]]).2.1 : Nat) : Int) = cn := ⟨_, rfl⟩
  rw [hcn]
  have HR3 := hid (show ∀ b, R3 b → w.heap.size ≤ b from fun b q => by
    have := HB2.out.size
    rcases hr3 b q with q | q
    · exact q.elim
    · omega)
  have HT3 := hid ht3
  have HSZ3 := hid hu3.size
  clear hcn ht3 hu3 hf3 hr3
  go_wp2_with fail
  refine (new_h (hk := 15) (hn := 0) HT3.out HR3.out 10 10 (by decide) (by decide)).mono ?_
  rintro e w4 ⟨hb, rfl, hz4, hb4⟩
  have HZ4 := hid hz4; have HB4 := hid hb4
  clear hz4 hb4
  go_wp2_with fail
  obtain ⟨bx, hbx⟩ : ∃ bx, w4.heap.size = bx := ⟨_, rfl⟩
  obtain ⟨W5, hW5⟩ : ∃ W5, W5 = w4.alloc (.cells #[.int .i64 0, .int .i64 0, .int .i64 1] 54) := ⟨_, rfl⟩
  have b5 : Below w4.heap.size w4 W5 := by rw [hW5]; exact (Below.refl _ _).alloc (Nat.le_refl _) _
  have q5 : W5.heap[bx]? = some (.cells #[.int .i64 0, .int .i64 0, .int .i64 1] 54 (0, 0)) := by rw [hW5]; exact heap_alloc_at _ _ hbx.symm
  rw [← hW5, hbx]
  have HZ5 := hid ((HZ4.out.grow b5).less (Z' := fun b => b = bx) (fun b e => .inr ⟨by omega, by rw [e]; exact heap_lt q5⟩))
  have HX5 := hid (show ∀ b, b = bx → b < W5.heap.size from fun b e => by subst e; exact heap_lt q5)
  have HQ5 := hid q5
  clear hW5 b5 q5 hbx
  refine (make_h HZ5.out ty_okI HX5.out (a := 1) (by decide) kh_take1 kh_put1 .nilFunc).mono ?_
  rintro e w6 ⟨rfl, hz, hk⟩
  have HZ6 := hid hz
  have HQ6 := hid ((hk.blk _ rfl).trans HQ5.out)
  have HX6 := hid (show ∀ b, b = bx → b < w6.heap.size from fun b e => Nat.lt_of_lt_of_le (HX5.out b e) hk.size)
  have d0 := heap_cell HQ6.out 0; have d1 := heap_cell HQ6.out 1; have d2 := heap_cell HQ6.out 2
  simp at d0 d1 d2
  clear hz hk
  go_wp2_with fail
  clear d0 d1 d2
  refine (make_h HZ6.out ty_okI HX6.out (a := 4) (by decide) kh_take2 kh_put2 .nilFunc).mono ?_
  rintro e w7 ⟨rfl, hz, hk⟩
  have HZ7 := hid hz
  have HQ7 := hid ((hk.blk _ rfl).trans HQ6.out)
  have HX7 := hid (show ∀ b, b = bx → b < w7.heap.size from fun b e => Nat.lt_of_lt_of_le (HX6.out b e) hk.size)
  have d0 := heap_cell HQ7.out 0; have d1 := heap_cell HQ7.out 1; have d2 := heap_cell HQ7.out 2
  simp at d0 d1 d2
  clear hz hk
  go_wp2_with fail
  clear d0 d1 d2
  refine (make_h HZ7.out ty_okI HX7.out (a := 7) (by decide) kh_take3 kh_put3 .nilFunc).mono ?_
  rintro e w8 ⟨rfl, hz, hk⟩
  have HZ8 := hid hz
  have HQ8 := hid ((hk.blk _ rfl).trans HQ7.out)
  have HX8 := hid (show ∀ b, b = bx → b < w8.heap.size from fun b e => Nat.lt_of_lt_of_le (HX7.out b e) hk.size)
  have d0 := heap_cell HQ8.out 0; have d1 := heap_cell HQ8.out 1; have d2 := heap_cell HQ8.out 2
  simp at d0 d1 d2
  clear hz hk
  go_wp2_with fail
  clear d0 d1 d2
  refine (Used_h HZ8.out).mono ?_
  rintro e w9 ⟨rfl, hb⟩
  rw [kh_used3]
  have HZ9 := hid (HZ8.out.below hb)
  have HQ9 := hid ((hb.block _ (heap_lt HQ8.out)).trans HQ8.out)
  have HX9 := hid (show ∀ b, b = bx → b < w9.heap.size from fun b e => Nat.lt_of_lt_of_le (HX8.out b e) hb.size)
  clear hb
  go_wp2_with fail
  refine (Turns_h HZ9.out).mono ?_
  rintro e w10 ⟨rfl, hb⟩
  skip
  have HZ10 := hid (HZ9.out.below hb)
  have HQ10 := hid ((hb.block _ (heap_lt HQ9.out)).trans HQ9.out)
  have HX10 := hid (show ∀ b, b = bx → b < w10.heap.size from fun b e => Nat.lt_of_lt_of_le (HX9.out b e) hb.size)
  clear hb
  go_wp2_with fail
  obtain ⟨g0, hg0⟩ : ∃ g0, w10.heap.size = g0 := ⟨_, rfl⟩
  refine (seq_any _ _ _ _).mono ?_
  rintro e w11 ⟨rfl, hw11⟩
  have b11 : Below w10.heap.size w10 w11 := by rw [hw11]; exact ((Below.refl _ _).alloc (Nat.le_refl _) _).alloc (by simp) _
  have q0 : w11.heap[g0]? = some (.cells (u64s [4 * 8 + 2]).toArray 56 (0, 0)) := by rw [hw11]; exact heap_alloc_keep (heap_alloc_at _ _ hg0.symm) _
  have q1 : w11.heap[g0 + 1]? = some (.cells #[.slice (some ⟨g0, 0, none⟩) 1 1] 60 (0, 0)) := by rw [hw11, hg0]; exact heap_alloc_at _ _ (by simp [hg0])
  have hsz : w11.heap.size = g0 + 2 := by rw [hw11]; simp [hg0]
  have e1 : (w10.alloc (.cells #[.int .u64 34] 56)).heap.size = g0 + 1 := by simp [hg0]
  rw [e1]
  have HQF := hid (And.intro q0 q1)
  have HZ11 := hid ((HZ10.out.grow b11).less (Z' := fun b => b = bx ∨ (g0 ≤ b ∧ b < g0 + 2)) (fun b e => e.imp id (fun e => ⟨by omega, by omega⟩)))
  have HX11 := hid (show ∀ b, (b = bx ∨ (g0 ≤ b ∧ b < g0 + 2)) → b < w11.heap.size from fun b e => by
    have := b11.size
    rcases e with e | e
    · exact Nat.lt_of_lt_of_le (HX10.out b e) b11.size
    · omega)
  have HQ11 := hid ((b11.block _ (heap_lt HQ10.out)).trans HQ10.out)
  have hro : ∀ (W : World), (∀ b, (b = bx ∨ (g0 ≤ b ∧ b < g0 + 2)) → W.heap[b]? = w11.heap[b]?) → W.heap.size ≥ g0 + 2 → True := fun _ _ _ => trivial
  have HRO := hid (show RootsOk (fun b => b = bx ∨ (g0 ≤ b ∧ b < g0 + 2)) w11 (.func (.func 29) #[] #[.pointer (some ⟨g0 + 1, 0, none⟩)]) [4 * 8 + 2] from
    roots_seq (B := g0) q1 (.inr ⟨by omega, by omega⟩) (own_lit q0 rfl (by decide)) (fun b h1 h2 => .inr ⟨h1, by omega⟩) (by decide))
  have d0 := heap_cell HQ11.out 0; have d1 := heap_cell HQ11.out 1; have d2 := heap_cell HQ11.out 2
  simp at d0 d1 d2
  clear hw11 b11 q0 q1 hsz e1 hro
  go_wp2_with fail
  refine (makec_h HZ11.out ty_okI HX11.out kh_full3 kh_things3 HTAB.out kh_unm3 _ _ HRO.out (by decide) (by decide) (fun bs' h => .inr ⟨1, _, kh5, by decide, by rw [kh_sweep3 h]; exact kh_take4, kh_put4⟩)).mono ?_
  rintro e w12 ⟨bs', hco, a, er, bs1, bs2, rfl, hP, hz, hk⟩
  rw [kh_sweep3 hco] at hP
  obtain ⟨rfl, rfl, rfl⟩ := kh_make4 hP
  have HX12 := hid (show ∀ b, (b = bx ∨ (g0 ≤ b ∧ b < g0 + 2)) → b < w12.heap.size from fun b e => Nat.lt_of_lt_of_le (HX11.out b e) hk.size)
  rw [show wrap64 (0 + 1) = 1 by decide +kernel] at hz
  have HZ12 := hid hz; have HK12 := hid hk
  have HQ12 := hid ((hk.blk _ (.inl rfl)).trans HQ11.out)
  clear hco hP hz hk d0 d1 d2
  go_wp2_with fail
  refine (Used_h HZ12.out).mono ?_
  rintro e w13 ⟨rfl, hb⟩
  rw [kh_used5]
  have HZ13 := hid (HZ12.out.below hb)
  have HQ13 := hid ((hb.block _ (heap_lt HQ12.out)).trans HQ12.out)
  have HX13 := hid (show ∀ b, (b = bx ∨ (g0 ≤ b ∧ b < g0 + 2)) → b < w13.heap.size from fun b e => Nat.lt_of_lt_of_le (HX12.out b e) hb.size)
  have HK13 := hid (show Kept (fun b => b = bx ∨ (g0 ≤ b ∧ b < g0 + 2)) w11 w13 from HK12.out.trans (Kept.of_below HX12.out hb))
  clear hb
  go_wp2_with fail
  refine (Turns_h HZ13.out).mono ?_
  rintro e w14 ⟨rfl, hb⟩
  skip
  have HZ14 := hid (HZ13.out.below hb)
  have HQ14 := hid ((hb.block _ (heap_lt HQ13.out)).trans HQ13.out)
  have HX14 := hid (show ∀ b, (b = bx ∨ (g0 ≤ b ∧ b < g0 + 2)) → b < w14.heap.size from fun b e => Nat.lt_of_lt_of_le (HX13.out b e) hb.size)
  have HK14 := hid (show Kept (fun b => b = bx ∨ (g0 ≤ b ∧ b < g0 + 2)) w11 w14 from HK13.out.trans (Kept.of_below HX13.out hb))
  clear hb
  go_wp2_with fail
  refine (Live_h HZ14.out kh_things5 HTAB.out _ _ (HRO.out.kept HK14.out) (by decide) (by decide)).mono ?_
  rintro e w15 ⟨r, hr1, hr2, rfl, hb⟩
  rw [kh_live5 hr1 hr2]
  have HZ15 := hid (HZ14.out.below hb)
  have HQ15 := hid ((hb.block _ (heap_lt HQ14.out)).trans HQ14.out)
  have HX15 := hid (show ∀ b, (b = bx ∨ (g0 ≤ b ∧ b < g0 + 2)) → b < w15.heap.size from fun b e => Nat.lt_of_lt_of_le (HX14.out b e) hb.size)
  have HK15 := hid (show Kept (fun b => b = bx ∨ (g0 ≤ b ∧ b < g0 + 2)) w11 w15 from HK14.out.trans (Kept.of_below HX14.out hb))
  clear hb hr1 hr2
  go_wp2_with fail
  refine (set_h HZ15.out ty_okI HX15.out (kh_things5 4 ⟨[1, 0], by decide +kernel⟩) (y := 10) (by decide) kh_set).mono ?_
  rintro e w16 ⟨rfl, hz, hk⟩
  have HZ16 := hid hz
  have HQ16 := hid ((hk.blk _ (.inl rfl)).trans HQ15.out)
  have HX16 := hid (show ∀ b, (b = bx ∨ (g0 ≤ b ∧ b < g0 + 2)) → b < w16.heap.size from fun b e => Nat.lt_of_lt_of_le (HX15.out b e) hk.size)
  have HK16 := hid (HK15.out.trans hk)
  have d0 := heap_cell HQ16.out 0; have d1 := heap_cell HQ16.out 1; have d2 := heap_cell HQ16.out 2
  simp at d0 d1 d2
  clear hz hk
  go_wp2_with fail
  clear d0 d1 d2
  refine (make_h HZ16.out ty_okI HX16.out (a := 7) (by decide) kh_take6 kh_put6 _).mono ?_
  rintro e w17 ⟨rfl, hz, hk⟩
  have HZ17 := hid hz
  have HQ17 := hid ((hk.blk _ (.inl rfl)).trans HQ16.out)
  have HX17 := hid (show ∀ b, (b = bx ∨ (g0 ≤ b ∧ b < g0 + 2)) → b < w17.heap.size from fun b e => Nat.lt_of_lt_of_le (HX16.out b e) hk.size)
  have d0 := heap_cell HQ17.out 0; have d1 := heap_cell HQ17.out 1; have d2 := heap_cell HQ17.out 2
  simp at d0 d1 d2
  clear hz hk
  go_wp2_with fail
  have hlt17 : bx < w17.heap.size := heap_lt HQ17.out
  have HLT := hid hlt17
  obtain ⟨g1, hg1⟩ : ∃ g1, w17.heap.size = g1 := ⟨_, rfl⟩
  have HG1 := hid hg1
  have KZ0 := hid (show Tri bx w17 from ⟨d0, d1, d2⟩)
  have KZA := hid (show Tri bx (w17.alloc (.cells #[.int .u64 34, .int .u64 58] 56)).drew from Tri.below KZ0.out hlt17 (((Below.refl _ _).alloc (Nat.le_refl _) _).drew))
  have KZB := hid (show Tri bx (w17.alloc (.cells #[.int .u64 34, .int .u64 58] 56)) from Tri.below KZ0.out hlt17 ((Below.refl _ _).alloc (Nat.le_refl _) _))
  clear hg1 hlt17 d0 d1 d2
  go_cut [17] from 123 to 130 (fun s17 wx => s17 = .int .i64 5 ∧ Below w.heap.size w wx)
  case first =>
    go_region_held_law (fun w' => w'.cell? ⟨bx, 0, none⟩ = some (.int .i64 0) ∧ w'.cell? ⟨bx, 1, none⟩ = some (.int .i64 0) ∧ w'.cell? ⟨bx, 2, none⟩ = some (.int .i64 1)) (first | exact KZ2.out | exact KZ1.out | exact KZA.out | exact KZB.out | exact KZ0.out)
      (first
        | (go_at_call 9
           have _q := HB19.out
           have HZ19 := hid (HZ17.out.grow HB19.out)
           have HRP := hid (show RootsOk (fun b => (b = bx ∨ (g0 ≤ b ∧ b < g0 + 2)) ∨ (w17.heap.size ≤ b ∧ b < w19.heap.size)) w19 (.func (.func 29) #[] #[.pointer (some ⟨g1 + 1, 0, none⟩)]) [4 * 8 + 2, 7 * 8 + 2] from
             roots_seq (B := g1) HQB.out (.inr ⟨by rw [HG1.out]; omega, by rw [HS19.out]; omega⟩) (own_lit HQ19.out rfl (by decide)) (fun b h1 h2 => .inr ⟨by rw [HG1.out]; exact h1, h2⟩) (by decide))
           refine (makec_h HZ19.out ty_okI (grow_lt HX17.out HB19.out) kh_full7 kh_things7 HTAB.out kh_unm7 _ _ HRP.out (by decide) (by decide) (fun bs' h => .inl (by rw [kh_sweep7 h]; exact kh_full7))).mono ?_
           rintro e w20 ⟨bs', hco, a, er, bs1, bs2, rfl, hP, hz, hk⟩
           rw [kh_sweep7 hco] at hP
           have her := kh_make7 hP
           subst her
           have HZ20 := hid hz
           have KZ2 := hid (show Tri bx w20 from KZ1.out.kept hk (.inl (.inl rfl)))
           clear hco hP hz hk _q
           dsimp only)
        | (go_at_call 11
           refine (seq_any _ _ _ _).mono ?_
           rintro e w19 ⟨rfl, hw19⟩
           have b19 : Below w17.heap.size w17 w19 := by rw [hw19]; exact (((Below.refl _ _).alloc (Nat.le_refl _) _).drew).alloc (by simp [World.drew]) _
           have q0 : w19.heap[w17.heap.size]? = some (.cells (u64s [4 * 8 + 2, 7 * 8 + 2]).toArray 56 (0, 0)) := by rw [hw19]; exact heap_alloc_keep (heap_alloc_at _ _ rfl) _
           have q1 : w19.heap[w17.heap.size + 1]? = some (.cells #[.slice (some ⟨w17.heap.size, 0, none⟩) 2 2] 60 (0, 0)) := by rw [hw19]; exact heap_alloc_at _ _ (by simp [World.drew])
           have s19 : w19.heap.size = w17.heap.size + 2 := by rw [hw19]; simp [World.drew]
           have e1 : (w17.alloc (.cells #[.int .u64 34, .int .u64 58] 56)).drew.heap.size = w17.heap.size + 1 := by simp [World.drew]
           rw [e1]
           rw [HG1.out] at q0 q1 s19 ⊢
           have KZ1 := hid (show Tri bx w19 from KZ0.out.below HLT.out b19)
           have HB19 := hid b19; have HQ19 := hid q0; have HQB := hid q1; have HS19 := hid s19
           clear b19 q0 q1 s19 e1 hw19
           dsimp only))
    all_goals
      go_wp2
      go_meet
      exact ⟨rfl, HZ20.out.be⟩
  case rest =>
    obtain ⟨rfl, hbx9⟩ := hcut
    have HBX := hid hbx9
    clear hbx9
    go_wp2
    go_ret
    exact ⟨rfl, HBX.out⟩
end
end Go.Proofs.YtlcfkfijomnmnaaGreatDoor
