/- package roll: Copy. -/
import Derived.Test.YtoamhiaagaaaaaaGreatDoorQKdEqualP
import Derived.Test.YtoamhiaagaaaaaaGreatDoorQRfHeapsP
import Derived.Deep.RegionHeld3
import Derived.Shelf.SlMaps.Clone
namespace Go.Proofs.YtoamhiaagaaaaaaGreatDoor
open Go.RowKit Go.Maps Go.WideMaps

set_option maxRecDepth 100000 in
set_option maxHeartbeats 8000000 in
theorem cloneEnt_any (v : Value) (n : Nat) (xs : List Value) (w : World) (hv : RowAt w 2 v n xs) (h1 : ∀ u ∈ xs, u.oneCell' = true) (hl : n ≤ 10000) :
    Calls Tryz.prog 51 #[v] w fun e w' => ∃ u, e = .returned u ∧ w'.ownsRow w.heap.size 102 2 u n xs ∧ Below w.heap.size w w' := by
  obtain ⟨i0, hi, hz0, hz1, hz2⟩ := info_parts Tryz.infoEntry
  have Hi := Lib.hid hi; have Hz0 := Lib.hid hz0; have Hz1 := Lib.hid hz1; have Hz2 := Lib.hid hz2
  obtain ⟨ao, cap, rfl⟩ := RowAt.form hv
  have HV := Lib.hid hv; have HL := Lib.hid hl; have H1 := Lib.hid h1
  clear hv hl hi hz0 hz1 hz2 h1
  have e1 : ∀ (w : World) (a : Option Addr) (l c : Nat), (binOp .eql 89 (.slice a l c) (.slice none 0 0)).run Tryz.prog w = .ok (.bool a.isNone) w := fun w a l c => Lib.run_eql_slice_nil w _ _ a l c 0 0 Tryz.underlying89
  cases ao with
  | none =>
    have hn0 : n = 0 ∧ cap = 0 := by
      rcases HV.out.2 with ⟨h, _⟩ | ⟨a, c, h, _⟩
      · simp at h; exact h
      · simp at h
    obtain ⟨rfl, rfl⟩ := hn0
    go_enter Tryz.func51, Tryz.ntmps51
    go_wp2
    go_ret
    refine ⟨_, rfl, ?_, Below.refl _ _⟩
    have hxs : xs = [] := List.length_eq_zero_iff.1 (by simpa using HV.out.1)
    rw [hxs]
    exact owns_zero _ _ _ _
  | some a =>
    go_enter Tryz.func51, Tryz.ntmps51
    go_wp2_with (at_builtin; refine wpList_append_row _ rfl _ _ 89 rfl w.heap.size 102 i0 _ 2 32 Tryz.underlying89 Hi.out Hz0.out Hz1.out Hz2.out rfl (by decide) _ 0 [] rfl (owns_e w (Nat.le_refl _) _ _ rfl) _ n xs rfl (RowAt.below HV.out ((Below.refl _ _).alloc (Nat.le_refl _) _) (Nat.le_refl _)) H1.out (by have := HL.out; unfold maxLen; omega) (by have := HL.out; omega) (by simp) ?_)
    intro v2 w2 o2 g2
    have hb2 : Below w.heap.size w w2 := ((Below.refl _ _).alloc (Nat.le_refl _) _).grown g2 (by simp) (fun k hk => by simp [Value.ownBlock] at hk; omega)
    have O2 := Lib.hid o2; have HB2 := Lib.hid hb2
    clear o2 g2 hb2
    go_wp2
    go_ret
    exact ⟨_, rfl, by simpa using O2.out, HB2.out⟩
theorem entC_one {es : List (List Sb)} {vs : List Value} (hv : ∀ v ∈ vs, v.oneCell' = true) (hl : vs.length = es.length) : ∀ u ∈ entC es vs, u.oneCell' = true := fun u hu => by
  unfold entC at hu
  obtain ⟨i, hi, hm⟩ := List.mem_flatMap.1 hu
  have hi' : i < vs.length := by rw [hl]; exact List.mem_range.1 hi
  simp only [List.mem_cons, List.not_mem_nil, or_false] at hm
  rcases hm with rfl | rfl
  · rfl
  · rw [List.getD_eq_getElem?_getD, List.getElem?_eq_getElem hi']
    exact hv _ (List.getElem_mem hi')
theorem EntsAt.copy {R : Nat → Prop} {w w' : World} {ev u : Value} {es : List (List Sb)} {B : Nat} (_ : EntsAt R w ev es) (vs : List Value) (h1 : vs.length = es.length) (_ : w.ownsRow 0 102 2 ev es.length (entC es vs)) (h3 : ∀ (i : Nat) v g, vs[i]? = some v → es[i]? = some g → ∀ w'', Upd (fun b => ¬ R b) w w'' → GrpAt w'' v g) (ho : w'.ownsRow B 102 2 u es.length (entC es vs)) (hb : Below w.heap.size w w') : EntsAt R w' u es := by
  obtain ⟨q1, q2⟩ := ho
  exact ⟨vs, h1, ⟨q1, q2.imp id (fun ⟨g, c, cur, e, _, r⟩ => ⟨g, c, cur, e, Nat.zero_le _, r⟩)⟩, fun i v g hv hg w'' hu => h3 i v g hv hg w'' (((Upd.of_below hb : Upd (fun _ => False) w w').mono fun _ _ q => q.elim).trans' hu)⟩
set_option maxRecDepth 100000 in
set_option maxHeartbeats 4000000 in
theorem cloneMap_any (b n : Nat) (D : DataW Unit) (k : TypeId) (R : Value → Option (DataW Unit × List MemPlace)) (w : World) (hown : w.ownsMap Tryz.prog k R b n D) :
    Calls Tryz.prog 52 #[.map (some b)] w fun e w' => e = .returned (.map (some w.heap.size)) ∧ w'.ownsMap Tryz.prog k R w.heap.size n D ∧ Below w.heap.size w w' := by
  obtain ⟨es, clock, hb, F, hs, hD⟩ := hown
  have hq := fun w => run_eql_map_nil_sl (P := Tryz.prog) w 88 _ _ (some b) Tryz.underlying88
  have HF := Lib.hid F; have HS := Lib.hid hs; have HDD := Lib.hid hD; have HB := Lib.hid hb
  clear F hs hD hb
  go_enter Tryz.func52, Tryz.ntmps52
  go_wp2
  rw [run_callFunc_extern Tryz.func95 (by kernel_rfl) (by kernel_rfl) (by kernel_rfl) (e := Extern.MapsClone.clone) (by kernel_rfl), run_maps_clone_sl w 88 HB.out]
  simp only [Result.andThen]
  rw [Oper.upon_value]
  go_wp2
  rw [run_typeAssert_map_sl _ 88 20 _ _ _ Tryz.underlying88]
  simp only [Result.andThen]
  rw [Oper.upon_value]
  go_wp2
  go_ret
  exact ⟨rfl, ⟨es, clock, (MapKept.heap_alloc w _).1, HF.out, HS.out, HDD.out⟩, (Below.refl _ w).alloc (Nat.le_refl _) _⟩
variable {S R : Nat → Prop} {w : World} {t : Nat} {gs : List (List Sb)}
set_option maxRecDepth 100000 in
set_option maxHeartbeats 16000000 in
theorem copy_any (ht : TabAt S R w t gs) (hok : TabOk gs) : Calls Tryz.prog 14 #[.pointer (some ⟨t, 0, none⟩)] w fun e w' => ∃ t' S', e = .returned (.pointer (some ⟨t', 0, none⟩)) ∧ TabAt S' R w' t' gs ∧ (∀ k, S' k → w.heap.size ≤ k) ∧ Below w.heap.size w w' := by
  have CM := Lib.hid (made_any ht)
  obtain ⟨⟨ev, ov, M, h1, he, h3, h4, h5, h6, h7⟩, hst, hlt, hrlt⟩ := ht
  obtain ⟨vs, e1, e2, e3⟩ := he.ex
  obtain ⟨D, d1, d2, d3, d4⟩ := h4.ex
  have hlen : gs.length ≤ 10000 := by
    have h := len_total hok
    have := hok.total
    omega
  have hone : ∀ u ∈ entC gs vs, u.oneCell' = true := entC_one (fun v hv => by
    obtain ⟨i, hi⟩ := List.getElem?_of_mem hv
    have hi' := (List.getElem?_eq_some_iff.1 hi).1
    obtain ⟨a, c, rfl⟩ := (e3 i v (gs[i]'(by omega)) hi (by simp) w (Upd.refl _ _)).form
    rfl) e1
  have hol : (ofL gs).length ≤ 1000000 := by rw [ofL_len]; have := hok.total; omega
  obtain ⟨es0, ce, rfl, _⟩ := ownsRow_form e2
  obtain ⟨ao, co, rfl, _⟩ := ownsRow_form h3
  have c0 := heap_cell h1 0; have c1 := heap_cell h1 1; have c2 := heap_cell h1 2
  simp at c0 c1 c2
  have g0 : ∀ z : World, Below w.heap.size w z → z.cell? ⟨t, 0, none⟩ = some (.slice es0 gs.length ce) ∧ z.cell? ⟨t, 1, none⟩ = some (.slice ao (ofL gs).length co) ∧ z.cell? ⟨t, 2, none⟩ = some (.map (some M)) := fun z hz => ⟨Ext.cell ⟨z, hz⟩ c0, Ext.cell ⟨z, hz⟩ c1, Ext.cell ⟨z, hz⟩ c2⟩
  have hE := fun (z : World) (hz : Below w.heap.size w z) => cloneEnt_any (.slice es0 gs.length ce) gs.length (entC gs vs) z (RowAt.below (RowAt.of_own e2) hz (Nat.le_refl _)) hone hlen
  have hO := fun (z : World) (hz : Below w.heap.size w z) => cloneInts_any (.slice ao (ofL gs).length co) (ofL gs) z (RowAt.below (RowAt.of_own h3) hz (Nat.le_refl _)) hol
  have hM := fun (z : World) (hz : Below w.heap.size w z) => cloneMap_any M gs.length D _ _ z (by
    obtain ⟨es, clock, m1, m2⟩ := d1
    exact ⟨es, clock, (hz.block M (hlt M h5).1).trans m1, m2⟩)
  have HE := Lib.hid hE; have HO := Lib.hid hO; have HM := Lib.hid hM; have G0 := Lib.hid g0; have HST := Lib.hid hst; have HLT := Lib.hid hlt; have HRLT := Lib.hid hrlt
  have E1 := Lib.hid e1; have E2 := Lib.hid e2; have E3 := Lib.hid e3; have HD := Lib.hid (⟨d2, d3, d4⟩ : IsMap D ∧ _ ∧ _); have HEN := Lib.hid he
  clear hE hO hM g0 hst hlt hrlt e1 e2 e3 d1 d2 d3 d4 he h1 h3 h4 h5 h6 h7 hone hol hlen c0 c1 c2
  go_enter Tryz.func14, Tryz.ntmps14
  go_wp2_with fail
  refine CM.out.mono ?_
  rintro e w1 ⟨rfl, rfl⟩
  go_upto_region 3 with fail
  have KZ0 := Lib.hid (G0.out w1.drew (Below.refl _ _).drew)
  go_region_held3 (fun w' => w'.cell? ⟨t, 0, none⟩ = some (.slice es0 gs.length ce) ∧ w'.cell? ⟨t, 1, none⟩ = some (.slice ao (ofL gs).length co) ∧ w'.cell? ⟨t, 2, none⟩ = some (.map (some M))) (first | exact KZ0.out | exact KZ1.out | exact KZ2.out | exact KZ3.out | exact G0.out _ (HEC.out.alloc HEC.out.size _))
    (first
      | (have _q := HEB.out
         clear _q
         go_at_call 52
         refine (HM.out wB HEB.out).mono ?_
         rintro e wC ⟨rfl, hown, hbC⟩
         have HEC := Lib.hid (HEB.out.trans (hbC.mono HEB.out.size))
         have HMO := Lib.hid hown; have HBC := Lib.hid hbC
         have KZ3 := Lib.hid (G0.out wC HEC.out)
         clear hown hbC
         dsimp only)
      | (have _q := HEA.out
         clear _q
         go_at_call 48
         refine (HO.out wA HEA.out).mono ?_
         rintro e wB ⟨u2, rfl, hown2, hbB⟩
         obtain ⟨au2, cu2, rfl, _⟩ := ownsRow_form hown2
         have HEB := Lib.hid (HEA.out.trans (hbB.mono HEA.out.size))
         have HOO := Lib.hid hown2; have HBB := Lib.hid hbB
         have KZ2 := Lib.hid (G0.out wB HEB.out)
         clear hown2 hbB
         dsimp only)
      | (go_at_call 51
         refine (HE.out w1.drew (Below.refl _ _).drew).mono ?_
         rintro e wA ⟨u1, rfl, hown1, hbA⟩
         obtain ⟨au1, cu1, rfl, _⟩ := ownsRow_form hown1
         have HEA := Lib.hid ((Below.refl _ _).drew.trans hbA : Below w1.heap.size w1 wA)
         have HEO := Lib.hid hown1
         have KZ1 := Lib.hid (G0.out wA HEA.out)
         clear hown1 hbA
         dsimp only))
  all_goals
    go_wp2
    go_ret
    obtain ⟨W, hW⟩ : ∃ W : World, W = wC.alloc (.cells #[.slice au1 gs.length cu1, .slice au2 (ofL gs).length cu2, .map (some wB.heap.size), .pointer (some ⟨wC.heap.size, 0, none⟩)] 91) := ⟨_, rfl⟩
    have hCW : Below wC.heap.size wC W := by rw [hW]; exact (Below.refl _ _).alloc (Nat.le_refl _) _
    have hBW : Below wB.heap.size wB W := HBC.out.trans (hCW.mono HBC.out.size)
    have hAW : Below wA.heap.size wA W := HBB.out.trans (hBW.mono HBB.out.size)
    have h1W : Below w1.heap.size w1 W := HEA.out.trans (hAW.mono HEA.out.size)
    have hT : W.heap[wC.heap.size]? = some (.cells #[.slice au1 gs.length cu1, .slice au2 (ofL gs).length cu2, .map (some wB.heap.size), .pointer (some ⟨wC.heap.size, 0, none⟩)] 91 (0, 0)) := by
      rw [hW]; exact heap_alloc_at _ _ rfl
    have s1 := HEA.out.size; have s2 := HBB.out.size; have s3 := HBC.out.size; have s4 := hCW.size
    have hlt := heap_lt hT
    have r1 := ownsRow_upd (S := fun _ => False) HEO.out (Upd.of_below hAW) (fun _ _ q => q)
    have r2 := ownsRow_upd (S := fun _ => False) HOO.out (Upd.of_below hBW) (fun _ _ q => q)
    have r3 : W.ownsMap Tryz.prog 9 (plainElem Tryz.prog 3) wB.heap.size gs.length D := by
      obtain ⟨es, clock, m1, m2⟩ := HMO.out
      exact ⟨es, clock, (hCW.block _ (heap_lt m1)).trans m1, m2⟩
    have r3lt : wB.heap.size < wC.heap.size := by obtain ⟨es, clock, m1, m2⟩ := HMO.out; exact heap_lt m1
    have r2' : W.ownsRow 0 3 1 (.slice au2 (ofL gs).length cu2) (ofL gs).length ((ofL gs).map (Value.int .i64)) := by
      obtain ⟨q1, q2⟩ := r2
      exact ⟨q1, q2.imp id (fun ⟨g, c, cur, e, _, r⟩ => ⟨g, c, cur, e, Nat.zero_le _, r⟩)⟩
    refine ⟨wC.heap.size, fun b => b = wC.heap.size ∨ b = wB.heap.size ∨ (Value.slice au1 gs.length cu1).ownBlock = some b ∨ (Value.slice au2 (ofL gs).length cu2).ownBlock = some b, rfl, ?_, ?_, ?_⟩
    · rw [← hW]
      refine ⟨⟨_, _, _, hT, HEN.out.copy vs E1.out E2.out E3.out r1 h1W, r2', ⟨D, r3, HD.out.1, HD.out.2.1, HD.out.2.2⟩, .inr (.inl rfl), fun b hb => .inr (.inr (.inl hb)), fun b hb => .inr (.inr (.inr hb))⟩, .inl rfl, fun k hk => ?_, fun k hk => Nat.lt_of_lt_of_le (HRLT.out k hk) h1W.size⟩
      have hk1 : w1.heap.size ≤ k ∧ k < W.heap.size := by
        rcases hk with rfl | rfl | hk | hk
        · omega
        · omega
        · have := r1.lt k hk; simp at this; omega
        · have := r2.lt k hk; omega
      exact ⟨hk1.2, fun q => by have := HRLT.out k q; omega⟩
    · intro k hk
      rcases hk with rfl | rfl | hk | hk
      · omega
      · omega
      · have := r1.lt k hk; simp at this; omega
      · have := r2.lt k hk; omega
    · rw [← hW]; exact h1W
end Go.Proofs.YtoamhiaagaaaaaaGreatDoor
