import Derived.Test.YtpddbaijnjbfdaaGreatDoorQAppRowAtBd
import Derived.Test.YtpddbaijnjbfdaaGreatDoorQDrVal
namespace Go.Proofs.YtpddbaijnjbfdaaGreatDoor
open Lib (hid)
section
open Go.RowKit Go.Maps Go.WideMaps
variable {w0 wE w : World} {S0 S R T : Nat → Prop} {t d : Nat} {dc : DcS} {vi vt vd : Value}
def DcAddP (w0 : World) (S0 : Nat → Prop) (wE : World) (R _ : Nat → Prop) (w : World) (t d : Nat) (A : Int × Nat × DcS) (e : Ending) (w' : World) : Prop :=
  ∃ S' R', e = .returned (.tuple #[.int .i64 A.1, .int .i64 A.2.1]) ∧ TabN w0 S' R' w' t A.2.2.gs ∧ TabC A.2.2.gs ∧ Upd S0 wE w' ∧ Fresh S0 wE S' ∧ Fresh R w R' ∧ (A.1 = 0 → ∃ T' vi' vt' vd', DcAt w0 S0 wE S' R' T' w' t d A.2.2 vi' vt' vd')
theorem addD_err {dc : DcS} {g : List Sb} {A : List Int × Int × List (List Sb)} (hA : addG dc.gs dc.ids g = A) (h : A.2.1 ≠ 0) : addD dc g = ((if A.2.1 = 5 then 5 else 120), dc.ids.length, { dc with gs := A.2.2 }) := by
  unfold addD
  dsimp only
  rw [hA, if_pos h]
theorem addD_two {dc : DcS} {g : List Sb} {A : List Int × Int × List (List Sb)} (hA : addG dc.gs dc.ids g = A) (h : A.2.1 = 0) : (∀ e n, standAll (dc.types ++ g) g dc.ids.length = (e, n) → e ≠ 0 → addD dc g = (e, n, ⟨A.1, dc.types ++ g, dc.depths, A.2.2⟩)) ∧
    ((standAll (dc.types ++ g) g dc.ids.length).1 = 0 → ∀ e n ds, matchAll (tabL A.2.2) A.1 g dc.ids.length dc.depths = (e, n, ds) → addD dc g = (e, (if e ≠ 0 then n else 0), ⟨A.1, dc.types ++ g, ds, A.2.2⟩)) := by
  refine ⟨fun e n he h0 => ?_, fun h0 e n ds he => ?_⟩
  · unfold addD
    dsimp only
    rw [hA, if_neg (by simpa using h), he, if_pos h0]
  · unfold addD
    dsimp only
    rw [hA, if_neg (by simpa using h), if_neg (by simpa using h0), he]
theorem below_drewA (w : World) (n : Nat) : Below w.heap.size w (w.drewN n) := ⟨rfl, rfl, rfl, Nat.le_refl _, fun _ _ => rfl⟩
theorem DcAddP.err {wc w' : World} {S2 R2 : Nat → Prop} {g : List Sb} {A : List Int × Int × List (List Sb)} (hA : addG dc.gs dc.ids g = A) (h : A.2.1 ≠ 0) (ht : TabN w0 S2 R2 wc t A.2.2) (hc : TabC A.2.2) (hu : Upd S0 wE wc) (hf : Fresh S0 wE S2) (hr : Fresh R w R2) (hb : Below wc.heap.size wc w') {c : Int} (hcode : (if A.2.1 = 5 then 5 else 120) = c) {n : Nat} (hn : dc.ids.length = n) :
    DcAddP w0 S0 wE R T w t d (addD dc g) (.returned (.tuple #[.int .i64 c, .int .i64 n])) w' := by
  rw [addD_err hA h, hcode, hn]
  refine ⟨S2, R2, rfl, ht.below hb, hc, hu.trans' (Upd.of_below hb), hf, hr, fun q => ?_⟩
  have : c = 0 := q
  split at hcode <;> omega
theorem idx_rounds (b2 b3 b6 : Nat) (w : World) : ((Instr.index 166 (.agg #[.func (.func 54) #[] #[.pointer (some ⟨b2, 0, none⟩), .pointer (some ⟨b3, 0, none⟩), .pointer (some ⟨b6, 0, none⟩)], .func (.func 56) #[] #[.pointer (some ⟨b2, 0, none⟩), .pointer (some ⟨b3, 0, none⟩), .pointer (some ⟨b6, 0, none⟩)]]) (.int .i64 0)).run Tryz.prog w = .ok (.func (.func 54) #[] #[.pointer (some ⟨b2, 0, none⟩), .pointer (some ⟨b3, 0, none⟩), .pointer (some ⟨b6, 0, none⟩)]) w) ∧
    ((Instr.index 166 (.agg #[.func (.func 54) #[] #[.pointer (some ⟨b2, 0, none⟩), .pointer (some ⟨b3, 0, none⟩), .pointer (some ⟨b6, 0, none⟩)], .func (.func 56) #[] #[.pointer (some ⟨b2, 0, none⟩), .pointer (some ⟨b3, 0, none⟩), .pointer (some ⟨b6, 0, none⟩)]]) (.int .i64 1)).run Tryz.prog w = .ok (.func (.func 56) #[] #[.pointer (some ⟨b2, 0, none⟩), .pointer (some ⟨b3, 0, none⟩), .pointer (some ⟨b6, 0, none⟩)]) w) := ⟨by kernel_rfl, by kernel_rfl⟩
theorem DcAddP.bad {g : List Sb} {e : Int} {n : Nat} {S2 R2 T2 : Nat → Prop} {dc2 : DcS} {w' : World} {vi2 vt2 vd2 : Value} (hA : addD dc g = (e, n, dc2)) (h : e ≠ 0) (hr : Fresh R w R2) (hd : DcAt w0 S0 wE S2 R2 T2 w' t d dc2 vi2 vt2 vd2) : DcAddP w0 S0 wE R T w t d (addD dc g) (.returned (.tuple #[.int .i64 e, .int .i64 n])) w' := by
  rw [hA]
  exact ⟨S2, R2, rfl, hd.tab, hd.c, hd.up, hd.fr, hr, fun q => absurd q h⟩
theorem DcAddP.good {g : List Sb} {S2 R2 T2 : Nat → Prop} {dc2 : DcS} {w' : World} {vi2 vt2 vd2 : Value} (hA : addD dc g = (0, 0, dc2)) (hr : Fresh R w R2) (hd : DcAt w0 S0 wE S2 R2 T2 w' t d dc2 vi2 vt2 vd2) : DcAddP w0 S0 wE R T w t d (addD dc g) (.returned (.tuple #[.int .i64 0, .int .i64 0])) w' := by
  rw [hA]
  exact ⟨S2, R2, rfl, hd.tab, hd.c, hd.up, hd.fr, hr, fun _ => ⟨T2, vi2, vt2, vd2, hd⟩⟩
set_option maxRecDepth 100000 in
set_option maxHeartbeats 64000000 in
theorem dcAdd_any (h : DcAt w0 S0 wE S R T w t d dc vi vt vd) (ok : DcOk dc) (v : Value) (g : List Sb) (hg : GrpK S0 wE v g) (hr : RawG g) (htab : Tab w0) (hl : dc.ids.length + g.length ≤ 100000) :
    Calls Tryz.prog 26 #[.pointer (some ⟨d, 0, none⟩), v] w (DcAddP w0 S0 wE R T w t d (addD dc g)) := by
  obtain ⟨i0, hi, hz0, hz1, hz2⟩ := info_parts Tryz.infoSub
  have Hi := hid hi; have Hz0 := hid hz0; have Hz1 := hid hz1; have Hz2 := hid hz2
  obtain ⟨ag, cg, rfl⟩ := (hg.at h.up).form
  obtain ⟨ai, ci, rfl⟩ := RowAt.form (h.ids w (Upd.refl _ _))
  obtain ⟨x0, x1, x2, x3⟩ := h.cells
  have hdl := heap_lt h.box
  obtain ⟨first, hfirst⟩ : ∃ first, dc.ids.length = first := ⟨_, rfl⟩
  rw [hfirst] at x1
  obtain ⟨W1, hW1⟩ : ∃ W1 : World, W1 = ((w.alloc (.cells #[.pointer (some ⟨d, 0, none⟩)] 163)).alloc (.cells #[.slice ag g.length cg] 97)).alloc (.cells #[.int .i64 first] 3) := ⟨_, rfl⟩
  obtain ⟨b2, hb2⟩ : ∃ b2, w.heap.size = b2 := ⟨_, rfl⟩
  obtain ⟨b3, hb3⟩ : ∃ b3, w.heap.size + 1 = b3 := ⟨_, rfl⟩
  obtain ⟨b6, hb6⟩ : ∃ b6, w.heap.size + 1 + 1 = b6 := ⟨_, rfl⟩
  have hbe1 : Below w.heap.size w W1 := by rw [hW1]; exact (((Below.refl _ _).alloc (Nat.le_refl _) _).alloc (by simp) _).alloc (by simp; omega) _
  have hclo : CloAt W1 d b2 b3 b6 ag g.length cg first := by
    rw [hW1]
    exact ⟨heap_alloc_keep (heap_alloc_keep (heap_alloc_at _ _ hb2.symm) _) _, heap_alloc_keep (heap_alloc_at _ _ (by simp [hb3])) _, heap_alloc_at _ _ (by simp [hb6])⟩
  have hsz1 : W1.heap.size = b6 + 1 := by rw [hW1]; simp [← hb6]
  have hdrew : Below W1.heap.size W1 W1.drew := (Below.refl _ _).drew
  have hdc := (h.below hbe1).below hdrew
  have C1 := add_n2 hdc.tab (fun w' hu => hdc.ids w' (hu.mono fun _ _ q => .inl q)) (by omega) (hg.at hdc.up) hr htab
  obtain ⟨A, hA⟩ : ∃ A, addG dc.gs dc.ids g = A := ⟨_, rfl⟩
  rw [hA] at C1
  have y0 := heap_cell (hdc.box) 0
  have y1 := heap_cell (hdc.box) 1
  have y2 := heap_cell hclo.p 0
  have y3 := heap_cell hclo.g 0
  simp only [List.getElem?_toArray, List.getElem?_cons_succ, List.getElem?_cons_zero] at y0 y1 y2 y3
  obtain ⟨gl, hgl⟩ : ∃ gl, g.length = gl := ⟨_, rfl⟩
  rw [hgl] at hW1 C1 y3
  rw [hfirst] at C1 y1
  have C1 := hid C1
  have H := hid h; have OK := hid ok; have HG := hid hg; have HR := hid hr; have HTAB := hid htab; have HL := hid hl; have HF := hid hfirst; have HW1 := hid hW1
  have HA := hid hA; have HBE1 := hid hbe1; have HCLO := hid hclo; have HSZ1 := hid hsz1; have HDC := hid hdc
  have hf6 : (first : Int) ≤ 100000 := by omega
  have hgl6 : (gl : Int) ≤ 100000 := by omega
  have HGL := hid hgl
  have HB := hid (show w.heap.size = b2 ∧ b3 = b2 + 1 ∧ b6 = b2 + 2 by omega)
  have HB2 := hid hb2; have HB3 := hid hb3; have HB6 := hid hb6
  rw [hgl]
  clear hb2 hb3 hb6 hi hz0 hz1 hz2 h ok hg hr htab hl hfirst hW1 x2 x3 hA hbe1 hclo hsz1 hdrew hdc hgl
  go_enter Tryz.func26, Tryz.ntmps26
  go_wp2_with fail
  rw [← HW1.out, HB6.out, HB3.out, HB2.out]
  clear x0 x1
  have KZ0 := hid (show W1.drew.cell? ⟨b2, 0, none⟩ = some (.pointer (some ⟨d, 0, none⟩)) ∧ W1.drew.cell? ⟨b3, 0, none⟩ = some (.slice ag gl cg) ∧ W1.drew.cell? ⟨d, 0, none⟩ = some (.pointer (some ⟨t, 0, none⟩)) ∧ W1.drew.cell? ⟨d, 1, none⟩ = some (.slice ai first ci) from ⟨y2, y3, y0, y1⟩)
  clear y0 y1 y2 y3
  go_cut [7, 8] from 9 (fun s7 s8 wx => ∃ S2 R2, s8 = .int .i64 A.2.1 ∧ TabN w0 S2 R2 wx t A.2.2 ∧ (∀ w'', Upd (fun b => S2 b ∨ b < W1.heap.size) wx w'' → IntsAt w'' s7 A.1) ∧ Upd S W1.drew wx ∧ Fresh S W1.drew S2 ∧ Fresh R W1.drew R2)
  case first =>
    go_region_held_law (fun w' => w'.cell? ⟨b2, 0, none⟩ = some (.pointer (some ⟨d, 0, none⟩)) ∧ w'.cell? ⟨b3, 0, none⟩ = some (.slice ag gl cg) ∧ w'.cell? ⟨d, 0, none⟩ = some (.pointer (some ⟨t, 0, none⟩)) ∧ w'.cell? ⟨d, 1, none⟩ = some (.slice ai first ci)) (first | exact KZ0.out | exact KZ1.out)
      (first
        | (go_at_call 53
           refine C1.out.mono ?_
           rintro e w2 ⟨u, S2, R2, rfl, ht2, hi2, hup2, hfr2, hrr2⟩
           have HT2 := hid ht2; have HI2 := hid hi2; have HUP2 := hid hup2; have HFR2 := hid hfr2; have HRR2 := hid hrr2
           have hSb : ¬ S b2 ∧ ¬ S b3 ∧ ¬ S d := ⟨fun q => by have := (H.out.tab.tab.lt _ q).1; have := HB.out; omega, fun q => by have := (H.out.tab.tab.lt _ q).1; have := HB.out; omega, H.out.dd.1⟩
           have KZ1 := hid (show w2.cell? ⟨b2, 0, none⟩ = some (.pointer (some ⟨d, 0, none⟩)) ∧ w2.cell? ⟨b3, 0, none⟩ = some (.slice ag gl cg) ∧ w2.cell? ⟨d, 0, none⟩ = some (.pointer (some ⟨t, 0, none⟩)) ∧ w2.cell? ⟨d, 1, none⟩ = some (.slice ai first ci) from ⟨hup2.cell_some KZ0.out.1 hSb.1, hup2.cell_some KZ0.out.2.1 hSb.2.1, hup2.cell_some KZ0.out.2.2.1 hSb.2.2, hup2.cell_some KZ0.out.2.2.2 hSb.2.2⟩)
           clear ht2 hi2 hup2 hfr2 hrr2 hSb C1
           dsimp only))
    all_goals
      go_wp2
      go_meet
      exact ⟨S2, R2, rfl, HT2.out, HI2.out, HUP2.out, HFR2.out, HRR2.out⟩
  case rest =>
    obtain ⟨S2, R2, rfl, ht2, hi2, hup2, hfr2, hrr2⟩ := hcut
    have hs1 := HBE1.out.size
    have hupE : Upd S0 wE wc := HDC.out.up.trans H.out.fr hup2
    have hfrE : Fresh S0 wE S2 := H.out.fr.trans (hfr2.trans (Fresh.refl _ _) (Nat.le_refl _)) (by have := H.out.up.size; have := (Below.refl W1.heap.size W1).drew.size; omega)
    have hrE : Fresh R w R2 := fun k hk => (hrr2 k hk).imp id (fun q => Nat.le_trans hs1 q)
    have hcl := HCLO.out.keep ((Upd.of_below (Below.refl W1.heap.size W1).drew : Upd S W1 W1.drew).trans' hup2) ⟨fun q => by have := (H.out.tab.tab.lt _ q).1; have := HB.out; omega, fun q => by have := (H.out.tab.tab.lt _ q).1; have := HB.out; omega, fun q => by have := (H.out.tab.tab.lt _ q).1; have := HB.out; omega⟩
    have hc2 : TabC A.2.2 := by rw [← HA.out]; exact tabC_add H.out.c
    have z6 := heap_cell hcl.f 0
    simp only [List.getElem?_toArray, List.getElem?_cons_zero] at z6
    have HT2 := hid ht2; have HI2 := hid hi2; have HUP2 := hid hup2; have HFR2 := hid hfr2; have HRR2 := hid hrr2; have HUPE := hid hupE; have HFRE := hid hfrE; have HRE := hid hrE; have HCL := hid hcl; have HC2 := hid hc2
    obtain ⟨er, her⟩ : ∃ er, A.2.1 = er := ⟨_, rfl⟩
    have HER := hid her
    rw [her]
    clear ht2 hi2 hup2 hfr2 hrr2 hupE hfrE hrE hcl hc2 hs1 her
    by_cases h5 : er = 5
    · subst h5
      go_wp2
      go_quiet (fail)
      go_wp2
      go_ret2
      exact DcAddP.err HA.out (by rw [HER.out]; decide) HT2.out HC2.out HUPE.out HFRE.out HRE.out (below_drewA _ _) (by rw [HER.out]; rfl) HF.out
    by_cases h0 : er = 0
    · subst h0
      clear h5
      have hAL : A.1.length = first + gl := by
        rcases addG_fact dc.gs dc.ids g with ⟨q, _⟩ | ⟨_, q⟩
        · rw [HA.out, HER.out] at q; exact absurd rfl q
        · rw [HA.out] at q; rw [q.len, HF.out, HGL.out]
      have HAL := hid hAL
      have hdlw := heap_lt H.out.box
      have hnSt : ∀ b, vt.ownBlock = some b → ¬ S b := fun b hb => (H.out.td b (H.out.tt b hb)).2.2.1
      obtain ⟨at2, ct2, hvt, -⟩ := ownsRow_form HDC.out.tys.ex.choose_spec.2.2.2.1
      rw [show dc.types.length = first by rw [OK.out.tl, HF.out]] at hvt
      obtain ⟨a7, c7, h7⟩ := RowAt.form (HI2.out wc (Upd.refl _ _))
      rw [hAL] at h7
      subst h7
      have hboxc : wc.heap[d]? = some (.cells #[.pointer (some ⟨t, 0, none⟩), .slice ai dc.ids.length ci, vt, vd] 104 (0, 0)) := HUP2.out.heap_some HDC.out.box H.out.dd.1
      have hcl := HCL.out
      obtain ⟨W3, hW3⟩ : ∃ W3 : World, W3 = wc.setCell ⟨d, 1, none⟩ (.slice a7 (first + gl) c7) := ⟨_, rfl⟩
      have hu3 : Upd (fun b => b = d) wc W3 := by rw [hW3]; exact Upd.setCell (S := fun b => b = d) (Upd.refl _ _) (.inl rfl) _
      have hbox3 : W3.heap[d]? = some (.cells #[.pointer (some ⟨t, 0, none⟩), .slice a7 (first + gl) c7, vt, vd] 104 (0, 0)) := by
        rw [hW3]; simpa using heap_set_at hboxc 1 (.slice a7 (first + gl) c7)
      have hcl3 := hcl.keep hu3 ⟨fun e => by have := HB.out; omega, fun e => by have := HB.out; omega, fun e => by have := HB.out; omega⟩
      have hu3E : Upd S0 wE W3 := HUPE.out.trans (fun b e => .inr (by subst e; exact H.out.dd.2.2)) hu3
      have htys3 := (HDC.out.tys.keep HUP2.out hnSt).keep hu3 (fun b hb e => (H.out.td b (H.out.tt b hb)).2.2.2.2 e)
      obtain ⟨cs, gs, own, hnews, hone, hty⟩ := tys_news (htys3.below (Below.refl W3.heap.size W3).drew) (hu3E.drew) HG.out
      have c0 := heap_cell hcl.p 0
      have c1 := heap_cell hboxc 1
      have f1 := heap_frozen hboxc 1
      simp only [List.getElem?_toArray, List.getElem?_cons_succ, List.getElem?_cons_zero] at c0 c1
      have hnb : ∀ b, b = b2 ∨ b = b3 ∨ b = d → ¬ vt.ownBlock = some b := fun b hb e => by
        have k := H.out.td b (H.out.tt b e)
        have := HB.out
        rcases hb with rfl | rfl | rfl
        · omega
        · omega
        · exact k.2.2.2.2 rfl
      have e1 := heap_cell hcl3.p 0
      have e2 := heap_cell hcl3.g 0
      have e3 := heap_cell hbox3 2
      simp only [List.getElem?_toArray, List.getElem?_cons_succ, List.getElem?_cons_zero] at e1 e2 e3
      have d1 := ExtU.cells (R := fun q => vt.ownBlock = some q) e1 (hnb b2 (.inl rfl))
      have d2 := ExtU.cells (R := fun q => vt.ownBlock = some q) e2 (hnb b3 (.inr (.inl rfl)))
      have d3 := ExtU.cells (R := fun q => vt.ownBlock = some q) e3 (hnb d (.inr (.inr rfl)))
      clear e1 e2 e3
      rw [HGL.out] at d2 hnews hty
      rw [show dc.types.length = first by rw [OK.out.tl, HF.out]] at own hty
      subst hvt
      have OWN := hid own; have HNEWS := hid hnews; have HONE := hid hone; have HTY := hid (show (∀ (w' : World) (v' : Value), w'.ownsRow wE.heap.size 46 6 v' (first + gl) (cs.flatten ++ gs.flatten) → TysAt S0 wE w' v' (dc.types ++ g)) from fun w' v' q => hty q); have HBOX3 := hid hbox3; have HCL3 := hid hcl3; have HW3 := hid hW3; have HU3E := hid hu3E; have HNB := hid hnb
      have HSZ := hid (show wE.heap.size ≤ W3.drew.heap.size from hu3E.size)
      have HS3 := hid (show W3.heap.size = wc.heap.size by rw [hW3]; simp [World.setCell])
      clear hAL hdlw hnSt hboxc hcl hu3 hbox3 hcl3 hu3E htys3 own hnews hone hty hW3 hnb z6
      go_wp2_with fail
      rw [← HW3.out]
      clear c0 c1 f1
      refine wp_region_midX (fun x : ExtU (fun q => (Value.slice at2 first ct2).ownBlock = some q) W3 => x.val) 7 [0, 1, 2, 3, 4, 5] [6] (by kernel_rfl) (by kernel_rfl) (by kernel_rfl) (by kernel_rfl) (by rintro c a (_ | d) v w h <;> exact h) ⟨⟨_, (Upd.refl _ _).drew⟩, rfl⟩ ?_
      simp only [pickO, List.getD_cons_succ, List.getD_cons_zero, List.drop_succ_cons, List.drop_zero]
      repeat (go_big_quiet_step (fail))
      refine wpQuiet_nil ?_
      unfold wpMids
      go_wp2_with (at_builtin; refine wpList_append_row_at _ rfl _ _ 97 rfl wE.heap.size 46 i0 _ 6 112 Tryz.underlying97 Hi.out Hz0.out Hz1.out Hz2.out rfl (by decide) _ _ _ rfl OWN.out _ gl _ rfl HNEWS.out HONE.out (by unfold maxLen; omega) (by omega) HSZ.out ?_)
      intro v9 w9 o9 gr9 mv9
      obtain ⟨a9, c9, rfl, -⟩ := ownsRow_form o9
      have gr9' : (wc.setCell ⟨d, 1, none⟩ (.slice a7 (first + gl) c7)).grownBy w9 (Value.slice at2 first ct2).ownBlock := by rw [← HW3.out]; exact ⟨gr9.os, gr9.tape, gr9.output, gr9.size, gr9.block⟩
      have mv9' : (Value.slice a9 (first + gl) c9).ownBlock = (Value.slice at2 first ct2).ownBlock ∨ (Value.slice a9 (first + gl) c9).ownBlock = some wc.heap.size := by rw [← HS3.out]; exact mv9
      have hw1d : Below w.heap.size w W1.drew := HBE1.out.drew
      obtain ⟨T', hd6, hT'⟩ := H.out.grow hw1d HT2.out HC2.out HI2.out HUP2.out HFR2.out HRR2.out gr9' mv9' o9 (HTY.out _ _)
      have f9 : w9.heap[d]? = some (.cells #[.pointer (some ⟨t, 0, none⟩), .slice a7 (first + gl) c7, .slice at2 first ct2, vd] 104 (0, 0)) := by
        rw [gr9.block d (heap_lt HBOX3.out) (fun e => HNB.out d (.inr (.inr rfl)) e.symm)]
        exact HBOX3.out
      have hu9 : Upd (fun q => (Value.slice at2 first ct2).ownBlock = some q) W3 w9 := ((Upd.refl _ W3).drew).grown gr9 (fun q hq => .inl hq)
      have hcl9 := (HCL3.out.keep hu9 ⟨HNB.out b2 (.inl rfl), HNB.out b3 (.inr (.inl rfl)), fun e => by have := (H.out.td b6 (H.out.tt b6 e)).1; have := HB.out; omega⟩).keep (Upd.setCell (S := fun b => b = d) (a := w9) (Upd.refl _ _) (.inl rfl) (.slice a9 (first + gl) c9) : Upd (fun b => b = d) w9 (w9.setCell ⟨d, 2, none⟩ (.slice a9 (first + gl) c9))) ⟨fun e => by have := HB.out; have := heap_lt H.out.box; omega, fun e => by have := HB.out; have := heap_lt H.out.box; omega, fun e => by have := HB.out; have := heap_lt H.out.box; omega⟩
      have f9c := heap_cell f9 2
      have f9f := heap_frozen f9 2
      simp only [List.getElem?_toArray, List.getElem?_cons_succ, List.getElem?_cons_zero] at f9c
      have HD6 := hid hd6; have HTT := hid hT'; have HU9 := hid hu9; have HCL9 := hid hcl9
      clear d1 d2 d3 o9 gr9 gr9' mv9 mv9' hw1d hd6 hT' f9 hu9 hcl9 OWN HNEWS HONE HTY
      go_wp2
      refine ⟨⟨⟨_, HU9.out⟩, rfl⟩, ?_⟩
      unfold wpMids
      go_wp2_with fail
      obtain ⟨W6, hW6⟩ : ∃ W6 : World, W6 = w9.setCell ⟨d, 2, none⟩ (.slice a9 (first + gl) c9) := ⟨_, rfl⟩
      rw [← hW6] at HD6 HCL9
      rw [← hW6]
      have HW6 := hid hW6
      have v3 := heap_cell HCL9.out.g 0
      simp only [List.getElem?_toArray, List.getElem?_cons_zero] at v3
      rw [HGL.out] at v3
      clear hW6 f9c f9f
      have hx0 := fun w => (idx_rounds b2 b3 b6 w).1
      have hx1 := fun w => (idx_rounds b2 b3 b6 w).2
      refine wp_loop_rounds 3 ?_
      rw [rounds_succ]
      go_wp2_with fail
      go_loopw [63] (fun t63 wr => ∃ j : Nat, t63 = .int .i64 j ∧ j ≤ gl ∧ standAll (dc.types ++ g) g first = standAll (dc.types ++ g) (g.drop j) (first + j) ∧ Below W6.heap.size W6 wr) (fun t63 _ => gl - (intOf t63).toNat)
      case atStart => exact ⟨0, rfl, Nat.zero_le _, rfl, Below.refl _ _⟩
      case round =>
        obtain ⟨j, rfl, hj, hst, hbe⟩ := hrel
        by_cases hlt : j < gl
        · obtain ⟨x, hx⟩ : ∃ x, g[j]? = some x := ⟨g[j]'(by rw [HGL.out]; exact hlt), by simp⟩
          have hd := HD6.out.below hbe
          have C := clo1_any hd (HCL9.out.below hbe) (HG.out.at hd.up) hx (by have := (HR.out.sm x (List.mem_of_getElem? hx)).small.1; omega) (by dsimp only; rw [List.length_append, OK.out.tl, HF.out, HGL.out]; omega) (by rw [HGL.out]; have := HL.out; have := HF.out; have := HGL.out; omega)
          obtain ⟨sv, hsv⟩ : ∃ sv, standsD (dc.types ++ g) x (first + j) = sv := ⟨_, rfl⟩
          dsimp only at C
          rw [hsv] at C
          have C := hid C
          have hlt' : (j : Int) < gl := by omega
          have hj6 : (j : Int) ≤ 100000 := by omega
          have HX := hid hx; have HSV := hid hsv; have HST := hid hst; have HBE := hid hbe; have HLT := hid hlt
          have v3' := (hbe.cell (World.block_lt_of_cell? _ _ v3)).trans v3
          clear hd hx hsv hst hbe hlt hj
          go_wp2_with fail
          refine C.out.mono ?_
          rintro e w1 ⟨rfl, hb1⟩
          have hbw : Below W6.heap.size W6 w1 := HBE.out.trans (hb1.mono HBE.out.size)
          have HBW := hid hbw
          have v6 := heap_cell (HCL9.out.below hbw).f 0
          simp only [List.getElem?_toArray, List.getElem?_cons_zero] at v6
          clear hb1 hbw C v3'
          by_cases h0 : sv = 0
          · subst h0
            clear v6
            go_wp2
            go_roundw
            case rel => exact ⟨j + 1, by go_num, HLT.out, by rw [HST.out]; exact standAll_step HX.out HSV.out, HBW.out⟩
            case measure => have := HLT.out; simp [intOf]; omega
          · have h01 : (sv != 0) = true := by simpa using h0
            have HE := hid h0
            clear h0
            go_wp2
            go_quiet (fail)
            go_wp2
            go_ret2
            have hd := (HD6.out.below HBW.out).below (below_drewA w1 nq)
            have hA2 := (addD_two HA.out HER.out).1 sv (first + j) (by rw [HF.out, HST.out, standAll_bad HX.out (by rw [HSV.out]; exact HE.out), HSV.out]) HE.out
            have hz := DcAddP.bad (R := R) (T := T) (w := w) hA2 HE.out HRE.out hd
            rw [Int.natCast_add] at hz
            exact hz
        · obtain rfl : j = gl := by omega
          have hst0 : (standAll (dc.types ++ g) g first).1 = 0 := by
            rw [hst, List.drop_of_length_le (Nat.le_of_eq HGL.out)]; rfl
          have HST := hid hst0; have HBE := hid hbe
          have hlt' : ¬ (j : Int) < j := by omega
          have v3' := (hbe.cell (World.block_lt_of_cell? _ _ v3)).trans v3
          clear hlt hj hst hst0 hbe
          go_wp2_with fail
          rw [rounds_succ]
          go_wp2_with fail
          go_loopw [63] (fun t63 wz => ∃ (k : Nat) (ds : List Int) (T2 : Nat → Prop) (vd2 : Value), t63 = .int .i64 k ∧ k ≤ j ∧ matchAll (tabL A.2.2) A.1 g first dc.depths = matchAll (tabL A.2.2) A.1 (g.drop k) (first + k) ds ∧ ds.length = first + k ∧ (∀ x ∈ ds, 0 ≤ x ∧ x ≤ 63) ∧ DcAt w0 S0 wE S2 R2 T2 wz t d ⟨A.1, dc.types ++ g, ds, A.2.2⟩ (.slice a7 (first + j) c7) (.slice a9 (first + j) c9) vd2 ∧ CloAt wz d b2 b3 b6 ag g.length cg first ∧ W6.heap.size ≤ wz.heap.size ∧ ∀ b, T2 b → T' b ∨ W6.heap.size ≤ b) (fun t63 _ => j - (intOf t63).toNat)
          case atStart => exact ⟨0, dc.depths, T', vd, rfl, Nat.zero_le _, rfl, by rw [OK.out.dl, HF.out]; rfl, OK.out.dep, HD6.out.below HBE.out, HCL9.out.below HBE.out, HBE.out.size, fun b hb => .inl hb⟩
          case round =>
            obtain ⟨k, ds, T2, vd2, rfl, hk, hma, hdl, hdp, hd, hcl, hsz, hT2⟩ := hrel
            by_cases hlt : k < j
            · obtain ⟨x, hx⟩ : ∃ x, g[k]? = some x := ⟨g[k]'(by rw [HGL.out]; exact hlt), by simp⟩
              have C := clo2_any hd hcl (HG.out.at hd.up) hx (by have := (HR.out.sm x (List.mem_of_getElem? hx)).small.1; omega) (by dsimp only; rw [HAL.out]; omega) hdl (by dsimp only; rw [HAL.out]; have := HL.out; have := HF.out; have := HGL.out; omega) (by rw [HGL.out]; have := HL.out; have := HF.out; have := HGL.out; omega)
                (stands_super (standAll_eachD HST.out k x hx)) (by
                  dsimp only
                  rcases addG_fact dc.gs dc.ids g with ⟨q, _⟩ | ⟨_, q⟩
                  · rw [HA.out, HER.out] at q; exact absurd rfl q
                  · rw [HA.out] at q; exact q.inn) hdp
              dsimp only at C
              obtain ⟨M, hM⟩ : ∃ M, matchesD (tabL A.2.2) A.1 ds x (first + k) = M := ⟨_, rfl⟩
              rw [hM] at C
              have hkp := fun q : M.1 = 0 => matchesD_keeps (ts := tabL A.2.2) (ids := A.1) (ds := ds) (s := x) (n := first + k) (by rw [hM]; exact q) hdp
              rw [hM] at hkp
              obtain ⟨sv, ds2⟩ := M
              have C := hid C
              have hlt' : (k : Int) < j := by omega
              have hk6 : (k : Int) ≤ 100000 := by omega
              have v3' := heap_cell hcl.g 0
              simp only [List.getElem?_toArray, List.getElem?_cons_zero] at v3'
              rw [HGL.out] at v3'
              have HX := hid hx; have HM := hid hM; have HMA := hid hma; have HDL := hid hdl; have HKP := hid hkp; have HCL := hid hcl; have HSZ2 := hid hsz; have HT2 := hid hT2; have HLT := hid hlt; have HD := hid hd
              clear hd hx hM hma hdl hdp hkp hcl hsz hT2 hlt hk
              go_wp2_with fail
              refine C.out.mono ?_
              rintro e w1 ⟨rfl, T3, vd3, hd3, hu3, hf3⟩
              have hnT : ∀ b, (b = b2 ∨ b = b3 ∨ b = b6) → ¬ (T2 b ∨ b = d) := fun b hb q => by
                have hBB := HB.out
                have k1 := heap_lt HCL9.out.p; have k2 := heap_lt HCL9.out.g; have k3 := heap_lt HCL9.out.f
                rcases q with q | q
                · rcases HT2.out b q with q | q
                  · rcases HTT.out b q with q | q
                    · have := (H.out.td b q).1; omega
                    · have := HSZ1.out; have := HUP2.out.size; have : W1.drew.heap.size = W1.heap.size := rfl; omega
                  · rcases hb with rfl | rfl | rfl <;> omega
                · have := heap_lt H.out.box; omega
              have hcl3 := HCL.out.keep hu3 ⟨hnT b2 (.inl rfl), hnT b3 (.inr (.inl rfl)), hnT b6 (.inr (.inr rfl))⟩
              have v6 := heap_cell hcl3.f 0
              simp only [List.getElem?_toArray, List.getElem?_cons_zero] at v6
              have HD3 := hid hd3; have HCL3' := hid hcl3; have HU3 := hid hu3; have HF3 := hid hf3
              clear hd3 hu3 hf3 hnT hcl3 C v3'
              dsimp only
              by_cases h0 : sv = 0
              · subst h0
                clear v6
                go_wp2
                go_roundw
                case rel =>
                  obtain ⟨e1, e2⟩ := HKP.out rfl
                  exact ⟨k + 1, ds2, T3, vd3, by go_num, HLT.out, by rw [HMA.out, matchAll_step HX.out (by rw [HM.out]), HM.out], by rw [e1, HDL.out]; omega, e2, HD3.out, HCL3'.out, Nat.le_trans HSZ2.out HU3.out.size, fun b hb => (HF3.out b hb).elim (HT2.out b) (fun q => .inr (Nat.le_trans HSZ2.out q))⟩
                case measure => have := HLT.out; simp [intOf]; omega
              · have h01 : (sv != 0) = true := by simpa using h0
                have HE := hid h0
                clear h0
                go_wp2
                go_quiet (fail)
                go_wp2
                go_ret2
                have hd := HD3.out.below (below_drewA w1 nq)
                have hA2 := (addD_two HA.out HER.out).2 (by rw [HF.out]; exact HST.out) sv (first + k) ds2 (by rw [HF.out, HMA.out, matchAll_bad HX.out (by rw [HM.out]; exact HE.out), HM.out])
                rw [if_pos HE.out] at hA2
                have hz := DcAddP.bad (R := R) (T := T) (w := w) hA2 HE.out HRE.out hd
                rw [Int.natCast_add] at hz
                exact hz
            · obtain rfl : k = j := by omega
              have hma0 : matchAll (tabL A.2.2) A.1 g first dc.depths = (0, 0, ds) := by
                rw [hma, List.drop_of_length_le (Nat.le_of_eq HGL.out)]; rfl
              have hlt' : ¬ (k : Int) < k := by omega
              have v3' := heap_cell hcl.g 0
              simp only [List.getElem?_toArray, List.getElem?_cons_zero] at v3'
              rw [HGL.out] at v3'
              have HMA := hid hma0; have HD := hid hd
              clear hlt hma hdl hdp hd hcl hsz hT2 hma0 hk
              go_wp2_with fail
              rw [rounds_succ]
              go_wp2_with fail
              go_ret2
              have hA2 := (addD_two HA.out HER.out).2 (by rw [HF.out]; exact HST.out) 0 0 ds (by rw [HF.out]; exact HMA.out)
              exact DcAddP.good (R := R) (T := T) (w := w) (by simpa using hA2) HRE.out HD.out
    · have h51 : (er == 5) = false := by simpa using h5
      have h01 : (er == 0) = false := by simpa using h0
      go_wp2
      go_quiet (fail)
      go_wp2
      go_ret2
      exact DcAddP.err HA.out (by rw [HER.out]; exact h0) HT2.out HC2.out HUPE.out HFRE.out HRE.out (below_drewA _ _) (by rw [HER.out, if_neg h5]) HF.out
end
section
open Go.RowKit Go.Maps Go.WideMaps
structure GrpsK (S0 : Nat → Prop) (wE : World) (v : Value) (l : List (List Sb)) : Prop where
  ex : ∃ vs : List Value, vs.length = l.length ∧ (∀ w'', Upd S0 wE w'' → RowAt w'' 1 v l.length vs) ∧ ∀ (i : Nat) x g, vs[i]? = some x → l[i]? = some g → GrpK S0 wE x g
theorem GrpsK.of {S0 : Nat → Prop} {w wE : World} {v : Value} {l : List (List Sb)} (h : GrpsAt w v l) (hb : Below w.heap.size w wE) (hS : ∀ b, S0 b → w.heap.size ≤ b) : GrpsK S0 wE v l := by
  obtain ⟨vs, h1, h2, h3⟩ := h.ex
  refine ⟨vs, h1, fun w'' hu => h2.keep fun p u hp => ?_, fun i x g hx hg => GrpK.of (h3 i x g hx hg) hb hS⟩
  have hlt := World.block_lt_of_cell? _ _ hp
  exact hu.cell_some (by rw [hb.cell hlt]; exact hp) (fun q => by have := hS _ q; omega)
theorem GrpK.next {S0 : Nat → Prop} {wE w : World} {v : Value} {g : List Sb} (h : GrpK S0 wE v g) (u : Upd S0 wE w) : GrpK S0 w v g := by
  obtain ⟨cs, h1, h2, h3⟩ := h.ex
  exact ⟨cs, h1, h2, fun w'' hu => h3 w'' (u.trans' hu)⟩
theorem GrpsK.next {S0 : Nat → Prop} {wE w : World} {v : Value} {l : List (List Sb)} (h : GrpsK S0 wE v l) (u : Upd S0 wE w) : GrpsK S0 w v l := by
  obtain ⟨vs, h1, h2, h3⟩ := h.ex
  exact ⟨vs, h1, fun w'' hu => h2 w'' (u.trans' hu), fun i x g hx hg => (h3 i x g hx hg).next u⟩
theorem GrpsK.form {S0 : Nat → Prop} {wE : World} {v : Value} {l : List (List Sb)} (h : GrpsK S0 wE v l) : ∃ ao cap, v = .slice ao l.length cap := by
  obtain ⟨vs, h1, h2, h3⟩ := h.ex
  exact RowAt.form (h2 wE (Upd.refl _ _))
theorem GrpsK.at {S0 : Nat → Prop} {wE w : World} {ao : Option Addr} {cap : Nat} {l : List (List Sb)} (h : GrpsK S0 wE (.slice ao l.length cap) l) (hu : Upd S0 wE w) {i : Nat} {g : List Sb} (hi : l[i]? = some g) : ∃ b off a c, ao = some ⟨b, off, none⟩ ∧ w.cell? ⟨b, off + i, none⟩ = some (.slice a g.length c) ∧ GrpK S0 wE (.slice a g.length c) g := by
  obtain ⟨vs, h1, h2, h3⟩ := h.ex
  have hlt := (List.getElem?_eq_some_iff.1 hi).1
  obtain ⟨b, off, rfl, _, _, hc⟩ := RowAt.at (h2 w hu) (by decide) (by omega)
  obtain ⟨x, hx⟩ : ∃ x, vs[i]? = some x := ⟨vs[i]'(by omega), by simp⟩
  have hg := h3 i x g hx hi
  obtain ⟨a, c, rfl⟩ := (hg.at (Upd.refl _ _)).form
  exact ⟨b, off, a, c, rfl, by rw [hc i (by omega), hx], hg⟩
def CheckP (w0 : World) (S R : Nat → Prop) (w : World) (t : Nat) (A : Int × Nat × DcS) (e : Ending) (w' : World) : Prop :=
  ∃ u S' R', e = .returned (.tuple #[u, .int .i64 A.1, .int .i64 A.2.1]) ∧ TabN w0 S' R' w' t A.2.2.gs ∧ TabC A.2.2.gs ∧ (∀ w'', Upd (fun b => S' b ∨ b < w.heap.size) w' w'' → IntsAt w'' u (if A.1 = 0 then A.2.2.ids else [])) ∧ Upd S w w' ∧ Fresh S w S' ∧ Fresh R w R'
variable {w0 w : World} {S R : Nat → Prop} {t : Nat} {gs : List (List Sb)}
theorem dcAt_new (ht : TabN w0 S R w t gs) (hc : TabC gs) : DcAt w0 S w S R (fun _ => False) (w.alloc (.cells #[.pointer (some ⟨t, 0, none⟩), .slice none 0 0, .slice none 0 0, .slice none 0 0] 104)) t w.heap.size ⟨[], [], [], gs⟩ (.slice none 0 0) (.slice none 0 0) (.slice none 0 0) := by
  have hb := (Below.refl w.heap.size w).alloc (Nat.le_refl _) (.cells #[.pointer (some ⟨t, 0, none⟩), .slice none 0 0, .slice none 0 0, .slice none 0 0] 104)
  exact ⟨ht.below hb, hc, heap_alloc_at _ _ rfl, fun w'' _ => RowAt.nil w'' 1, ⟨[], rfl, by simp, by simp, ⟨by simp, .inl ⟨rfl, rfl⟩⟩, fun i c x h => (by simp at h)⟩, ⟨by simp, .inl ⟨rfl, rfl⟩⟩, fun b h => (by cases h), fun b h => (by cases h), fun b h => False.elim h, ⟨fun h => by have := (ht.tab.lt _ h).1; omega, fun h => by have := ht.tab.rlt _ h; omega, Nat.le_refl _⟩, Upd.of_below hb, Fresh.refl _ _, ht.be.size⟩
theorem checkD_cons {d : DcS} {g : List Sb} {l : List (List Sb)} {i : Nat} (h : l[i]? = some g) : checkD d (l.drop i) = if (addD d g).1 ≠ 0 then addD d g else checkD (addD d g).2.2 (l.drop (i + 1)) := by
  have hlt := (List.getElem?_eq_some_iff.1 h).1
  rw [List.drop_eq_getElem_cons hlt, (List.getElem?_eq_some_iff.1 h).2, checkD]
theorem sum_drop {l : List (List Sb)} {i : Nat} {g : List Sb} (h : l[i]? = some g) : ((l.drop i).map List.length).sum = g.length + ((l.drop (i + 1)).map List.length).sum := by
  have hlt := (List.getElem?_eq_some_iff.1 h).1
  rw [List.drop_eq_getElem_cons hlt, (List.getElem?_eq_some_iff.1 h).2]; simp
set_option maxRecDepth 100000 in
set_option maxHeartbeats 32000000 in
theorem check_any (v : Value) (l : List (List Sb)) (ht : TabN w0 S R w t gs) (hc : TabC gs) (hg : GrpsK S w v l) (hr : ∀ g ∈ l, RawG g) (hsum : (l.map List.length).sum ≤ 100000) (hl : l.length ≤ 100000) (htab : Tab w0) :
    Calls Tryz.prog 10 #[.pointer (some ⟨t, 0, none⟩), v] w (CheckP w0 S R w t (checkD ⟨[], [], [], gs⟩ l)) := by
  obtain ⟨ao, cap, rfl⟩ := hg.form
  obtain ⟨n, hn⟩ : ∃ n, l.length = n := ⟨_, rfl⟩
  have C0 := hid (dcNone_any ht.tab ht.ok.total)
  have HT := hid ht; have HC := hid hc; have HG := hid hg; have HR := hid hr; have HSUM := hid hsum; have HTAB := hid htab; have HN := hid hn; have HL := hid hl
  rw [hn]
  clear ht hc hg hr hsum htab hn hl
  go_enter Tryz.func10, Tryz.ntmps10
  go_wp2_with fail
  refine C0.out.mono ?_
  rintro e w1 ⟨rfl, hb1⟩
  have hd := dcAt_new (HT.out.below hb1) HC.out
  obtain ⟨d, hd1⟩ : ∃ d, w1.heap.size = d := ⟨_, rfl⟩
  rw [hd1] at hd
  have HB1 := hid hb1; have HD := hid hd; have HD1 := hid hd1
  clear hb1 hd hd1
  go_wp2_with fail
  rw [HD1.out]
  obtain ⟨W2, hW2⟩ : ∃ W2 : World, W2 = w1.alloc (.cells #[.pointer (some ⟨t, 0, none⟩), .slice none 0 0, .slice none 0 0, .slice none 0 0] 104) := ⟨_, rfl⟩
  have hd2 := HD.out
  rw [← hW2] at hd2
  have HD2 := hid hd2
  rw [← hW2]
  clear hd2 hW2
  go_slots
  go_loopw [18] (fun t18 wr => ∃ (i : Nat) (S1 R1 T1 : Nat → Prop) (dc : DcS) (vi vt vd : Value), t18 = .int .i64 i ∧ i ≤ n ∧ DcAt w0 S w1 S1 R1 T1 wr t d dc vi vt vd ∧ DcOk dc ∧ checkD ⟨[], [], [], gs⟩ l = checkD dc (l.drop i) ∧ Fresh R w1 R1 ∧ dc.ids.length + ((l.drop i).map List.length).sum ≤ 100000) (fun t18 _ => n - (intOf t18).toNat)
  case atStart => exact ⟨0, S, R, _, _, _, _, _, rfl, Nat.zero_le _, HD2.out, dcOk_new gs, rfl, Fresh.refl _ _, by simpa using HSUM.out⟩
  case round =>
    clear HD2
    obtain ⟨i, S1, R1, T1, dc, vi, vt, vd, rfl, hi, hd, hok, hck, hfr, hsm⟩ := hrel
    by_cases hlt : i < n
    · obtain ⟨g, hg⟩ : ∃ g, l[i]? = some g := ⟨l[i]'(by rw [HN.out]; exact hlt), by simp⟩
      obtain ⟨b, off, a, c, hao, p0, hgg⟩ := (HG.out.next (Upd.of_below HB1.out)).at hd.up hg
      subst hao
      have hsm2 := sum_drop hg
      have C := dcAdd_any hd hok _ g hgg (HR.out g (List.mem_of_getElem? hg)) HTAB.out (by omega)
      have hck2 := checkD_cons (d := dc) hg
      obtain ⟨A, hA⟩ : ∃ A, addD dc g = A := ⟨_, rfl⟩
      have hok2 := fun q : A.1 = 0 => dcOk_add (g := g) hok (by rw [hA]; exact q)
      have hl2 : A.1 = 0 → A.2.2.ids.length = dc.ids.length + g.length := fun q => by
        obtain ⟨k1, k2, _, _⟩ := addD_ok (d := dc) (g := g) (by rw [hA]; exact q)
        obtain ⟨r, e1, e2⟩ := addG_pre k1
        rw [← hA, k2, e1, List.length_append, e2]
      rw [hA] at C hck2 hok2
      rw [hck2] at hck
      obtain ⟨er, pl, dc2⟩ := A
      dsimp only at hck hok2 hl2
      have C := hid C
      have hlt' : (i : Int) < n := by omega
      have hi6 : (i : Int) < 1000000 := by have := HN.out; have := HL.out; omega
      have HG2 := hid hg; have HCK := hid hck; have HOK2 := hid hok2; have HL2 := hid hl2; have HSM := hid hsm; have HSM2 := hid hsm2; have HFR := hid hfr; have HDR := hid hd.up.size; have HI := hid hlt; have HA := hid hA
      clear hg hgg hsm2 hck2 hok2 hl2 hck hsm hfr hlt hi hd hok hA
      go_wp2_with fail
      refine C.out.mono ?_
      rintro e w2 ⟨S', R', rfl, h1, h2, h3, h4, h5, h6⟩
      have H1 := hid h1; have H2 := hid h2; have H3 := hid h3; have H4 := hid h4; have H5 := hid h5; have H6 := hid h6
      clear h1 h2 h3 h4 h5 h6 C p0
      dsimp only
      by_cases h0 : er = 0
      · subst h0
        go_wp2
        go_roundw
        case rel =>
          obtain ⟨T', vi', vt', vd', hd2⟩ := H6.out rfl
          refine ⟨i + 1, S', R', T', dc2, vi', vt', vd', by go_num, HI.out, hd2, HOK2.out rfl, ?_, fun k hk => (H5.out k hk).elim (HFR.out k) (fun q => .inr (Nat.le_trans HDR.out q)), ?_⟩
          · rw [HCK.out, if_neg (by simp)]
          · have := HL2.out rfl; have := HSM.out; have := HSM2.out; omega
        case measure => have := HI.out; simp [intOf]; omega
      · have h01 : (er != 0) = true := by simpa using h0
        have HE := hid h0
        clear h0
        go_wp2
        go_ret3
        have hck := HCK.out
        rw [if_pos HE.out] at hck
        rw [hck]
        refine ⟨_, S', R', rfl, H1.out, H2.out, fun w'' _ => ?_, (Upd.of_below HB1.out).trans' H3.out, fun k hk => (H4.out k hk).imp id (fun q => Nat.le_trans HB1.out.size q), fun k hk => (H5.out k hk).elim (fun q => (HFR.out k q).imp id (fun q => Nat.le_trans HB1.out.size q)) (fun q => .inr (Nat.le_trans HB1.out.size (Nat.le_trans HDR.out q)))⟩
        rw [if_neg HE.out]; exact RowAt.nil w'' 1
    · obtain rfl : i = n := by omega
      have hck0 : checkD ⟨[], [], [], gs⟩ l = (0, 0, dc) := by
        rw [hck, List.drop_of_length_le (Nat.le_of_eq HN.out), checkD]
      have hlt' : ¬ (i : Int) < i := by omega
      obtain ⟨x0, x1, x2, x3⟩ := hd.cells
      obtain ⟨ai, ci, rfl⟩ := RowAt.form (hd.ids wr (Upd.refl _ _))
      have HD := hid hd; have HCK := hid hck0; have HFR := hid hfr
      clear hck hsm hfr hlt hi hd hok hck0
      go_wp2
      go_ret3
      rw [HCK.out]
      have hd := HD.out
      refine ⟨_, S1, R1, rfl, hd.tab, hd.c, fun w'' hu => ?_, (Upd.of_below HB1.out).trans' hd.up, fun k hk => (hd.fr k hk).imp id (fun q => Nat.le_trans HB1.out.size q), fun k hk => (HFR.out k hk).imp id (fun q => Nat.le_trans HB1.out.size q)⟩
      rw [if_pos rfl]
      exact hd.ids w'' (hu.mono fun b _ q => q.imp id (fun q => .inr (.inr (by have := HB1.out.size; omega))))
end
section
open Go.RowKit
variable {S0 : Nat → Prop} {wE w : World} {vt : Value} {all : List Sb}
theorem deepA_le {all : List Sb} {m : Nat} (hS : StoodA all m) : ∀ (k i : Nat), i ≤ k → i < m → deepA all i ≤ i := by
  intro k
  induction k with
  | zero =>
    intro i h0 hi
    cases hy : all[i]? with
    | none => unfold deepA; rw [depA, hy]; exact Nat.zero_le _
    | some y =>
      rcases hS i y hi hy with h | ⟨a, h, ha⟩
      · rw [deepA_nil hy h]; exact Nat.zero_le _
      · omega
  | succ k ih =>
    intro i h0 hi
    cases hy : all[i]? with
    | none => unfold deepA; rw [depA, hy]; exact Nat.zero_le _
    | some y =>
      rcases hS i y hi hy with h | ⟨a, h, ha⟩
      · rw [deepA_nil hy h]; exact Nat.zero_le _
      · rw [deepA_sup hS hi hy h ha]
        have := ih a (by omega) (by omega)
        omega
set_option maxRecDepth 100000 in
set_option maxHeartbeats 4000000 in
theorem deep_ref (ht : TysAt S0 wE w vt all) (hu : Upd S0 wE w) {m n : Nat} (hS : StoodA all m) (hn : n < m) (hm : m ≤ all.length) (hl : all.length ≤ 100000) : Calls Tryz.prog 30 #[vt, .int .i64 n] w fun e w' => e = .returned (.int .i64 (deepA all n)) ∧ Below w.heap.size w w' := by
  obtain ⟨y0, hy0⟩ : ∃ y, all[n]? = some y := ⟨all[n]'(by omega), by simp⟩
  obtain ⟨b, cap, _, _, _, _, _, _, _, _, rfl, _⟩ := ht.at hu hy0
  obtain ⟨ln, hln⟩ : ∃ ln, all.length = ln := ⟨_, rfl⟩
  have HL := hid hln
  have H := hid ht; have HU := hid hu; have HS := hid hS; have HN := hid hn; have HM := hid hm; have HL6 := hid hl
  rw [hln]
  clear ht hu hS hn hm hl hy0 hln
  go_enter Tryz.func30, Tryz.ntmps30
  go_wp2
  go_loopw [1, 5] (fun t1 t5 wr => ∃ (i k : Nat), t1 = .int .i64 i ∧ t5 = .int .i64 k ∧ i < m ∧ k + deepA all i = deepA all n ∧ Below w.heap.size w wr) (fun t1 _ _ => (intOf t1).toNat)
  case atStart => exact ⟨n, 0, rfl, rfl, HN.out, by omega, Below.refl _ _⟩
  case round =>
    obtain ⟨i, k, rfl, rfl, hi, hk, hb⟩ := hrel
    have hil : i < all.length := by have := HM.out; omega
    obtain ⟨y, hy⟩ : ∃ y, all[i]? = some y := ⟨all[i], by simp [hil]⟩
    have ht := H.out.below hb
    obtain ⟨b', cap', a1, c1, a2, c2, a3, c3, a4, c4, e, hsub, p0, p1, p2, p3, p4, p5⟩ := ht.at (HU.out.trans' (Upd.of_below hb)) hy
    rw [HL.out] at e
    simp only [Value.slice.injEq, Option.some.injEq, Addr.mk.injEq, and_true, true_and] at e
    obtain ⟨rfl, rfl⟩ := e
    have hil' : (i : Int) < ln := by have := HL.out; omega
    have hi6 : (i : Int) < 1000000 := by have := HL6.out; omega
    have hdn := deepA_le HS.out n n (Nat.le_refl _) HN.out
    have hk6 : (k : Int) < 1000000 := by have := HL6.out; have := HM.out; have := HN.out; omega
    have HB := hid hb; have HK := hid hk; have HI := hid hi; have HY := hid hy
    obtain ⟨sl, hsl⟩ : ∃ sl, y.sups.length = sl := ⟨_, rfl⟩
    rw [hsl] at p1
    have HSL := hid hsl
    rcases HS.out i y hi hy with hnil | ⟨a, hsup, ha⟩
    · have h0 : sl = 0 := by rw [← hsl, hnil]; rfl
      subst h0
      have HD := hid (show deepA all n = k by rw [← hk, deepA_nil hy hnil]; rfl)
      clear hnil hb hk hi hy hsl ht hsub hdn hil
      go_wp2
      go_ret
      rw [HD.out]
      exact ⟨rfl, HB.out⟩
    · have h1 : sl = 1 := by rw [← hsl, hsup]; rfl
      subst h1
      obtain ⟨pb, po, hpa, hpb, q0, q1⟩ := hps_at hsub.sups (i := 0) (x := ⟨13, (a : Nat)⟩) (by rw [hsup]; rfl)
      subst hpa
      simp only [Nat.zero_mul, Nat.add_zero] at q0 q1
      have HA := hid ha
      have HD := hid (show k + 1 + deepA all a = deepA all n by rw [← hk, deepA_sup HS.out hi hy hsup ha]; omega)
      clear hb hk hi hy hsl ht hsub hdn hil hsup ha hpb
      go_wp2
      go_roundw
      case rel => exact ⟨a, k + 1, rfl, by go_num, by have := HA.out; have := HI.out; omega, HD.out, HB.out⟩
      case measure => have := HA.out; simp [intOf]; omega
end
end Go.Proofs.YtpddbaijnjbfdaaGreatDoor
