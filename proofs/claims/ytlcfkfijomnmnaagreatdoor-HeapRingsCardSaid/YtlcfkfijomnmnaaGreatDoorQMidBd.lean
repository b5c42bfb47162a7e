import Derived.Test.YtlcfkfijomnmnaaGreatDoorQDcMatchBd
namespace Go.Proofs.YtlcfkfijomnmnaaGreatDoor
open Lib (hid)
section
open Go.RowKit Go.Maps Go.WideMaps
variable {w0 wE w : World} {S0 S R T : Nat → Prop} {t d : Nat} {dc : DcS} {vi vt vd : Value}
structure CloAt (w : World) (d b2 b3 b6 : Nat) (ag : Option Addr) (gl cg first : Nat) : Prop where
  p : w.heap[b2]? = some (.cells #[.pointer (some ⟨d, 0, none⟩)] 100 (0, 0))
  g : w.heap[b3]? = some (.cells #[.slice ag gl cg] 47 (0, 0))
  f : w.heap[b6]? = some (.cells #[.int .i64 first] 3 (0, 0))
theorem CloAt.keep {w' : World} {b2 b3 b6 : Nat} {ag : Option Addr} {gl cg first : Nat} (h : CloAt w d b2 b3 b6 ag gl cg first) {W : Nat → Prop} (hu : Upd W w w') (hW : ¬ W b2 ∧ ¬ W b3 ∧ ¬ W b6) : CloAt w' d b2 b3 b6 ag gl cg first :=
  ⟨hu.heap_some h.p hW.1, hu.heap_some h.g hW.2.1, hu.heap_some h.f hW.2.2⟩
theorem CloAt.below {w' : World} {b2 b3 b6 : Nat} {ag : Option Addr} {gl cg first : Nat} (h : CloAt w d b2 b3 b6 ag gl cg first) (hb : Below w.heap.size w w') : CloAt w' d b2 b3 b6 ag gl cg first :=
  h.keep (W := fun _ => False) (Upd.of_below hb) ⟨id, id, id⟩
set_option maxRecDepth 100000 in
set_option maxHeartbeats 8000000 in
theorem clo1_any (h : DcAt w0 S0 wE S R T w t d dc vi vt vd) {b2 b3 b6 : Nat} {ag : Option Addr} {cg first : Nat} {g : List Sb} (hc : CloAt w d b2 b3 b6 ag g.length cg first) (hg : GrpAt w (.slice ag g.length cg) g) {k : Nat} {x : Sb} (hx : g[k]? = some x) (hsm : x.sups.length ≤ 1000000) (hn : first + k ≤ dc.types.length) (hn6 : first + g.length ≤ 100000) :
    Calls Tryz.prog 37 #[.int .i64 k, .pointer (some ⟨b2, 0, none⟩), .pointer (some ⟨b3, 0, none⟩), .pointer (some ⟨b6, 0, none⟩)] w fun e w' => e = .returned (.int .i64 (standsD dc.types x (first + k))) ∧ Below w.heap.size w w' := by
  have hkl := (List.getElem?_eq_some_iff.1 hx).1
  obtain ⟨b, off, rfl, hb, a1, c1, a2, c2, a3, c3, a4, c4, sa, p0, p1, p2, p3, p4, p5⟩ := hg.at hx
  have y0 := heap_cell hc.p 0
  have y1 := heap_cell hc.g 0
  have y2 := heap_cell hc.f 0
  simp only [List.getElem?_toArray, List.getElem?_cons_zero] at y0 y1 y2
  have hd : Below w.heap.size w w.drew := (Below.refl _ _).drew
  have C := hid (dcStands_any (h.below hd) _ x (sa.below hd (Nat.le_refl _)) (first + k) hn hsm (by omega))
  have hkl' : (k : Int) < g.length := by omega
  have hk6 : (k : Int) < 1000000 := by omega
  have hf6 : (first : Int) ≤ 100000 := by omega
  obtain ⟨gl, hgl⟩ : ∃ gl, g.length = gl := ⟨_, rfl⟩
  rw [hgl] at hkl' y1
  clear h hc hg hx hsm hn hn6 hkl sa hd hb hgl
  go_enter Tryz.func37, Tryz.ntmps37
  go_wp2_with fail
  go_still_tail 8, (by kernel_rfl)
  change wpList _ _ _ _ _ w.drew
  go_wp2_with fail
  refine C.out.mono ?_
  rintro e w1 ⟨rfl, hb1⟩
  have HB := hid hb1
  clear hb1
  go_wp2
  go_ret
  exact ⟨rfl, (Below.refl w.heap.size w).drew.trans HB.out⟩
set_option maxRecDepth 100000 in
set_option maxHeartbeats 8000000 in
theorem clo2_any (h : DcAt w0 S0 wE S R T w t d dc vi vt vd) {b2 b3 b6 : Nat} {ag : Option Addr} {cg first : Nat} {g : List Sb} (hc : CloAt w d b2 b3 b6 ag g.length cg first) (hg : GrpAt w (.slice ag g.length cg) g) {k : Nat} {x : Sb} (hx : g[k]? = some x) (hsm : x.sups.length ≤ 1000000) (hn : first + k < dc.ids.length) (hlen : dc.depths.length = first + k) (hn6 : dc.ids.length ≤ 100000) (_ : first + g.length ≤ 100000)
    (hno : superD x = none) (hin : ∀ i ∈ dc.ids, inTab dc.gs i = true) (hdep : ∀ x ∈ dc.depths, 0 ≤ x ∧ x ≤ 63) :
    Calls Tryz.prog 39 #[.int .i64 k, .pointer (some ⟨b2, 0, none⟩), .pointer (some ⟨b3, 0, none⟩), .pointer (some ⟨b6, 0, none⟩)] w (DcM w0 S0 wE S R T w t d dc vi vt (matchesD (tabL dc.gs) dc.ids dc.depths x (first + k))) := by
  have hkl := (List.getElem?_eq_some_iff.1 hx).1
  obtain ⟨b, off, rfl, hb, a1, c1, a2, c2, a3, c3, a4, c4, sa, p0, p1, p2, p3, p4, p5⟩ := hg.at hx
  have y0 := heap_cell hc.p 0
  have y1 := heap_cell hc.g 0
  have y2 := heap_cell hc.f 0
  simp only [List.getElem?_toArray, List.getElem?_cons_zero] at y0 y1 y2
  have hd : Below w.heap.size w w.drew := (Below.refl _ _).drew
  have C := hid (dcMatches_any (h.below hd) _ x (sa.below hd (Nat.le_refl _)) (first + k) hn hlen hsm hn6 hno hin hdep)
  have hkl' : (k : Int) < g.length := by omega
  have hk6 : (k : Int) < 1000000 := by omega
  have hf6 : (first : Int) ≤ 100000 := by omega
  obtain ⟨gl, hgl⟩ : ∃ gl, g.length = gl := ⟨_, rfl⟩
  rw [hgl] at hkl' y1
  clear h hc hg hx hsm hn hn6 hkl sa hd hb hgl hlen hno hin hdep
  go_enter Tryz.func39, Tryz.ntmps39
  go_wp2_with fail
  go_still_tail 8, (by kernel_rfl)
  change wpList _ _ _ _ _ w.drew
  go_wp2_with fail
  refine C.out.mono ?_
  rintro e w1 ⟨rfl, T', vd', h1, h2, h3⟩
  have H1 := hid h1; have H2 := hid h2; have H3 := hid h3
  clear h1 h2 h3
  go_wp2
  go_ret
  exact ⟨rfl, T', vd', H1.out, (Upd.of_below ((Below.refl w.heap.size w).drew)).trans' H2.out, H3.out⟩
end
section
open Go.RowKit
structure DcOk (d : DcS) : Prop where
  tl : d.types.length = d.ids.length
  dl : d.depths.length = d.ids.length
  inn : ∀ i ∈ d.ids, inTab d.gs i = true
  dep : ∀ x ∈ d.depths, 0 ≤ x ∧ x ≤ 63
theorem dcOk_new (gs : List (List Sb)) : DcOk ⟨[], [], [], gs⟩ := ⟨rfl, rfl, by simp, by simp⟩
theorem standAll_step {ty : List Sb} {g : List Sb} {n j : Nat} {x : Sb} (hx : g[j]? = some x) (h : standsD ty x (n + j) = 0) : standAll ty (g.drop j) (n + j) = standAll ty (g.drop (j + 1)) (n + (j + 1)) := by
  have hlt := (List.getElem?_eq_some_iff.1 hx).1
  rw [List.drop_eq_getElem_cons hlt, (List.getElem?_eq_some_iff.1 hx).2, standAll, if_neg (by simpa using h), Nat.add_assoc]
theorem standAll_bad {ty : List Sb} {g : List Sb} {n j : Nat} {x : Sb} (hx : g[j]? = some x) (h : standsD ty x (n + j) ≠ 0) : standAll ty (g.drop j) (n + j) = (standsD ty x (n + j), n + j) := by
  have hlt := (List.getElem?_eq_some_iff.1 hx).1
  rw [List.drop_eq_getElem_cons hlt, (List.getElem?_eq_some_iff.1 hx).2, standAll, if_pos h]
theorem matchAll_step {ts : List Sb} {ids ds : List Int} {g : List Sb} {n j : Nat} {x : Sb} (hx : g[j]? = some x) (h : (matchesD ts ids ds x (n + j)).1 = 0) : matchAll ts ids (g.drop j) (n + j) ds = matchAll ts ids (g.drop (j + 1)) (n + (j + 1)) (matchesD ts ids ds x (n + j)).2 := by
  have hlt := (List.getElem?_eq_some_iff.1 hx).1
  rw [List.drop_eq_getElem_cons hlt, (List.getElem?_eq_some_iff.1 hx).2, matchAll, if_neg (by simpa using h), Nat.add_assoc]
theorem matchAll_bad {ts : List Sb} {ids ds : List Int} {g : List Sb} {n j : Nat} {x : Sb} (hx : g[j]? = some x) (h : (matchesD ts ids ds x (n + j)).1 ≠ 0) : matchAll ts ids (g.drop j) (n + j) ds = ((matchesD ts ids ds x (n + j)).1, n + j, (matchesD ts ids ds x (n + j)).2) := by
  have hlt := (List.getElem?_eq_some_iff.1 hx).1
  rw [List.drop_eq_getElem_cons hlt, (List.getElem?_eq_some_iff.1 hx).2, matchAll, if_pos h]
theorem matchesD_keeps {ts : List Sb} {ids ds : List Int} {s : Sb} {n : Nat} (h : (matchesD ts ids ds s n).1 = 0) (hd : ∀ x ∈ ds, 0 ≤ x ∧ x ≤ 63) : (matchesD ts ids ds s n).2.length = ds.length + 1 ∧ ∀ x ∈ (matchesD ts ids ds s n).2, 0 ≤ x ∧ x ≤ 63 := by
  unfold matchesD at h ⊢
  have h0 : ∀ k, 0 ≤ ds.getD k 0 := fun k => by
    rw [List.getD_eq_getElem?_getD]
    cases hk : ds[k]? with
    | none => simp
    | some x => exact (hd x (List.mem_of_getElem? hk)).1
  cases hs : superD s with
  | none =>
    refine ⟨by simp, fun x hx => ?_⟩
    simp at hx
    rcases hx with hx | rfl
    · exact hd x hx
    · omega
  | some a =>
    rw [hs] at h
    dsimp only at h ⊢
    split at h
    · rename_i lo up e1 e2
      split at h
      · cases h
      · rename_i hc
        rw [if_neg hc]
        split at h
        · cases h
        · rename_i h6
          rw [if_neg h6]
          refine ⟨by simp, fun x hx => ?_⟩
          simp at hx
          have := h0 a.toNat
          rcases hx with hx | rfl
          · exact hd x hx
          · rw [← List.getD_eq_getElem?_getD]; omega
    · cases h
theorem dcOk_add {d : DcS} {g : List Sb} (ok : DcOk d) (h : (addD d g).1 = 0) : DcOk (addD d g).2.2 := by
  obtain ⟨k1, k2, k3, k4⟩ := addD_ok h
  rcases addG_fact d.gs d.ids g with ⟨q, _⟩ | ⟨_, hA⟩
  · exact absurd k1 q
  have hm : ∀ (l : List Sb) (n : Nat) (ds : List Int), (∀ x ∈ ds, 0 ≤ x ∧ x ≤ 63) → (matchAll (tabL (addG d.gs d.ids g).2.2) (addG d.gs d.ids g).1 l n ds).1 = 0 → (matchAll (tabL (addG d.gs d.ids g).2.2) (addG d.gs d.ids g).1 l n ds).2.2.length = ds.length + l.length ∧ ∀ x ∈ (matchAll (tabL (addG d.gs d.ids g).2.2) (addG d.gs d.ids g).1 l n ds).2.2, 0 ≤ x ∧ x ≤ 63 := by
    intro l
    induction l with
    | nil => intro n ds hd _; exact ⟨rfl, hd⟩
    | cons s l ih =>
      intro n ds hd h
      rw [matchAll] at h ⊢
      by_cases h1 : (matchesD (tabL (addG d.gs d.ids g).2.2) (addG d.gs d.ids g).1 ds s n).1 ≠ 0
      · rw [if_pos h1] at h; exact absurd h h1
      · rw [if_neg h1] at h ⊢
        obtain ⟨e1, e2⟩ := matchesD_keeps (by simpa using h1) hd
        obtain ⟨f1, f2⟩ := ih _ _ e2 h
        exact ⟨by rw [f1, e1, List.length_cons]; omega, f2⟩
  have hdep : (addD d g).2.2.depths.length = d.depths.length + g.length ∧ ∀ x ∈ (addD d g).2.2.depths, 0 ≤ x ∧ x ≤ 63 := by
    unfold addD at h ⊢
    dsimp only at h ⊢
    rw [if_neg (by simpa using k1)] at h ⊢
    split
    · rename_i h2; rw [if_pos h2] at h; exact absurd h h2
    · rename_i h2
      rw [if_neg h2] at h
      exact hm g _ _ ok.dep h
  have hi : (addD d g).2.2.ids.length = d.ids.length + g.length := by rw [k2]; exact hA.len
  exact ⟨by rw [k3, List.length_append, hi, ok.tl], by rw [hdep.1, hi, ok.dl], fun i hi => by rw [k4]; rw [k2] at hi; exact hA.inn i hi, hdep.2⟩
end
section
open Go.RowKit Go.Maps Go.WideMaps
structure GrpK (S0 : Nat → Prop) (wE : World) (v : Value) (g : List Sb) : Prop where
  ex : ∃ cs : List (List Value), cs.length = g.length ∧ (∀ c ∈ cs, c.length = 6) ∧ ∀ w'', Upd S0 wE w'' → RowAt w'' 6 v g.length cs.flatten ∧ ∀ (i : Nat) c x, cs[i]? = some c → g[i]? = some x → SubAt w'' c x
theorem GrpK.at {S0 : Nat → Prop} {wE w : World} {v : Value} {g : List Sb} (h : GrpK S0 wE v g) (hu : Upd S0 wE w) : GrpAt w v g := by
  obtain ⟨cs, h1, h2, h3⟩ := h.ex
  exact ⟨cs, h1, h2, (h3 w hu).1, (h3 w hu).2⟩
theorem sub_one {w : World} {c : List Value} {x : Sb} (h : SubAt w c x) : ∀ u ∈ c, u.oneCell' = true := fun u hu => by
  obtain ⟨vs, vp, vr, vf, rfl, k1, k2, k3, k4⟩ := h.ex
  obtain ⟨a1, c1, rfl⟩ := RowAt.form k1
  obtain ⟨a2, c2, rfl⟩ := RowAt.form k2
  obtain ⟨a3, c3, rfl⟩ := RowAt.form k3
  obtain ⟨a4, c4, rfl⟩ := RowAt.form k4
  simp at hu
  rcases hu with rfl | rfl | rfl | rfl | rfl | rfl <;> rfl
variable {w0 wE w : World} {S0 S R T : Nat → Prop} {t d : Nat} {dc : DcS} {vi vt vd : Value}
theorem tys_news (h : TysAt S0 wE w vt dc.types) (hu : Upd S0 wE w) {v : Value} {g : List Sb} (hg : GrpK S0 wE v g) : ∃ cs gs : List (List Value), w.ownsRow wE.heap.size 46 6 vt dc.types.length cs.flatten ∧ RowAt w 6 v g.length gs.flatten ∧ (∀ u ∈ gs.flatten, u.oneCell' = true) ∧
    ∀ {w' : World} {v' : Value}, w'.ownsRow wE.heap.size 46 6 v' (dc.types.length + g.length) (cs.flatten ++ gs.flatten) → TysAt S0 wE w' v' (dc.types ++ g) := by
  obtain ⟨cs, h1, h2, h3, h4, h5⟩ := h.ex
  obtain ⟨gs, g1, g2, g3⟩ := hg.ex
  have hone : ∀ c ∈ gs, ∀ u ∈ c, u.oneCell' = true := fun c hc => by
    obtain ⟨i, hi⟩ := List.getElem?_of_mem hc
    obtain ⟨x, hx⟩ : ∃ x, g[i]? = some x := ⟨g[i]'(by have := (List.getElem?_eq_some_iff.1 hi).1; omega), by simp⟩
    exact sub_one ((g3 w hu).2 i c x hi hx)
  refine ⟨cs, gs, h4, (g3 w hu).1, fun u hu' => ?_, fun {w' v'} ho => ⟨cs ++ gs, by simp [h1, g1], fun c hc => ?_, fun c hc => ?_, ?_, fun i c x hc hx w'' hu2 => ?_⟩⟩
  · obtain ⟨c, hc, hu2⟩ := List.mem_flatten.1 hu'
    exact hone c hc u hu2
  · exact (List.mem_append.1 hc).elim (h2 c) (g2 c)
  · exact (List.mem_append.1 hc).elim (h3 c) (hone c)
  · rw [List.length_append, List.flatten_append]; exact ho
  · by_cases hlt : i < cs.length
    · rw [List.getElem?_append_left hlt] at hc
      rw [List.getElem?_append_left (by omega)] at hx
      exact h5 i c x hc hx w'' hu2
    · rw [List.getElem?_append_right (by omega)] at hc
      rw [List.getElem?_append_right (by omega)] at hx
      exact (g3 w'' hu2).2 _ c x hc (by rw [h1]; exact hx)
theorem DcAt.grow (h : DcAt w0 S0 wE S R T w t d dc vi vt vd) {W1 wc w9 : World} {S2 R2 : Nat → Prop} {A : List Int × Int × List (List Sb)} {g : List Sb} {u v9 : Value} (hb : Below w.heap.size w W1)
    (ht2 : TabN w0 S2 R2 wc t A.2.2) (hc2 : TabC A.2.2) (hi2 : ∀ w'', Upd (fun b => S2 b ∨ b < W1.heap.size) wc w'' → IntsAt w'' u A.1) (hup2 : Upd S W1 wc) (hfr2 : Fresh S W1 S2) (hrr2 : Fresh R W1 R2)
    (hg : (wc.setCell ⟨d, 1, none⟩ u).grownBy w9 vt.ownBlock) (hm : v9.ownBlock = vt.ownBlock ∨ v9.ownBlock = some wc.heap.size) {nn : Nat} {xs : List Value} (ho : w9.ownsRow wE.heap.size 46 6 v9 nn xs)
    (hty : ∀ {w' : World} {v' : Value}, w'.ownsRow wE.heap.size 46 6 v' nn xs → TysAt S0 wE w' v' (dc.types ++ g)) :
    ∃ T', DcAt w0 S0 wE S2 R2 T' (w9.setCell ⟨d, 2, none⟩ v9) t d ⟨A.1, dc.types ++ g, dc.depths, A.2.2⟩ u v9 vd ∧ (∀ b, T' b → T b ∨ wc.heap.size ≤ b) := by
  have hdl := heap_lt h.box
  have hs1 := hb.size
  have hs2 := hup2.size
  have hz3 : (wc.setCell ⟨d, 1, none⟩ u).heap.size = wc.heap.size := by simp [World.setCell]
  have hs9 : wc.heap.size ≤ w9.heap.size := by have := hg.size; omega
  have hvt : ∀ b, vt.ownBlock = some b → b < w.heap.size ∧ wE.heap.size ≤ b ∧ ¬ S b ∧ ¬ R b ∧ b ≠ d := fun b hb' => h.td b (h.tt b hb')
  have hS2 : ∀ b, b < w.heap.size → ¬ S b → ¬ S2 b := fun b hlt hn q => (hfr2 b q).elim hn (fun h => by omega)
  have hR2 : ∀ b, b < w.heap.size → ¬ R b → ¬ R2 b := fun b hlt hn q => (hrr2 b q).elim hn (fun h => by omega)
  have hu1 : Upd (fun b => b = d ∨ vt.ownBlock = some b) wc w9 := (Upd.setCell (S := fun b => b = d ∨ vt.ownBlock = some b) (Upd.refl _ _) (.inl (.inl rfl)) u).trans' ((Upd.refl _ _).grown hg (fun k hk => .inl (.inr hk)))
  have hu2 : Upd (fun b => b = d ∨ vt.ownBlock = some b) wc (w9.setCell ⟨d, 2, none⟩ v9) := hu1.setCell (.inl (.inl rfl)) _
  have hu3 : Upd (fun b => b = d) w9 (w9.setCell ⟨d, 2, none⟩ v9) := Upd.setCell (S := fun b => b = d) (Upd.refl _ _) (.inl rfl) _
  have hz9 : (w9.setCell ⟨d, 2, none⟩ v9).heap.size = w9.heap.size := by simp [World.setCell]
  have hboxc : wc.heap[d]? = some (.cells #[.pointer (some ⟨t, 0, none⟩), vi, vt, vd] 74 (0, 0)) := hup2.heap_some ((hb.block _ hdl).trans h.box) h.dd.1
  have hbox3 := heap_set_at hboxc 1 u
  have hbox9 : w9.heap[d]? = some (.cells #[.pointer (some ⟨t, 0, none⟩), u, vt, vd] 74 (0, 0)) := by
    rw [hg.block d (heap_lt hbox3) (fun e => (hvt d e.symm).2.2.2.2 rfl)]
    simpa using hbox3
  have hv9 : ∀ b, v9.ownBlock = some b → T b ∨ b = wc.heap.size := fun b hb' => hm.elim (fun e => .inl (h.tt b (e.symm.trans hb'))) (fun e => .inr (by rw [e] at hb'; cases hb'; rfl))
  have hw : ∀ b, (b = d ∨ vt.ownBlock = some b) → b < w.heap.size ∧ wE.heap.size ≤ b ∧ ¬ S b ∧ ¬ R b := fun b q => q.elim (fun e => by subst e; exact ⟨hdl, h.dd.2.2, h.dd.1, h.dd.2.1⟩) (fun e => have k := hvt b e; ⟨k.1, k.2.1, k.2.2.1, k.2.2.2.1⟩)
  have hT : ∀ b, (T b ∨ v9.ownBlock = some b) → b < (w9.setCell ⟨d, 2, none⟩ v9).heap.size ∧ wE.heap.size ≤ b ∧ ¬ S2 b ∧ ¬ R2 b ∧ b ≠ d := fun b q => by
    have q2 : T b ∨ (b = wc.heap.size ∧ v9.ownBlock = some b) := q.elim .inl (fun e => (hv9 b e).imp id (fun e2 => ⟨e2, e⟩))
    rw [hz9]
    rcases q2 with q2 | ⟨rfl, q3⟩
    · have k := h.td b q2
      exact ⟨by omega, k.2.1, hS2 b k.1 k.2.2.1, hR2 b k.1 k.2.2.2.1, k.2.2.2.2⟩
    · have k := ho.lt _ q3
      exact ⟨k.2, k.1, fun q => by have := (ht2.tab.lt _ q).1; omega, fun q => by have := ht2.tab.rlt _ q; omega, by omega⟩
  have hupE : Upd S0 wE wc := (h.up.trans' (Upd.of_below hb)).trans h.fr hup2
  refine ⟨fun b => T b ∨ v9.ownBlock = some b, ⟨ht2.upd hu2 (fun b q => ⟨hS2 b (hw b q).1 (hw b q).2.2.1, hR2 b (hw b q).1 (hw b q).2.2.2, Nat.le_trans h.e0 (hw b q).2.1⟩), hc2, ?_, fun w'' hu => ?_, ?_, ?_, fun b hb' => .inr hb', fun b hb' => .inl (h.tv b hb'), hT, ⟨hS2 d hdl h.dd.1, hR2 d hdl h.dd.2.1, h.dd.2.2⟩, ?_, ?_, h.e0⟩, fun b q => q.elim .inl (fun e => (hv9 b e).imp id (fun e2 => by omega))⟩
  · have := heap_set_at hbox9 2 v9
    simpa using this
  · refine hi2 w'' ((hu2.mono fun b _ q => .inr (by have := (hw b q).1; omega)).trans (fun b q => ?_) hu)
    rcases q with q | q | q | q
    · exact .inl (.inl q)
    · rcases q with q | q
      · exact .inl (.inr (by have := (h.td b q).1; omega))
      · exact (hv9 b q).elim (fun q => .inl (.inr (by have := (h.td b q).1; omega))) (fun e => .inr (by omega))
    · exact .inl (.inr (by omega))
    · exact .inl (.inr (by have := h.up.size; omega))
  · refine (hty ho).keep hu3 (fun b hb' e => (hT b (.inr hb')).2.2.2.2 e)
  · refine ownsRow_upd h.dep (((Upd.of_below hb : Upd (fun b => S b ∨ b = d ∨ vt.ownBlock = some b) w W1).trans' (hup2.mono fun b _ q => .inl q)).trans' (hu2.mono fun b _ q => .inr q)) (fun b hb' q => ?_)
    have k := h.td b (h.tv b hb')
    rcases q with q | q | q
    · exact k.2.2.1 q
    · exact k.2.2.2.2 q
    · exact h.apart b q hb'
  · exact hupE.trans (fun b q => .inr (hw b q).2.1) hu2
  · exact fun b q => (hfr2 b q).elim (h.fr b) (fun q => .inr (by have := h.up.size; omega))
end
section
open Go.RowKit Go.Maps
theorem wpList_append_row_at {P : Program} (w : World) {ops : Array Oper} {rest : List Oper} {o : Oper} {a : Act} {Q : Exit → Act → World → Prop} (hgd : o.guard = none) (s x : Operand) (t : TypeId)
    (ho : o.op = .call { callee := .builtin .append, args := #[s, x], argTypes := #[t, t] })
    (base : Nat) (e : TypeId) (i : TypeInfo) (z : Value) (size bytes : Nat) (ht : P.underlying t = some (.slice e)) (hi : P.info? e = some i) (hz : i.zero = some z)
    (hsize : i.size = size) (hby : i.bytes = bytes) (hzs : z.cells.size = size) (hsz : 0 < size)
    (v : Value) (n : Nat) (xs : List Value) (hs : a.eval s = v) (hown : w.ownsRow base e size v n xs)
    (y : Value) (m : Nat) (news : List Value) (hx : a.eval x = y) (hrow : RowAt w size y m news) (h1 : ∀ u ∈ news, u.oneCell' = true)
    (h63 : n + m ≤ maxLen) (hbytes : (n + m) * bytes ≤ 140737488355328) (hbase : base ≤ w.heap.size)
    (h : ∀ v' w', w'.ownsRow base e size v' (n + m) (xs ++ news) → w.grownBy w' v.ownBlock → (v'.ownBlock = v.ownBlock ∨ v'.ownBlock = some w.heap.size) → wpList P ops Q rest (a.put o.dst v') w') : wpList P ops Q (o :: rest) a w := by
  obtain ⟨hl, ⟨rfl, rfl⟩ | ⟨ad, cap, rfl, hc, hnews⟩⟩ := hrow
  · refine wpList_plain hgd fun K hK => ?_
    have hr := run_append_owned_none (P := P) (w := w) base t o.type e i size ht hi v n xs hown
    unfold Oper.wp execOp
    simp only [ho, resolve, invoke, builtin, Sem.run_bind, Sem.run_pure, Result.andThen_ok, List.map_toArray, List.map_cons, List.map_nil, hs, hx, hr]
    refine hK _ _ (h v w ?_ ⟨rfl, rfl, rfl, Nat.le_refl _, fun _ _ _ => rfl⟩ (.inl rfl))
    have hn : news = [] := List.eq_nil_of_length_eq_zero (by simpa using hl)
    subst hn
    simpa using hown
  · exact wpList_append_own_at w hgd s x t ho base e i z size bytes ht hi hz hsize hby hzs hsz v n xs hs hown ad m cap news hx hl hnews h1 h63 hbytes hbase (fun v' w' r1 r2 _ r4 => h v' w' r1 r2 r4)
end
section
open Go Go.RowKit
section
variable {P : Program} {ops : Array Oper} {md : Region.Mode} {S : World → Prop} {Q : Exit → Act → World → Prop}
def wpAnyHL (P : Program) (md : Region.Mode) (ops : Array Oper) (Q : Exit → Act → World → Prop) (S : World → Prop) (n : Nat) (L : Array Bool → Act → World → Prop) : Nat → Array Bool → Act → World → Prop
  | 0, listed, a, w => L listed a w
  | f + 1, listed, a, w =>
    Region.ready md ops listed ≠ [] ∧ ∀ i ∈ Region.ready md ops listed, i < n ∧ wpOp P ops Q i (fun a' w' => S w' ∧ wpAnyHL P md ops Q S n L f (listed.setIfInBounds i true) a' w') a w
theorem wpAny_of_headH {n g : Nat} {L : Array Bool → Act → World → Prop} (hL : ∀ listed a w, L listed a w → wpAny P md ops Q g listed a w) :
    ∀ (f : Nat) (listed : Array Bool) (a : Act) (w : World), wpAnyHL P md ops Q S n L f listed a w → wpAny P md ops Q (f + g) listed a w
  | 0, listed, a, w, h => by rw [Nat.zero_add]; exact hL _ _ _ h
  | f + 1, listed, a, w, h => by
    rw [show f + 1 + g = (f + g) + 1 by omega]
    exact ⟨fun h0 => absurd h0 h.1, fun i hi => wpOp_mono (fun a' w' h' => wpAny_of_headH hL f _ a' w' h'.2) (h.2 i hi).2⟩
theorem wpAnyHL_first {n i : Nat} {oi : Oper} {v : Value} {L : Array Bool → Act → World → Prop} (hi : ops[i]? = some oi) (hsel : ∀ (j : Nat) (o : Oper) cs b, ops[j]? = some o → o.op ≠ .select cs b)
    (hQ : ∀ c a d v w, Q (.panic c) (Act.put a d v) w → Q (.panic c) a w)
    (hs : Region.sinkB md ops n = true) (hc : Region.chainB md ops n = true) (hn : n < ops.size) (hin : i < n)
    (hdone : ∀ listed a w, L listed a w → ∀ j ∈ Region.ready md ops listed, n ≤ j) :
    ∀ (f : Nat) (listed : Array Bool) (a : Act) (w : World), HeadInv md ops n listed →
      (∀ j oj, ops[j]? = some oj → j ≠ i → listed.getD j true = false → (∀ e ∈ oj.after, Region.binds md e = true → e.on ≠ i) → oi.apart ops oj = true) →
      i ∈ Region.ready md ops listed → YieldsIf P ops S oi v a → S w →
      wpAnyHL P md ops Q S n L f (listed.setIfInBounds i true) (a.put oi.dst v) w → wpAnyHL P md ops Q S n L (f + 1) listed a w := by
  intro f
  induction f with
  | zero =>
    intro listed a w inv _ hr hy hS H
    have hun := (mem_ready.1 hr).1
    refine ⟨fun h => (by rw [h] at hr; cases hr), fun j hj => ?_⟩
    have hjn : j < n := by
      rcases Nat.lt_or_ge j n with h | h
      · exact h
      · exact absurd hj (tail_waits hs hc hn inv _ i rfl hin hun j h)
    refine ⟨hjn, ?_⟩
    by_cases hji : j = i
    · subst hji; exact hy.wpOp hi hS ⟨hS, H⟩
    · have := hdone _ _ _ H j (ready_mono hj hji)
      omega
  | succ f ih =>
    intro listed a w inv hfree hr hy hS H
    have hun := (mem_ready.1 hr).1
    refine ⟨fun h => (by rw [h] at hr; cases hr), fun j hj => ?_⟩
    have hjn : j < n := by
      rcases Nat.lt_or_ge j n with h | h
      · exact h
      · exact absurd hj (tail_waits hs hc hn inv _ i rfl hin hun j h)
    refine ⟨hjn, ?_⟩
    by_cases hji : j = i
    · subst hji; exact hy.wpOp hi hS ⟨hS, H⟩
    · have h1 := (H.2 j (ready_mono hj hji)).2
      obtain ⟨hjun, oj, hoj, hall⟩ := mem_ready.1 hj
      have hnot : ∀ e ∈ oj.after, Region.binds md e = true → e.on ≠ i := fun e he hb heq => by
        have h1 := hall e he hb
        rw [heq, getD_both hun] at h1
        cases h1
      have h2 := wpOp_putIf hoj (hfree j oj hoj hji hjun hnot) (fun cs b => hsel i oi cs b hi) (fun cs b => hsel j oj cs b hoj) (fun c a w => hQ c a _ _ w) hy h1
      have hfree' : ∀ k ok, ops[k]? = some ok → k ≠ i → (listed.setIfInBounds j true).getD k true = false →
          (∀ e ∈ ok.after, Region.binds md e = true → e.on ≠ i) → oi.apart ops ok = true := fun k ok hk hki hkun hno => by
        refine hfree k ok hk hki ?_ hno
        by_cases hjk : j = k
        · subst hjk; exact hjun
        · rw [getD_set_ne true hjk] at hkun; exact hkun
      refine wpOp_mono (fun a' w' h3 => ⟨h3.2.1, ih (listed.setIfInBounds j true) a' w' (inv.set hj hjn) hfree' (ready_mono hr (Ne.symm hji)) h3.1 h3.2.1 ?_⟩) h2
      rw [Array.setIfInBounds_comm _ _ hji]
      exact h3.2.2
def valued (o : Oper) : Bool := match o.op with
  | .move _ | .assign _ | .load .. | .build .. | .binOp .. | .unOp .. | .slice .. | .fieldAddr .. | .field .. | .indexAddr .. | .index .. | .extract .. | .convert .. | .nilCheck (.tmp _) | .call { callee := .builtin .len, .. } => true
  | _ => false
def quietB (md : Region.Mode) (ops : Array Oper) (n : Nat) : List Nat → Array Bool → Option (Array Bool)
  | [], listed => some listed
  | i :: r, listed => if decide (i < n) && (Region.ready md ops listed).contains i && Region.free md ops listed i then quietB md ops n r (listed.setIfInBounds i true) else none
def midsB (md : Region.Mode) (ops : Array Oper) (n : Nat) : List Nat → Array Bool → Option (Array Bool)
  | [], listed => some listed
  | i :: r, listed => if decide (i < n) && decide (Region.ready md ops listed = [i]) then midsB md ops n r (listed.setIfInBounds i true) else none
def midB (md : Region.Mode) (ops : Array Oper) (n : Nat) (hs ms : List Nat) : Bool :=
  Region.noSelect ops && decide (n < ops.size) && Region.sinkB md ops n && Region.chainB md ops n && decide (hs.length + ms.length = n) &&
    match quietB md ops n hs (Array.replicate ops.size false) with
    | none => false
    | some l1 => match midsB md ops n ms l1 with
      | none => false
      | some l2 => Region.seqB md ops (ops.size - n) n l2
def wpMids (P : Program) (ops : Array Oper) (Q : Exit → Act → World → Prop) (S : World → Prop) (T : Act → World → Prop) : List Oper → Act → World → Prop
  | [], a, w => T a w
  | o :: r, a, w => wpList P ops (Exit.then (fun a' w' => S w' ∧ wpMids P ops Q S T r a' w') Q) [o] a w
def wpIfs (P : Program) (ops : Array Oper) (S : World → Prop) (T : Act → Prop) : List Oper → Act → Prop
  | [], a => T a
  | o :: r, a => ∃ v, YieldsIf P ops S o v a ∧ wpIfs P ops S T r (a.put o.dst v)
theorem wpAnyHL_mids {n : Nat} {L : Array Bool → Act → World → Prop} {T : Act → World → Prop} : ∀ (ms : List Nat) (listed l2 : Array Bool) (os : List Oper) (a : Act) (w : World), midsB md ops n ms listed = some l2 → ms.map (fun i => ops[i]?) = os.map some →
    (∀ a w, T a w → L l2 a w) → wpMids P ops Q S T os a w → wpAnyHL P md ops Q S n L ms.length listed a w
  | [], listed, l2, os, a, w, hb, ho, hT, h => by
    cases os with
    | nil => simp [midsB] at hb; subst hb; exact hT _ _ h
    | cons o os => simp at ho
  | i :: ms, listed, l2, [], a, w, hb, ho, hT, h => by simp at ho
  | i :: ms, listed, l2, o :: os, a, w, hb, ho, hT, h => by
    simp only [List.map_cons, List.cons.injEq] at ho
    obtain ⟨ho1, ho2⟩ := ho
    unfold midsB at hb
    split at hb
    · rename_i hc
      simp only [Bool.and_eq_true, decide_eq_true_eq] at hc
      refine ⟨by rw [hc.2]; simp, fun j hj => ?_⟩
      rw [hc.2] at hj
      obtain rfl : j = i := by simpa using hj
      refine ⟨hc.1, ?_⟩
      have : wpOp P ops Q j (fun a' w' => S w' ∧ wpMids P ops Q S T os a' w') a w := by
        unfold wpOp; rw [ho1]; exact h
      exact wpOp_mono (fun a' w' h' => ⟨h'.1, wpAnyHL_mids ms _ l2 os a' w' hb ho2 hT h'.2⟩) this
    · cases hb
theorem wpAnyHL_ifs {n : Nat} {L : Array Bool → Act → World → Prop} (hsel : Region.noSelect ops = true) (hQ : ∀ c a d v w, Q (.panic c) (Act.put a d v) w → Q (.panic c) a w) (hsk : Region.sinkB md ops n = true) (hc : Region.chainB md ops n = true) (hn : n < ops.size)
    (hdone : ∀ listed a w, L listed a w → ∀ j ∈ Region.ready md ops listed, n ≤ j) (w : World) (hS : S w) : ∀ (hs : List Nat) (listed l1 : Array Bool) (os : List Oper) (a : Act) (f : Nat) (T : Act → Prop), HeadInv md ops n listed → quietB md ops n hs listed = some l1 → hs.map (fun i => ops[i]?) = os.map some →
    (∀ a, T a → wpAnyHL P md ops Q S n L f l1 a w) → wpIfs P ops S T os a → wpAnyHL P md ops Q S n L (hs.length + f) listed a w
  | [], listed, l1, os, a, f, T, inv, hb, ho, hT, h => by
    cases os with
    | nil => simp [quietB] at hb; subst hb; simpa using hT _ h
    | cons o os => simp at ho
  | i :: hs, listed, l1, [], a, f, T, inv, hb, ho, hT, h => by simp at ho
  | i :: hs, listed, l1, o :: os, a, f, T, inv, hb, ho, hT, h => by
    simp only [List.map_cons, List.cons.injEq] at ho
    obtain ⟨ho1, ho2⟩ := ho
    unfold quietB at hb
    split at hb
    · rename_i hcc
      simp only [Bool.and_eq_true, decide_eq_true_eq] at hcc
      obtain ⟨⟨hin, hr⟩, hf⟩ := hcc
      have hr' : i ∈ Region.ready md ops listed := by simpa using hr
      obtain ⟨v, hy, hK⟩ := h
      rw [List.length_cons, show hs.length + 1 + f = (hs.length + f) + 1 by omega]
      exact wpAnyHL_first ho1 (Region.noSelect_spec hsel) hQ hsk hc hn hin hdone _ _ _ _ inv (Region.free_spec ho1 hf) hr' hy hS (wpAnyHL_ifs hsel hQ hsk hc hn hdone w hS hs _ l1 os _ f T (inv.set hr' hin) hb ho2 hT hK)
    · cases hb
theorem pure_value {s : Sem Value} {w w' : World} {n : Next} (h : (do pure (Next.value (← s)) : Sem Next).run P w = .ok n w') : ∃ u, n = .value u := by
  simp only [Sem.run_bind, Sem.run_pure] at h
  cases hr : s.run P w with
  | ok v w1 => rw [hr] at h; simp [Result.andThen] at h; exact ⟨v, h.1.symm⟩
  | halt x w1 => rw [hr] at h; simp [Result.andThen] at h
def ValOnly (P : Program) (s : Sem Next) : Prop := ∀ w n w', s.run P w = .ok n w' → ∃ u, n = .value u
theorem ValOnly.pure (v : Value) : ValOnly P (Pure.pure (.value v)) := fun w n w' h => by simp at h; exact ⟨_, h.1.symm⟩
theorem ValOnly.bind {α : Type} {s : Sem α} {f : α → Sem Next} (hf : ∀ x, ValOnly P (f x)) : ValOnly P (s >>= f) := fun w n w' h => by
  rw [Sem.run_bind] at h
  cases hr : s.run P w with
  | ok v w1 => rw [hr] at h; exact hf v w1 n w' h
  | halt x w1 => rw [hr] at h; cases h
theorem ValOnly.panic (v : Value) : ValOnly P (goPanic v) := fun w n w' h => by cases h
theorem ValOnly.nil : ValOnly P (runtimePanic .nilDeref) := ValOnly.bind fun _ => ValOnly.panic _
theorem valued_run {o : Oper} (hv : valued o = true) {a : Act} {w w' : World} {n : Next} (h : (execOp a.eval o).run P w = .ok n w') : ∃ u, n = .value u := by
  unfold valued at hv
  split at hv <;> rename_i ho
  all_goals first | (cases hv; done) | skip
  all_goals (simp only [execOp, ho] at h)
  all_goals first | exact pure_value h | skip
  · simp at h; exact ⟨_, h.1.symm⟩
  · simp at h; exact ⟨_, h.1.symm⟩
  · split at h
    · exact ValOnly.nil _ _ _ h
    · exact ValOnly.nil _ _ _ h
    · exact ValOnly.nil _ _ _ h
    · split at h
      · exact ValOnly.nil _ _ _ h
      · refine ValOnly.bind (fun _ => ValOnly.bind (fun x => ?_)) _ _ _ h
        split
        · exact ValOnly.bind fun _ => ValOnly.pure _
        · exact ValOnly.pure _
      · exact ValOnly.pure _ _ _ _ h
    · exact ValOnly.pure _ _ _ _ h
theorem yieldsIf_of_quietAt {o : Oper} (hv : valued o = true) {a : Act} {v : Value} {w : World} (h : o.quietAt P a S w v) : (execOp a.eval o).run P w = .ok (.value v) w := by
  unfold Oper.quietAt at h
  cases hr : (execOp a.eval o).run P w with
  | ok n w' =>
    obtain ⟨u, rfl⟩ := valued_run hv hr
    rw [hr] at h
    simp only [Oper.quietUpon] at h
    rw [h.1, h.2]
  | halt x w' => rw [hr] at h; simp only [Oper.quietUpon] at h
theorem wpIfs_of_quiet {T : Act → Prop} : ∀ (l : List Oper) (a : Act), (∀ o ∈ l, valued o = true) → wpQuiet P ops S T l a → wpIfs P ops S T l a
  | [], a, _, h => h
  | o :: l, a, hv, h => by
    unfold wpQuiet at h
    split at h
    · rename_i hw
      obtain ⟨v, h1, h2⟩ := h
      exact ⟨v, .inl ⟨hw, fun w hS => yieldsIf_of_quietAt (hv o (by simp)) (h1 w hS)⟩, wpIfs_of_quiet l _ (fun o ho => hv o (by simp [ho])) h2⟩
    · rename_i hw
      exact ⟨undef, .inr ⟨by simpa using hw, rfl⟩, wpIfs_of_quiet l _ (fun o ho => hv o (by simp [ho])) h⟩
def pickO (l : List Oper) : List Nat → List Oper
  | [] => []
  | i :: r => l.getD i default :: pickO l r
theorem pickO_eq (l : List Oper) : ∀ (hs : List Nat), (∀ i ∈ hs, i < l.length) → hs.filterMap (fun i => l[i]?) = pickO l hs
  | [], _ => rfl
  | i :: hs, h => by
    have hi := h i (by simp)
    rw [List.filterMap_cons, List.getElem?_eq_getElem hi]
    simp only [pickO]
    rw [pickO_eq l hs (fun j hj => h j (by simp [hj])), List.getD_eq_getElem?_getD, List.getElem?_eq_getElem hi]
    rfl
theorem map_filterMap {α : Type} (l : List α) : ∀ (hs : List Nat), (∀ i ∈ hs, i < l.length) → hs.map (fun i => l[i]?) = (hs.filterMap (fun i => l[i]?)).map some
  | [], _ => rfl
  | i :: hs, h => by
    have hi := h i (by simp)
    rw [List.map_cons, map_filterMap l hs (fun j hj => h j (by simp [hj])), List.filterMap_cons, List.getElem?_eq_getElem hi]
    rfl
theorem wp_region_midX {X : Type} (val : X → World) {id : Nat} {a : Act} {w : World} {l : List Oper} (n : Nat) (hs ms : List Nat) (hm : P.follows .mixedOrders = true) (hB : midB .any l.toArray n hs ms = true) (hv : (hs.all fun i => decide (i < l.length) && ((l[i]?).map valued).getD false) = true) (hv2 : (ms.all fun i => decide (i < l.length)) = true)
    (hQ : ∀ c a d v w, Q (.panic c) (Act.put a d v) w → Q (.panic c) a w)
    (hS0 : ∃ x : X, w.drew = val x) (h : wpQuiet P l.toArray (fun w' => ∃ x : X, w' = val x) (fun a' => wpMids P l.toArray Q (fun w' => ∃ x : X, w' = val x) (fun a2 w2 => wpList P l.toArray Q (l.drop n) a2 w2) (pickO l ms) a' w.drew) (pickO l hs) a) : (Code.region id l.toArray true).wp P Q a w := by
  simp only [midB, Bool.and_eq_true, decide_eq_true_eq] at hB
  obtain ⟨⟨⟨⟨⟨hsel, hn⟩, hsk⟩, hc⟩, hlen⟩, hrest⟩ := hB
  have hn' : n < l.length := by simpa using hn
  have hdl : (l.drop n).length = l.toArray.size - n := by simp
  split at hrest
  · cases hrest
  rename_i l1 hq1
  split at hrest
  · cases hrest
  rename_i l2 hq2
  rw [List.all_eq_true] at hv hv2
  have hv' : ∀ i ∈ hs, i < l.length ∧ ((l[i]?).map valued).getD false = true := fun i hi => by have := hv i hi; simpa using this
  have hv2' : ∀ i ∈ ms, i < l.length := fun i hi => by have := hv2 i hi; simpa using this
  rw [← pickO_eq l hs (fun i hi => (hv' i hi).1), ← pickO_eq l ms hv2'] at h
  have hall : ∀ o ∈ hs.filterMap (fun i => l[i]?), valued o = true := by
    intro o ho
    obtain ⟨i, hi, hio⟩ := List.mem_filterMap.1 ho
    have := (hv' i hi).2
    rw [hio] at this
    simpa using this
  have inv0 : HeadInv .any l.toArray n (Array.replicate l.toArray.size false) :=
    ⟨by simp, fun j oj _ hl => (by rw [getD_replicate_false] at hl; cases hl), fun t _ ht => getD_in (by simpa using ht) (getD_replicate_false _ _)⟩
  have H := wpAnyHL_ifs (P := P) (Q := Q) (md := .any) (S := fun w' => ∃ x : X, w' = val x) (L := fun listed' a' w' => Region.seqB .any l.toArray (l.toArray.size - n) n listed' = true ∧ wpList P l.toArray Q (l.drop n) a' w')
    hsel hQ hsk hc hn (fun listed a w hL => seqB_ready hL.1) w.drew hS0 hs _ l1 (hs.filterMap (fun i => l[i]?)) a ms.length _ inv0 hq1 (by simpa using map_filterMap l hs (fun i hi => (hv' i hi).1))
    (fun a' ha => wpAnyHL_mids ms l1 l2 (ms.filterMap (fun i => l[i]?)) a' _ hq2 (by simpa using map_filterMap l ms hv2') (fun a2 w2 h2 => ⟨hrest, h2⟩) ha) (wpIfs_of_quiet _ _ hall h)
  refine wp_region_any hm ?_
  have := wpAny_of_headH (P := P) (Q := Q) (md := .any) (g := l.toArray.size - n) (fun listed a' w' hL => by
    have := wpAny_of_seq (md := .any) (Q' := Q) (l.drop n) n listed a' w' (fun j => by simp [List.getElem?_drop]) (by rw [hdl]; exact hL.1) hL.2
    rwa [hdl] at this) _ _ _ _ H
  rw [show hs.length + ms.length + (l.toArray.size - n) = l.toArray.size by omega] at this
  exact this
end
def ExtU (R : Nat → Prop) (w0 : World) : Type := { w : World // Upd R w0 w }
instance (R : Nat → Prop) (w0 : World) : Nonempty (ExtU R w0) := ⟨⟨w0, Upd.refl _ _⟩⟩
theorem ExtU.cells {R : Nat → Prop} {w0 : World} {p : Addr} {v : Value} (h : w0.cell? p = some v) (hr : ¬ R p.block) : ∀ x : ExtU R w0, x.val.cell? p = some v := fun x => x.2.cell_some h hr
end
end Go.Proofs.YtlcfkfijomnmnaaGreatDoor
