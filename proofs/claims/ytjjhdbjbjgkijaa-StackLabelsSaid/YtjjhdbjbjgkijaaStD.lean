/- A machine of package stack: Die, Dead, Top. -/
import Derived.Test.YtjjhdbjbjgkijaaStU
import Derived.Deep.RegionHeld3
namespace Go.Proofs.Ytjjhdbjbjgkijaa
open Go.RowKit Go.Maps Go.WideMaps

theorem flatten6_set : ∀ (cs : List (List Value)), (∀ c ∈ cs, c.length = 6) → ∀ (i j : Nat) (c : List Value) (u : Value), cs[i]? = some c → j < 6 → cs.flatten.set (i * 6 + j) u = (cs.set i (c.set j u)).flatten
  | [], _, i, j, c, u, h, _ => by simp at h
  | d :: cs, hl, 0, j, c, u, h, hj => by
    simp at h; subst h
    have := hl d (by simp)
    rw [List.set_cons_zero, List.flatten_cons, List.flatten_cons, List.set_append_left _ _ (by omega)]
    simp
  | d :: cs, hl, i + 1, j, c, u, h, hj => by
    have h6 := hl d (by simp)
    rw [List.set_cons_succ, List.flatten_cons, List.flatten_cons, List.set_append_right _ _ (by omega), show (i + 1) * 6 + j - d.length = i * 6 + j by omega]
    rw [flatten6_set cs (fun c hc => hl c (by simp [hc])) i j c u (by simpa using h) hj]
/-- A store into a cell of a frame. -/
theorem FrsAt.set {S : Nat → Prop} {w : World} {vv : Value} {fb n cap : Nat} {frs : List Frm} (h : FrsAt S w vv (.slice (some ⟨fb, 0, none⟩) n cap) frs) (i j : Nat) (f f' : Frm) (hf : frs[i]? = some f) (hj : j < 6) (u : Value)
    (hnew : ∀ c, FrmAt S w vv f c → FrmAt S w vv f' (c.set j u)) : FrsAt S (w.setCell ⟨fb, i * 6 + j, none⟩ u) vv (.slice (some ⟨fb, 0, none⟩) n cap) (frs.set i f') := by
  obtain ⟨cs, h1, h2, h3, h4⟩ := h
  obtain ⟨ao, cap', e, _⟩ := ownsRow_form h1
  have hn : n = frs.length := by simp at e; exact e.2.1
  subst hn
  have hl6 : ∀ c ∈ cs, c.length = 6 := by
    intro c hc
    obtain ⟨k, hk, rfl⟩ := List.getElem_of_mem hc
    obtain ⟨c', hc', hfr⟩ := h4 k frs[k] (List.getElem?_eq_getElem (by omega))
    rw [List.getElem?_eq_getElem hk] at hc'
    cases hc'
    exact hfr.len
  obtain ⟨c, hc, hfr⟩ := h4 i f hf
  have hi : i < frs.length := (List.getElem?_eq_some_iff.1 hf).1
  have hst := h1.stored (i * 6 + j) u
  rw [flatten6_set cs hl6 i j c u hc hj] at hst
  obtain ⟨fcur, hfb⟩ := ownsRow_block h1 (b := fb) rfl
  have keep : ∀ g d, FrmAt S w vv g d → FrmAt S (w.setCell ⟨fb, i * 6 + j, none⟩ u) vv g d := by
    rintro g d ⟨pv, rv, gv, rfl, k1, k2, k3⟩
    have go : ∀ v l, BlkVals S w vv v l → BlkVals S (w.setCell ⟨fb, i * 6 + j, none⟩ u) vv v l := fun v l k => by
      refine ⟨ownsRow_upd k.1 ((Upd.refl (fun b => b = fb) w).setCell (p := ⟨fb, i * 6 + j, none⟩) (.inl rfl) u) (fun b hb e => ?_), k.2⟩
      subst e
      obtain ⟨cur, hcur⟩ := ownsRow_block k.1 hb
      rw [hfb] at hcur; simp at hcur
    exact ⟨pv, rv, gv, rfl, go _ _ k1, go _ _ k2, k3⟩
  refine ⟨cs.set i (c.set j u), by rw [List.length_set]; exact hst.1, h2, by simpa using h3, fun k g hg => ?_⟩
  by_cases hki : k = i
  · subst hki
    rw [List.getElem?_set_self (by omega)] at hg
    cases hg
    exact ⟨c.set j u, by rw [List.getElem?_set_self (by omega)], keep _ _ (hnew c hfr)⟩
  · rw [List.getElem?_set_ne (Ne.symm hki)] at hg
    obtain ⟨d, hd, hfd⟩ := h4 k g hg
    exact ⟨d, by rw [List.getElem?_set_ne (Ne.symm hki)]; exact hd, keep _ _ hfd⟩
/-- The machine behind a store into a cell of a frame. -/
theorem MachAt.setFrame {S : Nat → Prop} {w : World} {M T : Nat} {vals : List Vl} {frs : List Frm} {gs : List Int} {v0 v1 v3 : Value} {fb n cap : Nat} (h : MachAt S w M T vals frs gs)
    (k4 : w.heap[M]? = some (.cells #[v0, v1, .slice (some ⟨fb, 0, none⟩) n cap, v3] 57 (0, 0))) (i j : Nat) (f f' : Frm) (hf : frs[i]? = some f) (hj : j < 6) (u : Value)
    (hnew : ∀ vv c, FrmAt S w vv f c → FrmAt S w vv f' (c.set j u)) : MachAt S (w.setCell ⟨fb, i * 6 + j, none⟩ u) M T vals (frs.set i f') gs := by
  obtain ⟨vv, fv, G, h0, h1, h2, h3, h4, h5, h6, h7, h8⟩ := h
  rw [k4] at h4
  simp at h4
  obtain ⟨rfl, rfl, rfl, rfl⟩ := h4
  have up : Upd (fun b => b = fb) w (w.setCell ⟨fb, i * 6 + j, none⟩ u) := (Upd.refl (fun b => b = fb) w).setCell (p := ⟨fb, i * 6 + j, none⟩) (.inl rfl) u
  obtain ⟨fcur, hfb⟩ : ∃ cur, w.heap[fb]? = some (.cells cur 78 (0, 0)) := by obtain ⟨cs, r, _⟩ := h7; exact ownsRow_block r rfl
  have key : ∀ (b : Nat) (t : TypeId) (cur : Array Value), w.heap[b]? = some (.cells cur t (0, 0)) → t ≠ 78 → ¬ b = fb := fun b t cur hb ht e => by
    subst e; rw [hfb] at hb; simp at hb; exact ht hb.2.symm
  refine ⟨_, _, G, fun k hk => Nat.lt_of_lt_of_le (h0 k hk) up.size, h1, h2, h3, up.heap_some k4 (key M _ _ k4 (by decide)), ownsRow_upd h5 up (fun b hb => ?_), h6, h7.set i j f f' hf hj u (hnew _), h8.upd up ?_⟩
  · obtain ⟨cur, hc⟩ := ownsRow_block h5 hb; exact key b _ cur hc (by decide)
  · obtain ⟨es, ck, hg⟩ := h8.block
    intro e; subst e; rw [hfb] at hg; simp at hg
theorem MachAt.shorterM {S : Nat → Prop} {w : World} {M T : Nat} {vals : List Vl} {frs : List Frm} {gs : List Int} {v0 v2 v3 : Value} {vao : Option Addr} {n cap : Nat} (h : MachAt S w M T vals frs gs)
    (k4 : w.heap[M]? = some (.cells #[v0, .slice vao n cap, v2, v3] 57 (0, 0))) (m : Nat) (hm : m ≤ vals.length) : MachAt S (w.setCell ⟨M, 1, none⟩ (.slice vao m cap)) M T (vals.take m) frs gs := by
  obtain ⟨vv, fv, G, h0, h1, h2, h3, h4, h5, h6, h7, h8⟩ := h
  have k4' := k4
  rw [h4] at k4'
  simp at k4'
  obtain ⟨rfl, rfl, rfl, rfl⟩ := k4'
  obtain ⟨ao, cap', e, _⟩ := ownsRow_form h5
  simp at e
  obtain ⟨rfl, rfl, rfl⟩ := e
  rcases h5.2 with ⟨e, e0⟩ | ⟨g, cap', cur, e, _⟩
  · simp at e
    obtain ⟨rfl, e1, rfl⟩ := e
    have hv : vals = [] := by simpa using e0
    subst hv
    have hm0 : m = 0 := by simpa using hm
    subst hm0
    exact MachAt.self (vv := .slice none 0 0) (self_set _) h0 h1 h2 h3 h4 (by simpa using h7) h8 (heap_set_at h4 1 _) (World.ownsRow_nil _ _ _ _) (by intro b hb; simp [Value.ownBlock] at hb) (fun b h => by simp [Value.ownBlock])
  · simp at e
    obtain ⟨rfl, rfl⟩ := e
    exact MachAt.shorter h0 h1 h2 h3 h4 h5 rfl h6 h7 h8 m hm
set_option maxRecDepth 100000 in
set_option maxHeartbeats 1000000 in
theorem die_at (S : Nat → Prop) (w : World) (M T : Nat) (vals : List Vl) (fs : List Frm) (f : Frm) (gs : List Int) (h : MachAt S w M T vals (fs ++ [f]) gs) (hh : f.ht ≤ vals.length) (b1 : vals.length ≤ 1000000) (b2 : fs.length ≤ 1000000) :
    Calls Try.prog 12 #[.pointer (some ⟨M, 0, none⟩)] w (MPost S w M T (.int .i64 0) (vals.take f.ht) (fs ++ [{ f with dead := true }]) gs) := by
  have HM := Lib.hid h
  obtain ⟨vv, fv, G, k0, k1, k2, k3, k4, k5, k6, k7, k8⟩ := h
  obtain ⟨vao, vcap, rfl, vc1, vc2, vc3⟩ := ownsRow_form k5
  have K4 := Lib.hid k4; have K5 := Lib.hid k5; have K6 := Lib.hid k6; have K7 := Lib.hid k7; have K8 := Lib.hid k8; have K0 := Lib.hid k0; have VC3 := Lib.hid vc3
  obtain ⟨fb, fcap, fcur, rfl, fc1, fc2, fS, fh, fpv, frv, fgv, f0, f1, f2, f3, f4, f5, f6, f7, f8⟩ := k7.at fs.length f (by simp)
  rw [List.length_append, List.length_singleton] at fc1 K4 K7
  have FH := Lib.hid fh
  have hne : M ≠ fb := ne_of_types k4 fh (by decide)
  have q1 := heap_cell k4 1
  have q2 := heap_cell k4 2
  have qf := heap_frozen k4 1
  have qg := heap_frozen fh (fs.length * 6 + 4)
  simp at q1 q2
  clear k0 k4 k5 k6 k7 k8 fh f0 f1 f2 f5 f6 f7 f8 vc3
  unfold maxLen at fc2 vc2
  obtain ⟨fop, fps, frs, fht, fdead, fg⟩ := f
  dsimp only at f3 f4 hh ⊢
  go_enter Try.func12, Try.ntmps12
  go_wp2_with fail
  refine (absent_at S _ M T _ _ gs HM.out).mono ?_
  rintro e w' ⟨rfl, rfl⟩
  go_wp2
  go_quiet (fail)
  go_wp2
  have c1 : ∀ x : Ext (w.drewN nq), x.val.cell? ⟨M, 1, none⟩ = some (.slice vao vals.length vcap) := Ext.cells (w0 := w.drewN nq) q1
  have c3 : ∀ x : Ext (w.drewN nq), x.val.cell? ⟨fb, fs.length * 6 + 3, none⟩ = some (.int .i64 fht) := Ext.cells (w0 := w.drewN nq) f3
  refine wp_region_calm_tail 12 (by kernel_rfl) (by kernel_rfl) ?_
  simp only [List.take_succ_cons, List.take_zero, List.drop_succ_cons, List.drop_zero]
  repeat (go_big_quiet_step (fail))
  refine wpQuiet_nil ?_
  rintro w1 hb
  have hb' : Below w.heap.size w w1 := (⟨rfl, rfl, rfl, Nat.le_refl _, fun _ _ => rfl⟩ : Below w.heap.size w (w.drewN nq)).trans hb
  have u1 : Upd (fun _ => False) w w1 := Upd.of_below hb'
  have no : ∀ b : Nat, ¬ False := fun _ h => h
  have m4 := u1.heap_some K4.out (no M)
  have mf := u1.heap_some FH.out (no fb)
  have q1' := heap_cell m4 1
  have qf' := heap_frozen m4 1
  have qc' : w1.cell? ⟨fb, fs.length * 6 + 4, none⟩ = some (.bool fdead) := u1.cell_some f4 (fun h => h)
  have qg' := heap_frozen mf (fs.length * 6 + 4)
  simp at q1'
  have M4 := Lib.hid m4; have HB := Lib.hid hb'
  clear m4 mf hb hb' u1 c1 c3
  go_wp2
  go_ret
  have a := (HM.out.self0 HB.out).shorterM M4.out fht hh
  have b := a.setFrame (heap_set_at M4.out 1 _) fs.length 4 ⟨fop, fps, frs, fht, fdead, fg⟩ ⟨fop, fps, frs, fht, true, fg⟩ (by simp) (by omega) (.bool true) (by
    rintro vv c ⟨pv, rv, gv, rfl, r1, r2, r3⟩
    exact ⟨pv, rv, gv, rfl, r1, r2, r3⟩)
  have e : (fs ++ [(⟨fop, fps, frs, fht, fdead, fg⟩ : Frm)]).set fs.length ⟨fop, fps, frs, fht, true, fg⟩ = fs ++ [⟨fop, fps, frs, fht, true, fg⟩] := by
    rw [List.set_append_right _ _ (Nat.le_refl _)]; simp
  rw [e] at b
  exact ⟨rfl, S, b, Fresh.refl _ _, ((Upd.of_below HB.out).setCell (p := ⟨M, 1, none⟩) (.inl k1) _).setCell (p := ⟨fb, fs.length * 6 + 4, none⟩) (.inl fS) _⟩
set_option maxRecDepth 100000 in
set_option maxHeartbeats 1000000 in
theorem dead_nil (S : Nat → Prop) (w : World) (M T : Nat) (vals : List Vl) (gs : List Int) (h : MachAt S w M T vals [] gs) :
    Calls Try.prog 13 #[.pointer (some ⟨M, 0, none⟩)] w fun e w' => e = .returned (.bool false) ∧ Below w.heap.size w w' := by
  have HM := Lib.hid h
  obtain ⟨vv, fv, G, k0, k1, k2, k3, k4, k5, k6, k7, k8⟩ := h
  obtain ⟨fao, fcap, rfl, _⟩ := k7.form
  have q2 := heap_cell k4 2
  simp at q2
  have c2 := Ext.cells q2
  clear k0 k4 k5 k6 k7 k8 q2
  go_enter Try.func13, Try.ntmps13
  go_wp2
  refine wp_region_calm (by kernel_rfl) (by kernel_rfl) ?_
  repeat (go_big_quiet_step ((exact Ext.call _ ((absent_at S _ M T vals [] gs (HM.out.self0 (Subtype.property _))).mono (by rintro e w' ⟨rfl, rfl⟩; exact ⟨rfl, Below.refl _ _⟩)))))
  refine wpQuiet_nil ?_
  rintro _ ⟨x, rfl⟩
  have hx := Lib.hid x.2
  go_wp2
  go_ret
  exact ⟨rfl, hx.out⟩
set_option maxRecDepth 100000 in
set_option maxHeartbeats 1000000 in
theorem dead_snoc (S : Nat → Prop) (w : World) (M T : Nat) (vals : List Vl) (fs : List Frm) (f : Frm) (gs : List Int) (h : MachAt S w M T vals (fs ++ [f]) gs) (b2 : fs.length ≤ 1000000) :
    Calls Try.prog 13 #[.pointer (some ⟨M, 0, none⟩)] w fun e w' => e = .returned (.bool f.dead) ∧ Below w.heap.size w w' := by
  have HM := Lib.hid h
  obtain ⟨vv, fv, G, k0, k1, k2, k3, k4, k5, k6, k7, k8⟩ := h
  obtain ⟨fb, fcap, fcur, rfl, fc1, fc2, fS, fh, fpv, frv, fgv, f0, f1, f2, f3, f4, f5, f6, f7, f8⟩ := k7.at fs.length f (by simp)
  rw [List.length_append, List.length_singleton] at fc1 k4
  have q2 := heap_cell k4 2
  simp at q2
  have c2 := Ext.cells q2
  have c4 := Ext.cells f4
  clear k0 k4 k5 k6 k7 k8 q2 f0 f1 f2 f3 f4 f5 f6 f7 f8 fh
  unfold maxLen at fc2
  obtain ⟨fop, fps, frs, fht, fdead, fg⟩ := f
  dsimp only at c4 ⊢
  go_enter Try.func13, Try.ntmps13
  go_wp2
  refine wp_region_calm (by kernel_rfl) (by kernel_rfl) ?_
  repeat (go_big_quiet_step ((exact Ext.call _ ((absent_at S _ M T vals _ gs (HM.out.self0 (Subtype.property _))).mono (by rintro e w' ⟨rfl, rfl⟩; exact ⟨rfl, Below.refl _ _⟩)))))
  refine wpQuiet_nil ?_
  rintro _ ⟨x, rfl⟩
  have hx := Lib.hid x.2
  go_wp2
  go_ret
  exact ⟨rfl, hx.out⟩
end Go.Proofs.Ytjjhdbjbjgkijaa
