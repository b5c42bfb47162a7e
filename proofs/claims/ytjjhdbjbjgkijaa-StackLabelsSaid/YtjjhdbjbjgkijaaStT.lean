/- A machine of package stack: one, Take. -/
import Derived.Test.YtjjhdbjbjgkijaaStQ
namespace Go.Proofs.Ytjjhdbjbjgkijaa
open Go.RowKit Go.Maps Go.WideMaps

theorem pop_at (S : Nat → Prop) (w : World) (M T : Nat) (vals : List Vl) (frs : List Frm) (gs : List Int) (h : MachAt S w M T vals frs gs) (b1 : vals.length ≤ 1000000) (b2 : frs.length ≤ 1000000) (b3 : ∀ f ∈ frs, f.ht ≤ 1000000) :
    Calls Try.prog 18 #[.pointer (some ⟨M, 0, none⟩)] w (PopPost S w M T (popR (topF frs).1 (topF frs).2 vals) frs gs) := by
  rcases List.eq_nil_or_concat frs with rfl | ⟨fs, f, rfl⟩
  · rcases List.eq_nil_or_concat vals with rfl | ⟨vs, x, rfl⟩
    · exact pop_nil_nil S w M T gs h
    · rw [List.concat_eq_append] at h b1 ⊢
      have e : popR (topF []).1 (topF []).2 (vs ++ [x]) = (x, 0, vs) := by simp [popR, topF]
      rw [e]
      exact pop_nil_vals S w M T vs x gs h (by simp at b1; omega)
  · rw [List.concat_eq_append] at h b2 b3 ⊢
    have e0 : topF (fs ++ [f]) = (f.ht, f.dead) := by simp [topF]
    rw [e0]
    have bf : f.ht ≤ 1000000 := b3 f (by simp)
    have bl : fs.length ≤ 1000000 := by simp at b2; omega
    by_cases hh : vals.length ≤ f.ht
    · rcases hd : f.dead with _ | _
      · have e : popR f.ht false vals = (zV, 140, vals) := by simp [popR, hh]
        show Calls _ _ _ _ (PopPost S w M T (popR f.ht false vals) _ _)
        rw [e]
        exact pop_snoc_under S w M T vals fs f gs h hh hd bf bl
      · have e : popR f.ht true vals = (⟨4, false, 0, 0⟩, 0, vals) := by simp [popR, hh]
        show Calls _ _ _ _ (PopPost S w M T (popR f.ht true vals) _ _)
        rw [e]
        exact pop_snoc_dead S w M T vals fs f gs h hh hd bf bl
    · rcases List.eq_nil_or_concat vals with rfl | ⟨vs, x, rfl⟩
      · simp at hh
      · rw [List.concat_eq_append] at h b1 hh ⊢
        have e : popR f.ht f.dead (vs ++ [x]) = (x, 0, vs) := by
          unfold popR; rw [if_neg hh]; simp
        show Calls _ _ _ _ (PopPost S w M T (popR f.ht f.dead (vs ++ [x])) _ _)
        rw [e]
        exact pop_snoc_vals S w M T vs x fs f gs h (by simp at hh; omega) (by simp at b1; omega) bl

def oneR (ht : Nat) (dead : Bool) (vals : List Vl) (want : Vl) : Int × List Vl :=
  if (popR ht dead vals).2.1 = 0 then (if valB (popR ht dead vals).1 want = true then 0 else 141, (popR ht dead vals).2.2) else ((popR ht dead vals).2.1, (popR ht dead vals).2.2)
def OnePost (S : Nat → Prop) (w : World) (M T : Nat) (r : Int × List Vl) (frs : List Frm) (gs : List Int) (e : Ending) (w' : World) : Prop :=
  TPost S w M T (.int .i64 r.1) r.2 frs gs e w'
theorem popR_err (ht : Nat) (dead : Bool) (vals : List Vl) : (popR ht dead vals).2.1 = 0 ∨ (popR ht dead vals).2.1 = 140 := by
  unfold popR; split <;> (try split) <;> simp
theorem TabAt.upd {R : Nat → Prop} {w w' : World} {T : Nat} (h : TabAt w T) (u : Upd R w w') (hr : ¬ R T) : TabAt w' T := by
  obtain ⟨m, h⟩ := h
  exact ⟨m, u.heap_some h hr⟩
theorem MachAt.tab_ne {S : Nat → Prop} {w : World} {M T : Nat} {vals : List Vl} {frs : List Frm} {gs : List Int} (h : MachAt S w M T vals frs gs) : T ≠ M := by
  obtain ⟨vv, fv, G, _, h1, h2, _⟩ := h
  intro e; subst e; exact h2 h1
theorem MachAt.bound {S : Nat → Prop} {w : World} {M T : Nat} {vals : List Vl} {frs : List Frm} {gs : List Int} (h : MachAt S w M T vals frs gs) : ∀ k, S k → k < w.heap.size := by
  obtain ⟨vv, fv, G, h0, _⟩ := h; exact h0
theorem MachAt.ptr {S : Nat → Prop} {w : World} {M T : Nat} {vals : List Vl} {frs : List Frm} {gs : List Int} (h : MachAt S w M T vals frs gs) : w.cell? ⟨M, 0, none⟩ = some (.pointer (some ⟨T, 0, none⟩)) := by
  obtain ⟨vv, fv, G, _, _, _, _, h4, _⟩ := h
  have := heap_cell h4 0
  simpa using this
set_option maxRecDepth 100000 in
set_option maxHeartbeats 1000000 in
theorem one_at (S : Nat → Prop) (w : World) (M T : Nat) (vals : List Vl) (frs : List Frm) (gs : List Int) (h : MachAt S w M T vals frs gs) (ht : TabAt w T) (want : Vl) (b1 : vals.length ≤ 1000000) (b2 : frs.length ≤ 1000000) (b3 : ∀ f ∈ frs, f.ht ≤ 1000000) :
    Calls Try.prog 31 #[.pointer (some ⟨M, 0, none⟩), .agg (cellsV want).toArray] w (OnePost S w M T (oneR (topF frs).1 (topF frs).2 vals want) frs gs) := by
  obtain ⟨a, b, c, d⟩ := want
  obtain ⟨R, hR⟩ : ∃ R, oneR (topF frs).1 (topF frs).2 vals ⟨a, b, c, d⟩ = R := ⟨_, rfl⟩
  rw [hR]
  unfold oneR at hR
  generalize hr : popR (topF frs).1 (topF frs).2 vals = r at hR
  have he := popR_err (topF frs).1 (topF frs).2 vals
  rw [hr] at he
  obtain ⟨⟨p, q, s, t⟩, er, vs⟩ := r
  dsimp only at he hR
  have HR := Lib.hid hr; have HE := Lib.hid he; have HRR := Lib.hid hR
  have hB : Below w.heap.size w (w.alloc (.cells #[.int .i64 a, .bool b, .int .i64 c, .int .i64 d] 41)) := (Below.refl _ _).alloc (Nat.le_refl _) _
  have HM := Lib.hid (h.self0 hB); have HT := Lib.hid (ht.below hB ht.lt); have B3 := Lib.hid b3; have HB := Lib.hid hB; have hne := h.tab_ne; have hmlt := h.lt
  clear h ht b3 hr he hR hB
  simp only [cellsV]
  have k0 := heap_alloc_at w (.cells #[.int .i64 a, .bool b, .int .i64 c, .int .i64 d] 41) rfl
  go_enter Try.func31, Try.ntmps31
  go_wp2_with fail
  refine (pop_at S _ M T vals frs gs HM.out b1 b2 B3.out).mono ?_
  rintro e w1 ⟨rfl, hm, hu⟩
  rw [HR.out]
  rw [HR.out] at hm
  dsimp only at hm ⊢
  simp only [cellsV]
  have hp := hm.ptr
  have HM1 := Lib.hid hm
  have HU := Lib.hid hu
  have k1 := hu.heap_some k0 (by omega)
  have HT1 := Lib.hid (HT.out.upd hu hne)
  have hfin : Upd (fun k => k = M) w w1 := (Upd.of_below HB.out).trans' hu
  have HF := Lib.hid hfin
  clear hm hu k0 hfin
  rcases HE.out with rfl | rfl
  · have fM := Ext.cells (w0 := w1.alloc (.cells #[.int .i64 p, .bool q, .int .i64 s, .int .i64 t] 41)) (cell_alloc hp _)
    have g0 := Ext.cells (heap_cell (heap_alloc_at w1 (.cells #[.int .i64 p, .bool q, .int .i64 s, .int .i64 t] 41) rfl) 0)
    have g1 := Ext.cells (heap_cell (heap_alloc_at w1 (.cells #[.int .i64 p, .bool q, .int .i64 s, .int .i64 t] 41) rfl) 1)
    have g2 := Ext.cells (heap_cell (heap_alloc_at w1 (.cells #[.int .i64 p, .bool q, .int .i64 s, .int .i64 t] 41) rfl) 2)
    have g3 := Ext.cells (heap_cell (heap_alloc_at w1 (.cells #[.int .i64 p, .bool q, .int .i64 s, .int .i64 t] 41) rfl) 3)
    have i0 := Ext.cells (heap_cell (heap_alloc_keep k1 (.cells #[.int .i64 p, .bool q, .int .i64 s, .int .i64 t] 41)) 0)
    have i1 := Ext.cells (heap_cell (heap_alloc_keep k1 (.cells #[.int .i64 p, .bool q, .int .i64 s, .int .i64 t] 41)) 1)
    have i2 := Ext.cells (heap_cell (heap_alloc_keep k1 (.cells #[.int .i64 p, .bool q, .int .i64 s, .int .i64 t] 41)) 2)
    have i3 := Ext.cells (heap_cell (heap_alloc_keep k1 (.cells #[.int .i64 p, .bool q, .int .i64 s, .int .i64 t] 41)) 3)
    simp at g0 g1 g2 g3 i0 i1 i2 i3
    go_wp2
    refine wp_region_calm (by kernel_rfl) (by kernel_rfl) ?_
    repeat (go_big_quiet_step ((exact Ext.call _ (val_tab T ⟨p, q, s, t⟩ ⟨a, b, c, d⟩ _ ((HT1.out.below ((Below.refl _ _).alloc (Nat.le_refl _) _) HT1.out.lt).ext _)))))
    refine wpQuiet_nil ?_
    rintro _ ⟨x, rfl⟩
    have hx : Below w1.heap.size w1 x.val := ((Below.refl _ _).alloc (Nat.le_refl _) _).trans (x.2.mono (by simp))
    have HX := Lib.hid hx
    clear hx fM g0 g1 g2 g3 i0 i1 i2 i3
    rcases hv : valB ⟨p, q, s, t⟩ ⟨a, b, c, d⟩ with _ | _
    · have HV := Lib.hid hv
      clear hv
      go_wp2
      go_ret
      have := HRR.out
      simp [HV.out] at this
      subst this
      exact ⟨rfl, HM1.out.self0 HX.out, HF.out.trans' (Upd.of_below HX.out)⟩
    · have HV := Lib.hid hv
      clear hv
      go_wp2
      go_ret
      have := HRR.out
      simp [HV.out] at this
      subst this
      exact ⟨rfl, HM1.out.self0 HX.out, HF.out.trans' (Upd.of_below HX.out)⟩
  · go_wp2
    go_ret
    have := HRR.out
    rw [if_neg (by decide)] at this
    subst this
    have hx : Below w1.heap.size w1 (w1.alloc (.cells #[.int .i64 p, .bool q, .int .i64 s, .int .i64 t] 41)) := (Below.refl _ _).alloc (Nat.le_refl _) _
    exact ⟨rfl, HM1.out.self0 hx, HF.out.trans' (Upd.of_below hx)⟩
end Go.Proofs.Ytjjhdbjbjgkijaa
