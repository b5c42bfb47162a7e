/- package decl: Check, over any table. -/
import Derived.Test.YtkgmfbfpmlnfcaaGreatDoorQDcAdd
import Derived.Test.YtkgmfbfpmlnfcaaGreatDoorQRoNoneP
import Derived.Test.YtkgmfbfpmlnfcaaGreatDoorQRoEnter
import Derived.Test.YtkgmfbfpmlnfcaaGreatDoorQRoAskP
import Derived.Test.YtkgmfbfpmlnfcaaGreatDoorQRoShutP
import Derived.Test.YtkgmfbfpmlnfcaaGreatDoorQMidP
import Derived.Test.YtkgmfbfpmlnfcaaGreatDoorQKdOpenP
import Derived.Test.YtkgmfbfpmlnfcaaGreatDoorQDcMatchP
import Derived.Maps.AppendAt
namespace Go.Proofs.YtkgmfbfpmlnfcaaGreatDoor
open Go.RowKit Go.Maps Go.WideMaps

/-- Groups that stay as they are, whatever S0 writes. -/
structure GrpsK (S0 : Nat → Prop) (wE : World) (v : Value) (l : List (List Sb)) : Prop where
  ex : ∃ vs : List Value, vs.length = l.length ∧ (∀ w'', Upd S0 wE w'' → RowAt w'' 1 v l.length vs) ∧ ∀ (i : Nat) x g, vs[i]? = some x → l[i]? = some g → GrpK S0 wE x g
theorem GrpsK.of {S0 : Nat → Prop} {w wE : World} {v : Value} {l : List (List Sb)} (h : GrpsAt w v l) (hb : Below w.heap.size w wE) (hS : ∀ b, S0 b → w.heap.size ≤ b) : GrpsK S0 wE v l := by
  obtain ⟨vs, h1, h2, h3⟩ := h.ex
  refine ⟨vs, h1, fun w'' hu => h2.keep fun p u hp => ?_, fun i x g hx hg => GrpK.of (h3 i x g hx hg) hb hS⟩
  have hlt := World.block_lt_of_cell? _ _ hp
  exact hu.cell_some (by rw [hb.cell hlt]; exact hp) (fun q => by have := hS _ q; omega)
theorem GrpK.next {S0 : Nat → Prop} {wE w : World} {v : Value} {g : List Sb} (h : GrpK S0 wE v g) (u : Upd S0 wE w) : GrpK S0 w v g := by
  obtain ⟨cs, h1, h2, h3⟩ := h.ex
  exact ⟨cs, h1, h2, fun w'' hu => h3 w'' (u.trans' hu)⟩
theorem GrpsK.next {S0 : Nat → Prop} {wE w : World} {v : Value} {l : List (List Sb)} (h : GrpsK S0 wE v l) (u : Upd S0 wE w) : GrpsK S0 w v l := by
  obtain ⟨vs, h1, h2, h3⟩ := h.ex
  exact ⟨vs, h1, fun w'' hu => h2 w'' (u.trans' hu), fun i x g hx hg => (h3 i x g hx hg).next u⟩
theorem GrpsK.form {S0 : Nat → Prop} {wE : World} {v : Value} {l : List (List Sb)} (h : GrpsK S0 wE v l) : ∃ ao cap, v = .slice ao l.length cap := by
  obtain ⟨vs, h1, h2, h3⟩ := h.ex
  exact RowAt.form (h2 wE (Upd.refl _ _))
theorem GrpsK.at {S0 : Nat → Prop} {wE w : World} {ao : Option Addr} {cap : Nat} {l : List (List Sb)} (h : GrpsK S0 wE (.slice ao l.length cap) l) (hu : Upd S0 wE w) {i : Nat} {g : List Sb} (hi : l[i]? = some g) : ∃ b off a c, ao = some ⟨b, off, none⟩ ∧ w.cell? ⟨b, off + i, none⟩ = some (.slice a g.length c) ∧ GrpK S0 wE (.slice a g.length c) g := by
  obtain ⟨vs, h1, h2, h3⟩ := h.ex
  have hlt := (List.getElem?_eq_some_iff.1 hi).1
  obtain ⟨b, off, rfl, _, _, hc⟩ := RowAt.at (h2 w hu) (by decide) (by omega)
  obtain ⟨x, hx⟩ : ∃ x, vs[i]? = some x := ⟨vs[i]'(by omega), by simp⟩
  have hg := h3 i x g hx hi
  obtain ⟨a, c, rfl⟩ := (hg.at (Upd.refl _ _)).form
  exact ⟨b, off, a, c, rfl, by rw [hc i (by omega), hx], hg⟩
/-- Behind Check. -/
def CheckP (w0 : World) (S R : Nat → Prop) (w : World) (t : Nat) (A : Int × Nat × DcS) (e : Ending) (w' : World) : Prop :=
  ∃ u S' R', e = .returned (.tuple #[u, .int .i64 A.1, .int .i64 A.2.1]) ∧ TabN w0 S' R' w' t A.2.2.gs ∧ TabC A.2.2.gs ∧ (∀ w'', Upd (fun b => S' b ∨ b < w.heap.size) w' w'' → IntsAt w'' u (if A.1 = 0 then A.2.2.ids else [])) ∧ Upd S w w' ∧ Fresh S w S' ∧ Fresh R w R'
variable {w0 w : World} {S R : Nat → Prop} {t : Nat} {gs : List (List Sb)}
theorem dcAt_new (ht : TabN w0 S R w t gs) (hc : TabC gs) : DcAt w0 S w S R (fun _ => False) (w.alloc (.cells #[.pointer (some ⟨t, 0, none⟩), .slice none 0 0, .slice none 0 0, .slice none 0 0] 57)) t w.heap.size ⟨[], [], [], gs⟩ (.slice none 0 0) (.slice none 0 0) (.slice none 0 0) := by
  have hb := (Below.refl w.heap.size w).alloc (Nat.le_refl _) (.cells #[.pointer (some ⟨t, 0, none⟩), .slice none 0 0, .slice none 0 0, .slice none 0 0] 57)
  exact ⟨ht.below hb, hc, heap_alloc_at _ _ rfl, fun w'' _ => RowAt.nil w'' 1, ⟨[], rfl, by simp, by simp, ⟨by simp, .inl ⟨rfl, rfl⟩⟩, fun i c x h => (by simp at h)⟩, ⟨by simp, .inl ⟨rfl, rfl⟩⟩, fun b h => (by cases h), fun b h => (by cases h), fun b h => False.elim h, ⟨fun h => by have := (ht.tab.lt _ h).1; omega, fun h => by have := ht.tab.rlt _ h; omega, Nat.le_refl _⟩, Upd.of_below hb, Fresh.refl _ _, ht.be.size⟩
theorem checkD_cons {d : DcS} {g : List Sb} {l : List (List Sb)} {i : Nat} (h : l[i]? = some g) : checkD d (l.drop i) = if (addD d g).1 ≠ 0 then addD d g else checkD (addD d g).2.2 (l.drop (i + 1)) := by
  have hlt := (List.getElem?_eq_some_iff.1 h).1
  rw [List.drop_eq_getElem_cons hlt, (List.getElem?_eq_some_iff.1 h).2, checkD]
theorem sum_drop {l : List (List Sb)} {i : Nat} {g : List Sb} (h : l[i]? = some g) : ((l.drop i).map List.length).sum = g.length + ((l.drop (i + 1)).map List.length).sum := by
  have hlt := (List.getElem?_eq_some_iff.1 h).1
  rw [List.drop_eq_getElem_cons hlt, (List.getElem?_eq_some_iff.1 h).2]; simp
set_option maxRecDepth 100000 in
set_option maxHeartbeats 32000000 in
theorem check_any (v : Value) (l : List (List Sb)) (ht : TabN w0 S R w t gs) (hc : TabC gs) (hg : GrpsK S w v l) (hr : ∀ g ∈ l, RawG g) (hsum : (l.map List.length).sum ≤ 100000) (hl : l.length ≤ 100000) (htab : Tab w0) :
    Calls Tryz.prog 7 #[.pointer (some ⟨t, 0, none⟩), v] w (CheckP w0 S R w t (checkD ⟨[], [], [], gs⟩ l)) := by
  obtain ⟨ao, cap, rfl⟩ := hg.form
  obtain ⟨n, hn⟩ : ∃ n, l.length = n := ⟨_, rfl⟩
  have C0 := Lib.hid (dcNone_any ht.tab ht.ok.total)
  have HT := Lib.hid ht; have HC := Lib.hid hc; have HG := Lib.hid hg; have HR := Lib.hid hr; have HSUM := Lib.hid hsum; have HTAB := Lib.hid htab; have HN := Lib.hid hn; have HL := Lib.hid hl
  rw [hn]
  clear ht hc hg hr hsum htab hn hl
  go_enter Tryz.func7, Tryz.ntmps7
  go_wp2_with fail
  refine C0.out.mono ?_
  rintro e w1 ⟨rfl, hb1⟩
  have hd := dcAt_new (HT.out.below hb1) HC.out
  obtain ⟨d, hd1⟩ : ∃ d, w1.heap.size = d := ⟨_, rfl⟩
  rw [hd1] at hd
  have HB1 := Lib.hid hb1; have HD := Lib.hid hd; have HD1 := Lib.hid hd1
  clear hb1 hd hd1
  go_wp2_with fail
  rw [HD1.out]
  obtain ⟨W2, hW2⟩ : ∃ W2 : World, W2 = w1.alloc (.cells #[.pointer (some ⟨t, 0, none⟩), .slice none 0 0, .slice none 0 0, .slice none 0 0] 57) := ⟨_, rfl⟩
  have hd2 := HD.out
  rw [← hW2] at hd2
  have HD2 := Lib.hid hd2
  rw [← hW2]
  clear hd2 hW2
  go_slots
  go_loopw [18] (fun t18 wr => ∃ (i : Nat) (S1 R1 T1 : Nat → Prop) (dc : DcS) (vi vt vd : Value), t18 = .int .i64 i ∧ i ≤ n ∧ DcAt w0 S w1 S1 R1 T1 wr t d dc vi vt vd ∧ DcOk dc ∧ checkD ⟨[], [], [], gs⟩ l = checkD dc (l.drop i) ∧ Fresh R w1 R1 ∧ dc.ids.length + ((l.drop i).map List.length).sum ≤ 100000) (fun t18 _ => n - (intOf t18).toNat)
  case atStart => exact ⟨0, S, R, _, _, _, _, _, rfl, Nat.zero_le _, HD2.out, dcOk_new gs, rfl, Fresh.refl _ _, by simpa using HSUM.out⟩
  case round =>
    clear HD2
    obtain ⟨i, S1, R1, T1, dc, vi, vt, vd, rfl, hi, hd, hok, hck, hfr, hsm⟩ := hrel
    by_cases hlt : i < n
    · obtain ⟨g, hg⟩ : ∃ g, l[i]? = some g := ⟨l[i]'(by rw [HN.out]; exact hlt), by simp⟩
      obtain ⟨b, off, a, c, hao, p0, hgg⟩ := (HG.out.next (Upd.of_below HB1.out)).at hd.up hg
      subst hao
      have hsm2 := sum_drop hg
      have C := dcAdd_any hd hok _ g hgg (HR.out g (List.mem_of_getElem? hg)) HTAB.out (by omega)
      have hck2 := checkD_cons (d := dc) hg
      obtain ⟨A, hA⟩ : ∃ A, addD dc g = A := ⟨_, rfl⟩
      have hok2 := fun q : A.1 = 0 => dcOk_add (g := g) hok (by rw [hA]; exact q)
      have hl2 : A.1 = 0 → A.2.2.ids.length = dc.ids.length + g.length := fun q => by
        obtain ⟨k1, k2, _, _⟩ := addD_ok (d := dc) (g := g) (by rw [hA]; exact q)
        obtain ⟨r, e1, e2⟩ := addG_pre k1
        rw [← hA, k2, e1, List.length_append, e2]
      rw [hA] at C hck2 hok2
      rw [hck2] at hck
      obtain ⟨er, pl, dc2⟩ := A
      dsimp only at hck hok2 hl2
      have C := Lib.hid C
      have hlt' : (i : Int) < n := by omega
      have hi6 : (i : Int) < 1000000 := by have := HN.out; have := HL.out; omega
      have HG2 := Lib.hid hg; have HCK := Lib.hid hck; have HOK2 := Lib.hid hok2; have HL2 := Lib.hid hl2; have HSM := Lib.hid hsm; have HSM2 := Lib.hid hsm2; have HFR := Lib.hid hfr; have HDR := Lib.hid hd.up.size; have HI := Lib.hid hlt; have HA := Lib.hid hA
      clear hg hgg hsm2 hck2 hok2 hl2 hck hsm hfr hlt hi hd hok hA
      go_wp2_with fail
      refine C.out.mono ?_
      rintro e w2 ⟨S', R', rfl, h1, h2, h3, h4, h5, h6⟩
      have H1 := Lib.hid h1; have H2 := Lib.hid h2; have H3 := Lib.hid h3; have H4 := Lib.hid h4; have H5 := Lib.hid h5; have H6 := Lib.hid h6
      clear h1 h2 h3 h4 h5 h6 C p0
      dsimp only
      by_cases h0 : er = 0
      · subst h0
        go_wp2
        go_roundw
        case rel =>
          obtain ⟨T', vi', vt', vd', hd2⟩ := H6.out rfl
          refine ⟨i + 1, S', R', T', dc2, vi', vt', vd', by go_num, HI.out, hd2, HOK2.out rfl, ?_, fun k hk => (H5.out k hk).elim (HFR.out k) (fun q => .inr (Nat.le_trans HDR.out q)), ?_⟩
          · rw [HCK.out, if_neg (by simp)]
          · have := HL2.out rfl; have := HSM.out; have := HSM2.out; omega
        case measure => have := HI.out; simp [intOf]; omega
      · have h01 : (er != 0) = true := by simpa using h0
        have HE := Lib.hid h0
        clear h0
        go_wp2
        go_ret3
        have hck := HCK.out
        rw [if_pos HE.out] at hck
        rw [hck]
        refine ⟨_, S', R', rfl, H1.out, H2.out, fun w'' _ => ?_, (Upd.of_below HB1.out).trans' H3.out, fun k hk => (H4.out k hk).imp id (fun q => Nat.le_trans HB1.out.size q), fun k hk => (H5.out k hk).elim (fun q => (HFR.out k q).imp id (fun q => Nat.le_trans HB1.out.size q)) (fun q => .inr (Nat.le_trans HB1.out.size (Nat.le_trans HDR.out q)))⟩
        rw [if_neg HE.out]; exact RowAt.nil w'' 1
    · obtain rfl : i = n := by omega
      have hck0 : checkD ⟨[], [], [], gs⟩ l = (0, 0, dc) := by
        rw [hck, List.drop_of_length_le (Nat.le_of_eq HN.out), checkD]
      have hlt' : ¬ (i : Int) < i := by omega
      obtain ⟨x0, x1, x2, x3⟩ := hd.cells
      obtain ⟨ai, ci, rfl⟩ := RowAt.form (hd.ids wr (Upd.refl _ _))
      have HD := Lib.hid hd; have HCK := Lib.hid hck0; have HFR := Lib.hid hfr
      clear hck hsm hfr hlt hi hd hok hck0
      go_wp2
      go_ret3
      rw [HCK.out]
      have hd := HD.out
      refine ⟨_, S1, R1, rfl, hd.tab, hd.c, fun w'' hu => ?_, (Upd.of_below HB1.out).trans' hd.up, fun k hk => (hd.fr k hk).imp id (fun q => Nat.le_trans HB1.out.size q), fun k hk => (HFR.out k hk).imp id (fun q => Nat.le_trans HB1.out.size q)⟩
      rw [if_pos rfl]
      exact hd.ids w'' (hu.mono fun b _ q => q.imp id (fun q => .inr (.inr (by have := HB1.out.size; omega))))
end Go.Proofs.YtkgmfbfpmlnfcaaGreatDoor

/- A declared type that is being made, in a box. -/
namespace Go.Proofs.YtkgmfbfpmlnfcaaGreatDoor
open Go.RowKit

/-- A declared type that is being made, in a box: each list in a row of its own. -/
structure OutS (b0 ob : Nat) (x : Sb) (w : World) (vs vp vr vf : Value) : Prop where
  hp : w.heap[ob]? = some (.cells #[.bool x.fin, vs, .int .i64 x.k, vp, vr, vf] 44 (0, 0))
  os : w.ownsRow b0 49 2 vs x.sups.length (flatH x.sups)
  op : w.ownsRow b0 89 4 vp x.ps.length (flatV x.ps)
  or : w.ownsRow b0 89 4 vr x.rs.length (flatV x.rs)
  of : w.ownsRow b0 93 6 vf x.fs.length (flatF x.fs)
  ne : vp.ownBlock = none ∨ vp.ownBlock ≠ vr.ownBlock
theorem OutS.sub {b0 ob : Nat} {x : Sb} {w : World} {vs vp vr vf : Value} (h : OutS b0 ob x w vs vp vr vf) : SubAt w [.bool x.fin, vs, .int .i64 x.k, vp, vr, vf] x :=
  ⟨_, _, _, _, rfl, RowAt.of_own h.os, RowAt.of_own h.op, RowAt.of_own h.or, RowAt.of_own h.of⟩
/-- Worlds with the same blocks. -/
theorem OutS.same {b0 ob : Nat} {x : Sb} {w w' : World} {vs vp vr vf : Value} (h : OutS b0 ob x w vs vp vr vf) (u : Upd (fun _ => False) w w') : OutS b0 ob x w' vs vp vr vf :=
  ⟨u.heap_some h.hp (fun q => q), ownsRow_upd h.os u (fun _ _ q => q), ownsRow_upd h.op u (fun _ _ q => q), ownsRow_upd h.or u (fun _ _ q => q), ownsRow_upd h.of u (fun _ _ q => q), h.ne⟩
theorem outh_sups {b0 ob : Nat} {x : Sb} {w w9 : World} {vs vp vr vf : Value} {ob' : Obj} (h : OutS b0 ob x w vs vp vr vf) (gr : (w.drew.alloc ob').grownBy w9 vs.ownBlock) : w9.heap[ob]? = some (.cells #[.bool x.fin, vs, .int .i64 x.k, vp, vr, vf] 44 (0, 0)) := by
  have hn : ∀ k, vs.ownBlock = some k → k ≠ ob := fun k hk e => by subst e; exact row_ne h.os h.hp (by decide) hk
  have u9 : Upd (fun k => vs.ownBlock = some k) w w9 := ((Upd.refl _ w).drew.alloc ob').grown gr (fun k hk => .inl hk)
  exact u9.heap_some h.hp (fun hk => hn _ hk rfl)
theorem out_sups {b0 ob : Nat} {x : Sb} {w w9 : World} {vs vp vr vf v9 : Value} {ob' : Obj} {y : Hp} (h : OutS b0 ob x w vs vp vr vf) (gr : (w.drew.alloc ob').grownBy w9 vs.ownBlock) (o9 : w9.ownsRow b0 49 2 v9 (x.sups.length + 1) (flatH x.sups ++ cellsH y)) (_ : v9.ownBlock = vs.ownBlock ∨ v9.ownBlock = some (w.drew.alloc ob').heap.size) :
    OutS b0 ob ⟨x.fin, x.sups ++ [y], x.k, x.ps, x.rs, x.fs⟩ (w9.setCell ⟨ob, 1, none⟩ v9) v9 vp vr vf := by
  have hn : ∀ k, vs.ownBlock = some k → k ≠ ob := fun k hk e => by subst e; exact row_ne h.os h.hp (by decide) hk
  have u9 : Upd (fun k => vs.ownBlock = some k) w w9 := ((Upd.refl _ w).drew.alloc ob').grown gr (fun k hk => .inl hk)
  have f9 : w9.heap[ob]? = some (.cells #[.bool x.fin, vs, .int .i64 x.k, vp, vr, vf] 44 (0, 0)) := u9.heap_some h.hp (fun hk => hn _ hk rfl)
  have hn9 : ∀ k, v9.ownBlock = some k → k ≠ ob := fun k hk e => by subst e; exact row_ne o9 f9 (by decide) hk
  have u : Upd (fun k => vs.ownBlock = some k ∨ k = ob) w (w9.setCell ⟨ob, 1, none⟩ v9) := (u9.mono fun _ _ hk => .inl hk).setCell (.inl (.inr rfl)) v9
  have sz : (w.drew.alloc ob').heap.size = w.heap.size + 1 := by simp
  exact ⟨by have q := heap_set_at f9 1 v9; simpa using q, (by have q := ownsRow_upd o9 ((Upd.refl (fun k => k = ob) w9).setCell (p := ⟨ob, 1, none⟩) (.inl rfl) v9) hn9; rw [List.length_append, List.length_singleton, flatH, List.flatMap_append]; simpa [flatH] using q), (ownsRow_upd h.op u (fun b hb hk => hk.elim (fun hk => (own_ne h.op h.os (by decide)).elim (fun e => by rw [e] at hb; cases hb) (fun e => e (hb.trans hk.symm))) (fun e => by subst e; exact row_ne h.op h.hp (by decide) hb))), (ownsRow_upd h.or u (fun b hb hk => hk.elim (fun hk => (own_ne h.or h.os (by decide)).elim (fun e => by rw [e] at hb; cases hb) (fun e => e (hb.trans hk.symm))) (fun e => by subst e; exact row_ne h.or h.hp (by decide) hb))), (ownsRow_upd h.of u (fun b hb hk => hk.elim (fun hk => (own_ne h.of h.os (by decide)).elim (fun e => by rw [e] at hb; cases hb) (fun e => e (hb.trans hk.symm))) (fun e => by subst e; exact row_ne h.of h.hp (by decide) hb))), h.ne⟩
theorem outh_ps {b0 ob : Nat} {x : Sb} {w w9 : World} {vs vp vr vf : Value} {ob' : Obj} (h : OutS b0 ob x w vs vp vr vf) (gr : (w.drew.alloc ob').grownBy w9 vp.ownBlock) : w9.heap[ob]? = some (.cells #[.bool x.fin, vs, .int .i64 x.k, vp, vr, vf] 44 (0, 0)) := by
  have hn : ∀ k, vp.ownBlock = some k → k ≠ ob := fun k hk e => by subst e; exact row_ne h.op h.hp (by decide) hk
  have u9 : Upd (fun k => vp.ownBlock = some k) w w9 := ((Upd.refl _ w).drew.alloc ob').grown gr (fun k hk => .inl hk)
  exact u9.heap_some h.hp (fun hk => hn _ hk rfl)
theorem out_ps {b0 ob : Nat} {x : Sb} {w w9 : World} {vs vp vr vf v9 : Value} {ob' : Obj} {y : Vl} (h : OutS b0 ob x w vs vp vr vf) (gr : (w.drew.alloc ob').grownBy w9 vp.ownBlock) (o9 : w9.ownsRow b0 89 4 v9 (x.ps.length + 1) (flatV x.ps ++ cellsV y)) (mv : v9.ownBlock = vp.ownBlock ∨ v9.ownBlock = some (w.drew.alloc ob').heap.size) :
    OutS b0 ob ⟨x.fin, x.sups, x.k, x.ps ++ [y], x.rs, x.fs⟩ (w9.setCell ⟨ob, 3, none⟩ v9) vs v9 vr vf := by
  have hn : ∀ k, vp.ownBlock = some k → k ≠ ob := fun k hk e => by subst e; exact row_ne h.op h.hp (by decide) hk
  have u9 : Upd (fun k => vp.ownBlock = some k) w w9 := ((Upd.refl _ w).drew.alloc ob').grown gr (fun k hk => .inl hk)
  have f9 : w9.heap[ob]? = some (.cells #[.bool x.fin, vs, .int .i64 x.k, vp, vr, vf] 44 (0, 0)) := u9.heap_some h.hp (fun hk => hn _ hk rfl)
  have hn9 : ∀ k, v9.ownBlock = some k → k ≠ ob := fun k hk e => by subst e; exact row_ne o9 f9 (by decide) hk
  have u : Upd (fun k => vp.ownBlock = some k ∨ k = ob) w (w9.setCell ⟨ob, 3, none⟩ v9) := (u9.mono fun _ _ hk => .inl hk).setCell (.inl (.inr rfl)) v9
  have sz : (w.drew.alloc ob').heap.size = w.heap.size + 1 := by simp
  exact ⟨by have q := heap_set_at f9 3 v9; simpa using q, (ownsRow_upd h.os u (fun b hb hk => hk.elim (fun hk => (own_ne h.os h.op (by decide)).elim (fun e => by rw [e] at hb; cases hb) (fun e => e (hb.trans hk.symm))) (fun e => by subst e; exact row_ne h.os h.hp (by decide) hb))), (by have q := ownsRow_upd o9 ((Upd.refl (fun k => k = ob) w9).setCell (p := ⟨ob, 3, none⟩) (.inl rfl) v9) hn9; rw [List.length_append, List.length_singleton, flatV, List.flatMap_append]; simpa [flatV] using q), (ownsRow_upd h.or u (fun b hb hk => hk.elim (fun hk => h.ne.elim (fun e => by rw [e] at hk; cases hk) (fun e => e (hk.trans hb.symm))) (fun e => by subst e; exact row_ne h.or h.hp (by decide) hb))), (ownsRow_upd h.of u (fun b hb hk => hk.elim (fun hk => (own_ne h.of h.op (by decide)).elim (fun e => by rw [e] at hb; cases hb) (fun e => e (hb.trans hk.symm))) (fun e => by subst e; exact row_ne h.of h.hp (by decide) hb))), (by
    rcases mv with mv | mv
    · rw [mv]; exact h.ne
    · right; rw [mv, sz]; intro e; have := (h.or.lt _ e.symm).2; omega)⟩
theorem outh_rs {b0 ob : Nat} {x : Sb} {w w9 : World} {vs vp vr vf : Value} {ob' : Obj} (h : OutS b0 ob x w vs vp vr vf) (gr : (w.drew.alloc ob').grownBy w9 vr.ownBlock) : w9.heap[ob]? = some (.cells #[.bool x.fin, vs, .int .i64 x.k, vp, vr, vf] 44 (0, 0)) := by
  have hn : ∀ k, vr.ownBlock = some k → k ≠ ob := fun k hk e => by subst e; exact row_ne h.or h.hp (by decide) hk
  have u9 : Upd (fun k => vr.ownBlock = some k) w w9 := ((Upd.refl _ w).drew.alloc ob').grown gr (fun k hk => .inl hk)
  exact u9.heap_some h.hp (fun hk => hn _ hk rfl)
theorem out_rs {b0 ob : Nat} {x : Sb} {w w9 : World} {vs vp vr vf v9 : Value} {ob' : Obj} {y : Vl} (h : OutS b0 ob x w vs vp vr vf) (gr : (w.drew.alloc ob').grownBy w9 vr.ownBlock) (o9 : w9.ownsRow b0 89 4 v9 (x.rs.length + 1) (flatV x.rs ++ cellsV y)) (mv : v9.ownBlock = vr.ownBlock ∨ v9.ownBlock = some (w.drew.alloc ob').heap.size) :
    OutS b0 ob ⟨x.fin, x.sups, x.k, x.ps, x.rs ++ [y], x.fs⟩ (w9.setCell ⟨ob, 4, none⟩ v9) vs vp v9 vf := by
  have hn : ∀ k, vr.ownBlock = some k → k ≠ ob := fun k hk e => by subst e; exact row_ne h.or h.hp (by decide) hk
  have u9 : Upd (fun k => vr.ownBlock = some k) w w9 := ((Upd.refl _ w).drew.alloc ob').grown gr (fun k hk => .inl hk)
  have f9 : w9.heap[ob]? = some (.cells #[.bool x.fin, vs, .int .i64 x.k, vp, vr, vf] 44 (0, 0)) := u9.heap_some h.hp (fun hk => hn _ hk rfl)
  have hn9 : ∀ k, v9.ownBlock = some k → k ≠ ob := fun k hk e => by subst e; exact row_ne o9 f9 (by decide) hk
  have u : Upd (fun k => vr.ownBlock = some k ∨ k = ob) w (w9.setCell ⟨ob, 4, none⟩ v9) := (u9.mono fun _ _ hk => .inl hk).setCell (.inl (.inr rfl)) v9
  have sz : (w.drew.alloc ob').heap.size = w.heap.size + 1 := by simp
  exact ⟨by have q := heap_set_at f9 4 v9; simpa using q, (ownsRow_upd h.os u (fun b hb hk => hk.elim (fun hk => (own_ne h.os h.or (by decide)).elim (fun e => by rw [e] at hb; cases hb) (fun e => e (hb.trans hk.symm))) (fun e => by subst e; exact row_ne h.os h.hp (by decide) hb))), (ownsRow_upd h.op u (fun b hb hk => hk.elim (fun hk => h.ne.elim (fun e => by rw [e] at hb; cases hb) (fun e => e (hb.trans hk.symm))) (fun e => by subst e; exact row_ne h.op h.hp (by decide) hb))), (by have q := ownsRow_upd o9 ((Upd.refl (fun k => k = ob) w9).setCell (p := ⟨ob, 4, none⟩) (.inl rfl) v9) hn9; rw [List.length_append, List.length_singleton, flatV, List.flatMap_append]; simpa [flatV] using q), (ownsRow_upd h.of u (fun b hb hk => hk.elim (fun hk => (own_ne h.of h.or (by decide)).elim (fun e => by rw [e] at hb; cases hb) (fun e => e (hb.trans hk.symm))) (fun e => by subst e; exact row_ne h.of h.hp (by decide) hb))), (by
    rcases mv with mv | mv
    · rw [mv]; exact h.ne
    · right; rw [mv, sz]; intro e; have := (h.op.lt _ e).2; omega)⟩
theorem outh_fs {b0 ob : Nat} {x : Sb} {w w9 : World} {vs vp vr vf : Value} {ob' : Obj} (h : OutS b0 ob x w vs vp vr vf) (gr : (w.drew.alloc ob').grownBy w9 vf.ownBlock) : w9.heap[ob]? = some (.cells #[.bool x.fin, vs, .int .i64 x.k, vp, vr, vf] 44 (0, 0)) := by
  have hn : ∀ k, vf.ownBlock = some k → k ≠ ob := fun k hk e => by subst e; exact row_ne h.of h.hp (by decide) hk
  have u9 : Upd (fun k => vf.ownBlock = some k) w w9 := ((Upd.refl _ w).drew.alloc ob').grown gr (fun k hk => .inl hk)
  exact u9.heap_some h.hp (fun hk => hn _ hk rfl)
theorem out_fs {b0 ob : Nat} {x : Sb} {w w9 : World} {vs vp vr vf v9 : Value} {ob' : Obj} {y : Fl} (h : OutS b0 ob x w vs vp vr vf) (gr : (w.drew.alloc ob').grownBy w9 vf.ownBlock) (o9 : w9.ownsRow b0 93 6 v9 (x.fs.length + 1) (flatF x.fs ++ cellsF y)) (_ : v9.ownBlock = vf.ownBlock ∨ v9.ownBlock = some (w.drew.alloc ob').heap.size) :
    OutS b0 ob ⟨x.fin, x.sups, x.k, x.ps, x.rs, x.fs ++ [y]⟩ (w9.setCell ⟨ob, 5, none⟩ v9) vs vp vr v9 := by
  have hn : ∀ k, vf.ownBlock = some k → k ≠ ob := fun k hk e => by subst e; exact row_ne h.of h.hp (by decide) hk
  have u9 : Upd (fun k => vf.ownBlock = some k) w w9 := ((Upd.refl _ w).drew.alloc ob').grown gr (fun k hk => .inl hk)
  have f9 : w9.heap[ob]? = some (.cells #[.bool x.fin, vs, .int .i64 x.k, vp, vr, vf] 44 (0, 0)) := u9.heap_some h.hp (fun hk => hn _ hk rfl)
  have hn9 : ∀ k, v9.ownBlock = some k → k ≠ ob := fun k hk e => by subst e; exact row_ne o9 f9 (by decide) hk
  have u : Upd (fun k => vf.ownBlock = some k ∨ k = ob) w (w9.setCell ⟨ob, 5, none⟩ v9) := (u9.mono fun _ _ hk => .inl hk).setCell (.inl (.inr rfl)) v9
  have sz : (w.drew.alloc ob').heap.size = w.heap.size + 1 := by simp
  exact ⟨by have q := heap_set_at f9 5 v9; simpa using q, (ownsRow_upd h.os u (fun b hb hk => hk.elim (fun hk => (own_ne h.os h.of (by decide)).elim (fun e => by rw [e] at hb; cases hb) (fun e => e (hb.trans hk.symm))) (fun e => by subst e; exact row_ne h.os h.hp (by decide) hb))), (ownsRow_upd h.op u (fun b hb hk => hk.elim (fun hk => (own_ne h.op h.of (by decide)).elim (fun e => by rw [e] at hb; cases hb) (fun e => e (hb.trans hk.symm))) (fun e => by subst e; exact row_ne h.op h.hp (by decide) hb))), (ownsRow_upd h.or u (fun b hb hk => hk.elim (fun hk => (own_ne h.or h.of (by decide)).elim (fun e => by rw [e] at hb; cases hb) (fun e => e (hb.trans hk.symm))) (fun e => by subst e; exact row_ne h.or h.hp (by decide) hb))), (by have q := ownsRow_upd o9 ((Upd.refl (fun k => k = ob) w9).setCell (p := ⟨ob, 5, none⟩) (.inl rfl) v9) hn9; rw [List.length_append, List.length_singleton, flatF, List.flatMap_append]; simpa [flatF] using q), h.ne⟩
end Go.Proofs.YtkgmfbfpmlnfcaaGreatDoor

/- geodelaw12: st: a struct of numbers. -/
namespace Go.Proofs.YtkgmfbfpmlnfcaaGreatDoor
open Go.RowKit

def fB (b : Int) : Fl := ⟨0, ⟨if b = 64 then 2 else 1, false, 0, 0⟩, false⟩
theorem sizeSubC : (Tryz.prog.info? 44).map (·.size) = some 6 := by kernel_rfl
set_option maxRecDepth 100000 in
set_option maxHeartbeats 16000000 in
theorem st_any (fin : Bool) (v vb : Value) (sups bits : List Int) (w : World) (hv : IntsAt w v sups) (hvb : IntsAt w vb bits) (hn : bits.length ≤ 100000) (hl : sups.length ≤ 100000) : Calls Tryz.prog 17 #[.bool fin, v, vb] w fun e w' => ∃ cs' : List Value, e = .returned (.agg cs'.toArray) ∧ cs'.length = 6 ∧ (∀ w'', Upd (fun q => q < w.heap.size) w' w'' → SubAt w'' cs' (stS fin sups bits)) ∧ Below w.heap.size w w' := by
  obtain ⟨so, sc, rfl⟩ := RowAt.form hv
  obtain ⟨sbo, sbc, rfl⟩ := RowAt.form hvb
  obtain ⟨n, hnn⟩ : ∃ n, bits.length = n := ⟨_, rfl⟩
  have HNN := Lib.hid hnn
  rw [hnn] at hn
  obtain ⟨i0, hi, hz0, hz1, hz2⟩ := info_parts Tryz.infoHeap
  obtain ⟨i2, hi2, hz02, hz12, hz22⟩ := info_parts Tryz.infoField
  have Hi := Lib.hid hi; have Hz0 := Lib.hid hz0; have Hz1 := Lib.hid hz1; have Hz2 := Lib.hid hz2
  have Hi2 := Lib.hid hi2; have Hz02 := Lib.hid hz02; have Hz12 := Lib.hid hz12; have Hz22 := Lib.hid hz22
  obtain ⟨ns, hns⟩ : ∃ n, sups.length = n := ⟨_, rfl⟩
  have HNS := Lib.hid hns
  rw [hns] at hl
  have hsl : (ns : Int) ≤ 100000 := by omega
  obtain ⟨W0, hW⟩ : ∃ W0 : World, W0 = w.alloc (.cells #[.bool false, .slice none 0 0, .int .i64 0, .slice none 0 0, .slice none 0 0, .slice none 0 0] 44) := ⟨_, rfl⟩
  have hB : Below w.heap.size w W0 := by rw [hW]; exact (Below.refl _ _).alloc (by simp) _
  have hws : W0.heap.size = w.heap.size + 1 := by rw [hW]; simp
  have hz : W0.heap[w.heap.size]? = some (.cells #[.bool false, .slice none 0 0, .int .i64 0, .slice none 0 0, .slice none 0 0, .slice none 0 0] 44 (0, 0)) := by rw [hW]; exact heap_alloc_at _ _ (by simp)
  have r5 : ∀ x : Ext W0, IntsAt x.val (.slice so sups.length sc) sups := fun x => RowAt.ext (RowAt.below hv hB (Nat.le_refl _)) x
  have r6 : ∀ x : Ext W0, IntsAt x.val (.slice sbo bits.length sbc) bits := fun x => RowAt.ext (RowAt.below hvb hB (Nat.le_refl _)) x
  have R6 := Lib.hid r6; have R5 := Lib.hid r5; have HW := Lib.hid hW; have HB := Lib.hid hB; have HWS := Lib.hid hws; have HZ := Lib.hid hz; have HN := Lib.hid hn
  rw [hns, hnn]
  have hn10 : (n : Int) ≤ 100000 := by omega
  clear r6 hvb hnn hv hi hz0 hz1 hz2 hi2 hz02 hz12 hz22 hW hB hws hz r5 hns hl hn
  go_enter Tryz.func17, Tryz.ntmps17
  go_wp2
  rw [← HW.out]
  obtain ⟨W1, hW1⟩ : ∃ W1 : World, W1 = W0.alloc (.cells #[.bool fin, .slice none 0 0, .int .i64 2, .slice none 0 0, .slice none 0 0, .slice none 0 0] 44) := ⟨_, rfl⟩
  rw [← hW1]
  obtain ⟨ob, hob⟩ : ∃ ob, w.heap.size + 1 = ob := ⟨_, rfl⟩
  rw [hob]
  have HOB := Lib.hid hob
  clear hob
  have st : OutS W0.heap.size ob ⟨fin, (sups.map fun k => (⟨13, k⟩ : Hp)).take 0, 2, [], [], []⟩ W1 (.slice none 0 0) (.slice none 0 0) (.slice none 0 0) (.slice none 0 0) :=
    ⟨by rw [hW1]; exact heap_alloc_at _ _ (by have := HWS.out; have := HOB.out; omega), owns_zero _ _ _ _, owns_zero _ _ _ _, owns_zero _ _ _ _, owns_zero _ _ _ _, .inl rfl⟩
  have hbw : Below W0.heap.size W0 W1 := by rw [hW1]; exact (Below.refl _ _).alloc (Nat.le_refl _) _
  have ST := Lib.hid st; have HBW := Lib.hid hbw
  clear st hbw hW1
  go_loopw [8] (fun t8 wz => ∃ (i : Nat) (vs : Value), t8 = .int .i64 i ∧ i ≤ ns ∧ OutS W0.heap.size ob ⟨fin, (sups.map fun k => (⟨13, k⟩ : Hp)).take i, 2, [], [], []⟩ wz vs (.slice none 0 0) (.slice none 0 0) (.slice none 0 0) ∧ Below W0.heap.size W0 wz) (fun t8 _ => ns - (intOf t8).toNat)
  case atStart => exact ⟨0, _, rfl, Nat.zero_le _, ST.out, HBW.out⟩
  case round =>
    obtain ⟨i, vs, rfl, hi, hO, hbe⟩ := hrel
    have ow := hO.os
    have htl : ((sups.map fun k => (⟨13, k⟩ : Hp)).take i).length = i := by rw [List.length_take, List.length_map, HNS.out]; omega
    have HTL := Lib.hid htl
    obtain ⟨aos, cos, rfl, -⟩ := ownsRow_form ow
    dsimp only at ow hO
    have hrow := R5.out ⟨wr, hbe⟩
    dsimp only at hrow
    rw [htl] at ow hO
    have HO := Lib.hid hO; have HBE := Lib.hid hbe; have OW := Lib.hid ow
    clear hO hbe ow htl
    by_cases hlt : i < ns
    · obtain ⟨y, hy⟩ : ∃ y, sups[i]? = some y := ⟨sups[i]'(by rw [HNS.out]; exact hlt), by simp⟩
      obtain ⟨lb, loff, hlo, hlb, p0⟩ := IntsAt.at hrow hy
      have LBW := Lib.hid (show lb < W0.heap.size by obtain ⟨_, _, e, h, _⟩ := IntsAt.at (R5.out ⟨W0, Below.refl _ _⟩) hy; rw [hlo] at e; simp only [Option.some.injEq, Addr.mk.injEq] at e; rw [e.1]; exact h)
      subst hlo
      have hlt' : (i : Int) < ns := by omega
      have hi6 : (i : Int) < 1000000 := by omega
      have HY := Lib.hid hy; have HI := Lib.hid hlt
      have hnl : ¬ (Value.slice aos i cos).ownBlock = some lb := fun e => by have := (OW.out.lt _ e).1; have := LBW.out; omega
      have hno : ¬ (Value.slice aos i cos).ownBlock = some ob := row_ne HO.out.os HO.out.hp (by decide)
      have d1 := ExtU.cells (R := fun q => (Value.slice aos i cos).ownBlock = some q) (heap_cell HO.out.hp 1) hno
      have d2 := ExtU.cells (R := fun q => (Value.slice aos i cos).ownBlock = some q) p0 hnl
      simp only at d1
      have HRW := Lib.hid (row_cells (cs := [.int .i64 13, .int .i64 y]) (heap_alloc_at wr.drew (.cells #[.int .i64 13, .int .i64 y] 49) rfl))
      have OWA := Lib.hid (show (wr.drew.alloc (.cells #[.int .i64 13, .int .i64 y] 49)).ownsRow W0.heap.size 49 2 (.slice aos i cos) i (flatH ((sups.map fun k => (⟨13, k⟩ : Hp)).take i)) from World.ownsRow.alloc (show wr.drew.ownsRow W0.heap.size 49 2 (.slice aos i cos) i (flatH ((sups.map fun k => (⟨13, k⟩ : Hp)).take i)) from OW.out) _)
      have HSZ := Lib.hid (show W0.heap.size ≤ (wr.drew.alloc (.cells #[.int .i64 13, .int .i64 y] 49)).heap.size from ((HBE.out.drew).alloc HBE.out.size _).size)
      clear hlb hrow hy hlt hi p0 hnl hno
      go_wp2
      refine wp_region_midX (fun x : ExtU (fun q => (Value.slice aos i cos).ownBlock = some q) wr => x.val) 9 [0, 1, 2, 3, 4, 5, 6] [7, 8] (by kernel_rfl) (by kernel_rfl) (by kernel_rfl) (by kernel_rfl) (by rintro c a (_ | d) v w h <;> exact h) ⟨⟨_, (Upd.refl _ _).drew⟩, rfl⟩ ?_
      simp only [pickO, List.getD_cons_succ, List.getD_cons_zero, List.drop_succ_cons, List.drop_zero]
      repeat (go_big_quiet_step (fail))
      refine wpQuiet_nil ?_
      unfold wpMids
      go_wp2
      refine ⟨⟨⟨_, (Upd.refl _ _).drew.alloc _⟩, rfl⟩, ?_⟩
      unfold wpMids
      go_wp2_with (at_builtin; refine wpList_append_own_at _ rfl _ _ 37 rfl W0.heap.size 49 i0 _ 2 16 Tryz.underlying37 Hi.out Hz0.out Hz1.out Hz2.out rfl (by decide) _ _ _ rfl OWA.out ⟨wr.heap.size, 0, none⟩ 1 1 [.int .i64 13, .int .i64 y] rfl rfl HRW.out (by intro u hu; simp at hu; rcases hu with rfl | rfl <;> rfl) (by unfold maxLen; omega) (by omega) HSZ.out ?_)
      intro v9 w9 o9 gr9 mv0 mv9
      obtain ⟨a9, c9, rfl, -⟩ := ownsRow_form o9
      have f9 := outh_sups HO.out gr9
      have f9c := heap_cell f9 1
      have f9f := heap_frozen f9 1
      simp only [List.getElem?_toArray, List.getElem?_cons_succ, List.getElem?_cons_zero] at f9c
      have hu9 : Upd (fun q => (Value.slice aos i cos).ownBlock = some q) wr w9 := ((Upd.refl _ wr).drew.alloc _).grown gr9 (fun q hq => .inl hq)
      have HU9 := Lib.hid hu9
      have hb9 : Below W0.heap.size W0 w9 := ((HBE.out.drew).alloc HBE.out.size _).grown gr9 HSZ.out (fun k hk => (OW.out.lt k hk).1)
      have q := out_sups (y := ⟨13, y⟩) HO.out gr9 (by rw [show (⟨fin, (sups.map fun k => (⟨13, k⟩ : Hp)).take i, 2, [], [], []⟩ : Sb).sups.length = i from HTL.out]; exact o9) (by simpa using mv9)
      have HB9 := Lib.hid hb9; have HQ := Lib.hid q
      clear o9 gr9 mv0 mv9 f9 hu9 hb9 q
      go_wp2
      refine ⟨⟨⟨_, HU9.out⟩, rfl⟩, ?_⟩
      unfold wpMids
      go_wp2
      go_roundw
      case rel =>
        refine ⟨i + 1, .slice a9 (i + 1) c9, by go_num, HI.out, ?_, HB9.out.setCell (by have := HOB.out; have := HWS.out; dsimp only; omega) _⟩
        rw [List.take_add_one, List.getElem?_map, HY.out]
        exact HQ.out
      case measure => have := HI.out; simp [intOf]; omega
    · obtain rfl : i = ns := by omega
      have hlt' : ¬ (i : Int) < i := by omega
      have ho2 : OutS W0.heap.size ob ⟨fin, sups.map fun k => (⟨13, k⟩ : Hp), 2, [], [], (bits.map fB).take 0⟩ wr (.slice aos i cos) (.slice none 0 0) (.slice none 0 0) (.slice none 0 0) := by
        have h := HO.out
        rw [List.take_of_length_le (by rw [List.length_map, HNS.out]; exact Nat.le_refl _)] at h
        exact h
      have HO2 := Lib.hid ho2
      have HBE2 := Lib.hid HBE.out
      clear hlt hi hrow ho2 HO OW HBE
      go_wp2
      go_loopw [9] (fun t9 wz => ∃ (j : Nat) (v9 : Value), t9 = .int .i64 j ∧ j ≤ n ∧ OutS W0.heap.size ob ⟨fin, sups.map fun k => (⟨13, k⟩ : Hp), 2, [], [], (bits.map fB).take j⟩ wz (.slice aos i cos) (.slice none 0 0) (.slice none 0 0) v9 ∧ Below W0.heap.size W0 wz) (fun t9 _ => n - (intOf t9).toNat)
      case atStart => exact ⟨0, _, rfl, Nat.zero_le _, HO2.out, HBE2.out⟩
      case round =>
        clear HO2 HBE2
        obtain ⟨j, v9, rfl, hj, hO, hbe⟩ := hrel
        have ow := hO.of
        have htl : ((bits.map fB).take j).length = j := by rw [List.length_take, List.length_map, HNN.out]; omega
        have HTL := Lib.hid htl
        obtain ⟨aov, cov, rfl, -⟩ := ownsRow_form ow
        dsimp only at ow hO
        rw [htl] at ow hO
        have HO := Lib.hid hO; have HBE := Lib.hid hbe; have OW := Lib.hid ow
        clear hO hbe ow htl
        by_cases hlt : j < n
        · obtain ⟨bb, hbbx⟩ : ∃ x, bits[j]? = some x := ⟨bits[j]'(by rw [HNN.out]; exact hlt), by simp⟩
          have hr6 : IntsAt wr (.slice sbo bits.length sbc) bits := R6.out ⟨wr, HBE.out⟩
          obtain ⟨lb, loff, hlo, hlb, p0⟩ := IntsAt.at hr6 hbbx
          have hlt' : (j : Int) < n := by omega
          have hj6 : (j : Int) < 1000000 := by omega
          have HJ := Lib.hid hlt; have HBB := Lib.hid hbbx
          subst hlo
          have d1 := heap_cell HO.out.hp 5
          simp only [List.getElem?_toArray, List.getElem?_cons_succ, List.getElem?_cons_zero] at d1
          have hobl := heap_lt HO.out.hp
          clear hlt hj hbbx hr6
          by_cases hbb : bb = 64
          · have hb1 : (bb == 64) = true := by simpa using hbb
            rw [hbb] at p0
            have huv : Upd (fun _ => False) wr (wr.alloc (.cells #[.int .i64 2, .bool false, .int .i64 0, .int .i64 0] 89)) := ((Upd.refl (fun _ => False) wr).alloc _)
            have hfy : fB bb = ⟨0, ⟨2, false, 0, 0⟩, false⟩ := by simp [fB, hbb]
            have HRW := Lib.hid (row_cells (b := wr.heap.size + 1) (cs := [.int .i64 0, .int .i64 2, .bool false, .int .i64 0, .int .i64 0, .bool false]) (heap_alloc_at (wr.alloc (.cells #[.int .i64 2, .bool false, .int .i64 0, .int .i64 0] 89)) (.cells #[.int .i64 0, .int .i64 2, .bool false, .int .i64 0, .int .i64 0, .bool false] 93) (by simp)))
            have OWA := Lib.hid ((ownsRow_upd OW.out huv (fun _ _ q => q)).alloc (.cells #[.int .i64 0, .int .i64 2, .bool false, .int .i64 0, .int .i64 0, .bool false] 93))
            have hbv : Below W0.heap.size W0 (wr.alloc (.cells #[.int .i64 2, .bool false, .int .i64 0, .int .i64 0] 89)) := HBE.out.trans ((huv.toBelow (fun _ q => q)).mono HBE.out.size)
            have HSZ := Lib.hid (hbv.alloc hbv.size (.cells #[.int .i64 0, .int .i64 2, .bool false, .int .i64 0, .int .i64 0, .bool false] 93)).size
            have HO9 := Lib.hid (HO.out.same huv)
            have HBV := Lib.hid hbv; have HFY := Lib.hid hfy
            clear huv hfy hbv
            go_wp2_with (at_builtin; refine wpList_append_own_at _ rfl _ _ 40 rfl W0.heap.size 93 i2 _ 6 48 Tryz.underlying40 Hi2.out Hz02.out Hz12.out Hz22.out rfl (by decide) _ _ _ rfl OWA.out ⟨wr.heap.size + 1, 0, none⟩ 1 1 [.int .i64 0, .int .i64 2, .bool false, .int .i64 0, .int .i64 0, .bool false] rfl rfl HRW.out (by intro u hu; simp at hu; rcases hu with rfl | rfl | rfl | rfl | rfl | rfl <;> rfl) (by have := HJ.out; have := HN.out; unfold maxLen; omega) (by have := HJ.out; have := HN.out; omega) HSZ.out ?_)
            intro v9 w9 o9 gr9 mv0 mv9
            obtain ⟨a9, c9, rfl, -⟩ := ownsRow_form o9
            have gr9' : ((wr.alloc (.cells #[.int .i64 2, .bool false, .int .i64 0, .int .i64 0] 89)).drew.alloc (.cells #[.int .i64 0, .int .i64 2, .bool false, .int .i64 0, .int .i64 0, .bool false] 93)).grownBy w9 (Value.slice aov j cov).ownBlock := ⟨gr9.os, gr9.tape, gr9.output, gr9.size, gr9.block⟩
            have f9 := outh_fs HO9.out gr9'
            have f9c := heap_cell f9 5
            have f9f := heap_frozen f9 5
            simp only [List.getElem?_toArray, List.getElem?_cons_succ, List.getElem?_cons_zero] at f9c
            have hb9 : Below W0.heap.size W0 w9 := (HBV.out.alloc HBV.out.size _).grown gr9 HSZ.out (fun k hk => (OWA.out.lt k hk).1)
            have q := out_fs (y := fB bb) HO9.out gr9' (by rw [show (⟨fin, sups.map fun k => (⟨13, k⟩ : Hp), 2, [], [], (bits.map fB).take j⟩ : Sb).fs.length = j from HTL.out, HFY.out]; exact o9) (by simpa using mv9)
            have HB9 := Lib.hid hb9; have HQ := Lib.hid q
            clear o9 gr9 mv0 mv9 f9 hb9 q gr9'
            go_wp2
            go_roundw
            case rel =>
              refine ⟨j + 1, .slice a9 (j + 1) c9, by go_num, HJ.out, ?_, HB9.out.setCell (by have := HOB.out; have := HWS.out; dsimp only; omega) _⟩
              rw [List.take_add_one, List.getElem?_map, HBB.out]
              exact HQ.out
            case measure => have := HJ.out; simp [intOf]; omega
          · have hb1 : (bb == 64) = false := by simpa using hbb
            have hb2 : ¬ bb = 64 := hbb
            have huv : Upd (fun _ => False) wr (wr.alloc (.cells #[.int .i64 1, .bool false, .int .i64 0, .int .i64 0] 89)) := ((Upd.refl (fun _ => False) wr).alloc _)
            have hfy : fB bb = ⟨0, ⟨1, false, 0, 0⟩, false⟩ := by simp [fB, hbb]
            have HRW := Lib.hid (row_cells (b := wr.heap.size + 1) (cs := [.int .i64 0, .int .i64 1, .bool false, .int .i64 0, .int .i64 0, .bool false]) (heap_alloc_at (wr.alloc (.cells #[.int .i64 1, .bool false, .int .i64 0, .int .i64 0] 89)) (.cells #[.int .i64 0, .int .i64 1, .bool false, .int .i64 0, .int .i64 0, .bool false] 93) (by simp)))
            have OWA := Lib.hid ((ownsRow_upd OW.out huv (fun _ _ q => q)).alloc (.cells #[.int .i64 0, .int .i64 1, .bool false, .int .i64 0, .int .i64 0, .bool false] 93))
            have hbv : Below W0.heap.size W0 (wr.alloc (.cells #[.int .i64 1, .bool false, .int .i64 0, .int .i64 0] 89)) := HBE.out.trans ((huv.toBelow (fun _ q => q)).mono HBE.out.size)
            have HSZ := Lib.hid (hbv.alloc hbv.size (.cells #[.int .i64 0, .int .i64 1, .bool false, .int .i64 0, .int .i64 0, .bool false] 93)).size
            have HO9 := Lib.hid (HO.out.same huv)
            have HBV := Lib.hid hbv; have HFY := Lib.hid hfy
            clear huv hfy hbv
            go_wp2_with (at_builtin; refine wpList_append_own_at _ rfl _ _ 40 rfl W0.heap.size 93 i2 _ 6 48 Tryz.underlying40 Hi2.out Hz02.out Hz12.out Hz22.out rfl (by decide) _ _ _ rfl OWA.out ⟨wr.heap.size + 1, 0, none⟩ 1 1 [.int .i64 0, .int .i64 1, .bool false, .int .i64 0, .int .i64 0, .bool false] rfl rfl HRW.out (by intro u hu; simp at hu; rcases hu with rfl | rfl | rfl | rfl | rfl | rfl <;> rfl) (by have := HJ.out; have := HN.out; unfold maxLen; omega) (by have := HJ.out; have := HN.out; omega) HSZ.out ?_)
            intro v9 w9 o9 gr9 mv0 mv9
            obtain ⟨a9, c9, rfl, -⟩ := ownsRow_form o9
            have gr9' : ((wr.alloc (.cells #[.int .i64 1, .bool false, .int .i64 0, .int .i64 0] 89)).drew.alloc (.cells #[.int .i64 0, .int .i64 1, .bool false, .int .i64 0, .int .i64 0, .bool false] 93)).grownBy w9 (Value.slice aov j cov).ownBlock := ⟨gr9.os, gr9.tape, gr9.output, gr9.size, gr9.block⟩
            have f9 := outh_fs HO9.out gr9'
            have f9c := heap_cell f9 5
            have f9f := heap_frozen f9 5
            simp only [List.getElem?_toArray, List.getElem?_cons_succ, List.getElem?_cons_zero] at f9c
            have hb9 : Below W0.heap.size W0 w9 := (HBV.out.alloc HBV.out.size _).grown gr9 HSZ.out (fun k hk => (OWA.out.lt k hk).1)
            have q := out_fs (y := fB bb) HO9.out gr9' (by rw [show (⟨fin, sups.map fun k => (⟨13, k⟩ : Hp), 2, [], [], (bits.map fB).take j⟩ : Sb).fs.length = j from HTL.out, HFY.out]; exact o9) (by simpa using mv9)
            have HB9 := Lib.hid hb9; have HQ := Lib.hid q
            clear o9 gr9 mv0 mv9 f9 hb9 q gr9'
            go_wp2
            go_roundw
            case rel =>
              refine ⟨j + 1, .slice a9 (j + 1) c9, by go_num, HJ.out, ?_, HB9.out.setCell (by have := HOB.out; have := HWS.out; dsimp only; omega) _⟩
              rw [List.take_add_one, List.getElem?_map, HBB.out]
              exact HQ.out
            case measure => have := HJ.out; simp [intOf]; omega
        · obtain rfl : j = n := by omega
          have hlt' : ¬ (j : Int) < j := by omega
          have ho3 : OutS W0.heap.size ob ⟨fin, sups.map fun k => (⟨13, k⟩ : Hp), 2, [], [], bits.map fB⟩ wr (.slice aos i cos) (.slice none 0 0) (.slice none 0 0) (.slice aov j cov) := by
            have h := HO.out
            rw [List.take_of_length_le (by rw [List.length_map, HNN.out]; exact Nat.le_refl _)] at h
            exact h
          have HO3 := Lib.hid ho3
          have g0 := heap_cell ho3.hp 0; have g1 := heap_cell ho3.hp 1; have g2 := heap_cell ho3.hp 2; have g3 := heap_cell ho3.hp 3; have g4 := heap_cell ho3.hp 4; have g5 := heap_cell ho3.hp 5
          simp only [List.getElem?_toArray, List.getElem?_cons_succ, List.getElem?_cons_zero] at g0 g1 g2 g3 g4 g5
          have hz := (HBE.out.block _ (heap_lt HZ.out)).trans HZ.out
          have h1 : (#[.bool fin, .slice aos i cos, .int .i64 2, .slice none 0 0, .slice none 0 0, .slice aov j cov] : Array Value).all (·.oneCell') = true := by simp [Value.oneCell']
          have H1 := Lib.hid h1; have HZW := Lib.hid hz
          clear ho3 hlt hj hz h1
          go_wp2_with (first | (refine wpList_store_row rfl 44 _ _ rfl w.heap.size #[.bool fin, .slice aos i cos, .int .i64 2, .slice none 0 0, .slice none 0 0, .slice aov j cov] rfl rfl 44 #[.bool false, .slice none 0 0, .int .i64 0, .slice none 0 0, .slice none 0 0, .slice none 0 0] HZW.out sizeSubC rfl H1.out ?_) | fail)
          (try simp only [Exit.inBlock, Exit.then])
          have hr : (loadVar 44 ⟨w.heap.size, 0, none⟩).run Tryz.prog (wr.setRow w.heap.size #[.bool fin, .slice aos i cos, .int .i64 2, .slice none 0 0, .slice none 0 0, .slice aov j cov]) = .ok (.agg #[.bool fin, .slice aos i cos, .int .i64 2, .slice none 0 0, .slice none 0 0, .slice aov j cov]) (wr.setRow w.heap.size #[.bool fin, .slice aos i cos, .int .i64 2, .slice none 0 0, .slice none 0 0, .slice aov j cov]) :=
            run_loadVar_row _ _ 44 44 _ (0, 0) _ (setRow_heap _ _ _ _ _ _ HZW.out) Tryz.underlying44 rfl sizeSubC
          refine bodyPost_ret (v := .agg #[.bool fin, .slice aos i cos, .int .i64 2, .slice none 0 0, .slice none 0 0, .slice aov j cov]) (by simp [results, Tryz.results17, asAddr, hr]) rfl ?_
          have hu : Upd (fun q => q = w.heap.size) wr (wr.setRow w.heap.size #[.bool fin, .slice aos i cos, .int .i64 2, .slice none 0 0, .slice none 0 0, .slice aov j cov]) := ⟨rfl, rfl, rfl, by rw [size_setRow]; exact Nat.le_refl _, fun q _ hq => setRow_other _ _ _ _ (fun e => hq e)⟩
          have hlow : ∀ {e : TypeId} {sz : Nat} {v : Value} {nn : Nat} {xs : List Value}, wr.ownsRow W0.heap.size e sz v nn xs → ∀ b, v.ownBlock = some b → ¬ (b = w.heap.size ∨ b < w.heap.size) := fun h b hb e => by have := (h.lt b hb).1; have := HWS.out; omega
          have h3 := HO3.out
          refine ⟨_, rfl, rfl, fun w'' hu2 => have hu3 := (hu.mono fun _ _ q => Or.inl q : Upd (fun q => q = w.heap.size ∨ q < w.heap.size) _ _).trans' (hu2.mono fun _ _ q => .inr q); ⟨_, _, _, _, rfl, RowAt.of_own (ownsRow_upd h3.os hu3 (hlow h3.os)), RowAt.of_own (ownsRow_upd h3.op hu3 (hlow h3.op)), RowAt.of_own (ownsRow_upd h3.or hu3 (hlow h3.or)), RowAt.of_own (ownsRow_upd h3.of hu3 (hlow h3.of))⟩, ?_⟩
          have hbb := HB.out.trans (HBE.out.mono HB.out.size)
          exact ⟨hbb.os, hbb.tape, hbb.output, by rw [size_setRow]; exact hbb.size, fun q hq => (setRow_other _ _ _ _ (by omega)).trans (hbb.block q hq)⟩
end Go.Proofs.YtkgmfbfpmlnfcaaGreatDoor
