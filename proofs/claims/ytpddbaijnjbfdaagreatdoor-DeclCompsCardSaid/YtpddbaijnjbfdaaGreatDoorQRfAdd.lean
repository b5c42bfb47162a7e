import Derived.Test.YtpddbaijnjbfdaaGreatDoorQRfSameBd
namespace Go.Proofs.YtpddbaijnjbfdaaGreatDoor
open Lib (hid)
open Go.RowKit
set_option maxRecDepth 100000 in
set_option maxHeartbeats 4000000 in
theorem rSameG_any (a b : Value) (g h : List Sb) (w : World) (ha : GrpAt w a g) (hb : GrpAt w b h) (hg : ∀ x ∈ g, cnt x ≤ 1000000) (hh : ∀ x ∈ h, cnt x ≤ 1000000) (hl : g.length ≤ 1000000) :
    Calls Tryz.prog 59 #[a, b] w fun e w' => e = .returned (.bool (decide (g = h))) ∧ Below w.heap.size w w' := by
  obtain ⟨a1, c1, rfl⟩ := ha.form
  obtain ⟨a2, c2, rfl⟩ := hb.form
  by_cases hlen : g.length = h.length
  · obtain ⟨n, hn⟩ : ∃ n, g.length = n := ⟨_, rfl⟩
    have hn2 : h.length = n := by rw [← hlen]; exact hn
    have HA := hid ha; have HB := hid hb; have HN := hid hn; have HN2 := hid hn2; have HG := hid hg; have HH := hid hh
    rw [hn] at hl
    rw [hn, hn2]
    have HL := hid hl
    clear ha hb hlen hn hn2 hl hg hh
    go_enter Tryz.func59, Tryz.ntmps59
    go_wp2
    go_loopw [5] (fun t5 wr => ∃ i : Nat, i ≤ n ∧ t5 = .int .i64 i ∧ g.take i = h.take i ∧ ∃ x : Ext w, wr = x.val) (fun t5 _ => n - (intOf t5).toNat)
    case atStart => exact ⟨0, by omega, rfl, rfl, ⟨_, Below.refl _ _⟩, rfl⟩
    case round =>
      obtain ⟨i, hi, rfl, htk, x, rfl⟩ := hrel
      have HT := hid htk
      clear htk
      by_cases hlt : i < n
      · obtain ⟨y, hy⟩ : ∃ y, g[i]? = some y := ⟨g[i]'(by rw [HN.out]; exact hlt), by simp⟩
        obtain ⟨z, hz⟩ : ∃ z, h[i]? = some z := ⟨h[i]'(by rw [HN2.out]; exact hlt), by simp⟩
        obtain ⟨b1, o1, e1, hb1, d1, f1, d2, f2, d3, f3, d4, f4, s1, p0, p1, p2, p3, p4, p5⟩ := (HA.out.below x.2 (Nat.le_refl _)).at hy
        obtain ⟨b2, o2, e2, hb2, d5, f5, d6, f6, d7, f7, d8, f8, s2, q0, q1, q2, q3, q4, q5⟩ := (HB.out.below x.2 (Nat.le_refl _)).at hz
        subst e1 e2
        have HY := hid hy; have HZ := hid hz; have HI := hid hlt
        have hlt' : (i : Int) < n := by omega
        have hi6 : (i : Int) < 1000000 := by have := HL.out; omega
        have C := fun (x' : Ext x.val) => rSame_any _ _ y z x'.val (s1.ext x') (s2.ext x') (HG.out y (List.mem_of_getElem? hy)) (HH.out z (List.mem_of_getElem? hz))
        obtain ⟨r, hr⟩ : ∃ r, decide (y = z) = r := ⟨_, rfl⟩
        rw [hr] at C
        have HC := hid C; have HR := hid hr
        clear hy hz hlt hi C hr s1 s2 hb1 hb2
        go_wp2_with fail
        go_still_tail 8, (by kernel_rfl)
        change wpList _ _ _ _ _ x.val.drew
        go_wp2_with fail
        refine (HC.out ⟨x.val.drew, (Below.refl _ _).drew⟩).mono ?_
        rintro e w1 ⟨rfl, hb1⟩
        have HX := hid (x.2.drew.trans (hb1.mono x.2.size))
        clear hb1 p0 p1 p2 p3 p4 p5 q0 q1 q2 q3 q4 q5 HC
        cases r
        · go_wp2
          go_ret
          exact ⟨retd (decide_eq_false (get_ne HY.out HZ.out (of_decide_eq_false HR.out))), HX.out⟩
        · go_wp2
          go_roundw
          case rel => exact ⟨i + 1, HI.out, by go_num, take_eq HY.out (by rw [HZ.out, of_decide_eq_true HR.out]) HT.out, ⟨_, HX.out⟩, rfl⟩
          case measure => have := HI.out; simp [intOf]; omega
      · obtain rfl : i = n := by omega
        have hlt' : ¬ (i : Int) < i := by omega
        have hlm : g = h := by have := HT.out; rw [List.take_of_length_le (by rw [HN.out]; exact Nat.le_refl _), List.take_of_length_le (by rw [HN2.out]; exact Nat.le_refl _)] at this; exact this
        have EQ := hid hlm
        clear hlm hlt hi
        go_wp2
        go_ret
        exact ⟨retd (decide_eq_true EQ.out), x.2⟩
  · have hne : g ≠ h := fun e => hlen (by rw [e])
    have h1 : ((g.length : Int) != (h.length : Int)) = true := by simpa using fun h => hlen (by omega)
    have NE := hid hne
    clear hne ha hb hlen
    go_enter Tryz.func59, Tryz.ntmps59
    go_wp2
    go_ret
    exact ⟨retd (decide_eq_false NE.out), Below.refl _ _⟩
theorem Tryz.infoSubs : (Tryz.prog.info? 97).map (fun i => (i.zero, i.size, i.bytes)) = some (some (.slice none 0 0), 1, 24) := by kernel_rfl
theorem findG_some {rs : List (List Sb)} {r : List Sb} {i : Nat} (hno : ∀ j, j < i → rs[j]? ≠ some r) (hi : rs[i]? = some r) : findG rs r = some i := by
  unfold findG
  rw [List.findIdx?_eq_some_iff_getElem]
  obtain ⟨hlt, he⟩ := List.getElem?_eq_some_iff.1 hi
  refine ⟨hlt, by simpa using he, fun j hj => ?_⟩
  have := hno j hj
  rw [List.getElem?_eq_getElem (by omega)] at this
  simpa using this
theorem findG_none {rs : List (List Sb)} {r : List Sb} (hno : ∀ j, j < rs.length → rs[j]? ≠ some r) : findG rs r = none := by
  unfold findG
  rw [List.findIdx?_eq_none_iff]
  intro x hx
  obtain ⟨j, hj⟩ := List.getElem?_of_mem hx
  have h1 := hno j (List.getElem?_eq_some_iff.1 hj).1
  rw [hj] at h1
  simpa using h1
theorem ints_own {w W : World} {B n : Nat} {u : Value} {l : List Int} {w'' : World} (h : W.ownsRow B 3 1 u n (l.map (Value.int .i64))) (hu : Upd (fun b => b < w.heap.size) W w'') (hB : w.heap.size ≤ B) : IntsAt w'' u l := by
  have h1 := RowAt.of_own (ownsRow_upd h hu (fun b hb hk => by have := (h.lt b hb).1; omega))
  have hn : n = l.length := by have := h.1; simp at this; omega
  rw [hn] at h1
  exact h1
def RAddP (R : Nat → Prop) (w : World) (t : Nat) (A : List Int × Int × List (List Sb)) (e : Ending) (w' : World) : Prop :=
  ∃ u R', e = .returned (.tuple #[u, .int .i64 A.2.1]) ∧ RefAt R' w' t A.2.2 ∧ (∀ w'', Upd (fun b => b < w.heap.size) w' w'' → IntsAt w'' u A.1) ∧ Upd (fun b => b = t) w w' ∧ Fresh R w R'
theorem RAddP.early {R : Nat → Prop} {w w' : World} {t : Nat} {rs : List (List Sb)} {A : List Int × Int × List (List Sb)} {er : Int} (ht : RefAt R w t rs) (hA : A = ([], er, rs)) (hb : Below w.heap.size w w') : RAddP R w t A (.returned (.tuple #[.slice none 0 0, .int .i64 er])) w' := by
  subst hA
  exact ⟨_, R, rfl, ht.below hb, fun w'' _ => RowAt.nil w'' 1, Upd.of_below hb, Fresh.refl _ _⟩
theorem inn_step {rs : List (List Sb)} {ids : List Int} {i : Nat} {z : Int} (hz : ids[i]? = some z) (h : (ids.take i).all (inTab rs) = true) (h2 : inTab rs z = true) : (ids.take (i + 1)).all (inTab rs) = true := by
  rw [take_all hz, h, h2]; rfl
set_option maxRecDepth 100000 in
set_option maxHeartbeats 16000000 in
theorem rAdd_any {R : Nat → Prop} {w : World} {t : Nat} {v1 v2 : Value} {rs : List (List Sb)} {ids : List Int} {g : List Sb} (ht : RefAt R w t rs) (htot : total rs ≤ 10000) (hl : rs.length ≤ 100000) (hd : ∀ g ∈ rs, ∀ x ∈ g, cnt x ≤ 1000000) (h1 : IntsAt w v1 ids) (hil : ids.length ≤ 100000) (h2 : GrpAt w v2 g) (hgl : g.length ≤ 1000) (hs : ∀ x ∈ g, Small x ∧ cnt x ≤ 1000000) :
    Calls Tryz.prog 27 #[.pointer (some ⟨t, 0, none⟩), v1, v2] w (RAddP R w t (addR rs ids g)) := by
  obtain ⟨a1, c1, rfl⟩ := RowAt.form (v := v1) h1
  obtain ⟨a2, c2, rfl⟩ := h2.form
  obtain ⟨i1, hi', hz0', hz1', hz2'⟩ := info_parts Tryz.infoInt
  obtain ⟨i2, hi2, hz02, hz12, hz22⟩ := info_parts Tryz.infoSubs
  have Hi' := hid hi'; have Hz0' := hid hz0'; have Hz1' := hid hz1'; have Hz2' := hid hz2'
  have Hi2 := hid hi2; have Hz02 := hid hz02; have Hz12 := hid hz12; have Hz22 := hid hz22
  obtain ⟨ag, cg, vs, ht1, hvl, hvr, hvg⟩ := ht.ex
  have ht2 : ∀ w'', Upd (fun b => ¬ R b) w w'' → GrpsAt w'' (.slice ag rs.length cg) rs := fun w'' u => ⟨vs, hvl, hvr w'' u, fun i v g hv hg => hvg i v g hv hg w'' u⟩
  have HVL := hid hvl; have HVR := hid hvr; have HVG := hid hvg; have HT1 := hid ht1
  have hc : ∀ x : Ext w, x.val.cell? ⟨t, 0, none⟩ = some (.slice ag rs.length cg) := Ext.cells (heap_cell ht1 0)
  have HG2 := hid (ht2 w (Upd.refl _ _))
  have HT := hid ht; have HTOT := hid htot; have HLN := hid hl; have HD := hid hd; have H1 := hid h1; have HIL := hid hil; have H2 := hid h2; have HGL := hid hgl; have HS := hid hs; have HC := hid hc
  obtain ⟨A, hA⟩ : ∃ A, addR rs ids g = A := ⟨_, rfl⟩
  rw [hA]
  have HA := hid hA
  have hil6 : (ids.length : Int) ≤ 100000 := by omega
  clear ht htot hl hd h1 hil h2 hgl hs hc ht1 ht2 hA hi' hz0' hz1' hz2' hi2 hz02 hz12 hz22 hvl hvr hvg
  go_enter Tryz.func27, Tryz.ntmps27
  go_wp2
  go_loopw [8] (fun t8 wr => ∃ i : Nat, t8 = .int .i64 i ∧ i ≤ ids.length ∧ (ids.take i).all (inTab rs) = true ∧ ∃ x : Ext w, wr = x.val) (fun t8 _ => ids.length - (intOf t8).toNat)
  case atStart => exact ⟨0, rfl, Nat.zero_le _, rfl, ⟨_, Below.refl _ _⟩, rfl⟩
  case round =>
    obtain ⟨i, rfl, hi, hin, x, rfl⟩ := hrel
    have HIN := hid hin
    clear hin
    by_cases hlt : i < ids.length
    · obtain ⟨z, hz⟩ : ∃ z, ids[i]? = some z := ⟨ids[i], by simp [hlt]⟩
      obtain ⟨b1, o1, e1, _, p0⟩ := IntsAt.at (H1.out.below x.2 (Nat.le_refl _)) hz
      subst e1
      have hlt' : (i : Int) < ids.length := by omega
      have hi6 : (i : Int) < 1000000 := by omega
      have HZ := hid hz; have HLT := hid hlt
      have C := fun n : Nat => rLen_dr (HT.out.below (x.2.trans (below_drewN x.val n))) HTOT.out (Nat.le_trans HLN.out (by decide))
      obtain ⟨tt, htt⟩ : ∃ n, total rs = n := ⟨_, rfl⟩
      rw [htt] at C
      have HTT := hid htt; have HCL := hid C
      clear hz hlt hi C htt
      by_cases hz0 : z < 0
      · have HNO := hid (show inTab rs z = false by simp only [inTab, Bool.and_eq_false_iff, decide_eq_false_iff_not]; omega)
        go_wp2
        go_quiet (fail)
        go_wp2
        go_ret2
        refine RAddP.early HT.out ?_ (x.2.trans (below_drewN _ _))
        rw [← HA.out]; unfold addR
        rw [if_pos]
        intro h
        have := List.all_eq_true.1 h z (List.mem_of_getElem? HZ.out)
        rw [HNO.out] at this; cases this
      · have HZ0 := hid hz0
        have hzd : decide (z < 0) = false := by simpa using hz0
        by_cases hz1 : z < (tt : Int)
        · have HYES := hid (show inTab rs z = true by simp only [inTab, Bool.and_eq_true, decide_eq_true_eq]; have := HZ0.out; have := HTT.out; omega)
          have hz2 : ¬ (tt : Int) ≤ z := by omega
          have hz3 : decide ((tt : Int) ≤ z) = false := by simpa using hz1
          go_wp2
          go_quiet ((go_at_call 31; exact Calls.quiet_of (HCL.out _)))
          go_wp2
          go_roundw
          case rel => exact ⟨i + 1, by go_num, HLT.out, inn_step HZ.out HIN.out HYES.out, ⟨_, x.2.trans (below_drewN _ _)⟩, rfl⟩
          case measure => have := HLT.out; simp [intOf]; omega
        · have HNO := hid (show inTab rs z = false by simp only [inTab, Bool.and_eq_false_iff, decide_eq_false_iff_not]; have := HTT.out; omega)
          have hz2 : (tt : Int) ≤ z := by omega
          have hz3 : decide ((tt : Int) ≤ z) = true := by simpa using hz1
          go_wp2
          go_quiet ((go_at_call 31; exact Calls.quiet_of (HCL.out _)))
          go_wp2
          go_ret2
          refine RAddP.early HT.out ?_ (x.2.trans (below_drewN _ _))
          rw [← HA.out]; unfold addR
          rw [if_pos]
          intro h
          have := List.all_eq_true.1 h z (List.mem_of_getElem? HZ.out)
          rw [HNO.out] at this; cases this
    · obtain rfl : i = ids.length := by omega
      have hlt' : ¬ (ids.length : Int) < ids.length := by omega
      have h0 := HIN.out
      rw [List.take_length] at h0
      have HIN := hid h0
      clear h0 hlt hi
      have C := hid (rRoll_any _ _ ids g x.val (H1.out.below x.2 (Nat.le_refl _)) (H2.out.below x.2 (Nat.le_refl _)) (Nat.le_trans HIL.out (by decide)) (Nat.le_trans HGL.out (by decide)) HS.out)
      go_wp2_with fail
      refine C.out.mono ?_
      rintro e w1 ⟨hor, hb1⟩
      have HB1 := hid (x.2.trans (hb1.mono x.2.size))
      have XS := hid x.2.size
      clear hb1 C
      rcases hor with ⟨hrr, rfl⟩ | ⟨r, u, hrr, rfl, hgr⟩
      · have HRR := hid hrr
        clear hrr
        go_wp2
        go_ret2
        refine RAddP.early HT.out ?_ HB1.out
        rw [← HA.out]; unfold addR
        rw [if_neg (by rw [HIN.out]; simp), HRR.out]
      obtain ⟨au, cu, rfl⟩ := (hgr w1 (Upd.refl _ _)).form
      obtain ⟨rl, hrl⟩ : ∃ n, r.length = n := ⟨_, rfl⟩
      have hrg : r.length = g.length ∧ ∀ y ∈ r, cnt y ≤ 1000000 := by
        unfold rollR at hrr
        split at hrr
        · obtain rfl := Option.some.inj hrr
          refine ⟨by simp, fun y hy => ?_⟩
          obtain ⟨q, hq, rfl⟩ := List.mem_map.1 hy
          rw [show cnt (mapP (shutP ids) q) = cnt q by simp [cnt, mapP]]
          exact (HS.out q hq).2
        · cases hrr
      have HRL := hid (show rl ≤ 1000 by have := HGL.out; omega)
      have HRC := hid hrg.2
      have HRR := hid hrr; have HGR := hid hgr; have HRN := hid hrl
      have hrl6 : (rl : Int) ≤ 1000 := by have := HRL.out; omega
      rw [hrl]
      clear hrr hgr hrl hrg
      go_wp2_with (at_builtin; refine wpList_append_row _ rfl _ _ 23 rfl w1.heap.size 3 i1 _ 1 8 Tryz.underlying23 Hi'.out Hz0'.out Hz1'.out Hz2'.out rfl (by decide) _ 0 [] rfl (owns_e w1 (Nat.le_refl _) _ _ rfl) _ ids.length (ids.map (Value.int .i64)) rfl (H1.out.below (HB1.out.alloc HB1.out.size _) (Nat.le_refl _)) (by intro u hu; obtain ⟨q, _, rfl⟩ := List.mem_map.1 hu; rfl) (by have := HIL.out; unfold maxLen; omega) (by have := HIL.out; omega) (by simp) ?_)
      intro v2 w2 o2 g2
      obtain ⟨ao2, co2, rfl, _⟩ := ownsRow_form o2
      have hb2 : Below w1.heap.size w1 w2 := ((Below.refl _ _).alloc (Nat.le_refl _) _).grown g2 (by simp) (fun k hk => by simp [Value.ownBlock] at hk; omega)
      have O2 := hid o2; have B2 := hid hb2; have BW2 := hid (HB1.out.trans (hb2.mono HB1.out.size))
      clear o2 g2 hb2
      obtain ⟨n, hn⟩ : ∃ n, rs.length = n := ⟨_, rfl⟩
      have HN := hid hn
      rw [hn] at HC
      clear hn
      have hn6 : (n : Int) ≤ 100000 := by have := HLN.out; have := HN.out; omega
      go_wp2
      go_loopw [11, 12, 13] (fun t11 t12 t13 wr => ∃ i : Nat, t11 = .slice ao2 ids.length co2 ∧ t13 = .int .i64 i ∧ t12 = .int .i64 (firstOf rs i : Nat) ∧ i ≤ n ∧ (∀ j, j < i → rs[j]? ≠ some r) ∧ ∃ x : Ext w2, wr = x.val) (fun _ _ t13 _ => n - (intOf t13).toNat)
      case atStart => exact ⟨0, rfl, rfl, rfl, Nat.zero_le _, fun j hj => by omega, ⟨_, Below.refl _ _⟩, rfl⟩
      case round =>
        obtain ⟨i, rfl, rfl, rfl, hi, hno, x, rfl⟩ := hrel
        have HNO := hid hno
        clear hno
        have BX := hid (BW2.out.trans (x.2.mono BW2.out.size))
        have B9 := hid (B2.out.trans (x.2.mono B2.out.size))
        by_cases hlt : i < n
        · obtain ⟨h, hh⟩ : ∃ h, rs[i]? = some h := ⟨rs[i]'(by rw [HN.out]; exact hlt), by simp⟩
          obtain ⟨b, off, a1, c1, rfl, q0, hgh⟩ := GrpsAt.at (HG2.out.below BX.out (Nat.le_refl _)) hh
          have h1 := firstOf_add hh
          have h2 := firstOf_succ hh
          have HSC := hid h2; have HLT := hid hlt; have HH := hid hh
          have hhc := HD.out h (List.mem_of_getElem? hh)
          have hc' : x.val.cell? ⟨t, 0, none⟩ = some (.slice (some ⟨b, off, none⟩) n cg) := HC.out ⟨_, BX.out⟩
          have C := rSameG_any _ _ h r x.val hgh (HGR.out x.val ((Upd.of_below B9.out : Upd (fun _ => False) w1 x.val).mono fun _ _ h => h.elim)) hhc HRC.out (by have := HTOT.out; omega)
          obtain ⟨f, hf⟩ : ∃ f, firstOf rs i = f := ⟨_, rfl⟩
          obtain ⟨gl, hgl⟩ : ∃ gl, h.length = gl := ⟨_, rfl⟩
          obtain ⟨s, hs⟩ : ∃ s, decide (h = r) = s := ⟨_, rfl⟩
          have hlt' : (i : Int) < n := by omega
          have hi6 : (i : Int) < 1000000 := by omega
          have hf6 : (f : Int) ≤ 10000 := by have := HTOT.out; omega
          have hg6 : (gl : Int) ≤ 10000 := by have := HTOT.out; omega
          rw [hf]
          rw [hs, hgl, HRN.out] at C
          rw [hgl] at q0
          have HF := hid hf; have HGH := hid hgl; have CH := hid C; have HSE := hid hs
          clear hh h1 h2 hlt hhc hgh hf hgl hs C hi
          go_wp2_with fail
          refine CH.out.mono ?_
          rintro e w9 ⟨rfl, hb9⟩
          have B9 := hid (B9.out.trans (hb9.mono B9.out.size)); have BX9 := hid (BX.out.trans (hb9.mono BX.out.size)); have BE9 := hid (x.2.trans (hb9.mono x.2.size))
          have hc9 : w9.cell? ⟨t, 0, none⟩ = some (.slice (some ⟨b, off, none⟩) n cg) := HC.out ⟨_, BX9.out⟩
          have q9 := (hb9.cell (World.block_lt_of_cell? _ _ q0)).trans q0
          clear hb9 CH
          cases s
          · go_wp2
            go_roundw
            case rel =>
              refine ⟨i + 1, rfl, by go_num, by rw [HSC.out, HF.out, HGH.out]; go_num, HLT.out, fun j hj => ?_, ⟨_, BE9.out⟩, rfl⟩
              by_cases e : j < i
              · exact HNO.out j e
              · obtain rfl : j = i := by omega
                rw [HH.out]
                exact fun e => of_decide_eq_false HSE.out (Option.some.inj e)
            case measure => have := HLT.out; simp [intOf]; omega
          · have HFG := hid (findG_some HNO.out (by rw [HH.out, of_decide_eq_true HSE.out]))
            have O9 := hid (ownsRow_upd O2.out (Upd.of_below BE9.out : Upd (fun _ => False) w2 w9) (fun _ _ h => h))
            clear hc9 q9 hc' q0
            go_wp2
            go_loopw [11, 14] (fun t11 t14 wr => ∃ k : Nat, t14 = .int .i64 k ∧ k ≤ rl ∧ wr.ownsRow w1.heap.size 3 1 t11 (ids.length + k) ((ids ++ (List.range k).map (fun k : Nat => (f : Int) + (k : Int))).map (Value.int .i64)) ∧ Below w1.heap.size w1 wr) (fun _ t14 _ => rl - (intOf t14).toNat)
            case atStart => exact ⟨0, rfl, Nat.zero_le _, by simpa using O9.out, B9.out⟩
            case round =>
              obtain ⟨k, rfl, hk, ho, hbe⟩ := hrel
              obtain ⟨ua, uc, rfl, _⟩ := ownsRow_form ho
              by_cases hlt : k < rl
              · have hlt' : (k : Int) < rl := by omega
                have hk6 : (k : Int) ≤ 10000 := by have := HRL.out; omega
                have HR2 := hid (row_cells (cs := [.int .i64 ((f : Int) + (k : Int))]) (heap_alloc_at wr (.cells #[.int .i64 ((f : Int) + (k : Int))] 3) rfl))
                have HO := hid ho; have HBE := hid hbe; have HLT := hid hlt
                clear ho hbe hlt hk
                go_wp2_with (at_builtin; refine wpList_append_own2 _ rfl _ _ 23 rfl w1.heap.size 3 i1 _ 1 8 Tryz.underlying23 Hi'.out Hz0'.out Hz1'.out Hz2'.out rfl (by decide) _ _ _ rfl (HO.out.alloc _) ⟨wr.heap.size, 0, none⟩ 1 1 [.int .i64 ((f : Int) + (k : Int))] rfl rfl HR2.out (by intro u hu; simp at hu; rcases hu with rfl; rfl) (by have := HIL.out; have := HRL.out; have := HLT.out; unfold maxLen; omega) (by have := HIL.out; have := HRL.out; have := HLT.out; omega) (by have := HBE.out.size; simp; omega) (by decide) ?_)
                intro v5 w6 o5 gr5 mv5
                have hb5 : Below w1.heap.size w1 w6 := (HBE.out.alloc HBE.out.size _).grown gr5 (by have := HBE.out.size; simp; omega) (fun k hk => (HO.out.lt k hk).1)
                have O5 := hid o5; have HB5 := hid hb5
                clear o5 gr5 mv5 hb5
                go_wp2
                go_roundw
                case rel =>
                  refine ⟨k + 1, by go_num, HLT.out, ?_, HB5.out⟩
                  have h := O5.out
                  rw [List.range_succ]
                  simpa [Nat.add_assoc] using h
                case measure => have := HLT.out; simp [intOf]; omega
              · obtain rfl : k = rl := by omega
                have hlt' : ¬ (k : Int) < k := by omega
                have HO := hid ho; have HBE := hid hbe
                clear ho hbe hlt hk
                go_wp2
                go_ret2
                have hA : A = (ids ++ (List.range r.length).map (fun k : Nat => (firstOf rs i : Int) + (k : Int)), 0, rs) := by
                  rw [← HA.out]; unfold addR
                  rw [if_neg (by rw [HIN.out]; simp), HRR.out]
                  dsimp only
                  rw [HFG.out]
                rw [hA, HRN.out, HF.out]
                have hbw := HB1.out.trans (HBE.out.mono HB1.out.size)
                have hz := HB1.out.size
                exact ⟨_, R, rfl, HT.out.below hbw, fun w'' hu => ints_own HO.out hu hz, Upd.of_below hbw, Fresh.refl _ _⟩
        · obtain rfl : i = n := by omega
          have hlt' : ¬ (i : Int) < i := by omega
          have hff : firstOf rs i = total rs := firstOf_full (by rw [HN.out]; exact Nat.le_refl _)
          have HFG := hid (findG_none (rs := rs) (r := r) (by rw [HN.out]; exact HNO.out))
          rw [hff]
          obtain ⟨tf, htf⟩ : ∃ tf, total rs = tf := ⟨_, rfl⟩
          have HTF := hid htf
          rw [htf]
          have htf6 : (tf : Int) ≤ 10000 := by have := HTOT.out; omega
          clear hff htf hlt hi
          have hc' : x.val.cell? ⟨t, 0, none⟩ = some (.slice ag i cg) := HC.out ⟨_, BX.out⟩
          by_cases hfu : 10000 < tf + rl
          · have hfu' : (10000 : Int) < (tf : Int) + rl := by omega
            have HFU := hid hfu
            clear hfu
            go_wp2
            go_ret2
            refine RAddP.early HT.out ?_ BX.out
            rw [← HA.out]; unfold addR
            rw [if_neg (by rw [HIN.out]; simp), HRR.out]
            dsimp only
            rw [HFG.out]
            dsimp only
            rw [if_pos (by rw [HTF.out, HRN.out]; exact HFU.out)]
          · have hfu' : ¬ (10000 : Int) < (tf : Int) + rl := by omega
            have HNF := hid (show ¬ 10000 < total rs + r.length by rw [HTF.out, HRN.out]; exact hfu)
            clear hfu
            have hcA : (x.val.alloc (.cells #[] 97)).cell? ⟨t, 0, none⟩ = some (.slice ag i cg) := cell_alloc hc' _
            have htl : t < x.val.heap.size := World.block_lt_of_cell? _ _ hc'
            have HTL := hid htl
            have hrow : RowAt (x.val.alloc (.cells #[] 97)) 1 (.slice ag i cg) i vs := by rw [← HN.out]; exact HVR.out _ (Upd.of_below (BX.out.alloc BX.out.size _))
            have HROW := hid hrow
            have HV1 := hid (show ∀ u ∈ vs, u.oneCell' = true from fun u hu => by
              obtain ⟨j, hj⟩ := List.getElem?_of_mem hu
              have hjl := (List.getElem?_eq_some_iff.1 hj).1
              obtain ⟨h, hh⟩ : ∃ h, rs[j]? = some h := ⟨rs[j]'(by rw [← HVL.out]; exact hjl), by simp⟩
              obtain ⟨_, _, rfl⟩ := (HVG.out j u h hj hh w (Upd.refl _ _)).form
              rfl)
            clear hrow
            go_wp2_with (at_builtin; refine wpList_append_row _ rfl _ _ 22 rfl x.val.heap.size 97 i2 _ 1 24 Tryz.underlying22 Hi2.out Hz02.out Hz12.out Hz22.out rfl (by decide) _ 0 [] rfl (owns_e x.val (Nat.le_refl _) _ _ rfl) _ i vs rfl HROW.out HV1.out (by unfold maxLen; omega) (by omega) (by simp) ?_)
            intro v3 w3 o3 g3
            obtain ⟨a3, c3, rfl, _⟩ := ownsRow_form o3
            have hb3 : Below x.val.heap.size x.val w3 := ((Below.refl _ _).alloc (Nat.le_refl _) _).grown g3 (by simp) (fun k hk => by simp [Value.ownBlock] at hk; omega)
            have HR3 := hid (row_cells (cs := [.slice au rl cu]) (heap_alloc_at w3 (.cells #[.slice au rl cu] 97) rfl))
            have O3 := hid o3; have B3 := hid hb3
            have hc3 : w3.cell? ⟨t, 0, none⟩ = some (.slice ag i cg) := (hb3.cell htl).trans hc'
            have htl3 : t < w3.heap.size := World.block_lt_of_cell? _ _ hc3
            clear o3 g3 hb3 hcA
            go_wp2_with (at_builtin; refine wpList_append_own2 _ rfl _ _ 22 rfl x.val.heap.size 97 i2 _ 1 24 Tryz.underlying22 Hi2.out Hz02.out Hz12.out Hz22.out rfl (by decide) _ _ _ rfl (O3.out.alloc _) ⟨w3.heap.size, 0, none⟩ 1 1 [.slice au rl cu] rfl rfl HR3.out (by intro u hu; simp at hu; rcases hu with rfl; rfl) (by unfold maxLen; omega) (by omega) (by have := B3.out.size; simp; omega) (by decide) ?_)
            intro v4 w4 o4 gr4 mv4
            obtain ⟨a4, c4, rfl, _⟩ := ownsRow_form o4
            have hb4 : Below x.val.heap.size x.val w4 := (B3.out.alloc B3.out.size _).grown gr4 (by have := B3.out.size; simp; omega) (fun k hk => (O3.out.lt k hk).1)
            have O4 := hid o4; have B4 := hid hb4
            have z4 : w4.heap[t]? = some (.cells #[.slice ag rs.length cg] 31 (0, 0)) := by rw [(BX.out.trans (hb4.mono BX.out.size)).block _ HT.out.tlt]; exact HT1.out
            have hc4 := heap_cell z4 0
            have hf4 := heap_frozen z4 0
            simp at hc4
            have Z4 := hid z4
            clear o4 gr4 mv4 hb4 z4 hc3 hc' htl htl3
            go_wp2
            obtain ⟨w5, hw5⟩ : ∃ w5 : World, w4.setCell ⟨t, 0, none⟩ (.slice a4 (i + 1) c4) = w5 := ⟨_, rfl⟩
            rw [hw5]
            have hbx5 : Upd (fun b => b = t) x.val w5 := by rw [← hw5]; exact (Upd.of_below B4.out : Upd (fun b => b = t) x.val w4).setCell (.inl rfl) _
            have hz5 : w5.heap[t]? = some (.cells #[.slice a4 (i + 1) c4] 31 (0, 0)) := by rw [← hw5]; have q := heap_set_at Z4.out 0 (.slice a4 (i + 1) c4); simpa using q
            have ho5 : w5.ownsRow x.val.heap.size 97 1 (.slice a4 (i + 1) c4) (i + 1) (vs ++ [.slice au rl cu]) := by
              rw [← hw5]
              exact ownsRow_upd O4.out ((Upd.refl (fun b => b = t) w4).setCell (p := ⟨t, 0, none⟩) (.inl rfl) _) (fun b hb e => by have := (O4.out.lt b hb).1; have := HTL.out; omega)
            have hu5 : Upd (fun b => b = t) w w5 := (Upd.of_below BX.out : Upd (fun b => b = t) w x.val).trans' hbx5
            have UPD := hid hu5
            have W15 := hid (show w1.heap.size ≤ w5.heap.size by have := hbx5.size; have := B9.out.size; omega)
            have O9 := hid (ownsRow_upd O2.out ((Upd.of_below x.2 : Upd (fun b => b = t) w2 x.val).trans' hbx5) (fun b hb e => by have := (O2.out.lt b hb).1; have := HT.out.tlt; have := HB1.out.size; omega))
            have OB9 := hid (show ∀ k, (Value.slice ao2 ids.length co2).ownBlock = some k → k < x.val.heap.size from fun k hk => Nat.lt_of_lt_of_le (O2.out.lt k hk).2 x.2.size)
            have hto := HT.out.tlt
            have hlt1 : ∀ b, (Value.slice a4 (i + 1) c4).ownBlock = some b → x.val.heap.size ≤ b ∧ b < w5.heap.size := fun b hb => ho5.lt b hb
            have RT := hid (show RefAt (fun b => R b ∨ (w.heap.size ≤ b ∧ b < w1.heap.size) ∨ (Value.slice a4 (i + 1) c4).ownBlock = some b) w5 t (rs ++ [r]) from by
              have hn1 : (rs ++ [r]).length = i + 1 := by rw [List.length_append, HN.out]; rfl
              refine ⟨⟨a4, c4, vs ++ [.slice au rl cu], by rw [hn1]; exact hz5, by rw [hn1, List.length_append, HVL.out, HN.out]; rfl, fun w'' hu => ?_, fun j v h hv hh w'' hu => ?_⟩, ?_, ?_⟩
              · rw [hn1]; exact RowAt.of_own (ownsRow_upd ho5 hu (fun b hb q => q (.inr (.inr hb))))
              · by_cases hj : j < i
                · rw [List.getElem?_append_left (by rw [HVL.out, HN.out]; exact hj)] at hv
                  rw [List.getElem?_append_left (by rw [HN.out]; exact hj)] at hh
                  exact HVG.out j v h hv hh w'' ((hu5.mono fun b _ e => by subst e; exact HT.out.rt).trans' (hu.mono fun b _ q hr => q (.inl hr)))
                · have hj2 : j = i := by have := (List.getElem?_eq_some_iff.1 hh).1; rw [hn1] at this; omega
                  subst hj2
                  rw [List.getElem?_append_right (by rw [HVL.out, HN.out]; exact Nat.le_refl _), HVL.out, HN.out, Nat.sub_self] at hv
                  rw [List.getElem?_append_right (by rw [HN.out]; exact Nat.le_refl _), HN.out, Nat.sub_self] at hh
                  simp at hv hh
                  subst hv hh
                  refine (by rw [HRN.out]; exact id : GrpAt w'' (.slice au r.length cu) r → GrpAt w'' (.slice au rl cu) r) (HGR.out w'' ?_)
                  have h1 : Upd (fun b => b = t) w1 w5 := (Upd.of_below B9.out : Upd (fun b => b = t) w1 x.val).trans' hbx5
                  have hxs := XS.out
                  refine ⟨hu.os.trans h1.os, hu.tape.trans h1.tape, hu.output.trans h1.output, Nat.le_trans h1.size hu.size, fun k hk hn => ?_⟩
                  rw [hu.block k (by have := h1.size; omega) (fun q => q (.inr (.inl ⟨by omega, hk⟩))), h1.block k hk (by omega)]
              · intro q
                rcases q with q | q | q
                · exact HT.out.rt q
                · omega
                · have := (hlt1 _ q).1; have := HTL.out; omega
              · intro k q
                have h1 := hu5.size; have h2 := W15.out
                rcases q with q | q | q
                · have := HT.out.lt k q; omega
                · omega
                · exact (hlt1 _ q).2)
            have FRESH := hid (show Fresh R w (fun b => R b ∨ (w.heap.size ≤ b ∧ b < w1.heap.size) ∨ (Value.slice a4 (i + 1) c4).ownBlock = some b) from fun k hk => by
              rcases hk with q | q | q
              · exact .inl q
              · exact .inr q.1
              · have := (hlt1 _ q).1; have := BX.out.size; exact .inr (by omega))
            clear hw5 hbx5 hz5 ho5 hu5 hto hlt1 hc4 hf4
            go_loopw [11, 15] (fun t11 t14 wr => ∃ k : Nat, t14 = .int .i64 k ∧ k ≤ rl ∧ wr.ownsRow w1.heap.size 3 1 t11 (ids.length + k) ((ids ++ (List.range k).map (fun k : Nat => (tf : Int) + (k : Int))).map (Value.int .i64)) ∧ Upd (fun b => w1.heap.size ≤ b ∧ b < x.val.heap.size) w5 wr ∧ ∀ k, t11.ownBlock = some k → k < x.val.heap.size ∨ w5.heap.size ≤ k) (fun _ t14 _ => rl - (intOf t14).toNat)
            case atStart => exact ⟨0, rfl, Nat.zero_le _, by simpa using O9.out, Upd.refl _ _, fun k hk => .inl (OB9.out k hk)⟩
            case round =>
              obtain ⟨k, rfl, hk, ho, hbe, hob⟩ := hrel
              obtain ⟨ua, uc, rfl, _⟩ := ownsRow_form ho
              by_cases hlt : k < rl
              · have hlt' : (k : Int) < rl := by omega
                have hk6 : (k : Int) ≤ 10000 := by have := HRL.out; omega
                have HR2 := hid (row_cells (cs := [.int .i64 ((tf : Int) + (k : Int))]) (heap_alloc_at wr (.cells #[.int .i64 ((tf : Int) + (k : Int))] 3) rfl))
                have HO := hid ho; have HBE := hid hbe; have HLT := hid hlt; have HOB := hid hob
                clear ho hbe hlt hk hob
                go_wp2_with (at_builtin; refine wpList_append_own2 _ rfl _ _ 23 rfl w1.heap.size 3 i1 _ 1 8 Tryz.underlying23 Hi'.out Hz0'.out Hz1'.out Hz2'.out rfl (by decide) _ _ _ rfl (HO.out.alloc _) ⟨wr.heap.size, 0, none⟩ 1 1 [.int .i64 ((tf : Int) + (k : Int))] rfl rfl HR2.out (by intro u hu; simp at hu; rcases hu with rfl; rfl) (by have := HIL.out; have := HRL.out; have := HLT.out; unfold maxLen; omega) (by have := HIL.out; have := HRL.out; have := HLT.out; omega) (by have := HBE.out.size; have := W15.out; simp; omega) (by decide) ?_)
                intro v5 w6 o5 gr5 mv5
                have hb5 : Upd (fun b => w1.heap.size ≤ b ∧ b < x.val.heap.size) w5 w6 ∧ ∀ k, v5.ownBlock = some k → k < x.val.heap.size ∨ w5.heap.size ≤ k := by
                  refine ⟨(HBE.out.alloc _).grown gr5 (fun k hk => (HOB.out k hk).imp (fun h => ⟨(HO.out.lt k hk).1, h⟩) id), fun k hk => ?_⟩
                  rcases mv5 with e | e
                  · exact HOB.out k (by rw [← e]; exact hk)
                  · have h1 := e k hk
                    have h2 := HBE.out.size
                    simp at h1
                    exact .inr (by omega)
                have O5 := hid o5; have HB5 := hid hb5
                clear o5 gr5 mv5 hb5
                go_wp2
                go_roundw
                case rel =>
                  refine ⟨k + 1, by go_num, HLT.out, ?_, HB5.out.1, HB5.out.2⟩
                  have h := O5.out
                  rw [List.range_succ]
                  simpa [Nat.add_assoc] using h
                case measure => have := HLT.out; simp [intOf]; omega
              · obtain rfl : k = rl := by omega
                have hlt' : ¬ (k : Int) < k := by omega
                have HO := hid ho; have HBE := hid hbe
                clear ho hbe hlt hk
                go_wp2
                go_ret2
                have hA : A = (ids ++ (List.range r.length).map (fun k : Nat => (total rs : Int) + (k : Int)), 0, rs ++ [r]) := by
                  rw [← HA.out]; unfold addR
                  rw [if_neg (by rw [HIN.out]; simp), HRR.out]
                  dsimp only
                  rw [HFG.out]
                  dsimp only
                  rw [if_neg HNF.out]
                rw [hA, HRN.out, HTF.out]
                have hz := HB1.out.size
                have hto := HT.out.tlt
                have hxw := BX.out.size
                have hrt := RT.out.keep (HBE.out.mono fun b _ hb => ⟨fun hr => by
                  rcases hr with hr | hr | hr
                  · have := HT.out.lt b hr; omega
                  · omega
                  · have := (O4.out.lt b hr).1; omega, by omega⟩)
                exact ⟨_, _, rfl, hrt, fun w'' hu => ints_own HO.out hu hz, UPD.out.trans (fun b hb => .inr (by omega : w.heap.size ≤ b)) HBE.out, FRESH.out⟩
end Go.Proofs.YtpddbaijnjbfdaaGreatDoor
