/- geodelaw20.ArenaPlays is true. -/
import Derived.Test.YtelohkppbmahnaaDoorQPlOpsBd
import Derived.Test.YtelohkppbmahnaaDoorQMid
import Derived.Deep.CutRange
import Derived.Deep.CutBlock
import Derived.Deep.RegionHeldLaw
namespace Go.Proofs.YtelohkppbmahnaaDoor
open Go.RowKit

/-- Worlds in which a box stands. -/
def BoxW (ob : Nat) (o : Obj) : Type := { W : World // W.heap[ob]? = some o }
/-- Both new. -/
theorem new_pair (_ : World) (k : Int) (hk : k ≤ 300) (h2 : -9223372036854775808 ≤ k) : ∃ m : Nat, m ≤ 300 ∧ max 0 (min k 1048576) = (m : Int) ∧ (0 ≤ k → k = m) ∧ (k < 0 → m = 0) := by
  refine ⟨k.toNat, by omega, by omega, by omega, by omega⟩
theorem rNew_any (k : Int) (m : Nat) (hm : m ≤ 300) (h3 : 0 ≤ k → k = m) (h4 : k < 0 → m = 0) (w : World) : Calls Tryd.prog 6 #[.int .i64 k] w (RNewPost m w) := by
  by_cases h : 0 ≤ k
  · rw [h3 h]; exact rNew_at m (by omega) w
  · rw [h4 (by omega)]; exact rNew_neg k (by omega) w
/-- In the last range: the boxes of n, left, and Blocks' one. -/
structure EnI (w : World) (p lb nb cb : Nat) (left : Int) (W : World) : Prop where
  bn : ∃ j : Int, W.heap[nb]? = some (.cells #[.int .i64 j] 3 (0, 0))
  bl : W.heap[lb]? = some (.cells #[.int .i64 left] 3 (0, 0))
  bc : W.heap[cb]? = some (.cells #[.pointer (some ⟨p, 0, none⟩)] 24 (0, 0))
  bel : Below w.heap.size w W
theorem EnI.below {w W W' : World} {p lb nb cb : Nat} {left : Int} (h : EnI w p lb nb cb left W) (hb : Below W.heap.size W W') : EnI w p lb nb cb left W' := by
  have u : Upd (fun _ => False) W W' := Upd.of_below hb
  obtain ⟨j, k1⟩ := h.bn
  exact ⟨⟨j, u.heap_some k1 (fun h => h)⟩, u.heap_some h.bl (fun h => h), u.heap_some h.bc (fun h => h), h.bel.trans (hb.mono h.bel.size)⟩
theorem EnI.put {w W : World} {p lb nb cb : Nat} {left : Int} {l : Nat} {o : Obj} (h : EnI w p lb nb cb left W) (o' : Obj) (hl : w.heap.size ≤ l) (hh : W.heap[l]? = some o) (ho : o.isCells = false) : EnI w p lb nb cb left (W.putObj l o') := by
  have u : Upd (fun b => b = l) W (W.putObj l o') := (Upd.refl _ W).grown (grownBy_putObj' W l o') (fun k e => by cases e; exact .inl rfl)
  have hc : ∀ b cs t fr, W.heap[b]? = some (.cells cs t fr) → ¬ b = l := fun b cs t fr hb e => by rw [e, hh] at hb; injection hb with hb; subst hb; simp [Obj.isCells] at ho
  obtain ⟨j, k1⟩ := h.bn
  exact ⟨⟨j, u.heap_some k1 (hc _ _ _ _ k1)⟩, u.heap_some h.bl (hc _ _ _ _ h.bl), u.heap_some h.bc (hc _ _ _ _ h.bc), h.bel.grown (grownBy_putObj' W l o') h.bel.size (fun q e => by cases e; exact hl)⟩
theorem EnI.inc {w W : World} {p lb nb cb : Nat} {left : Int} (h : EnI w p lb nb cb left W) (h1 : lb ≠ nb) (h2 : w.heap.size ≤ nb) (j' : Int) : EnI w p lb nb cb left (W.setCell ⟨nb, 0, none⟩ (.int .i64 j')) := by
  have u : Upd (fun b => b = nb) W (W.setCell ⟨nb, 0, none⟩ (.int .i64 j')) := upd_set _ _ _ _
  obtain ⟨j, k1⟩ := h.bn
  have hs := heap_set_at k1 0 (.int .i64 j')
  exact ⟨⟨j', by simpa using hs⟩, u.heap_some h.bl h1, u.heap_some h.bc (fun e => by have := h.bc; rw [e, k1] at this; simp at this), h.bel.setCell h2 _⟩
set_option pp.deepTerms true in
set_option pp.maxSteps 100000 in
set_option maxRecDepth 100000 in
set_option maxHeartbeats 40000000 in
theorem plays_any (w : World) (ht : TzTab w) (l : List OpV) (v : Value) (hv : RowG w 5 v l.length (l.flatMap opC)) (hok : ∀ o ∈ l, OpOk o) (k left : Int) (hk : -9223372036854775808 ≤ k ∧ k < 9223372036854775808) :
    Calls Tryd.prog 3 #[.int .i64 k, v, .int .i64 left] w fun e W => e = .returned (.bool true) ∧ Below w.heap.size w W := by
  have HT := Lib.hid ht; have HOK := Lib.hid hok; have HK := Lib.hid hk; have HV := Lib.hid hv
  obtain ⟨ao, c, rfl⟩ := hv.form
  obtain ⟨L, hL⟩ : ∃ L, l.length = L := ⟨_, rfl⟩
  rw [hL] at HV ⊢
  have HL := Lib.hid hL
  clear ht hok hk hv hL
  refine (callsIn_wide (n := 7)).1 ?_
  refine callsIn_of_wp_marks Tryd.func3 rfl trivial ?_ rfl
  refine wpIn_wide.2 ?_
  simp only [Tryd.ntmps3, List.size_toArray, List.length_cons, List.length_nil, Nat.reduceAdd, Nat.reduceSub, Array.replicate_succ, Array.replicate_zero, List.push_toArray, List.append_toArray, List.nil_append, List.cons_append]
  go_wp2_with fail
  obtain ⟨w0, hw0⟩ : ∃ w0, w0 = w.alloc (.cells #[.int .i64 left] 3) := ⟨_, rfl⟩
  obtain ⟨lb, hlb⟩ : ∃ lb, w.heap.size = lb := ⟨_, rfl⟩
  rw [← hw0, hlb]
  have hb0 : Below w.heap.size w w0 := by rw [hw0]; exact (Below.refl _ _).alloc (Nat.le_refl _) _
  have q0 : w0.heap[lb]? = some (.cells #[.int .i64 left] 3 (0, 0)) := by rw [hw0]; exact heap_alloc_at w _ hlb.symm
  have HB0 := Lib.hid hb0; have HQ0 := Lib.hid q0; have HLB := Lib.hid hlb
  clear hw0 hb0 q0 hlb
  refine (known_any w0).mono ?_
  rintro e w1 ⟨rfl, hb1⟩
  have HQ1 := Lib.hid ((Upd.of_below (S := fun _ => False) hb1).heap_some HQ0.out (fun h => h))
  have HB1 := Lib.hid (HB0.out.trans (hb1.mono HB0.out.size))
  clear hb1 HQ0 HB0
  by_cases g1 : (300 : Int) < k
  · go_wp2
    refine ⟨.bool true, by simp [results, Tryd.results3, go_sem], rfl, HB1.out⟩
  by_cases g2 : (150 : Int) < L
  · go_wp2
    refine ⟨.bool true, by simp [results, Tryd.results3, go_sem], rfl, HB1.out⟩
  obtain ⟨m, hm1, hm2, hm3, hm4⟩ := new_pair w1 k (by omega) HK.out.1
  have HM1 := Lib.hid hm1; have HM2 := Lib.hid hm2; have HM3 := Lib.hid hm3; have HM4 := Lib.hid hm4
  clear hm1 hm2 hm3 hm4
  go_wp2_with (go_at_call 5; refine (New_n w1 k m (by have := HM1.out; omega) HM2.out).mono ?_; rintro e w2 ⟨p0, rfl, hA2⟩; have HA2 := Lib.hid hA2; clear hA2)
  refine (rNew_any k m HM1.out HM3.out HM4.out w2).mono ?_
  rintro e w3 ⟨q, rfl, hr3, hb3⟩
  have HP3 := Lib.hid (Pr.start HA2.out hr3 hb3)
  have HQ3 := Lib.hid ((Upd.of_below (S := fun _ => False) (HA2.out.below.trans (hb3.mono HA2.out.below.size))).heap_some HQ1.out (fun h => h))
  have HLT := Lib.hid (show L ≤ 150 by omega)
  clear HA2 hr3 hb3 HM1 HM2 HM3 HM4
  have g1' : decide ((300 : Int) < k) = false := decide_eq_false (by omega)
  have g2' : decide ((150 : Int) < (L : Int)) = false := decide_eq_false (by omega)
  have g2'' : ¬ 150 < L := by omega
  have g2''' : decide (150 < L) = false := decide_eq_false g2''
  go_wp2
  go_loopw [7, 9] (fun t7 t9 wr => ∃ (i p : Nat) (bs : List Blk), t7 = .pointer (some ⟨p, 0, none⟩) ∧ t9 = .int .i64 i ∧ i ≤ L ∧ Pr w1 p q m bs bs wr) (fun _ t9 _ => L - (intOf t9).toNat)
  case atStart => exact ⟨0, p0, _, rfl, rfl, Nat.zero_le _, HP3.out⟩
  case round =>
    obtain ⟨i, p, bs, rfl, rfl, hi, hP⟩ := hrel
    have HP := Lib.hid hP
    have hbw : Below w.heap.size w wr := HB1.out.trans (hP.below.mono HB1.out.size)
    have HBW := Lib.hid hbw
    have HTZ := Lib.hid (HT.out.on hbw)
    by_cases hlt : i < L
    · obtain ⟨o, ho⟩ : ∃ o, l[i]? = some o := ⟨l[i]'(by rw [HL.out]; exact hlt), by simp [HL.out, hlt]⟩
      have hv := HV.out.below hbw (Nat.le_refl _)
      rw [← HL.out] at hv
      obtain ⟨b, off, rfl, c0, c1, c2, c3, c4⟩ := op_at hv ho
      obtain ⟨o1, o2, o3, o4, o5⟩ := HOK.out o (List.mem_of_getElem? ho)
      obtain ⟨kd, at', nn, x, raw⟩ := o
      dsimp only at c0 c1 c2 c3 c4 o1 o2 o3 o4 o5
      have HO1 := Lib.hid o1; have HO2 := Lib.hid o2; have HO3 := Lib.hid o3; have HO4 := Lib.hid o4; have HO5 := Lib.hid o5
      have HLI := Lib.hid hlt
      have hi0 : (0 : Int) ≤ i := by omega
      have hiL : (i : Int) < L := by omega
      clear hP hbw hlt hi ho hv o1 o2 o3 o4 o5 HV
      go_wp2_with fail
      obtain ⟨ob, hob⟩ : ∃ ob, wr.heap.size = ob := ⟨_, rfl⟩
      obtain ⟨W2, hW2⟩ : ∃ W2, W2 = wr.alloc (.cells #[.int .i64 kd, .int .i64 at', .int .i64 nn, .int .u64 (x : Nat), .bool raw] 30) := ⟨_, rfl⟩
      rw [← hW2, hob]
      have b2 : Below wr.heap.size wr W2 := by rw [hW2]; exact (Below.refl _ _).alloc (Nat.le_refl _) _
      have HO2' := Lib.hid (show W2.heap[ob]? = some (.cells #[.int .i64 kd, .int .i64 at', .int .i64 nn, .int .u64 (x : Nat), .bool raw] 30 (0, 0)) by rw [hW2]; exact heap_alloc_at _ _ hob.symm)
      have HP2 := Lib.hid (HP.out.box (ob := ob) b2 (by omega) HO2'.out)
      have HTZ2 := Lib.hid (HTZ.out.on b2)
      obtain ⟨S2, rs, hra, hrb⟩ := HP2.out.toPr.ra
      have AT := Lib.hid (at_any hra kd at' nn (x : Nat) raw ⟨HO1.out, HO2.out⟩)
      clear hW2 hob b2 hra hrb c0 c1 c2 c3 c4
      refine AT.out.mono ?_
      rintro e W3 ⟨at0, rfl, hat, b3⟩
      have HP3' := Lib.hid (HP2.out.then b3)
      have HO3' := Lib.hid ((Upd.of_below (S := fun _ => False) b3).heap_some HO2'.out (fun h => h))
      have HTZ3 := Lib.hid (HTZ2.out.on b3)
      have HAT := Lib.hid hat
      have y0 := heap_cell HO3'.out 0; have y2 := heap_cell HO3'.out 2; have y3 := heap_cell HO3'.out 3
      simp at y0 y2 y3
      clear AT b3 hat
      go_upto_block 2 with fail
      go_cut [12, 13, 14, 15] from 52 to 157 (fun _ _ _ _ wx => ∃ bs', PrB w1 p q m bs' bs' ob (.cells #[.int .i64 kd, .int .i64 at', .int .i64 nn, .int .u64 (x : Nat), .bool raw] 30 (0, 0)) wx)
      case first =>
        have HAT1 := Lib.hid HAT.out.1; have HAT2 := Lib.hid HAT.out.2
        by_cases k0 : kd = 0
        · obtain ⟨xa, er, bs', htk⟩ : ∃ xa er bs', takeF bs nn = (xa, er, bs') := ⟨_, _, _, rfl⟩
          have HTK := Lib.hid htk
          have k0' : (kd == 0) = true := by simp [k0]
          clear htk k0
          go_wp2_with fail
          refine (HP3'.out.take HTK.out HO3.out HO4.out).mono ?_
          rintro e W4 ⟨rfl, hP4⟩
          have HP4 := Lib.hid hP4
          have y0 := heap_cell HP4.out.box 0; have y2 := heap_cell HP4.out.box 2; have y3 := heap_cell HP4.out.box 3
          simp at y0 y2 y3
          clear hP4
          go_wp2_with fail
          refine (HP4.out.rtake HTK.out HO4.out).mono ?_
          rintro e W5 ⟨rfl, hP5⟩
          have HP5 := Lib.hid hP5
          clear hP5
          go_wp2
          go_meet
          exact ⟨_, HP5.out⟩
        have k0' : (kd == 0) = false := by simp [k0]
        by_cases k1 : kd = 1
        · have k1' : (kd == 1) = true := by simp [k1]
          clear k0 k1
          go_wp2_with fail
          refine (HP3'.out.freeA HAT1.out HAT2.out).mono ?_
          rintro e W4 ⟨rfl, hP4⟩
          have HP4 := Lib.hid hP4
          have y0 := heap_cell HP4.out.box 0; have y2 := heap_cell HP4.out.box 2; have y3 := heap_cell HP4.out.box 3
          simp at y0 y2 y3
          clear hP4
          go_wp2_with fail
          refine (HP4.out.freeR).mono ?_
          rintro e W5 ⟨rfl, bs', hP5⟩
          have HP5 := Lib.hid hP5
          clear hP5
          go_wp2
          go_meet
          exact ⟨_, HP5.out⟩
        have k1' : (kd == 1) = false := by simp [k1]
        by_cases k2 : kd = 2
        · have k2' : (kd == 2) = true := by simp [k2]
          clear k0 k1 k2
          go_wp2_with fail
          have f2 : ∀ z : BoxW ob (.cells #[.int .i64 kd, .int .i64 at', .int .i64 nn, .int .u64 (x : Nat), .bool raw] 30 (0, 0)), z.val.cell? ⟨ob, 2, none⟩ = some (.int .i64 nn) := fun z => by
            have := heap_cell z.2 2
            simpa using this
          have f3 : ∀ z : BoxW ob (.cells #[.int .i64 kd, .int .i64 at', .int .i64 nn, .int .u64 (x : Nat), .bool raw] 30 (0, 0)), z.val.cell? ⟨ob, 3, none⟩ = some (.int .u64 (x : Nat)) := fun z => by
            have := heap_cell z.2 3
            simpa using this
          have hne : Nonempty (BoxW ob (.cells #[.int .i64 kd, .int .i64 at', .int .i64 nn, .int .u64 (x : Nat), .bool raw] 30 (0, 0))) := ⟨⟨W3, HO3'.out⟩⟩
          refine wp_onlyN ?_
          refine wp_region_midX (fun z : BoxW ob (.cells #[.int .i64 kd, .int .i64 at', .int .i64 nn, .int .u64 (x : Nat), .bool raw] 30 (0, 0)) => z.val) 14 [0, 1, 2, 3, 4, 5, 7, 8, 9, 10, 11, 12] [6, 13] (by kernel_rfl) (by kernel_rfl) (by kernel_rfl) (by kernel_rfl) (by rintro c a (_ | d) v w h <;> exact h) ⟨⟨W3.drew, HO3'.out⟩, rfl⟩ ?_
          simp only [pickO, List.getD_cons_succ, List.getD_cons_zero, List.drop_succ_cons, List.drop_zero]
          repeat (go_big_quiet_step (fail))
          refine wpQuiet_nil ?_
          unfold wpMids
          go_wp2_with fail
          refine ((HP3'.out.then ((Below.refl _ _).drew)).setA ((x : Nat) : Int) rfl HAT1.out HAT2.out HO5.out).mono ?_
          rintro e W4 ⟨rfl, hP4⟩
          have HP4 := Lib.hid hP4
          clear hP4
          go_wp2_with fail
          refine ⟨⟨⟨_, HP4.out.box⟩, rfl⟩, ?_⟩
          unfold wpMids
          go_wp2_with fail
          refine (HP4.out.setR ((x : Nat) : Int) rfl HO5.out).mono ?_
          rintro e W5 ⟨rfl, hP5⟩
          have HP5 := Lib.hid hP5
          clear hP5
          go_wp2_with fail
          refine ⟨⟨⟨_, HP5.out.box⟩, rfl⟩, ?_⟩
          unfold wpMids
          go_wp2_with fail
          dsimp only [OnlyN, Exit.then]
          go_wp2_with fail
          go_meet
          exact ⟨_, HP5.out⟩
        have k2' : (kd == 2) = false := by simp [k2]
        by_cases k3 : kd = 3
        · have k3' : (kd == 3) = true := by simp [k3]
          clear k0 k1 k2 k3
          go_wp2_with fail
          refine (HP3'.out.markA HAT1.out HAT2.out).mono ?_
          rintro e W4 ⟨rfl, hP4⟩
          have HP4 := Lib.hid hP4
          have y0 := heap_cell HP4.out.box 0; have y2 := heap_cell HP4.out.box 2; have y3 := heap_cell HP4.out.box 3
          simp at y0 y2 y3
          clear hP4
          go_wp2_with fail
          refine (HP4.out.markR).mono ?_
          rintro e W5 ⟨rfl, hP5⟩
          have HP5 := Lib.hid hP5
          clear hP5
          go_wp2
          go_meet
          exact ⟨_, HP5.out⟩
        have k3' : (kd == 3) = false := by simp [k3]
        by_cases k4 : kd = 4
        · have k4' : (kd == 4) = true := by simp [k4]
          clear k0 k1 k2 k3 k4
          go_wp2_with fail
          refine (HP3'.out.sweepA).mono ?_
          rintro e W4 ⟨rfl, hP4⟩
          have HP4 := Lib.hid hP4
          have y0 := heap_cell HP4.out.box 0; have y2 := heap_cell HP4.out.box 2; have y3 := heap_cell HP4.out.box 3
          simp at y0 y2 y3
          clear hP4
          go_wp2_with fail
          refine (HP4.out.sweepR).mono ?_
          rintro e W5 ⟨rfl, bs', hP5⟩
          have HP5 := Lib.hid hP5
          clear hP5
          go_wp2
          go_meet
          exact ⟨_, HP5.out⟩
        have k4' : (kd == 4) = false := by simp [k4]
        clear k0 k1 k2 k3 k4
        go_wp2
        go_meet
        exact ⟨_, HP3'.out⟩
      case rest =>
        obtain ⟨bs', hPB⟩ := hcut
        have HPB := Lib.hid hPB
        have HTC := Lib.hid (HT.out.on (HB1.out.trans (hPB.toPr.below.mono HB1.out.size)))
        have y2 := heap_cell hPB.box 2
        simp at y2
        obtain ⟨gv, ge, hget⟩ : ∃ gv ge, getF bs' at0 nn = (gv, ge) := ⟨_, _, rfl⟩
        have HGET := Lib.hid hget
        clear hPB hget y0 y3 HP2 HP3' HO2' HO3' HTZ2 HTZ3
        have hge : (ge == ge) = true := by simp
        have hgn : (ge != ge) = false := by simp
        have hgv : (((gv : Nat) : Int) != ((gv : Nat) : Int)) = false := by simp
        go_wp2_with fail
        have D1 := HPB.out.toPr.getA (at' := at0) (i := nn) HAT.out.1 HAT.out.2
        rw [HGET.out] at D1
        refine D1.mono ?_
        clear D1
        rintro e w9 ⟨rfl, rfl⟩
        go_wp2_with fail
        have D1 := HPB.out.toPr.getR (at' := at0) (i := nn)
        rw [HGET.out] at D1
        refine D1.mono ?_
        clear D1
        rintro e w9 ⟨rfl, rfl⟩
        go_wp2_with fail
        refine (alike_any HPB.out.toPr HTC.out).mono ?_
        rintro e wq ⟨rfl, hbq⟩
        have HPQ := Lib.hid (HPB.out.toPr.then hbq)
        have HTQ := Lib.hid (HTC.out.on hbq)
        clear hbq y2
        have fin : ∀ (p' : Nat) (W : World), Pr w1 p' q m bs' bs' W → (∃ (i_1 p_1 : Nat) (bs : List Blk), Value.pointer (some ⟨p', 0, none⟩) = Value.pointer (some ⟨p_1, 0, none⟩) ∧ Value.int IntKind.i64 ((i : Int) + 1) = Value.int IntKind.i64 (i_1 : Int) ∧ i_1 ≤ L ∧ Pr w1 p_1 q m bs bs W) ∧ L - (intOf (Value.int IntKind.i64 ((i : Int) + 1))).toNat < L - (intOf (Value.int IntKind.i64 (i : Int))).toNat := fun p' W h =>
          ⟨⟨i + 1, p', bs', rfl, by rfl, HLI.out, h⟩, by have := HLI.out; simp [intOf]; omega⟩
        have FIN := Lib.hid fin
        clear fin
        go_wp2_with fail
        · refine HPQ.out.copyA.mono ?_
          rintro e W6 ⟨cp, rfl, hC6⟩
          have HC6 := Lib.hid hC6
          clear hC6
          go_wp2_with fail
          refine HC6.out.sweep.mono ?_
          rintro e W7 ⟨⟨v7, rfl⟩, bo7, hC7⟩
          have HC7 := Lib.hid hC7
          clear hC7
          go_wp2_with fail
          refine HC7.out.take.mono ?_
          rintro e W8 ⟨⟨v8, f8, rfl⟩, bo8, hC8⟩
          have HC8 := Lib.hid hC8
          clear hC8
          go_wp2_with fail
          exact FIN.out cp W8 HC8.out.toPr
        · exact FIN.out p wq HPQ.out
    · obtain rfl : i = L := by omega
      have hi1 : ¬ (i : Int) < i := by omega
      have HQR := Lib.hid ((Upd.of_below (S := fun _ => False) hP.below).heap_some HQ1.out (fun h => h))
      clear hP hbw hlt hi HV
      go_upto_region 41 with fail
      obtain ⟨nb, hnb⟩ : ∃ nb, wr.heap.size = nb := ⟨_, rfl⟩
      obtain ⟨W4, hW4⟩ : ∃ W4, W4 = wr.alloc (.cells #[.int .i64 0] 3) := ⟨_, rfl⟩
      rw [← hW4, hnb]
      obtain ⟨cb, hcb⟩ : ∃ cb, W4.heap.size = cb := ⟨_, rfl⟩
      obtain ⟨W5, hW5⟩ : ∃ W5, W4.alloc (.cells #[.pointer (some ⟨p, 0, none⟩)] 24) = W5 := ⟨_, rfl⟩
      have b4 : Below wr.heap.size wr W4 := by rw [hW4]; exact (Below.refl _ _).alloc (Nat.le_refl _) _
      have b5 : Below W4.heap.size W4 W5 := by rw [← hW5]; exact (Below.refl _ _).alloc (Nat.le_refl _) _
      have b45 : Below wr.heap.size wr W5 := b4.trans (b5.mono b4.size)
      have hI0 : EnI wr p lb nb cb left W5 := ⟨⟨0, (Upd.of_below (S := fun _ => False) b5).heap_some (by rw [hW4]; exact heap_alloc_at _ _ hnb.symm) (fun h => h)⟩, (Upd.of_below (S := fun _ => False) b45).heap_some HQR.out (fun h => h), by rw [← hW5]; exact heap_alloc_at _ _ hcb.symm, b45⟩
      have HI0 := Lib.hid hI0; have HW5 := Lib.hid hW5; have HCB := Lib.hid hcb
      have HLN := Lib.hid (show lb ≠ nb by rw [← hnb]; have := heap_lt HQR.out; omega)
      have HNB := Lib.hid (show wr.heap.size ≤ nb by omega)
      have HNL := Lib.hid (show nb < W5.heap.size by obtain ⟨j, k1⟩ := hI0.bn; exact heap_lt k1)
      clear hnb hW4 hcb hW5 b4 b5 b45 hI0
      have HTZ' := Lib.hid HTZ.out
      go_wp2_with (go_at_call 22; refine (blocks_any p _).mono ?_; rintro e w1' ⟨rfl, rfl⟩)
      rw [HW5.out, HCB.out]
      refine (wpIn_wide (n := 7)).1 ?_
      have HIT := Lib.hid (blocks_iter 6 cb p m (shape bs) (by omega) W5 (fun _ _ => True) (fun _ W' => EnI wr p lb nb cb left W') (fun c _ W' => c = .exit 3 ∧ EnI wr p lb nb cb left W') (fun pre W' h => ⟨heap_cell h.bc 0, by obtain ⟨S, a⟩ := (HP.out.then h.bel).arv; exact ⟨S, bs, rfl, a⟩, HTZ'.out.on h.bel⟩))
      refine wpIn_range_atG (F := Fence.wide) (n := 7) rfl (by omega) (gf := 47) (lb := #[.pointer (some ⟨cb, 0, none⟩)]) rfl trivial (enters_of Tryd.func47 (by kernel_rfl) rfl)
        (encs := fun x : Nat × Nat => #[.int .i64 (x.1 : Nat), .int .i64 (x.2 : Nat)]) (fun _ => rfl) (fun _ _ => True) (fun _ W' => EnI wr p lb nb cb left W') (fun c _ W' => c = .exit 3 ∧ EnI wr p lb nb cb left W')
        (fun _ _ => trivial) (fun _ _ _ _ _ _ _ => trivial)
        (fun pre W l o o' hl h ho hi => hi.put o' (Nat.le_trans HI0.out.bel.size hl) h ho) (fun c pre W l o o' hl h ho hi => ⟨hi.1, hi.2.put o' (Nat.le_trans HI0.out.bel.size hl) h ho⟩)
        (fun o o' => HI0.out.below (((Below.refl _ _).alloc (Nat.le_refl _) _).alloc (by simp) _)) ?act HIT.out ?assign ?body ?done ?stop
      case assign =>
        intro l x W K hK
        gi_wp2
        exact hK
      case body =>
        rintro l pre x W hi hG
        obtain ⟨j, k1⟩ := hi.bn
        have n0 := heap_cell k1 0
        have nz := heap_frozen k1 0
        have l0 := heap_cell hi.bl 0
        simp at n0 l0
        have HI := Lib.hid hi
        clear hi hG k1
        refine Go.wpIn_block ?_
        refine Go.wpIn_seq ?_
        refine wpIn_region_plain (by simp) (fun _ _ h => h) ?_
        simp only
        go_wp2_with fail
        dsimp only [OnlyN, Exit.then]
        obtain ⟨j2, hj2⟩ : ∃ j2, wrap64 (j + 1) = j2 := ⟨_, rfl⟩
        rw [hj2]
        have HI2 := Lib.hid (HI.out.inc HLN.out HNB.out j2)
        have HU2 := Lib.hid (upd_set W nb 0 (.int .i64 j2))
        have n2 : (W.setCell ⟨nb, 0, none⟩ (.int .i64 j2)).cell? ⟨nb, 0, none⟩ = some (.int .i64 j2) := World.cell?_setCell_same' _ _ _ (by rw [n0]; rfl)
        obtain ⟨W2, hW2⟩ : ∃ W2, W.setCell ⟨nb, 0, none⟩ (.int .i64 j2) = W2 := ⟨_, rfl⟩
        rw [hW2] at HI2 HU2 n2 ⊢
        have l2 := heap_cell HI2.out.bl 0
        simp at l2
        clear hW2 hj2 n0 nz l0
        refine Go.wpIn_seq ?_
        refine wpIn_region_plain (by simp) (fun _ _ h => h) ?_
        go_wp2_with fail
        dsimp only [OnlyN, Exit.then]
        by_cases hj : j2 = left
        · refine Go.wpIn_cond_true (by simp [Act.eval, hj]) ?_
          refine Go.wpIn_exit ?_
          exact ⟨upd_keepsFromP HU2.out (fun b hb => by subst hb; exact HNL.out), rfl, HI2.out⟩
        · refine Go.wpIn_cond_false (by simp [Act.eval, hj]) ?_
          refine Go.wpIn_skip ?_
          exact ⟨upd_keepsFromP HU2.out (fun b hb => by subst hb; exact HNL.out), trivial, HI2.out⟩
      case done =>
        rintro D xs W hS hi hD hDl
        dsimp only [Exit.inBlock, Exit.then]
        have HI := Lib.hid hi; have HD := Lib.hid hD; have HDL := Lib.hid hDl
        clear hi hD hDl hS
        apply_assumption
        go_wp2_with fail
        refine (alike_any (HP.out.then HI.out.bel) (HTZ.out.on HI.out.bel)).mono ?_
        rintro e wq ⟨rfl, hbq⟩
        have hK2 : wq.heap[D]? = some (.deferred (some [])) := by rw [hbq.block D (heap_lt HD.out)]; exact HD.out
        have HBQ := Lib.hid hbq
        clear hbq
        go_wp2
        refine ⟨by simp, .inl ⟨_, _, rfl, run_takeDeferred hK2, ?_⟩⟩
        refine ⟨.bool true, by simp [results, Tryd.results3, go_sem], rfl, ?_⟩
        have h1 := HP.out.below.size
        have h2 := HB1.out.size
        have h3 := HI0.out.bel.size
        have h4 := HDL.out
        have h5 := HI.out.bel.size
        have h6 := HBQ.out.size
        exact ((HBW.out.trans (HI.out.bel.mono (by omega))).trans (HBQ.out.mono (by omega))).grown (grownBy_putObj' _ D _) (by omega) (fun k e => by cases e; omega)
      case stop =>
        rintro D c pre W hS ⟨rfl, hi⟩ hD hDl
        refine Go.wpIn_exit ?_
        dsimp only [Exit.inBlock, Exit.then]
        rw [if_pos rfl]
        have HI := Lib.hid hi; have HD := Lib.hid hD; have HDL := Lib.hid hDl
        clear hi hD hDl hS
        apply_assumption
        go_wp2_with fail
        refine (alike_any (HP.out.then HI.out.bel) (HTZ.out.on HI.out.bel)).mono ?_
        rintro e wq ⟨rfl, hbq⟩
        have hK2 : wq.heap[D]? = some (.deferred (some [])) := by rw [hbq.block D (heap_lt HD.out)]; exact HD.out
        have HBQ := Lib.hid hbq
        clear hbq
        go_wp2
        refine ⟨by simp, .inl ⟨_, _, rfl, run_takeDeferred hK2, ?_⟩⟩
        refine ⟨.bool true, by simp [results, Tryd.results3, go_sem], rfl, ?_⟩
        have h1 := HP.out.below.size
        have h2 := HB1.out.size
        have h3 := HI0.out.bel.size
        have h4 := HDL.out
        have h5 := HI.out.bel.size
        have h6 := HBQ.out.size
        exact ((HBW.out.trans (HI.out.bel.mono (by omega))).trans (HBQ.out.mono (by omega))).grown (grownBy_putObj' _ D _) (by omega) (fun k e => by cases e; omega)
end Go.Proofs.YtelohkppbmahnaaDoor
