/- geodelaw23.MarkMarks. -/
import Derived.Test.YtfpfpopfnbcblaaDoorQMkOrdP
import Derived.Test.YtfpfpopfnbcblaaDoorQMkRefW
import Derived.BigQuiet
import Derived.Deep.CutRange
import Derived.Deep.RegionWith
namespace Go.Proofs.YtfpfpopfnbcblaaDoor
open Go.RowKit Go.Maps

/-- What stays in memory. -/
structure MmW (w1 : World) (Z S2 : Nat → Prop) (q : Nat) (rs : List RBk) (g : Nat) (X : List Bool) (aol : Option Addr) (L : List Nat) (W : World) : Prop where
  want : W.heap[g]? = some (.cells (boolsX X).toArray 4 (0, 0))
  ng : ¬ Z g
  ref : RaAt S2 W q 600 rs
  row : ∀ k a : Nat, L[k]? = some a → ∃ g', aol = some ⟨g', 0, none⟩ ∧ ¬ Z g' ∧ W.cell? ⟨g', k, none⟩ = some (.int .i64 (a : Nat))
  b1 : Below w1.heap.size w1 W
  zb : ∀ b, Z b → b < W.heap.size
theorem NatsAt.at' {W : World} {ao : Option Addr} {n c : Nat} {l : List Nat} (h : NatsAt W (.slice ao n c) l) (k a : Nat) (hk : l[k]? = some a) : ∃ g, ao = some ⟨g, 0, none⟩ ∧ W.cell? ⟨g, k, none⟩ = some (.int .i64 (a : Nat)) := by
  obtain ⟨ao', c', e, h⟩ := h
  simp only [Value.slice.injEq] at e
  rw [e.1]; exact h k a hk
section
variable {w1 W W' : World} {Z S2 : Nat → Prop} {q : Nat} {rs : List RBk} {g : Nat} {X : List Bool} {aol : Option Addr} {L : List Nat}
theorem MmW.upd (h : MmW w1 Z S2 q rs g X aol L W) (u : Upd Z W W') (hS : ∀ b, S2 b → ¬ Z b) (hZ : ∀ b, Z b → w1.heap.size ≤ b) : MmW w1 Z S2 q rs g X aol L W' :=
  ⟨u.heap_some h.want h.ng, h.ng, h.ref.upd u hS, fun k a hk => by
    obtain ⟨g', e, h1, h2⟩ := h.row k a hk
    exact ⟨g', e, h1, u.cell_some h2 h1⟩, h.b1.trans (u.below hZ h.b1.size), fun b hb => Nat.lt_of_lt_of_le (h.zb b hb) u.size⟩
theorem MmW.below (h : MmW w1 Z S2 q rs g X aol L W) (hb : Below W.heap.size W W') : MmW w1 Z S2 q rs g X aol L W' := by
  have u : Upd (fun _ => False) W W' := Upd.of_below hb
  exact ⟨u.heap_some h.want (fun h => h), h.ng, h.ref.below hb, fun k a hk => by
    obtain ⟨g', e, h1, h2⟩ := h.row k a hk
    exact ⟨g', e, h1, below_cell hb h2⟩, h.b1.trans (hb.mono h.b1.size), fun b hz => Nat.lt_of_lt_of_le (h.zb b hz) hb.size⟩
theorem MmW.cell (h : MmW w1 Z S2 q rs g X aol L W) {k : Nat} {b : Bool} (hk : X[k]? = some b) : W.cell? ⟨g, k, none⟩ = some (.bool b) := by
  rw [heap_cell h.want k]; simp [boolsX, hk]
end
theorem InZ.toN {Z : Nat → Prop} {w1 W : World} {p m : Nat} {bs : List Blk} (A : InZ Z W p m bs) (hZ : ∀ b, Z b → w1.heap.size ≤ b) (hb : Below w1.heap.size w1 W) : ArN w1 W p m bs := by
  obtain ⟨S, a, hS⟩ := A
  exact ⟨⟨S, a, fun b h => hZ b (hS b h).1⟩, hb⟩
theorem get_same {m : Nat} {b1 bs : List Blk} (hw : Wf m b1) (h : content b1 = content bs) {b : Blk} (hb : b ∈ bs) (hu : b.u = true) {k : Nat} (hk : k < b.n) : getF b1 (b.a : Nat) (k : Nat) = (b.ws.getD k 0, 0) := by
  have h1 : (b.a, b.ws, b.u) ∈ content b1 := by rw [h]; exact List.mem_map.2 ⟨b, hb, rfl⟩
  obtain ⟨c, hc, e⟩ := List.mem_map.1 h1
  simp only [Prod.mk.injEq] at e
  unfold getF
  rw [← e.1, blkAt_some hw.span hc (by rw [e.2.2]; exact hu)]
  dsimp only
  rw [if_pos (by unfold Blk.n at hk ⊢; rw [e.2.1]; omega), e.2.1]
  simp
theorem marked_x {b1 : List Blk} {bs : List Blk} {X : List Bool} {xs : List Nat} (hX : ∀ (k : Nat) (b : Blk), bs[k]? = some b → (X[k]? = some true ↔ b.u = true ∧ RchB bs xs b.a)) (hm : ∀ a, MarkX b1 a ↔ RchB bs xs a) {j : Nat} {b : Blk} {x : Bool} (hb : bs[j]? = some b) (hu : b.u = true) (hx : X[j]? = some x) : markedAt b1 b.a = x := by
  have h1 := hX j b hb
  have h2 := hm b.a
  unfold MarkX at h2
  cases x
  · cases hh : markedAt b1 b.a
    · rfl
    · have := h1.2 ⟨hu, h2.1 hh⟩
      rw [hx] at this; cases this
  · exact h2.2 (h1.1 hx).2
theorem sel_at {bs : List Blk} {X : List Bool} {L : List Nat} (hs : selN bs X bs.length = L) {i : Nat} {b : Blk} (hb : bs[i]? = some b) (hx : X[i]? = some true) : L[(selN bs X i).length]? = some b.a := by
  have h1 := selN_hit hb hx
  obtain ⟨r, hr⟩ := selN_pre (bs := bs) (X := X) (i + 1)
  rw [hs, h1] at hr
  rw [← hr]; simp
set_option maxRecDepth 100000 in
set_option maxHeartbeats 40000000 in
theorem marks_any (w : World) (ht : Tab w ∧ TzTab w) (l : List BkIn) (v1 v2 : Value) (xs : List Nat) (n2 : Nat) (k1 : Int) (hv : BksAt w v1 l) (hok : ∀ x ∈ l, OkIn x)
    (h2 : RowG w 1 v2 n2 (u64s xs)) (hx : ∀ x ∈ xs, x < 18446744073709551616) (hk0 : -9223372036854775808 ≤ k1) (hk1 : k1 < 9223372036854775808) :
    Calls Tryd.prog 3 #[v1, v2, .int .i64 k1] w fun e W => e = .returned (.bool true) ∧ Below w.heap.size w W := by
  have HT := Lib.hid ht; have HV := Lib.hid hv; have HOK := Lib.hid hok; have HX := Lib.hid hx
  have HLX := Lib.hid (show xs.length = n2 by simpa [u64s] using h2.1)
  have H2 := Lib.hid h2; have HK0 := Lib.hid hk0; have HK1 := Lib.hid hk1
  obtain ⟨a2, c2, rfl⟩ := h2.form
  obtain ⟨av, cv, rfl, _⟩ := hv
  obtain ⟨nl, hnl⟩ : ∃ nl, l.length = nl := ⟨_, rfl⟩
  rw [hnl] at HV ⊢
  have HNL := Lib.hid hnl
  clear ht hok hx h2 hk0 hk1 hnl
  go_enter Tryd.func3, Tryd.ntmps3
  go_wp2_with fail
  refine (known_any w HT.out).mono ?_
  rintro e w1 ⟨rfl, hb1⟩
  have HB1 := Lib.hid hb1
  have HTT1 := Lib.hid (show Tab w1 ∧ TzTab w1 from ⟨tab_on HT.out.1 hb1, HT.out.2.on hb1⟩)
  clear hb1
  go_wp2_with fail
  refine (built_any l (.slice av nl cv) w1 (HV.out.on HB1.out) HOK.out).mono ?_
  rintro e w2 (⟨_, rfl, hb2⟩ | ⟨p, q, bs, ats, tv, hbt, rfl, hB⟩)
  · have HB2 := Lib.hid (show Below w.heap.size w w2 from HB1.out.trans (hb2.mono HB1.out.size))
    clear hb2
    go_wp2
    go_ret
    exact ⟨rfl, HB2.out⟩
  · have HBT := Lib.hid hbt; have HBO := Lib.hid (builtF_ok hbt); have HBU := Lib.hid hB
    clear hbt hB
    have HBF := Lib.hid (show Below w.heap.size w w2 from HB1.out.trans (HBU.out.below.mono HB1.out.size))
    obtain ⟨aot, cct, rfl⟩ := HBU.out.form
    rw [show ats.length = nl from HBO.out.2.trans HNL.out]
    by_cases hl2 : (30 : Int) < n2
    · go_wp2
      go_ret
      exact ⟨rfl, HBF.out⟩
    · have HL2 := Lib.hid (show n2 ≤ 30 by omega)
      obtain ⟨Z, hz, hzb, _, S2, hra, hs2, hs2g⟩ := HBU.out.inZ
      obtain ⟨rs, hrs, hrb⟩ := hra
      have HZ := Lib.hid hz; have HZB := Lib.hid hzb; have HRS := Lib.hid hrs; have HRB := Lib.hid hrb; have HS2 := Lib.hid hs2
      have HZL := Lib.hid (show ∀ b, Z b → w1.heap.size ≤ b from fun b hb => (hzb b hb).1)
      have H64 := Lib.hid HBU.out.u64
      have HB2 := Lib.hid HBU.out.below
      clear hz hzb hrs hrb hs2 hs2g HBU
      go_wp2_with fail
      have hz12 := HBT.out
      refine (refReach_any HRS.out (.slice a2 n2 c2) xs ((H2.out.below HBF.out (Nat.le_refl _)).u64) HX.out (by have := HLX.out; have := HL2.out; omega)).mono ?_
      rintro e w3 ⟨g, X, rfl, hg1, hg2, hg3, hg4, hb3⟩
      rw [HRB.out] at hg3 hg4 ⊢
      obtain ⟨n, hn⟩ : ∃ n, bs.length = n := ⟨_, rfl⟩
      rw [hn]
      have HN := Lib.hid hn; have HXL := Lib.hid hg3; have HXX := Lib.hid hg4
      have H13 := Lib.hid (show Below w1.heap.size w1 w3 from HB2.out.trans (hb3.mono HB2.out.size))
      have HZ3 := Lib.hid (HZ.out.below hb3)
      have HR3 := Lib.hid (HRS.out.below hb3)
      have HG := Lib.hid (And.intro hg1 hg2); have HS23 := Lib.hid hb3.size
      clear hz12 hn hg1 hg2 hg3 hg4 hb3 HZ HRS
      go_wp2_with fail
      refine (words_any p w3).mono ?_
      rintro e w4 ⟨rfl, hw4⟩
      have HQ4 := Lib.hid (show w4.cell? ⟨w3.heap.size, 0, none⟩ = some (.pointer (some ⟨p, 0, none⟩)) by rw [hw4]; exact heap_cell (heap_alloc_at w3 _ rfl) 0)
      have HB4 := Lib.hid (show Below w3.heap.size w3 w4 by rw [hw4]; exact (Below.refl _ _).alloc (Nat.le_refl _) _)
      clear hw4
      have HZa := Lib.hid (show ¬ Z w3.heap.size from fun h => by have := (HZB.out _ h).2; have := HS23.out; omega)
      go_wp2_with fail
      refine (reach_z HTT1.out (HZ3.out.below HB4.out) HZL.out (H13.out.trans (HB4.out.mono H13.out.size)) (by decide) H64.out HQ4.out HZa.out _ xs ((H2.out.below (HB1.out.trans ((H13.out.trans (HB4.out.mono H13.out.size)).mono HB1.out.size)) (Nat.le_refl _)).u64) HX.out (by have := HLX.out; have := HL2.out; omega)).mono ?_
      rintro e w5 ⟨xv, L, rfl, hX1, hX2, hX3, hb5⟩
      obtain ⟨aol, ccl, rfl, _⟩ := ownsRow_form hX1
      obtain ⟨ll, hll⟩ : ∃ ll, L.length = ll := ⟨_, rfl⟩
      have hd5 : Below w3.heap.size w3 w5 := HB4.out.trans (hb5.mono HB4.out.size)
      have u5 : Upd (fun _ => False) w3 w5 := Upd.of_below hd5
      have HM5 := Lib.hid (show MmW w1 Z S2 q rs g X aol L w5 from ⟨u5.heap_some HG.out.2 (fun h => h), fun h => by have := (HZB.out _ h).2; have := HG.out.1; omega, HR3.out.below hd5, fun k a hk => by
        obtain ⟨g', e, hc⟩ := NatsAt.at' (NatsAt.of_own hX1) k a hk
        have h1 := (hX1.lt g' (by rw [e]; rfl)).1
        exact ⟨g', e, fun h => by have := (HZB.out _ h).2; have := HS23.out; have := HB4.out.size; omega, hc⟩, H13.out.trans (hd5.mono H13.out.size), fun b hb => Nat.lt_of_lt_of_le (HZB.out b hb).2 (Nat.le_trans HS23.out hd5.size)⟩)
      have HZ5 := Lib.hid (HZ3.out.below hd5)
      have hsel := selN_all HBO.out.1.wf.span HXL.out (xs := xs) HXX.out hX2 hX3
      have HSEL := Lib.hid hsel
      rw [hll]
      have HLN := Lib.hid hll; have HLM := Lib.hid hX3; have HLS := Lib.hid hX2
      have HL6 := Lib.hid (show ll ≤ 602 by rw [← hll]; exact sorted_len hX2 (fun a ha => used_le HBO.out.1.wf ((hX3 a).1 ha).used))
      have HN6 := Lib.hid (show n ≤ 602 by have h1 := SpanR.count HBO.out.1.wf.span; have h2 : endOf 600 = 601 := by decide
                                           have := HN.out; omega)
      clear hb5 hX1 hX2 hX3 HQ4 HZa hll hd5 u5 hsel HZ3 HR3 HG HB4 H13
      go_wp2_with fail
      go_loopw [13, 14] (fun t13 t14 wr => ∃ i : Nat, t13 = .int .i64 ((selN bs X i).length : Nat) ∧ t14 = .int .i64 i ∧ i ≤ n ∧ MmW w1 Z S2 q rs g X aol L wr ∧ InZ Z wr p 600 bs) (fun _ t14 _ => n - (intOf t14).toNat)
      case atStart => exact ⟨0, rfl, rfl, Nat.zero_le _, HM5.out, HZ5.out⟩
      case round =>
        clear HM5 HZ5
        obtain ⟨i, rfl, rfl, hi, hm, hz⟩ := hrel
        have HM := Lib.hid hm; have HZ := Lib.hid hz
        clear hm hz
        by_cases hlt : i < n
        · obtain ⟨b, hb⟩ : ∃ b, bs[i]? = some b := ⟨bs[i]'(by rw [HN.out]; exact hlt), by simp [HN.out, hlt]⟩
          obtain ⟨x, hx⟩ : ∃ x, X[i]? = some x := ⟨X[i]'(by rw [HXL.out, HN.out]; exact hlt), by simp [HXL.out, HN.out, hlt]⟩
          have cx := HM.out.cell hx
          have hlt' : (i : Int) < n := by omega
          have hi0 : (0 : Int) ≤ i := by omega
          have HLT := Lib.hid hlt; have HI6 := Lib.hid (show (i : Int) < 1048576 by have := HN6.out; omega)
          have HB := Lib.hid hb; have HX2 := Lib.hid hx
          clear hlt hi hx hb
          cases x
          · have hse := selN_miss HB.out HX2.out
            have HSE := Lib.hid hse
            obtain ⟨m, hm⟩ : ∃ m, (selN bs X i).length = m := ⟨_, rfl⟩
            rw [hm]
            have HMM := Lib.hid hm
            have HI6' := HI6.out
            clear hse hm
            go_wp2
            go_roundw
            case rel => exact ⟨i + 1, by rw [HSE.out, HMM.out], by go_num, HLT.out, HM.out, HZ.out⟩
            case measure => have := HLT.out; simp [intOf]; omega
          · have hse := selN_hit HB.out HX2.out
            have hat := sel_at HSEL.out HB.out HX2.out
            have HSE := Lib.hid hse
            obtain ⟨m, hm⟩ : ∃ m, (selN bs X i).length = m := ⟨_, rfl⟩
            rw [hm] at hat
            rw [hm]
            have HMM := Lib.hid hm
            obtain ⟨gl, rfl, _, cl⟩ := HM.out.row m b.a hat
            obtain ⟨ao, c, R⟩ := HM.out.ref.rowC
            have hbr : (blks rs)[i]? = some b := by rw [HRB.out]; exact HB.out
            obtain ⟨r, hr, rfl⟩ := blks_at hbr
            obtain ⟨gr, rfl, d0, _, _, _⟩ := R.at' i r hr
            have d1 := R.c1
            rw [← blks_len, HRB.out, HN.out] at d1
            have hml : m < ll := by rw [← HLN.out]; exact (List.getElem?_eq_some_iff.1 hat).1
            obtain ⟨a, ha⟩ : ∃ a, r.b.a = a := ⟨_, rfl⟩
            rw [ha] at cl d0
            have HA := Lib.hid ha
            have hm1 : (m : Int) < ll := by omega
            have hm2 : ¬ (ll : Int) ≤ m := by omega
            have hm3 : decide ((ll : Int) ≤ m) = false := decide_eq_false hm2
            have hm4 : ¬ ll ≤ m := by omega
            have hm5 : decide (ll ≤ m) = false := decide_eq_false hm4
            have hm0 : (0 : Int) ≤ m := by omega
            have hm6 : IntKind.i64.wrap ((m : Int) + 1) = ((m + 1 : Nat) : Int) := by have := HL6.out; rw [IntWalk.i64_in _ ⟨by omega, by omega⟩]; omega
            have HI6' := HI6.out
            clear hse hat hm R hbr hr ha hml
            go_wp2
            go_quiet (fail)
            go_wp2
            go_roundw
            case rel => exact ⟨i + 1, by rw [HSE.out, List.length_append, HMM.out]; rfl, by go_num, HLT.out, HM.out.below (fun_drew (Below.refl _ _) _), HZ.out.below (fun_drew (Below.refl _ _) _)⟩
            case measure => have := HLT.out; simp [intOf]; omega
        · obtain rfl : i = n := by omega
          have hlt' : ¬ (i : Int) < i := by omega
          have hse : (selN bs X i).length = ll := by rw [← HN.out, HSEL.out, HLN.out]
          rw [hse]
          clear hlt hi hse
          go_wp2_with fail
          refine (words_any p wr).mono ?_
          rintro e w6 ⟨rfl, hw6⟩
          have HQ6 := Lib.hid (show w6.cell? ⟨wr.heap.size, 0, none⟩ = some (.pointer (some ⟨p, 0, none⟩)) by rw [hw6]; exact heap_cell (heap_alloc_at wr _ rfl) 0)
          have hb6 : Below wr.heap.size wr w6 := by rw [hw6]; exact (Below.refl _ _).alloc (Nat.le_refl _) _
          have HM6 := Lib.hid (HM.out.below hb6); have HZ6 := Lib.hid (HZ.out.below hb6)
          have HZc := Lib.hid (show ¬ Z wr.heap.size from fun h => by have := HM.out.zb _ h; omega)
          clear hw6 hb6 HM HZ
          go_wp2_with fail
          by_cases hk : k1 < 1
          · refine (mark_low w6 p _ _ k1 hk _).mono ?_
            rintro e w7 ⟨rfl, hb7⟩
            have HF := Lib.hid (show Below w.heap.size w w7 from HB1.out.trans ((HM6.out.below hb7).b1.mono HB1.out.size))
            clear hb7
            go_wp2
            go_ret
            exact ⟨rfl, HF.out⟩
          · have hk2 : decide (k1 < 1) = false := decide_eq_false hk
            obtain ⟨kn, hkn⟩ : ∃ kn : Nat, k1 = kn := ⟨k1.toNat, by omega⟩
            have HKN := Lib.hid hkn
            have MZ := Lib.hid (mark_z HTT1.out HZ6.out HZL.out HM6.out.b1 (by decide) H64.out HQ6.out HZc.out kn (by have := HK1.out; omega) (by omega) _ xs (H2.out.rowZ (HB1.out.trans (HM6.out.b1.mono HB1.out.size)) (fun b hb => Nat.le_trans HB1.out.size (HZL.out b hb))) HX.out (by have := HLX.out; have := HL2.out; omega))
            rw [← hkn] at MZ
            clear hkn
            refine MZ.out.mono ?_
            rintro e w7 ⟨b1, n1, rfl, hz7, hu7, hc7, hn7, hm7⟩
            have m1 := ord_one HBO.out.1 hm7
            have hll : n1 = ll := by
              have h1 := hn7
              rw [cnt_none HBO.out.1, cnt_marks, marks_eq hz7.wf HLS.out (fun a => (m1 a).trans (HLM.out a).symm), HLN.out] at h1
              omega
            subst hll
            have HM7 := Lib.hid (HM6.out.upd hu7 HS2.out HZL.out)
            have HZ7 := Lib.hid hz7; have HC7 := Lib.hid hc7; have HMM := Lib.hid m1
            have hA7 := HM7.out.ref.rowC
            obtain ⟨ao, c, hA7⟩ := hA7
            have d1 := hA7.c1
            rw [← blks_len, HRB.out, HN.out] at d1
            clear hz7 hu7 hc7 hn7 hm7 m1 HM6 HZ6 HQ6 HZc MZ hA7
            go_wp2_with fail
            go_loopw [17] (fun t17 wr => ∃ j : Nat, t17 = .int .i64 j ∧ j ≤ i ∧ MmW w1 Z S2 q rs g X aol L wr ∧ InZ Z wr p 600 b1) (fun t17 _ => i - (intOf t17).toNat)
            case atStart => exact ⟨0, rfl, Nat.zero_le _, HM7.out, HZ7.out⟩
            case round =>
              clear HM7 HZ7
              obtain ⟨j, rfl, hj, hm, hz⟩ := hrel
              have HM := Lib.hid hm; have HZ := Lib.hid hz
              have d1w := hm.ref.rowC
              obtain ⟨ao, c, R⟩ := d1w
              have d2 := R.c1
              rw [← blks_len, HRB.out, HN.out] at d2
              clear hm hz d1
              by_cases hlt : j < i
              · obtain ⟨b, hb⟩ : ∃ b, bs[j]? = some b := ⟨bs[j]'(by rw [HN.out]; exact hlt), by simp [HN.out, hlt]⟩
                obtain ⟨x, hx⟩ : ∃ x, X[j]? = some x := ⟨X[j]'(by rw [HXL.out, HN.out]; exact hlt), by simp [HXL.out, HN.out, hlt]⟩
                have cx := HM.out.cell hx
                have hbr : (blks rs)[j]? = some b := by rw [HRB.out]; exact hb
                obtain ⟨r, hr, rfl⟩ := blks_at hbr
                obtain ⟨gr, rfl, e0, e1, e2, e3⟩ := R.at' j r hr
                have hbd := HM.out.ref.bound (List.mem_of_getElem? hr)
                obtain ⟨a, ha⟩ : ∃ a, r.b.a = a := ⟨_, rfl⟩
                obtain ⟨nb, hnb⟩ : ∃ nb, r.b.n = nb := ⟨_, rfl⟩
                obtain ⟨u, hu⟩ : ∃ u, r.b.u = u := ⟨_, rfl⟩
                obtain ⟨m, hm⟩ : ∃ m, r.b.m = m := ⟨_, rfl⟩
                obtain ⟨rg, hrg⟩ : ∃ rg, r.g = rg := ⟨_, rfl⟩
                rw [ha] at e0; rw [hnb, hrg] at e1; rw [hu] at e2; rw [hm] at e3
                have HA := Lib.hid ha; have HNB := Lib.hid hnb; have HU := Lib.hid hu; have HRG := Lib.hid hrg; have HB := Lib.hid hb; have HX2 := Lib.hid hx; have HRR := Lib.hid hr
                have hlt' : (j : Int) < i := by omega
                have hj0 : (0 : Int) ≤ j := by omega
                have HLT := Lib.hid hlt; have HJ6 := Lib.hid (show (j : Int) < 1048576 by have := HN6.out; omega)
                have HBD := Lib.hid (show 1 ≤ a ∧ 0 < nb ∧ a + nb ≤ 1048576 by rw [← ha, ← hnb]; exact hbd)
                clear ha hnb hu hrg hb hx hr hbr hlt hj R hbd hm
                have HXJ := Lib.hid cx
                have hxx : (x != x) = false := by cases x <;> rfl
                obtain ⟨bb, hbb⟩ : ∃ bb, wr.heap.size = bb := ⟨_, rfl⟩
                have HBB := Lib.hid hbb
                have HW8 := Lib.hid (fun (cs : Array Value) => And.intro (heap_alloc_at wr (.cells cs 36) hbb.symm) ((Below.refl wr.heap.size wr).alloc (Nat.le_refl _) (.cells cs 36)))
                clear hbb
                have HJ6' := HJ6.out
                go_wp2_with fail
                rw [HBB.out]
                obtain ⟨q8, b8⟩ := HW8.out #[.int .i64 (a : Nat), .slice (some ⟨rg, 0, none⟩) nb nb, .bool u, .bool m]
                obtain ⟨W8, hW8⟩ : ∃ W8, W8 = wr.alloc (.cells #[.int .i64 (a : Nat), .slice (some ⟨rg, 0, none⟩) nb nb, .bool u, .bool m] 36) := ⟨_, rfl⟩
                rw [← hW8] at q8 b8 ⊢
                have HM8 := Lib.hid (HM.out.below b8); have HZ8 := Lib.hid (HZ.out.below b8)
                have y0 := heap_cell q8 0
                have y1 := heap_cell q8 1
                have y2 := heap_cell q8 2
                simp at y0 y1 y2
                have cx8 := below_cell b8 HXJ.out
                have HY := Lib.hid (And.intro y0 (And.intro y1 y2))
                clear hW8 q8 b8 HW8 cx e0 e1 e2 e3 d2 HM HZ HJ6'
                go_cut [142] from 130 to 142 (fun s142 wx => s142 = .bool false ∧ Below W8.heap.size W8 wx)
                case first =>
                  cases u
                  · go_quiet (fail)
                    go_wp2_with fail
                    go_meet
                    exact ⟨rfl, fun_drew (Below.refl _ _) _⟩
                  · have hmx := marked_x (x := x) HXX.out HMM.out HB.out HU.out HX2.out
                    rw [HA.out] at hmx
                    have hus : usedAt b1 (a : Int) = true := ord_used HC7.out (by rw [← HA.out]; exact usedAt_of (List.mem_of_getElem? HB.out) HU.out)
                    obtain ⟨SA, aA, _⟩ := HZ8.out
                    have CM := Marked_s (aA.below (Below.refl _ _).drew) a hus
                    rw [hmx] at CM
                    have CM := Lib.hid CM
                    have KZ0 := Lib.hid (show W8.drew.cell? ⟨bb, 0, none⟩ = some (.int .i64 (a : Nat)) ∧ W8.drew.cell? ⟨bb, 2, none⟩ = some (.bool true) ∧ W8.drew.cell? ⟨g, j, none⟩ = some (.bool x) from ⟨y0, y2, cx8⟩)
                    clear hmx hus aA y0 y1 y2 cx8
                    go_region_held_law (fun w' => w'.cell? ⟨bb, 0, none⟩ = some (.int .i64 (a : Nat)) ∧ w'.cell? ⟨bb, 2, none⟩ = some (.bool true) ∧ w'.cell? ⟨g, j, none⟩ = some (.bool x)) (exact KZ0.out)
                      (first
                        | (go_at_call 12
                           refine CM.out.mono ?_
                           rintro e w' ⟨rfl, rfl⟩
                           dsimp only))
                    all_goals (go_wp2_with fail)
                    all_goals go_meet
                    all_goals exact ⟨rfl, (Below.refl _ _).drew⟩
                case rest =>
                  obtain ⟨rfl, hb9⟩ := hcut
                  have HB9 := Lib.hid hb9
                  clear hb9 y0 y1 y2 cx8 hxx
                  go_wp2_with fail
                  go_loopw [19] (fun t19 wy => ∃ k : Nat, t19 = .int .i64 k ∧ k ≤ nb ∧ Below W8.heap.size W8 wy) (fun t19 _ => nb - (intOf t19).toNat)
                  case atStart => exact ⟨0, rfl, Nat.zero_le _, HB9.out⟩
                  case round =>
                    obtain ⟨k, rfl, hk3, hby⟩ := hrel
                    have z0 := below_cell hby HY.out.1
                    have z1 := below_cell hby HY.out.2.1
                    have z2 := below_cell hby HY.out.2.2
                    have HBY := Lib.hid hby
                    clear hby
                    cases u
                    · have HJ6' := HJ6.out
                      clear z0 z1
                      go_wp2
                      go_roundw
                      case rel => exact ⟨j + 1, by go_num, HLT.out, HM8.out.below HBY.out, HZ8.out.below HBY.out⟩
                      case measure => have := HLT.out; simp [intOf]; omega
                    · by_cases hkn : k < nb
                      · have hw := (HM8.out.below HBY.out).ref.word (List.mem_of_getElem? HRR.out) (k := k) (by rw [HNB.out]; exact hkn)
                        rw [HRG.out] at hw
                        have CG := Get_k ((HZ8.out.below HBY.out).toN HZL.out (HM8.out.below HBY.out).b1) (get_same HZ8.out.wf HC7.out (List.mem_of_getElem? HB.out) HU.out (k := k) (by rw [HNB.out]; exact hkn)) _ rfl (by omega) (by have := HBD.out; rw [HA.out]; omega)
                        rw [HA.out] at CG
                        obtain ⟨y, hy⟩ : ∃ y, r.b.ws.getD k 0 = y := ⟨_, rfl⟩
                        rw [hy] at hw CG
                        have CG := Lib.hid CG
                        have hk1 : (k : Int) < nb := by omega
                        have hk0 : (0 : Int) ≤ k := by omega
                        have HKN := Lib.hid hkn; have HK6 := Lib.hid (show (k : Int) < 1048577 by have := HBD.out; omega)
                        clear hkn hk3 hy
                        go_wp2_with fail
                        refine CG.out.mono ?_
                        rintro e w9 ⟨rfl, rfl⟩
                        have HK6' := HK6.out
                        go_wp2
                        go_roundw
                        case rel => exact ⟨k + 1, by go_num, HKN.out, HBY.out⟩
                        case measure => have := HKN.out; simp [intOf]; omega
                      · obtain rfl : k = nb := by omega
                        have hk1 : ¬ (k : Int) < k := by omega
                        have HJ6' := HJ6.out
                        clear hkn hk3
                        go_wp2
                        go_roundw
                        case rel => exact ⟨j + 1, by go_num, HLT.out, HM8.out.below HBY.out, HZ8.out.below HBY.out⟩
                        case measure => have := HLT.out; simp [intOf]; omega
              · obtain rfl : j = i := by omega
                have hlt' : ¬ (j : Int) < j := by omega
                have HRT := Lib.hid HM.out.b1
                clear hlt hj R HM HZ
                go_wp2_with fail
                refine (words_any p wr).mono ?_
                rintro e w8 ⟨rfl, hw8⟩
                have HC8 := Lib.hid (show Below w1.heap.size w1 w8 from HRT.out.trans ((show Below wr.heap.size wr w8 by rw [hw8]; exact (Below.refl _ _).alloc (Nat.le_refl _) _).mono HRT.out.size))
                clear hw8
                go_wp2_with fail
                refine (mark_nila w8 _ _ _).mono ?_
                rintro e w9 ⟨rfl, hb9⟩
                have HC9 := Lib.hid (show Below w1.heap.size w1 w9 from HC8.out.trans (hb9.mono HC8.out.size))
                clear hb9
                go_wp2_with fail
                refine (mark_nilw w9 p _ _).mono ?_
                rintro e w10 ⟨rfl, hb10⟩
                have HC10 := Lib.hid (show Below w1.heap.size w1 w10 from HC9.out.trans (hb10.mono HC9.out.size))
                clear hb10
                go_wp2_with fail
                refine (words_any p w10).mono ?_
                rintro e w11 ⟨rfl, hw11⟩
                have HC11 := Lib.hid (show Below w1.heap.size w1 w11 from HC10.out.trans ((show Below w10.heap.size w10 w11 by rw [hw11]; exact (Below.refl _ _).alloc (Nat.le_refl _) _).mono HC10.out.size))
                clear hw11
                go_wp2_with fail
                refine (reach_nil w11 _ _).mono ?_
                rintro e w12 ⟨rfl, hb12⟩
                have HC12 := Lib.hid (show Below w.heap.size w w12 from HB1.out.trans ((HC11.out.trans (hb12.mono HC11.out.size)).mono HB1.out.size))
                clear hb12
                go_wp2
                go_ret
                exact ⟨rfl, HC12.out⟩
end Go.Proofs.YtfpfpopfnbcblaaDoor
