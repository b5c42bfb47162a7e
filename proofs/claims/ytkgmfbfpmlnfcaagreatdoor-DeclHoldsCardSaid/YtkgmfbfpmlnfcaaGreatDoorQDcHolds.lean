/- geodelaw12: DeclHolds walked. -/
import Derived.Test.YtkgmfbfpmlnfcaaGreatDoorQDcParts
import Derived.Test.YtkgmfbfpmlnfcaaGreatDoorQDcHoldsP
import Derived.Test.YtkgmfbfpmlnfcaaGreatDoorQChGrow
import Derived.Test.YtkgmfbfpmlnfcaaGreatDoorQChRead
import Derived.Test.YtkgmfbfpmlnfcaaGreatDoorQMaValP
namespace Go.Proofs.YtkgmfbfpmlnfcaaGreatDoor
open Go.RowKit Go.Maps Go.WideMaps

/-- What Check leaves, its numbers as a slice. -/
structure CkO (w0 : World) (S R : Nat → Prop) (w : World) (t : Nat) (A : Int × Nat × DcS) (w' : World) (ao : Option Addr) (n cap : Nat) (il : List Int) (S' R' : Nat → Prop) : Prop where
  nl : n = il.length
  tab : TabN w0 S' R' w' t A.2.2.gs
  c : TabC A.2.2.gs
  ids : ∀ w'', Upd (fun b => S' b ∨ b < w.heap.size) w' w'' → IntsAt w'' (.slice ao n cap) il
  eq : A.1 = 0 → il = A.2.2.ids
  err : A.1 ≠ 0 → n = 0
  up : Upd S w w'
  fs : Fresh S w S'
  fr : Fresh R w R'
theorem CheckP.slice {w0 w w' : World} {S R : Nat → Prop} {t : Nat} {A : Int × Nat × DcS} {e : Ending} (h : CheckP w0 S R w t A e w') : ∃ ao n cap il S' R', e = .returned (.tuple #[.slice ao n cap, .int .i64 A.1, .int .i64 A.2.1]) ∧ CkO w0 S R w t A w' ao n cap il S' R' := by
  obtain ⟨u, S', R', he, ht, hc, hi, hup, h1, h2⟩ := h
  obtain ⟨ao, cap, rfl⟩ := RowAt.form (hi w' (Upd.refl _ _))
  exact ⟨ao, _, cap, _, S', R', he, rfl, ht, hc, hi, fun h => if_pos h, fun h => by rw [if_neg h]; rfl, hup, h1, h2⟩
theorem below_dn {B : Nat} {w a : World} (h : Below B w a) (n : Nat) : Below B w (a.drewN n) := ⟨h.os, h.tape, h.output, h.size, h.block⟩
def HoldsP (w : World) (e : Ending) (w' : World) : Prop := e = .returned (.bool true) ∧ Below w.heap.size w w'
set_option maxRecDepth 100000 in
set_option maxHeartbeats 64000000 in
theorem declHolds_any (v1 v2 : Value) (l m : List (List Sb)) (w : World) (h1 : GrpsAt w v1 l) (h2 : GrpsAt w v2 m) (n1 : ∀ g ∈ l, g.length ≤ 2000000000000) (n2 : ∀ g ∈ m, g.length ≤ 2000000000000) (f1 : ∀ g ∈ l, ∀ x ∈ g, Small x → Fits x) (f2 : ∀ g ∈ m, ∀ x ∈ g, Small x → Fits x) (htab : Tab w) :
    Calls Tryz.prog 4 #[v1, v2] w (HoldsP w) := by
  obtain ⟨a1, c1, rfl⟩ := h1.form
  obtain ⟨a2, c2, rfl⟩ := h2.form
  obtain ⟨nl, hnl⟩ : ∃ n, l.length = n := ⟨_, rfl⟩
  obtain ⟨nm, hnm⟩ : ∃ n, m.length = n := ⟨_, rfl⟩
  have C0 := Lib.hid (known12_any w htab)
  have H1 := Lib.hid h1; have H2 := Lib.hid h2; have N1 := Lib.hid n1; have N2 := Lib.hid n2; have F1 := Lib.hid f1; have F2 := Lib.hid f2; have HTAB := Lib.hid htab; have HNL := Lib.hid hnl; have HNM := Lib.hid hnm
  rw [hnl, hnm]
  clear h1 h2 n1 n2 f1 f2 htab hnl hnm
  go_enter Tryz.func4, Tryz.ntmps4
  go_wp2_with fail
  refine C0.out.mono ?_
  rintro e w1 ⟨rfl, hb1⟩
  have C1 := great12_any _ l w1 (H1.out.below hb1 (Nat.le_refl _)) N1.out
  rw [HNL.out] at C1
  have C1 := Lib.hid C1; have HB1 := Lib.hid hb1
  clear hb1
  go_wp2_with fail
  refine C1.out.mono ?_
  rintro e w2 ⟨r1, rfl, ok1, hb2⟩
  have hbe2 : Below w.heap.size w w2 := HB1.out.trans (hb2.mono HB1.out.size)
  have C2 := great12_any _ m w2 (H2.out.below hbe2 (Nat.le_refl _)) N2.out
  rw [HNM.out] at C2
  have C2 := Lib.hid C2; have HBE2 := Lib.hid hbe2; have OK1 := Lib.hid ok1
  clear hb2 hbe2 ok1
  cases r1
  · go_wp2_with fail
    refine C2.out.mono ?_
    rintro e w3 ⟨r2, rfl, ok2, hb3⟩
    have hbe3 : Below w.heap.size w w3 := HBE2.out.trans (hb3.mono HBE2.out.size)
    have HBE3 := Lib.hid hbe3; have OK2 := Lib.hid ok2
    clear hb3 hbe3 ok2 C2
    cases r2
    · have ok1 := OK1.out (by first | trivial | rfl)
      have ok2 := OK2.out (by first | trivial | rfl)
      have hl6 : nl ≤ 150 := by have := (sizeD_len l).1; have := ok1.size; have := HNL.out; omega
      have hm6 : nm ≤ 150 := by have := (sizeD_len m).1; have := ok2.size; have := HNM.out; omega
      have HOK1 := Lib.hid ok1; have HOK2 := Lib.hid ok2; have HL6 := Lib.hid hl6; have HM6 := Lib.hid hm6
      clear ok1 ok2 OK1 OK2 hl6 hm6
      go_wp2_with fail
      refine (new_any _).mono ?_
      rintro e w4 ⟨t, S, rfl, hta, hba, hbe4⟩
      have hT := tabN_new hta hba hbe4
      have HT4 := Lib.hid hT; have HB4 := Lib.hid hbe4
      clear hta hba hbe4 hT
      go_wp2_with fail
      refine (chNew_any _).mono ?_
      rintro e w5 ⟨c, SL, rfl, hL0, hLb, hb5⟩
      have hT := HT4.out.below hb5
      have hbe5 : Below w.heap.size w w5 := HBE3.out.trans ((HB4.out.trans (hb5.mono HB4.out.size)).mono HBE3.out.size)
      have C3 := check_any _ l hT tabC_nil (GrpsK.of H1.out hbe5 (fun b hb => Nat.le_trans HBE3.out.size (HT4.out.base b hb))) (HOK1.out.raw F1.out) (by have := (sizeD_len l).2; have := HOK1.out.size; omega) (by have := HNL.out; have := HL6.out; omega) (HTAB.out.on HBE3.out)
      obtain ⟨A, hA⟩ : ∃ A, checkD ⟨[], [], [], []⟩ l = A := ⟨_, rfl⟩
      rw [hA, HNL.out] at C3
      have C3 := Lib.hid C3; have HT5 := Lib.hid hT; have HA := Lib.hid hA; have HL0 := Lib.hid hL0; have HLB := Lib.hid hLb; have HBE5 := Lib.hid hbe5; have HB5 := Lib.hid hb5
      clear hT hA hL0 hLb hbe5 hb5
      go_wp2_with fail
      refine C3.out.mono ?_
      intro e w6 hcp
      obtain ⟨au, un, cu, il, S6, R6, rfl, hk6⟩ := hcp.slice
      have hbe6 : Below w.heap.size w w6 := HBE5.out.trans (hk6.up.below (fun b hb => Nat.le_trans HBE3.out.size (HT4.out.base b hb)) HBE5.out.size)
      have HK6 := Lib.hid hk6; have HBE6 := Lib.hid hbe6
      clear hcp hk6 hbe6 C3
      obtain ⟨ea, pa, dcA⟩ := A
      dsimp only
      by_cases he : ea = 0
      · subst he
        have hpa : pa = 0 := by
          have h := checkD_at (d := ⟨[], [], [], []⟩) (l := l) (by rw [HA.out])
          rw [HA.out] at h
          exact h
        subst hpa
        have hli : LinesAt SL w6 c [] := HL0.out.keep (HK6.out.up.mono fun b hb hs hl => by have h1 := (HT4.out.tab.lt b hs).1; have h2 := HLB.out b hl; omega)
        have hoff : ∀ k, SL k → ¬ S6 k ∧ ¬ R6 k := fun k hk => by
          have h1 := HL0.out.lt k hk
          have h2 := HLB.out k hk
          exact ⟨fun q => (HK6.out.fs k q).elim (fun q => by have := (HT4.out.tab.lt k q).1; omega) (fun q => by omega), fun q => (HK6.out.fr k q).elim (fun q => q) (fun q => by omega)⟩
        have C4 := grow_any w6 hli (⟨HK6.out.tab.tab, HK6.out.tab.ok, HK6.out.c⟩ : TabK S6 R6 w6 t dcA.gs) hoff
        try dsimp only at C4
        rw [(holds_grow HA.out).1] at C4
        have C4 := Lib.hid C4; have HOFF := Lib.hid hoff
        clear hli hoff
        go_wp2_with fail
        refine C4.out.mono ?_
        rintro e w7 ⟨SL7, rfl, hgr⟩
        have hbe7 : Below w.heap.size w w7 := HBE6.out.trans (hgr.up.below (fun b hb => by have := HLB.out b hb; have := HB4.out.size; have := HBE3.out.size; omega) HBE6.out.size)
        have HGR := Lib.hid hgr; have HBE7 := Lib.hid hbe7
        clear hgr hbe7 C4
        go_wp2_with fail
        obtain ⟨L7, hL7⟩ : ∃ L7, (growAll (tabL dcA.gs) []).2 = L7 := ⟨_, rfl⟩
        have HHT := Lib.hid (show ∀ i k g s, l[i]? = some g → g[k]? = some s → ∃ m y, HoldT dcA.gs L7 dcA.ids (((l.take i).map List.length).sum + k) s m y from fun i k g s hg hs => by rw [← hL7]; exact holdT_of HA.out hg hs)
        have hgr := HGR.out
        rw [hL7] at hgr
        have HTK := Lib.hid (show ∀ x, Below w7.heap.size w7 x → TabK S6 R6 x t dcA.gs from fun x hb => hgr.tab.below hb)
        have HLI := Lib.hid (show ∀ x, Below w7.heap.size w7 x → LinesAt SL7 x c L7 from fun x hb => hgr.li.below hb)
        have hu67 : Upd (fun b => S6 b ∨ b < w5.heap.size) w6 w7 := hgr.up.mono fun b _ q => .inr (HL0.out.lt b q)
        have hil : il = dcA.ids := HK6.out.eq rfl
        have hun : un = sumL l := by rw [HK6.out.nl, hil, (holds_grow HA.out).2]
        have HIX := Lib.hid (show ∀ x, Below w7.heap.size w7 x → IntsAt x (.slice au dcA.ids.length cu) dcA.ids from fun x hb => by
          have h := HK6.out.ids x (hu67.trans' (Upd.of_below hb))
          rw [hil, HK6.out.nl, hil] at h
          exact h)
        have HIL := Lib.hid hil; have HUN := Lib.hid hun
        have hun6 : (un : Int) ≤ 150 := by have := (sizeD_len l).2; have := HOK1.out.size; unfold sumL at hun; omega
        have HIDL := Lib.hid (show dcA.ids.length = un by rw [← hil, ← HK6.out.nl])
        clear hgr hL7 hu67 hil hun
        go_loopw [10, 11] (fun t10 t11 wr => ∃ i : Nat, t10 = .int .i64 (((l.take i).map List.length).sum : Nat) ∧ t11 = .int .i64 i ∧ i ≤ nl ∧ Below w7.heap.size w7 wr) (fun _ t11 _ => nl - (intOf t11).toNat)
        case atStart => exact ⟨0, rfl, rfl, Nat.zero_le _, Below.refl _ _⟩
        case round =>
          obtain ⟨i, rfl, rfl, hi, hbr⟩ := hrel
          obtain ⟨sm, hsm⟩ : ∃ sm, ((l.take i).map List.length).sum = sm := ⟨_, rfl⟩
          rw [hsm]
          have hi6 : (i : Int) ≤ 150 := by have := HL6.out; omega
          by_cases hlt : i < nl
          · obtain ⟨g, hg⟩ : ∃ g, l[i]? = some g := ⟨l[i]'(by rw [HNL.out]; exact hlt), by simp⟩
            obtain ⟨gl, hgl⟩ : ∃ gl, g.length = gl := ⟨_, rfl⟩
            have hsum : sm + gl ≤ un := by
              have e := sum_take_step hg
              rw [hsm, hgl] at e
              have h2 : ((l.take (i + 1)).map List.length).sum ≤ sumL l := by
                unfold sumL
                conv => rhs; rw [← List.take_append_drop (i + 1) l, List.map_append, List.sum_append]
                omega
              have := HUN.out
              omega
            have hlt' : (i : Int) < nl := by omega
            have hsm6 : (sm : Int) ≤ 150 := by omega
            have hgl6 : (gl : Int) ≤ 150 := by omega
            have HG := Lib.hid hg; have HGL := Lib.hid hgl; have HLT := Lib.hid hlt; have HBR := Lib.hid hbr; have HSM := Lib.hid hsm; have HSUM := Lib.hid hsum
            clear hg hgl hlt hi hbr hsm hsum
            go_wp2_with fail
            go_loopw [10, 12] (fun t10 t12 wz => ∃ k nn : Nat, t10 = .int .i64 nn ∧ t12 = .int .i64 k ∧ k ≤ gl ∧ nn = sm + k ∧ Below w7.heap.size w7 wz) (fun _ t12 _ => gl - (intOf t12).toNat)
            case atStart => exact ⟨0, sm, rfl, rfl, Nat.zero_le _, rfl, HBR.out⟩
            case round =>
              obtain ⟨k, nn, rfl, rfl, hk, hnn, hbz⟩ := hrel
              have hbw : Below w.heap.size w wr := HBE7.out.trans (hbz.mono HBE7.out.size)
              obtain ⟨b, off, a, cc, hao, p0, hgg⟩ := (H1.out.below hbw (Nat.le_refl _)).at HG.out
              rw [HGL.out] at p0
              have hk6 : (k : Int) ≤ 150 := by omega
              by_cases hlt : k < gl
              · obtain ⟨s, hs⟩ : ∃ s, g[k]? = some s := ⟨g[k]'(by rw [HGL.out]; exact hlt), by simp⟩
                obtain ⟨m1, y, hh⟩ := HHT.out i k g s HG.out hs
                rw [HSM.out, ← hnn] at hh
                obtain ⟨b2, o2, ha2, hb2, d1, f1, d2, f2, d3, f3, d4, f4, sa, q0, q1, q2, q3, q4, q5⟩ := hgg.at hs
                obtain ⟨ib, io, hib, hibl, r0⟩ := IntsAt.at (HIX.out wr hbz) hh.id
                have C8 := get_k (HTK.out wr hbz) hh.at_
                subst hao ha2 hib
                have C8 := Lib.hid C8; have HS := Lib.hid hs; have HH := Lib.hid hh; have HBZ := Lib.hid hbz; have HLT2 := Lib.hid hlt
                have hlt' : (k : Int) < gl := by omega
                have hbl := World.block_lt_of_cell? _ _ p0
                have hid1 : dcA.ids.length = un := HIDL.out
                have hnk : (nn : Int) < un := by have := HSUM.out; omega
                have hnn6 : (nn : Int) ≤ 150 := by have := HSUM.out; omega
                have HNN := Lib.hid hnn
                clear hnn hs hh hbz hlt hk q0 q2 q3 q4 q5 sa hgg hibl hbw hid1
                go_wp2_with fail
                refine C8.out.mono ?_
                rintro e w8 ⟨ds1, rfl, hsub1, hb8⟩
                obtain ⟨y1, z1, y2, z2, y3, z3, y4, z4, rfl⟩ := (hsub1 w8 (Upd.refl _ _)).out
                have hp0 := (hb8.cell hbl).trans p0
                have hq1 := (hb8.cell (World.block_lt_of_cell? _ _ q1)).trans q1
                have hr0 := (hb8.cell (World.block_lt_of_cell? _ _ r0)).trans r0
                have hbl8 : b < w8.heap.size := World.block_lt_of_cell? _ _ hp0
                have hb28 : b2 < w8.heap.size := World.block_lt_of_cell? _ _ hq1
                have hib8 : ib < w8.heap.size := World.block_lt_of_cell? _ _ hr0
                obtain ⟨yl, hyl⟩ : ∃ yl, y.sups.length = yl := ⟨_, rfl⟩
                have HYL := Lib.hid hyl
                have hb9 : Below wr.heap.size wr (w8.alloc (.cells #[.bool y.fin, .slice y1 yl z1, .int .i64 y.k, .slice y2 y.ps.length z2, .slice y3 y.rs.length z3, .slice y4 y.fs.length z4] 44)) := hb8.alloc hb8.size _
                have HB9 := Lib.hid hb9; have HSUB := Lib.hid hsub1; have HB8 := Lib.hid hb8
                have hsl : s.sups.length = yl := by rw [← HH.out.len]; exact hyl
                have hs1 := HH.out.one
                rw [hsl] at hq1 hs1
                rw [hyl]
                clear hsub1 hb9 p0 q1 r0 hbl C8 hyl
                rcases Nat.lt_or_ge yl 1 with h0 | h1
                · obtain rfl : yl = 0 := by omega
                  clear hsl hs1 h0 hb8
                  go_wp2
                  go_quiet (fail)
                  go_wp2
                  go_roundw
                  case rel => exact ⟨k + 1, nn + 1, by go_num, by go_num, HLT2.out, by have := HNN.out; omega, HBZ.out.trans ((below_dn HB9.out _).mono HBZ.out.size)⟩
                  case measure => have := HLT2.out; simp [intOf]; omega
                · obtain rfl : yl = 1 := by omega
                  obtain ⟨q, up, u1, u2, u3, u4, u5, u6⟩ := HH.out.up hsl
                  have hsub8 := HSUB.out w8 (Upd.refl _ _)
                  rw [HYL.out] at hsub8
                  obtain ⟨sb, so, hso, hsb, s1, s2⟩ := hps_at (i := 0) (x := ⟨15, (q : Int)⟩) (by have h := hsub8.sups; rw [← HYL.out] at h; exact h) (by rw [u1]; rfl)
                  rw [Nat.zero_mul, Nat.add_zero] at s1 s2
                  dsimp only at s1 s2
                  subst hso
                  have U := Lib.hid (show CompP (tabL dcA.gs) y up ∧ HeapP (tabL dcA.gs) ⟨15, (m1 : Int)⟩ ⟨15, (q : Int)⟩ ∧ belowL L7 m1 q = true ∧ up.fs.length ≤ y.fs.length from ⟨u3, u4, u5, u6⟩)
                  have U2 := Lib.hid u2
                  have HR0 := Lib.hid hr0; have S1 := Lib.hid s1; have S2 := Lib.hid s2; have HSBL := Lib.hid hsb
                  clear hsub8 u1 u2 u3 u4 u5 u6 hsl hs1 h1 hb8
                  go_wp2
                  go_quiet (fail)
                  go_wp2_with fail
                  have hbz9 : Below w7.heap.size w7 ((w8.alloc (.cells #[.bool y.fin, .slice (some ⟨sb, so, none⟩) 1 z1, .int .i64 y.k, .slice y2 y.ps.length z2, .slice y3 y.rs.length z3, .slice y4 y.fs.length z4] 44)).drewN nq) := HBZ.out.trans ((below_dn HB9.out _).mono HBZ.out.size)
                  obtain ⟨W9, hW9⟩ : ∃ W9 : World, W9 = (w8.alloc (.cells #[.bool y.fin, .slice (some ⟨sb, so, none⟩) 1 z1, .int .i64 y.k, .slice y2 y.ps.length z2, .slice y3 y.rs.length z3, .slice y4 y.fs.length z4] 44)).drewN nq := ⟨_, rfl⟩
                  rw [← hW9] at hbz9 ⊢
                  refine (get_k (HTK.out W9 hbz9) U2.out).mono ?_
                  rintro e w10 ⟨ds2, rfl, hsub2, hb10⟩
                  obtain ⟨x1, c21, x2, c22, x3, c23, x4, c24, rfl⟩ := (hsub2 w10 (Upd.refl _ _)).out
                  obtain ⟨b13, hb13⟩ : ∃ b13, w8.heap.size = b13 := ⟨_, rfl⟩
                  obtain ⟨b15, hb15⟩ : ∃ b15, w10.heap.size = b15 := ⟨_, rfl⟩
                  obtain ⟨W11, hW11⟩ : ∃ W11 : World, W11 = w10.alloc (.cells #[.bool up.fin, .slice x1 up.sups.length c21, .int .i64 up.k, .slice x2 up.ps.length c22, .slice x3 up.rs.length c23, .slice x4 up.fs.length c24] 44) := ⟨_, rfl⟩
                  have hb11 : Below W9.heap.size W9 W11 := by rw [hW11]; exact hb10.alloc hb10.size _
                  have g13 : W11.heap[b13]? = some (.cells #[.bool y.fin, .slice (some ⟨sb, so, none⟩) 1 z1, .int .i64 y.k, .slice y2 y.ps.length z2, .slice y3 y.rs.length z3, .slice y4 y.fs.length z4] 44 (0, 0)) := by
                    have h : W9.heap[b13]? = some (.cells #[.bool y.fin, .slice (some ⟨sb, so, none⟩) 1 z1, .int .i64 y.k, .slice y2 y.ps.length z2, .slice y3 y.rs.length z3, .slice y4 y.fs.length z4] 44 (0, 0)) := by rw [hW9]; exact heap_alloc_at w8 _ hb13.symm
                    exact (hb11.block _ (heap_lt h)).trans h
                  have g15 : W11.heap[b15]? = some (.cells #[.bool up.fin, .slice x1 up.sups.length c21, .int .i64 up.k, .slice x2 up.ps.length c22, .slice x3 up.rs.length c23, .slice x4 up.fs.length c24] 44 (0, 0)) := by rw [hW11]; exact heap_alloc_at _ _ hb15.symm
                  have old : ∀ {p : Addr} {v : Value}, w8.cell? p = some v → W11.cell? p = some v := fun {p v} h => by
                    have h9 : W9.cell? p = some v := by rw [hW9]; exact cell_alloc h _
                    exact (hb11.cell (World.block_lt_of_cell? _ _ h9)).trans h9
                  have KZ := Lib.hid (show ∀ w', Below W11.heap.size W11 w' → w'.cell? ⟨b13, 1, none⟩ = some (.slice (some ⟨sb, so, none⟩) 1 z1) ∧ w'.cell? ⟨b13, 2, none⟩ = some (.int .i64 y.k) ∧ w'.cell? ⟨b13, 3, none⟩ = some (.slice y2 y.ps.length z2) ∧ w'.cell? ⟨b13, 4, none⟩ = some (.slice y3 y.rs.length z3) ∧ w'.cell? ⟨b13, 5, none⟩ = some (.slice y4 y.fs.length z4) ∧ w'.cell? ⟨b15, 2, none⟩ = some (.int .i64 up.k) ∧ w'.cell? ⟨b15, 3, none⟩ = some (.slice x2 up.ps.length c22) ∧ w'.cell? ⟨b15, 4, none⟩ = some (.slice x3 up.rs.length c23) ∧ w'.cell? ⟨b15, 5, none⟩ = some (.slice x4 up.fs.length c24) ∧ w'.cell? ⟨ib, io + nn, none⟩ = some (.int .i64 m1) ∧ w'.cell? ⟨sb, so, none⟩ = some (.int .i64 15) ∧ w'.cell? ⟨sb, so + 1, none⟩ = some (.int .i64 q) from fun w' hb => by
                    have lift : ∀ {p : Addr} {v : Value}, W11.cell? p = some v → w'.cell? p = some v := fun {p v} h => (hb.cell (World.block_lt_of_cell? _ _ h)).trans h
                    exact ⟨lift (heap_cell g13 1), lift (heap_cell g13 2), lift (heap_cell g13 3), lift (heap_cell g13 4), lift (heap_cell g13 5), lift (heap_cell g15 2), lift (heap_cell g15 3), lift (heap_cell g15 4), lift (heap_cell g15 5), lift (old HR0.out), lift (old S1.out), lift (old S2.out)⟩)
                  have HSA := Lib.hid (show ∀ w', Below W11.heap.size W11 w' → ValsAt w' (.slice y2 y.ps.length z2) y.ps ∧ ValsAt w' (.slice y3 y.rs.length z3) y.rs ∧ FlsAt w' (.slice y4 y.fs.length z4) y.fs from fun w' hb => by
                    have hu : Upd (fun b => b < wr.heap.size) w8 W9 := by rw [hW9]; exact ((Upd.refl _ _).alloc _).drewN _
                    exact (HSUB.out w' ((hu.trans' (Upd.of_below hb11)).trans' (Upd.of_below hb))).rows)
                  have HSB := Lib.hid (show ∀ w', Below W11.heap.size W11 w' → ValsAt w' (.slice x2 up.ps.length c22) up.ps ∧ ValsAt w' (.slice x3 up.rs.length c23) up.rs ∧ FlsAt w' (.slice x4 up.fs.length c24) up.fs from fun w' hb => by
                    have hu : Upd (fun b => b < W9.heap.size) w10 W11 := by rw [hW11]; exact (Upd.refl _ _).alloc _
                    exact (hsub2 w' (hu.trans' (Upd.of_below hb))).rows)
                  have hbz11 : Below w7.heap.size w7 W11 := hbz9.trans (hb11.mono hbz9.size)
                  have HBZ11 := Lib.hid hbz11; have HW11 := Lib.hid hW11; have HW9 := Lib.hid hW9; have HB13 := Lib.hid hb13; have HB15 := Lib.hid hb15
                  clear hb10 hb11 g13 g15 old hsub2 hbz9 hbz11 hW11 hW9 hp0 hq1 hr0 hbl8 hb28 hib8 s1 s2 hsb hb13 hb15
                  go_wp2_with fail
                  rw [← HW11.out, HB15.out, HB13.out]
                  obtain ⟨qB, hq⟩ := heapT_ex dcA.gs
                  have HQ := Lib.hid hq
                  clear hq
                  have hbd : Below W11.heap.size W11 W11.drew := (Below.refl _ _).drew
                  have KZ0 := Lib.hid (KZ.out W11.drew hbd)
                  have C11 := comp_tab HQ.out t y up _ _ _ _ _ _ W11.drew (HSA.out W11.drew hbd).1 (HSA.out W11.drew hbd).2.1 (HSA.out W11.drew hbd).2.2 (HSB.out W11.drew hbd).1 (HSB.out W11.drew hbd).2.1 (HSB.out W11.drew hbd).2.2 (tabL_cnt HK6.out.tab.ok HH.out.at_) (tabL_cnt HK6.out.tab.ok U2.out) (HTK.out W11.drew (HBZ11.out.trans (hbd.mono HBZ11.out.size)))
                  rw [(compB_iff HQ.out).2 U.out.1] at C11
                  have C11 := Lib.hid C11
                  have HBD := Lib.hid hbd
                  clear hbd
                  go_cut [172] from 123 to 172 (fun s172 wx => s172 = .bool false ∧ Below W11.heap.size W11 wx)
                  case first =>
                    go_region_held_law (fun w' => w'.cell? ⟨b13, 1, none⟩ = some (.slice (some ⟨sb, so, none⟩) 1 z1) ∧ w'.cell? ⟨b13, 2, none⟩ = some (.int .i64 y.k) ∧ w'.cell? ⟨b13, 3, none⟩ = some (.slice y2 y.ps.length z2) ∧ w'.cell? ⟨b13, 4, none⟩ = some (.slice y3 y.rs.length z3) ∧ w'.cell? ⟨b13, 5, none⟩ = some (.slice y4 y.fs.length z4) ∧ w'.cell? ⟨b15, 2, none⟩ = some (.int .i64 up.k) ∧ w'.cell? ⟨b15, 3, none⟩ = some (.slice x2 up.ps.length c22) ∧ w'.cell? ⟨b15, 4, none⟩ = some (.slice x3 up.rs.length c23) ∧ w'.cell? ⟨b15, 5, none⟩ = some (.slice x4 up.fs.length c24) ∧ w'.cell? ⟨ib, io + nn, none⟩ = some (.int .i64 m1) ∧ w'.cell? ⟨sb, so, none⟩ = some (.int .i64 15) ∧ w'.cell? ⟨sb, so + 1, none⟩ = some (.int .i64 q)) (first | exact KZ0.out | exact KZ1.out | exact KZ2.out | exact KZ3.out)
                      (first
                        | (go_at_call 13
                           refine C11.out.mono ?_
                           rintro e w12 ⟨rfl, hb12⟩
                           have hbk := HBD.out.trans hb12
                           have KZ1 := Lib.hid (KZ.out w12 hbk)
                           have C12 := Lib.hid (heap_k (r := true) (⟨fun _ => U.out.2.1, fun _ => rfl⟩) (HTK.out w12 (HBZ11.out.trans (hbk.mono HBZ11.out.size))))
                           have HBK1 := Lib.hid hbk
                           clear hb12 hbk
                           dsimp only)
                        | (go_at_call 14
                           refine C12.out.mono ?_
                           rintro e w13 ⟨rfl, hb13⟩
                           have hbk := HBK1.out.trans (hb13.mono HBK1.out.size)
                           have KZ2 := Lib.hid (KZ.out w13 hbk)
                           have C13 := chBelow_any (HLI.out w13 (HBZ11.out.trans (hbk.mono HBZ11.out.size))) m1 q
                           rw [U.out.2.2.1] at C13
                           have C13 := Lib.hid C13
                           have HBK2 := Lib.hid hbk
                           clear hb13 hbk
                           dsimp only)
                        | (go_at_call 15
                           refine C13.out.mono ?_
                           rintro e w14 ⟨rfl, hb14⟩
                           have hbk := HBK2.out.trans (hb14.mono HBK2.out.size)
                           have KZ3 := Lib.hid (KZ.out w14 hbk)
                           have HBK3 := Lib.hid hbk
                           clear hb14 hbk
                           dsimp only))
                    all_goals
                      go_wp2
                      go_meet
                      exact ⟨congrArg Value.bool (decide_eq_false (by have := U.out.2.2.2; omega)), HBK3.out⟩
                  case rest =>
                    obtain ⟨rfl, hbx⟩ := hcut
                    have HBX := Lib.hid hbx
                    clear hbx
                    go_wp2
                    go_roundw
                    case rel => exact ⟨k + 1, nn + 1, by go_num, by go_num, HLT2.out, by have := HNN.out; omega, HBZ11.out.trans (HBX.out.mono HBZ11.out.size)⟩
                    case measure => have := HLT2.out; simp [intOf]; omega
              · obtain rfl : k = gl := by omega
                have hlt' : ¬ (k : Int) < k := by omega
                have HNN := Lib.hid hnn; have HBZ := Lib.hid hbz
                clear hlt hk hgg hbw hnn hbz
                go_wp2
                go_roundw
                case rel => exact ⟨i + 1, by rw [sum_take_step HG.out, HSM.out, HGL.out, ← HNN.out], by go_num, HLT.out, HBZ.out⟩
                case measure => have := HLT.out; simp [intOf]; omega
          · obtain rfl : i = nl := by omega
            have hlt' : ¬ (i : Int) < i := by omega
            have hs7 : ∀ b, SL b → ¬ S6 b ∧ ¬ R6 b ∧ w3.heap.size ≤ b := fun b hb => ⟨(HOFF.out b hb).1, (HOFF.out b hb).2, by have := HLB.out b hb; have := HB4.out.size; omega⟩
            have hT9 := (HK6.out.tab.upd HGR.out.up hs7).below hbr
            have hbw : Below w.heap.size w wr := HBE7.out.trans (hbr.mono HBE7.out.size)
            have hua : Upd (fun b => S6 b ∨ b < w5.heap.size) w6 wr := (HGR.out.up.mono fun b _ q => .inr (HL0.out.lt b q)).trans' (Upd.of_below hbr)
            have HT9 := Lib.hid hT9; have HBW := Lib.hid hbw; have HUA := Lib.hid hua; have HBR := Lib.hid hbr
            clear hlt hi hsm hs7 hT9 hbw hua
            have C8 := Lib.hid (len_any (HTK.out wr hbr).tab)
            clear hbr
            go_wp2_with fail
            refine C8.out.mono ?_
            rintro e w8 ⟨rfl, hw8⟩
            have hw8' := hw8.symm
            subst hw8'
            clear hw8
            have hga : ∀ v x, GrpsAt w v x → ∀ w', Below w.heap.size w w' → GrpsK S6 w' v x := fun v x h w' hb => GrpsK.of h hb (fun b q => Nat.le_trans HBE3.out.size (HK6.out.tab.base b q))
            have hta : Tab w3 := HTAB.out.on HBE3.out
            have hra : ∀ g ∈ l, RawG g := HOK1.out.raw F1.out
            have hrm : ∀ g ∈ m, RawG g := HOK2.out.raw F2.out
            have hls : (l.map List.length).sum ≤ 150 := by have := (sizeD_len l).2; have := HOK1.out.size; omega
            have hms : (m.map List.length).sum ≤ 150 := by have := (sizeD_len m).2; have := HOK2.out.size; omega
            have hll : l.length ≤ 150 := by have := HNL.out; have := HL6.out; omega
            have hml : m.length ≤ 150 := by have := HNM.out; have := HM6.out; omega
            have C9 := check_any _ l HT9.out HK6.out.c (hga _ l H1.out _ HBW.out) hra (by omega) (by omega) hta
            have hag := again_law (l := l) (gs := []) (tail := []) (by rw [HA.out]) tabC_nil (by rw [HA.out, List.append_nil]; exact HT9.out.ok)
            rw [HA.out, List.append_nil] at hag
            dsimp only at hag C9
            obtain ⟨A9, hA9⟩ : ∃ A9, checkD ⟨[], [], [], dcA.gs⟩ l = A9 := ⟨_, rfl⟩
            rw [hA9] at hag C9
            rw [HNL.out] at C9
            obtain ⟨e9, p9, dc9⟩ := A9
            obtain ⟨g1, g2, g3⟩ := hag
            dsimp only at g1 g2 g3
            subst g1
            have C9 := Lib.hid C9; have G2 := Lib.hid g2; have G3 := Lib.hid g3
            have HGA := Lib.hid hga; have HTA := Lib.hid hta; have HRA := Lib.hid hra; have HRM := Lib.hid hrm; have HLS := Lib.hid hls; have HMS := Lib.hid hms; have HLL := Lib.hid hll; have HML := Lib.hid hml
            clear hga hta hra hrm hls hms hll hml hA9 g2 g3
            go_wp2_with fail
            refine C9.out.mono ?_
            intro e w9 hcp
            obtain ⟨ab, bn, cb, ib, S9, R9, rfl, hk9⟩ := hcp.slice
            have hk9c : total dcA.gs = total dc9.gs := by rw [G3.out]
            have hbn : bn = un := by rw [hk9.nl, hk9.eq rfl]; dsimp only; rw [G2.out, HIDL.out]
            subst hbn
            have hib : ib = dcA.ids := by rw [hk9.eq rfl]; exact G2.out
            subst hib
            have hbw9 : Below w.heap.size w w9 := HBW.out.trans (hk9.up.below (fun b hb => Nat.le_trans HBE3.out.size (HK6.out.tab.base b hb)) HBW.out.size)
            have hua9 : Upd (fun b => S6 b ∨ b < w5.heap.size) w6 w9 := HUA.out.trans' (hk9.up.mono fun b _ q => .inl q)
            have hT9 := hk9.tab
            dsimp only at hT9
            have hc9 := hk9.c
            dsimp only at hc9
            rw [G3.out] at hT9 hc9
            have C10 := Lib.hid (len_any hT9.tab)
            have HK9 := Lib.hid hk9; have HBW9 := Lib.hid hbw9; have HUA9 := Lib.hid hua9; have HT9' := Lib.hid hT9; have HC9 := Lib.hid hc9
            clear hcp hk9 hbw9 hua9 hT9 hc9 C9 hk9c
            go_wp2_with fail
            refine C10.out.mono ?_
            rintro e w10 ⟨rfl, hw10⟩
            have hw10' := hw10.symm
            subst hw10'
            clear hw10 C10
            have HIA := Lib.hid (show ∀ x, Below w9.heap.size w9 x → IntsAt x (.slice au dcA.ids.length cu) dcA.ids from fun x hb => by
              have h := HK6.out.ids x (HUA9.out.trans' (Upd.of_below hb))
              rw [HIL.out, ← HIDL.out] at h
              exact h)
            have HIB := Lib.hid (show ∀ x, Below w9.heap.size w9 x → IntsAt x (.slice ab dcA.ids.length cb) dcA.ids from fun x hb => by
              have h := HK9.out.ids x (Upd.of_below hb)
              rw [← HIDL.out] at h
              exact h)
            go_wp2_with fail
            go_loopw [20] (fun t20 wz => ∃ q : Nat, t20 = .int .i64 q ∧ q ≤ bn ∧ Below w9.heap.size w9 wz) (fun t20 _ => bn - (intOf t20).toNat)
            case atStart => exact ⟨0, rfl, Nat.zero_le _, Below.refl _ _⟩
            case round =>
              obtain ⟨q, rfl, hq, hbq⟩ := hrel
              have hq6 : (q : Int) ≤ 150 := by omega
              by_cases hlt : q < bn
              · obtain ⟨x, hx⟩ : ∃ x, dcA.ids[q]? = some x := ⟨dcA.ids[q]'(by rw [HIDL.out]; exact hlt), by simp⟩
                obtain ⟨b1, o1, e1, _, p0⟩ := IntsAt.at (HIB.out wr hbq) hx
                obtain ⟨b2, o2, e2, _, q0⟩ := IntsAt.at (HIA.out wr hbq) hx
                subst e1 e2
                have hlt' : (q : Int) < bn := by omega
                have HLT := Lib.hid hlt; have HBQ := Lib.hid hbq
                clear hx hlt hq hbq
                go_wp2
                go_quiet (fail)
                go_wp2
                go_roundw
                case rel => exact ⟨q + 1, by go_num, HLT.out, below_dn HBQ.out _⟩
                case measure => have := HLT.out; simp [intOf]; omega
              · obtain rfl : bn = q := by omega
                have hlt' : ¬ (bn : Int) < bn := by omega
                have HBQ := Lib.hid hbq
                clear hlt hq hbq
                have hT10 := HT9'.out.below HBQ.out
                have hbw10 : Below w.heap.size w wr := HBW9.out.trans (HBQ.out.mono HBW9.out.size)
                have hgk : ∀ {S' R' : Nat → Prop} {w' : World} {t' : Nat} {gs' : List (List Sb)}, TabN w3 S' R' w' t' gs' → Below w.heap.size w w' → ∀ v x, GrpsAt w v x → GrpsK S' w' v x := fun hT hb v x h => GrpsK.of h hb (fun b q => Nat.le_trans HBE3.out.size (hT.base b q))
                have C11 := check_any _ m hT10 HC9.out (hgk hT10 hbw10 _ m H2.out) HRM.out (by have := HMS.out; omega) (by have := HML.out; omega) HTA.out
                obtain ⟨B, hB⟩ : ∃ B, checkD ⟨[], [], [], dcA.gs⟩ m = B := ⟨_, rfl⟩
                obtain ⟨tl, htl⟩ := checkD_ext m ⟨[], [], [], dcA.gs⟩
                have hal := alone_law HT9'.out.ok m HRM.out (by have := HMS.out; unfold sumL; omega) (by
                  have h := checkD_tot l ⟨[], [], [], []⟩
                  rw [HA.out] at h
                  have := HLS.out
                  simp [total] at h
                  unfold sumL at h
                  simp [total]; omega)
                rw [hB] at C11 htl hal
                rw [HNM.out] at C11
                obtain ⟨fb, pb, dcB⟩ := B
                have C11 := Lib.hid C11; have HTL := Lib.hid htl; have HAL := Lib.hid hal; have HT10 := Lib.hid hT10; have HBW10 := Lib.hid hbw10
                clear hT10 hbw10 hB htl hal
                go_wp2_with fail
                refine C11.out.mono ?_
                intro e w11 hcp
                obtain ⟨am, mn, cm, im, S11, R11, rfl, hk11⟩ := hcp.slice
                have hT11 := hk11.tab
                try dsimp only at hT11
                have hbw11 : Below w.heap.size w w11 := HBW10.out.trans (hk11.up.below (fun b hb => Nat.le_trans HBE3.out.size (HT10.out.base b hb)) HBW10.out.size)
                have htl2 : dcB.gs = dcA.gs ++ tl := HTL.out
                have hag := again_law (l := l) (gs := []) (tail := tl) (by rw [HA.out]) tabC_nil (by rw [HA.out]; dsimp only; rw [← htl2]; exact hT11.ok)
                rw [HA.out] at hag
                try dsimp only at hag
                rw [← htl2] at hag
                have C12 := check_any _ l hT11 hk11.c (hgk hT11 hbw11 _ l H1.out) HRA.out (by have := HLS.out; omega) (by have := HLL.out; omega) HTA.out
                try dsimp only at C12
                obtain ⟨A12, hA12⟩ : ∃ A12, checkD ⟨[], [], [], dcB.gs⟩ l = A12 := ⟨_, rfl⟩
                rw [hA12] at hag C12
                rw [HNL.out] at C12
                obtain ⟨e12, p12, dc12⟩ := A12
                obtain ⟨g1, g2, -⟩ := hag
                dsimp only at g1 g2
                subst g1
                have C12 := Lib.hid C12; have G12 := Lib.hid g2; have HT11 := Lib.hid hT11; have HBW11 := Lib.hid hbw11; have HK11 := Lib.hid hk11
                clear hT11 hbw11 hk11 hA12 g2 hcp htl2
                try dsimp only
                go_wp2_with fail
                refine C12.out.mono ?_
                intro e w12 hcp
                obtain ⟨at3, tn, ct, it, S12, R12, rfl, hk12⟩ := hcp.slice
                have hbw12 : Below w.heap.size w w12 := HBW11.out.trans (hk12.up.below (fun b hb => Nat.le_trans HBE3.out.size (HT11.out.base b hb)) HBW11.out.size)
                have hit : it = dcA.ids := by rw [hk12.eq rfl]; exact G12.out
                subst hit
                have htn : bn = tn := by rw [hk12.nl, HIDL.out]
                subst htn
                have HK12 := Lib.hid hk12; have HBW12 := Lib.hid hbw12
                clear hcp hk12 hbw12 C12
                try dsimp only
                go_wp2_with fail
                refine (new_any _).mono ?_
                rintro e w13 ⟨t13, S13, rfl, hta, hba, hbe13⟩
                have hT13 := tabN_new hta hba hbe13
                have hbw13 : Below w.heap.size w w13 := HBW12.out.trans (hbe13.mono HBW12.out.size)
                have C14 := check_any _ m hT13 tabC_nil (GrpsK.of H2.out hbw13 (fun b q => Nat.le_trans HBW12.out.size (hba b q))) HRM.out (by have := HMS.out; omega) (by have := HML.out; omega) (HTAB.out.on HBW12.out)
                obtain ⟨D, hD⟩ : ∃ D, checkD ⟨[], [], [], []⟩ m = D := ⟨_, rfl⟩
                have hal := HAL.out
                rw [hD] at C14 hal
                rw [HNM.out] at C14
                obtain ⟨fd, pd, dcD⟩ := D
                obtain ⟨k1, k2⟩ := hal
                dsimp only at k1 k2
                subst k1
                have C14 := Lib.hid C14; have HBE13 := Lib.hid hbe13; have HBW13 := Lib.hid hbw13; have HBA13 := Lib.hid hba; have K2 := Lib.hid k2
                clear hta hba hbe13 hT13 hbw13 hD k2 hgk
                go_wp2_with fail
                refine C14.out.mono ?_
                intro e w14 hcp
                obtain ⟨ad, dn, cd, idd, S14, R14, rfl, hk14⟩ := hcp.slice
                have hmd : mn = dn := by
                  by_cases h0 : fb = 0
                  · rw [HK11.out.nl, HK11.out.eq h0, hk14.nl, hk14.eq h0]
                    exact K2.out h0
                  · rw [HK11.out.err h0, hk14.err h0]
                subst hmd
                have hb14 : Below w12.heap.size w12 w14 := HBE13.out.trans (hk14.up.below (fun b hb => HBA13.out b hb) HBE13.out.size)
                have hbw14 : Below w.heap.size w w14 := HBW12.out.trans (hb14.mono HBW12.out.size)
                have f9 : Fresh (fun b => S6 b ∨ b < w5.heap.size) w6 S9 := fun b q => (HK9.out.fs b q).elim (fun q => .inl (.inl q)) (fun q => .inr (by have := HUA.out.size; omega))
                have f11 : Fresh (fun b => S6 b ∨ b < w5.heap.size) w6 S11 := fun b q => (HK11.out.fs b q).elim (f9 b) (fun q => .inr (by have := HUA9.out.size; have := HBQ.out.size; omega))
                have hua14 : Upd (fun b => S6 b ∨ b < w5.heap.size) w6 w14 := (((HUA9.out.trans' (Upd.of_below HBQ.out)).trans f9 HK11.out.up).trans f11 HK12.out.up).trans' (Upd.of_below hb14)
                have HIA2 := Lib.hid (show ∀ x, Below w14.heap.size w14 x → IntsAt x (.slice au dcA.ids.length cu) dcA.ids from fun x hb => by
                  have h := HK6.out.ids x (hua14.trans' (Upd.of_below hb))
                  rw [HIL.out, ← HIDL.out] at h
                  exact h)
                have HIT := Lib.hid (show ∀ x, Below w14.heap.size w14 x → IntsAt x (.slice at3 dcA.ids.length ct) dcA.ids from fun x hb => by
                  have h := HK12.out.ids x ((Upd.of_below hb14).trans' (Upd.of_below hb))
                  rw [← HIDL.out] at h
                  exact h)
                have HBW14 := Lib.hid hbw14
                clear hcp hk14 hb14 hbw14 f9 f11 hua14 C14 C11
                try dsimp only
                go_wp2_with fail
                go_loopw [29] (fun t29 wz => ∃ q : Nat, t29 = .int .i64 q ∧ q ≤ bn ∧ Below w14.heap.size w14 wz) (fun t29 _ => bn - (intOf t29).toNat)
                case atStart => exact ⟨0, rfl, Nat.zero_le _, Below.refl _ _⟩
                case round =>
                  obtain ⟨q, rfl, hq, hbq⟩ := hrel
                  have hq6 : (q : Int) ≤ 150 := by omega
                  by_cases hlt : q < bn
                  · obtain ⟨x, hx⟩ : ∃ x, dcA.ids[q]? = some x := ⟨dcA.ids[q]'(by rw [HIDL.out]; exact hlt), by simp⟩
                    obtain ⟨b1, o1, e1, _, p0⟩ := IntsAt.at (HIT.out wr hbq) hx
                    obtain ⟨b2, o2, e2, _, q0⟩ := IntsAt.at (HIA2.out wr hbq) hx
                    subst e1 e2
                    have hlt' : (q : Int) < bn := by omega
                    have HLT := Lib.hid hlt; have HBQ := Lib.hid hbq
                    clear hx hlt hq hbq
                    go_wp2
                    go_quiet (fail)
                    go_wp2
                    go_roundw
                    case rel => exact ⟨q + 1, by go_num, HLT.out, below_dn HBQ.out _⟩
                    case measure => have := HLT.out; simp [intOf]; omega
                  · obtain rfl : bn = q := by omega
                    have hlt' : ¬ (bn : Int) < bn := by omega
                    have HBQ := Lib.hid hbq
                    clear hlt hq hbq
                    go_wp2
                    go_ret
                    exact ⟨rfl, HBW14.out.trans (HBQ.out.mono HBW14.out.size)⟩
      · have he1 : (ea == 0) = false := by simpa using he
        have he2 : (ea != 0) = true := by simpa using he
        have hun : un = 0 := HK6.out.err he
        subst hun
        go_wp2
        go_ret
        exact ⟨rfl, HBE6.out⟩
    · go_wp2
      go_ret
      exact ⟨rfl, HBE3.out⟩
  · go_wp2
    go_ret
    exact ⟨rfl, HBE2.out⟩
end Go.Proofs.YtkgmfbfpmlnfcaaGreatDoor
