/- geodelaw11: ChainLine's law. -/
import Derived.Test.YtcihideabmpmjaaDoorQChKnown
import Derived.Test.YtcihideabmpmjaaDoorQMaPlainP
import Derived.Test.YtcihideabmpmjaaDoorQMid
import Derived.Deep.Cut
import Derived.Deep.RegionHeldLaw
namespace Go.Proofs.YtcihideabmpmjaaDoor
open Go.RowKit

theorem addG_len1 {gs : List (List Sb)} {ids : List Int} {x : Sb} (h : (addG gs ids [x]).2.1 = 0) : (addG gs ids [x]).1.length = ids.length + 1 := by
  unfold addG at h ⊢
  repeat' split at h
  all_goals simp at h
  all_goals simp_all
/-- A table under way, its numbers, lines of none. -/
structure BlI (w1 : World) (SL : Nat → Prop) (t c : Nat) (i : Nat) (wr : World) (u : Value) (ids : List Int) (gs : List (List Sb)) (S R : Nat → Prop) : Prop where
  tab : TabN w1 S R wr t gs
  tc : TabC gs
  ints : ∀ w', Upd S wr w' → IntsAt w' u ids
  len : ids.length = i
  li : LinesAt SL wr c []
  off : ∀ k, SL k → ¬ S k ∧ ¬ R k
set_option maxRecDepth 100000 in
set_option maxHeartbeats 16000000 in
theorem chainLine_any (v : Value) (l : List NdV) (w : World) (hG : NodesAt w v l) (hB : ∀ a ∈ l, ∀ k ∈ a.sups, B64 k) (htab : Tab w) : Calls Tryd.prog 3 #[v] w fun e w' => e = .returned (.bool true) ∧ Below w.heap.size w w' := by
  obtain ⟨ao, cap, rfl⟩ := hG.form
  have HG := Lib.hid hG; have HBB := Lib.hid hB; have HTAB := Lib.hid htab
  obtain ⟨n, hn⟩ : ∃ n, l.length = n := ⟨_, rfl⟩
  have HN := Lib.hid hn
  rw [hn]
  clear hG hB htab hn
  go_enter Tryd.func3, Tryd.ntmps3
  go_wp2_with fail
  refine (known11_any w HTAB.out).mono ?_
  rintro e w1 ⟨rfl, hb1⟩
  have HB1 := Lib.hid hb1
  clear hb1
  by_cases hn60 : (60 : Int) < n
  · go_wp2
    go_ret
    exact ⟨rfl, HB1.out⟩
  go_wp2_with fail
  refine (new_any _).mono ?_
  rintro e w2 ⟨t, S0, rfl, hta, hba, hbe2⟩
  have HT0 := Lib.hid (⟨hta, ⟨by simp, by simp, by simp, by simp [total]⟩, hba, hbe2⟩ : TabN w1 S0 (fun _ => False) w2 t [])
  clear hta hba hbe2
  go_wp2_with fail
  refine (chNew_any _).mono ?_
  rintro e w3 ⟨c, SL, rfl, hL0, hLb, hb3⟩
  have bl0 : BlI w1 SL t c 0 w3 (.slice none 0 0) [] [] S0 (fun _ => False) := ⟨HT0.out.below hb3, tabC_nil, fun w' _ => RowAt.nil w' 1, rfl, hL0, fun k hk => ⟨fun h => by have := (HT0.out.tab.lt k h).1; have := hLb k hk; omega, fun h => h⟩⟩
  have hlb : ∀ k, SL k → w1.heap.size ≤ k := fun k hk => Nat.le_trans HT0.out.be.size (hLb k hk)
  have BL0 := Lib.hid bl0; have HLB := Lib.hid hlb; have HN60 := Lib.hid hn60
  clear bl0 hL0 hLb hb3 hlb
  go_wp2
  go_loopw [5, 6] (fun t5 t6 wz => ∃ (i : Nat) (ids : List Int) (gs : List (List Sb)) (S R : Nat → Prop), t6 = .int .i64 i ∧ i ≤ n ∧ BlI w1 SL t c i wz t5 ids gs S R) (fun _ t6 _ => n - (intOf t6).toNat)
  case atStart => exact ⟨0, [], [], S0, _, rfl, Nat.zero_le _, BL0.out⟩
  case round =>
    clear BL0
    obtain ⟨i, ids, gs, S, R, rfl, hi, hI⟩ := hrel
    have HI := Lib.hid hI
    have hgr := HG.out.below (HB1.out.trans (hI.tab.be.mono HB1.out.size)) (Nat.le_refl _)
    clear hI
    by_cases hlt : i < n
    · obtain ⟨x, hx⟩ : ∃ x, l[i]? = some x := ⟨l[i]'(by rw [HN.out]; exact hlt), by simp⟩
      obtain ⟨lb, loff, xa, xc, hao, hxv, hxi, p0, p1, p2⟩ := hgr.at hx
      have LBW := Lib.hid (show lb < w.heap.size by
        obtain ⟨b', off', a', c', e, _, _, h, _⟩ := HG.out.at hx
        rw [hao] at e
        simp only [Option.some.injEq, Addr.mk.injEq] at e
        rw [e.1]; exact World.block_lt_of_cell? _ _ h)
      have hxw : IntsAt w (.slice xa x.sups.length xc) x.sups := by have h := HG.out.ints x (List.mem_of_getElem? hx); rw [hxv] at h; exact h
      subst hao
      have hlt' : (i : Int) < n := by omega
      have hi6 : (i : Int) < 1000000 := by omega
      have HX := Lib.hid hx; have HLT := Lib.hid hlt; have HXI := Lib.hid hxi; have HXW := Lib.hid hxw
      clear hx hlt hi hgr hxv hxi hxw
      by_cases h0 : x.n < 0
      · go_wp2
        go_ret
        exact ⟨rfl, HB1.out.trans (HI.out.tab.be.mono HB1.out.size)⟩
      by_cases h1 : 10 < x.n
      · go_wp2
        go_ret
        exact ⟨rfl, HB1.out.trans (HI.out.tab.be.mono HB1.out.size)⟩
      by_cases h2 : 1 < (x.sups.length : Int)
      · go_wp2
        go_ret
        exact ⟨rfl, HB1.out.trans (HI.out.tab.be.mono HB1.out.size)⟩
      obtain ⟨m, hm⟩ : ∃ m : Nat, x.n = m := ⟨x.n.toNat, by omega⟩
      have hm10 : m ≤ 10 := by omega
      have hs1 : x.sups.length ≤ 1 := by omega
      rw [hm] at p0 h0 h1
      obtain ⟨q, hq⟩ : ∃ q, x.sups.length = q := ⟨_, rfl⟩
      rw [hq] at p1 h2
      have HM := Lib.hid hm10; have HS1 := Lib.hid hs1; have HQ := Lib.hid hq
      have hnS : ¬ S lb := fun h => by have := HI.out.tab.base lb h; have := LBW.out; have := HB1.out.size; omega
      have d0 := ExtU.cells (R := S) p0 hnS
      have d1 := ExtU.cells (R := S) p1 hnS
      have D0 := Lib.hid d0; have D1 := Lib.hid d1
      clear hm10 hs1 hq hm hnS d0 d1
      go_upto_region 12 with fail
      clear p0 p1 p2
      have d0 := D0.out; have d1 := D1.out
      have hbr : Below wr.heap.size wr wr.drew := (Below.refl _ _).drew
      have C1 := Lib.hid (sub_any m (.slice xa q xc) x.sups wr.drew (by have h := RowAt.below HXW.out (HB1.out.trans ((HI.out.tab.be.trans (hbr.mono HI.out.tab.be.size)).mono HB1.out.size)) (Nat.le_refl _); rw [HQ.out] at h; show RowAt _ 1 _ x.sups.length _; rw [HQ.out]; exact h) HM.out (by have := HS1.out; omega))
      have KZ0 := Lib.hid (show wr.drew.cell? ⟨lb, loff + i * 3, none⟩ = some (.int .i64 m) ∧ wr.drew.cell? ⟨lb, loff + i * 3 + 1, none⟩ = some (.slice xa q xc) from ⟨d0 ⟨_, (Upd.refl _ _).drew⟩, d1 ⟨_, (Upd.refl _ _).drew⟩⟩)
      clear hbr
      go_region_held_law (fun w' => w'.cell? ⟨lb, loff + i * 3, none⟩ = some (.int .i64 m) ∧ w'.cell? ⟨lb, loff + i * 3 + 1, none⟩ = some (.slice xa q xc)) (first | exact KZ0.out | exact KZ1.out | exact KZ2.out | exact KZ3.out)
        (first
          | (go_at_call 10
             refine C1.out.mono ?_
             rintro e w5 ⟨cs, rfl, h6, hs, hb5⟩
             obtain ⟨vs, vp, vr, vf, rfl, -⟩ := hs.ex
             have hb5' : Below wr.heap.size wr w5 := (Below.refl _ _).drew.trans hb5
             have hA : ∃ A, addG gs ids [subS m x.sups] = A := ⟨_, rfl⟩
             obtain ⟨A, hA⟩ := hA
             have hraw : RawG [subS m x.sups] := subS_raw HM.out (by have := HS1.out; omega) (HBB.out x (List.mem_of_getElem? HX.out))
             have C2 := Lib.hid (add_sub hA (HI.out.tab.below hb5') (fun w' hu => HI.out.ints w' ((Upd.of_below hb5' : Upd S _ _).trans' hu)) (by rw [HI.out.len]; have := HLT.out; omega) hs h6 hraw (HTAB.out.on HB1.out))
             have hu5 : Upd S wr w5 := Upd.of_below hb5'
             have HB5 := Lib.hid hb5'; have HA := Lib.hid hA; have HU5 := Lib.hid hu5
             have KZ1 := Lib.hid (show w5.cell? ⟨lb, loff + i * 3, none⟩ = some (.int .i64 m) ∧ w5.cell? ⟨lb, loff + i * 3 + 1, none⟩ = some (.slice xa q xc) from ⟨d0 ⟨_, hu5⟩, d1 ⟨_, hu5⟩⟩)
             have KZ2 := Lib.hid (show (w5.alloc (.cells #[.bool (subS m x.sups).fin, vs, .int .i64 (subS m x.sups).k, vp, vr, vf] 41)).cell? ⟨lb, loff + i * 3, none⟩ = some (.int .i64 m) ∧ (w5.alloc (.cells #[.bool (subS m x.sups).fin, vs, .int .i64 (subS m x.sups).k, vp, vr, vf] 41)).cell? ⟨lb, loff + i * 3 + 1, none⟩ = some (.slice xa q xc) from ⟨d0 ⟨_, hu5.alloc _⟩, d1 ⟨_, hu5.alloc _⟩⟩)
             clear hs h6 hb5 hb5' hA hraw C1 hu5
             dsimp only)
          | (go_at_call 9
             refine C2.out.mono ?_
             rintro e w6 ⟨u1, S1, R1, rfl, ht1, hi1, hup1, hfs1, hfr1⟩
             have hu6 : Upd S wr w6 := (HU5.out.alloc _).trans' hup1
             have hsz : wr.heap.size ≤ (w5.alloc (.cells #[.bool (subS m x.sups).fin, vs, .int .i64 (subS m x.sups).k, vp, vr, vf] 41)).heap.size := (HU5.out.alloc _).size
             have HT1 := Lib.hid ht1; have HI1 := Lib.hid hi1; have HU6 := Lib.hid hu6
             have hoff1 : ∀ k, SL k → ¬ S1 k ∧ ¬ R1 k := fun k hk => ⟨fun h => (hfs1 k h).elim (HI.out.off k hk).1 (fun h => by have := HI.out.li.lt k hk; omega), fun h => (hfr1 k h).elim (HI.out.off k hk).2 (fun h => by have := HI.out.li.lt k hk; omega)⟩
             have hli1 : LinesAt SL w6 c [] := HI.out.li.keep (hu6.mono fun k _ hk => fun h => (HI.out.off k h).1 hk)
             have HOF := Lib.hid hoff1; have HLI := Lib.hid hli1
             have htc1 : TabC A.2.2 := by rw [← HA.out]; exact tabC_add HI.out.tc
             have HTC := Lib.hid htc1
             have KZ3 := Lib.hid (show w6.cell? ⟨lb, loff + i * 3, none⟩ = some (.int .i64 m) ∧ w6.cell? ⟨lb, loff + i * 3 + 1, none⟩ = some (.slice xa q xc) from ⟨d0 ⟨_, hu6⟩, d1 ⟨_, hu6⟩⟩)
             clear ht1 hi1 hup1 hfs1 hfr1 hoff1 hli1 hsz hu6 htc1 C2
             dsimp only))
      all_goals
        obtain ⟨er, her⟩ : ∃ er, A.2.1 = er := ⟨_, rfl⟩
        try rw [her]
        have HER := Lib.hid her
        clear her
        by_cases he0 : er = 0
        · subst he0
          go_wp2
          go_roundw
          case rel => exact ⟨i + 1, A.1, A.2.2, S1, R1, by go_num, HLT.out, HT1.out, HTC.out, HI1.out, by rw [← HA.out, addG_len1 (by rw [HA.out]; exact HER.out), HI.out.len], HLI.out, HOF.out⟩
          case measure => have := HLT.out; simp [intOf]; omega
        · have heb : (er == 0) = false := by simpa using he0
          have heb2 : (er != 0) = true := by simpa using he0
          have HE0 := Lib.hid he0
          clear he0
          go_wp2
          go_ret
          exact ⟨rfl, HB1.out.trans (HT1.out.be.mono HB1.out.size)⟩
    · obtain rfl : i = n := by omega
      have hlt' : ¬ (i : Int) < i := by omega
      clear hlt hi hgr
      have C5 := Lib.hid (grow_any wr HI.out.li (⟨HI.out.tab.tab, HI.out.tab.ok, HI.out.tc⟩ : TabK S R wr t gs) HI.out.off)
      go_wp2_with fail
      refine C5.out.mono ?_
      rintro e w7 ⟨S7, rfl, hI7⟩
      obtain ⟨er, her⟩ : ∃ er, (growAll (tabL gs) []).1 = er := ⟨_, rfl⟩
      obtain ⟨L, hL⟩ : ∃ L, (growAll (tabL gs) []).2 = L := ⟨_, rfl⟩
      have hlok : LineOk (tabL gs) L := by rw [← hL]; exact growL_ok LineOk.nil _
      rw [hL] at hI7
      rw [her]
      have hb7 : Below w1.heap.size w1 w7 := HI.out.tab.be.trans (hI7.up.below HLB.out HI.out.tab.be.size)
      have HOK := Lib.hid hlok; have HLI7 := Lib.hid hI7.li; have HTK7 := Lib.hid hI7.tab; have HB7 := Lib.hid hb7
      clear hI7 hlok hb7 her hL C5
      go_wp2
      have hL10 : L.length ≤ 10000 := HLI7.out.ok.2.1
      go_loopw [9] (fun t9 wz => ∃ id : Nat, t9 = .int .i64 id ∧ id ≤ L.length ∧ Below w7.heap.size w7 wz) (fun t9 _ => L.length - (intOf t9).toNat)
      case atStart => exact ⟨0, rfl, Nat.zero_le _, Below.refl _ _⟩
      case round =>
        obtain ⟨id, rfl, hid, hbe⟩ := hrel
        have hli := HLI7.out.below hbe
        have htk := HTK7.out.below hbe
        have CL := Lib.hid (chLen_any hli)
        have HBE := Lib.hid hbe; have HLIR := Lib.hid hli; have HTKR := Lib.hid htk
        obtain ⟨nl, hnl⟩ : ∃ nl, L.length = nl := ⟨_, rfl⟩
        have HNL := Lib.hid hnl
        rw [hnl] at CL hL10 hid ⊢
        clear hbe hli htk hnl
        by_cases hlt : id < nl
        · obtain ⟨p, hp⟩ : ∃ p, L[id]? = some p := ⟨L[id]'(by rw [HNL.out]; exact hlt), by simp⟩
          obtain ⟨y, hy, hor⟩ := HOK.out.ex id p hp
          obtain ⟨q1, q2, q3, q4⟩ := HOK.out.last hp
          have CG := Lib.hid (get_k HTKR.out hy)
          have hlt' : (id : Int) < nl := by omega
          have hi6 : (id : Int) < 10000 := by omega
          have HP := Lib.hid hp; have HOR := Lib.hid hor; have HLT := Lib.hid hlt; have Q2 := Lib.hid q2; have Q3 := Lib.hid q3; have Q4 := Lib.hid q4
          clear hp hy hor hlt hid q1 q2 q3 q4 hL10
          go_wp2_with fail
          refine CL.out.mono ?_
          rintro e w8 ⟨rfl, rfl⟩
          go_wp2_with fail
          refine CG.out.mono ?_
          rintro e w9 ⟨ds, rfl, hsub, hb9⟩
          obtain ⟨a1, l1, a2, l2, a3, l3, a4, l4, rfl⟩ := (hsub w9 (Upd.refl _ _)).out
          have CN := Lib.hid (chLine_any (HLIR.out.below (hb9.alloc hb9.size (.cells #[.bool y.fin, .slice a1 y.sups.length l1, .int .i64 y.k, .slice a2 y.ps.length l2, .slice a3 y.rs.length l3, .slice a4 y.fs.length l4] 41))) HP.out)
          have hsup : ∀ w'', Below w9.heap.size w9 w'' → HpsAt w'' (.slice a1 y.sups.length l1) y.sups := fun w'' hb => (hsub w'' (Upd.of_below hb)).sups
          have HSUP := Lib.hid hsup; have HB9 := Lib.hid hb9
          clear hsub hsup hb9
          go_wp2_with fail
          refine CN.out.mono ?_
          rintro e w10 ⟨u, rfl, ou, hb10⟩
          obtain ⟨d, hd⟩ : ∃ d, p.length = d + 1 := ⟨p.length - 1, by have := List.length_pos_iff.2 Q2.out; omega⟩
          rw [hd] at ou
          obtain ⟨g, cu, cur, hu, -, hdc, -, -⟩ := ownsRow_some ou (by omega)
          subst hu
          have cz : w10.cell? ⟨g, d, none⟩ = some (.int .i64 id) := by
            rw [ou.cellAt d (by omega), List.getElem?_map]
            have h := Q4.out
            rw [hd, Nat.add_sub_cancel] at h
            rw [h]; rfl
          have hpre : IntsAt w10 (.slice (some ⟨g, 0, none⟩) d cu) ((p.take d).map fun k : Nat => (k : Int)) := by
            have hl : ((p.take d).map fun k : Nat => (k : Int)).length = d := by simp; omega
            refine ⟨by simp, .inr ⟨⟨g, 0, none⟩, cu, by rw [hl], by rw [hl]; omega, fun j u hj => ?_⟩⟩
            have hjd : j < d := by have h := (List.getElem?_eq_some_iff.1 hj).1; rw [List.length_map, hl] at h; exact h
            rw [Addr.add_lit, Nat.zero_add, ou.cellAt j (by omega), ← hj, List.map_map, List.getElem?_map, List.getElem?_map, List.getElem?_take_of_lt hjd]
            rfl
          have bx := (hb10.block _ (heap_lt (World.alloc_heap_new w9 (.cells #[.bool y.fin, .slice a1 y.sups.length l1, .int .i64 y.k, .slice a2 y.ps.length l2, .slice a3 y.rs.length l3, .slice a4 y.fs.length l4] 41)))).trans (World.alloc_heap_new w9 _)
          have bx1 := heap_cell bx 1
          simp only [List.getElem?_toArray, List.getElem?_cons_succ, List.getElem?_cons_zero] at bx1
          have hb10w : Below w9.heap.size w9 w10 := ((Below.refl _ _).alloc (Nat.le_refl _) _).trans (hb10.mono (by simp))
          have hbr10 : Below w8.heap.size w8 w10 := HB9.out.trans (hb10w.mono HB9.out.size)
          have CD := chDepth_any (HLIR.out.below hbr10) id
          rw [show depthL L (id : Int) = d by unfold depthL; rw [if_pos (by have := HLT.out; have := HNL.out; omega), Int.toNat_natCast, getD_some HP.out, hd]; omega] at CD
          have HCD := Lib.hid CD
          have hne0 : ((d : Int) + 1 == 0) = false := by simp; omega
          have hne1 : ¬ ((d : Int) + 1 = 0) := by omega
          have hc1 : (d : Int) ≤ (cu : Int) := by omega
          have hc2 : ¬ cu = 0 := by omega
          have hc3 : (0 : Int) ≤ (d : Int) := by omega
          have hd64 : (d : Int) < 64 := by have := Q3.out; omega
          have HBR10 := Lib.hid hbr10; have HB10W := Lib.hid hb10w; have HPRE := Lib.hid hpre; have HD := Lib.hid hd
          have S10 := Lib.hid (HSUP.out w10 hb10w)
          clear CD ou hbr10 hb10w hpre bx hb10 hd hdc
          go_wp2_with fail
          refine HCD.out.mono ?_
          rintro e w11 ⟨rfl, rfl⟩
          rcases HOR.out with ⟨hs0, hp0⟩ | ⟨m, q, hs1, hm, hq, hq64, hpq⟩
          · have hl0 : y.sups.length = 0 := by rw [hs0]; rfl
            have CI := Lib.hid (ints11_any (.slice (some ⟨g, 0, none⟩) d cu) (.slice none 0 0) ((p.take d).map fun k : Nat => (k : Int)) [] w11 HPRE.out (RowAt.nil w11 1) (by simp; have := Q3.out; omega) (by simp))
            have hdec : decide (((p.take d).map fun k : Nat => (k : Int)) = []) = true := by
              have : d = 0 := by have := HD.out; rw [hp0] at this; simpa using this.symm
              subst this; simp
            rw [hdec] at CI
            rw [hl0] at bx1
            clear hdec hl0 hs0 hp0
            go_wp2_with fail
            refine CI.out.mono ?_
            rintro e w12 ⟨rfl, n12, hw12⟩
            have hb12 : Below w8.heap.size w8 w12 := by rw [hw12]; have h := HBR10.out; exact ⟨h.os, h.tape, h.output, h.size, h.block⟩
            have HB12 := Lib.hid hb12
            clear hw12 hb12 bx1 cz
            go_wp2
            go_loopw [15, 16] (fun t15 t16 wz => ∃ k : Nat, t16 = .int .i64 k ∧ k ≤ nl ∧ t15 = .int .i64 ((((List.range k).filter fun j => belowL L (id : Nat) (j : Nat)).length : Nat) : Int) ∧ Below w8.heap.size w8 wz) (fun _ t16 _ => nl - (intOf t16).toNat)
            case atStart => exact ⟨0, rfl, Nat.zero_le _, rfl, HB12.out⟩
            case round =>
              obtain ⟨k, rfl, hk, rfl, hbe⟩ := hrel
              have hcn := List.length_filter_le (fun j : Nat => belowL L (id : Nat) (j : Nat)) (List.range k)
              rw [List.length_range] at hcn
              have CL2 := chLen_any (HLIR.out.below hbe)
              rw [HNL.out] at CL2
              have HCL2 := Lib.hid CL2
              have CB := Lib.hid (chBelow_any (HLIR.out.below hbe) id k)
              have HBEK := Lib.hid hbe
              obtain ⟨m0, hm0⟩ : ∃ m0, ((List.range k).filter fun j => belowL L (id : Nat) (j : Nat)).length = m0 := ⟨_, rfl⟩
              have HM0 := Lib.hid hm0
              rw [hm0] at hcn ⊢
              by_cases hlk : k < nl
              · have hlk' : (k : Int) < nl := by omega
                have hk6 : (k : Int) < 10000 := by have := HLT.out; have h10 : L.length ≤ 10000 := HLI7.out.ok.2.1; have := HNL.out; omega
                have hm6 : (m0 : Int) < 10000 := by omega
                have HLK := Lib.hid hlk
                obtain ⟨bb, hbb⟩ : ∃ bb, belowL L (id : Int) (k : Int) = bb := ⟨_, rfl⟩
                rw [hbb] at CB
                have HBB2 := Lib.hid hbb
                clear hlk hk hcn hm0 hbe CL2 hbb
                go_wp2_with fail
                refine HCL2.out.mono ?_
                rintro e w14 ⟨rfl, rfl⟩
                go_wp2_with fail
                refine CB.out.mono ?_
                rintro e w15 ⟨rfl, hb15⟩
                have HB15 := Lib.hid (HBEK.out.trans (hb15.mono HBEK.out.size))
                clear hb15
                cases bb
                · go_wp2
                  go_roundw
                  case rel => exact ⟨k + 1, by go_num, HLK.out, by rw [List.range_succ, List.filter_append, List.length_append, HM0.out]; simp [HBB2.out], HB15.out⟩
                  case measure => have := HLK.out; simp [intOf]; omega
                · go_wp2
                  go_roundw
                  case rel => exact ⟨k + 1, by go_num, HLK.out, by rw [List.range_succ, List.filter_append, List.length_append, HM0.out]; simp [HBB2.out], HB15.out⟩
                  case measure => have := HLK.out; simp [intOf]; omega
              · obtain rfl : k = nl := by omega
                have hlk' : ¬ (k : Int) < k := by omega
                have hcnt := HOK.out.count HP.out
                rw [HNL.out, HD.out] at hcnt
                have hm1 : m0 = d + 1 := hm0.symm.trans hcnt
                clear hk hcn hbe CL2 hcnt hm0
                subst hm1
                go_wp2_with fail
                refine HCL2.out.mono ?_
                rintro e w14 ⟨rfl, rfl⟩
                go_wp2
                go_roundw
                case rel => exact ⟨id + 1, by go_num, by have := HLT.out; omega, HBE.out.trans (HBEK.out.mono HBE.out.size)⟩
                case measure => have := HLT.out; simp [intOf]; omega
          · have hS := S10.out
            rw [hs1] at hS
            obtain ⟨sb, soff, hsb, -, s0, s1⟩ := hps_at hS (i := 0) rfl
            dsimp only at s0 s1
            rw [Nat.zero_mul, Nat.add_zero] at s0 s1
            subst hsb
            rw [show y.sups.length = 1 by rw [hs1]; rfl] at bx1
            have hdq : d = q.length := by have := HD.out; rw [hpq] at this; simpa using this.symm
            have CN2 := Lib.hid (chLine_any (HLIR.out.below HBR10.out) hq)
            have hql : q.length ≤ 1000000 := by omega
            have HDQ := Lib.hid hdq; have HPQ := Lib.hid hpq; have HQL := Lib.hid hql
            clear hS hs1 hm hq hq64 hpq hdq hql
            go_wp2_with fail
            refine CN2.out.mono ?_
            rintro e w12 ⟨u2, rfl, ou2, hb12⟩
            have CI := Lib.hid (ints11_any (.slice (some ⟨g, 0, none⟩) d cu) u2 ((p.take d).map fun k : Nat => (k : Int)) (q.map fun k : Nat => (k : Int)) w12 (RowAt.below HPRE.out hb12 (Nat.le_refl _)) (by have h := RowAt.of_own ou2; show RowAt w12 1 u2 (q.map fun k : Nat => (k : Int)).length ((q.map fun k : Nat => (k : Int)).map (Value.int .i64)); rw [List.length_map, List.map_map]; exact h) (by simp; have := Q3.out; omega) (by rw [List.length_map]; exact HQL.out))
            have hdec : decide (((p.take d).map fun k : Nat => (k : Int)) = (q.map fun k : Nat => (k : Int))) = true := by
              rw [HPQ.out, HDQ.out, List.take_left']; simp; rfl
            rw [hdec] at CI
            obtain ⟨au2, cu2, rfl, -⟩ := ownsRow_form ou2
            have HBX12 := Lib.hid (HBR10.out.trans (hb12.mono HBR10.out.size))
            clear hdec ou2 hb12 bx1 cz s0 s1
            go_wp2_with fail
            refine CI.out.mono ?_
            rintro e w13 ⟨rfl, n13, hw13⟩
            have hb13 : Below w8.heap.size w8 w13 := by rw [hw13]; have h := HBX12.out; exact ⟨h.os, h.tape, h.output, h.size, h.block⟩
            have HB12 := Lib.hid hb13
            clear hw13 hb13
            go_wp2
            go_loopw [15, 16] (fun t15 t16 wz => ∃ k : Nat, t16 = .int .i64 k ∧ k ≤ nl ∧ t15 = .int .i64 ((((List.range k).filter fun j => belowL L (id : Nat) (j : Nat)).length : Nat) : Int) ∧ Below w8.heap.size w8 wz) (fun _ t16 _ => nl - (intOf t16).toNat)
            case atStart => exact ⟨0, rfl, Nat.zero_le _, rfl, HB12.out⟩
            case round =>
              obtain ⟨k, rfl, hk, rfl, hbe⟩ := hrel
              have hcn := List.length_filter_le (fun j : Nat => belowL L (id : Nat) (j : Nat)) (List.range k)
              rw [List.length_range] at hcn
              have CL2 := chLen_any (HLIR.out.below hbe)
              rw [HNL.out] at CL2
              have HCL2 := Lib.hid CL2
              have CB := Lib.hid (chBelow_any (HLIR.out.below hbe) id k)
              have HBEK := Lib.hid hbe
              obtain ⟨m0, hm0⟩ : ∃ m0, ((List.range k).filter fun j => belowL L (id : Nat) (j : Nat)).length = m0 := ⟨_, rfl⟩
              have HM0 := Lib.hid hm0
              rw [hm0] at hcn ⊢
              by_cases hlk : k < nl
              · have hlk' : (k : Int) < nl := by omega
                have hk6 : (k : Int) < 10000 := by have := HLT.out; have h10 : L.length ≤ 10000 := HLI7.out.ok.2.1; have := HNL.out; omega
                have hm6 : (m0 : Int) < 10000 := by omega
                have HLK := Lib.hid hlk
                obtain ⟨bb, hbb⟩ : ∃ bb, belowL L (id : Int) (k : Int) = bb := ⟨_, rfl⟩
                rw [hbb] at CB
                have HBB2 := Lib.hid hbb
                clear hlk hk hcn hm0 hbe CL2 hbb
                go_wp2_with fail
                refine HCL2.out.mono ?_
                rintro e w14 ⟨rfl, rfl⟩
                go_wp2_with fail
                refine CB.out.mono ?_
                rintro e w15 ⟨rfl, hb15⟩
                have HB15 := Lib.hid (HBEK.out.trans (hb15.mono HBEK.out.size))
                clear hb15
                cases bb
                · go_wp2
                  go_roundw
                  case rel => exact ⟨k + 1, by go_num, HLK.out, by rw [List.range_succ, List.filter_append, List.length_append, HM0.out]; simp [HBB2.out], HB15.out⟩
                  case measure => have := HLK.out; simp [intOf]; omega
                · go_wp2
                  go_roundw
                  case rel => exact ⟨k + 1, by go_num, HLK.out, by rw [List.range_succ, List.filter_append, List.length_append, HM0.out]; simp [HBB2.out], HB15.out⟩
                  case measure => have := HLK.out; simp [intOf]; omega
              · obtain rfl : k = nl := by omega
                have hlk' : ¬ (k : Int) < k := by omega
                have hcnt := HOK.out.count HP.out
                rw [HNL.out, HD.out] at hcnt
                have hm1 : m0 = d + 1 := hm0.symm.trans hcnt
                clear hk hcn hbe CL2 hcnt hm0
                subst hm1
                go_wp2_with fail
                refine HCL2.out.mono ?_
                rintro e w14 ⟨rfl, rfl⟩
                go_wp2
                go_roundw
                case rel => exact ⟨id + 1, by go_num, by have := HLT.out; omega, HBE.out.trans (HBEK.out.mono HBE.out.size)⟩
                case measure => have := HLT.out; simp [intOf]; omega
        · obtain rfl : id = nl := by omega
          have hlt' : ¬ (id : Int) < id := by omega
          go_wp2_with fail
          refine CL.out.mono ?_
          rintro e w8 ⟨rfl, rfl⟩
          go_wp2
          go_ret
          exact ⟨rfl, HB1.out.trans ((HB7.out.trans (HBE.out.mono HB7.out.size)).mono HB1.out.size)⟩
end Go.Proofs.YtcihideabmpmjaaDoor
