/- geodelaw11: ChainGrows walked. -/
import Derived.Test.YtoamhiaagaaaaaaGreatDoorQChGrP
import Derived.Test.YtoamhiaagaaaaaaGreatDoorQChKnown
import Derived.Test.YtoamhiaagaaaaaaGreatDoorQChNode
import Derived.Deep.Cut
import Derived.Deep.CutRange
import Derived.Deep.RegionHeldLaw
namespace Go.Proofs.YtoamhiaagaaaaaaGreatDoor
open Go.RowKit

theorem tabC_pos {gs : List (List Sb)} (h : TabC gs) : ∀ y ∈ tabL gs, ∀ s ∈ y.sups, 0 ≤ s.n := fun _ hy s hs => (h.typ hy).1 s hs |>.2.1
set_option maxRecDepth 100000 in
set_option maxHeartbeats 32000000 in
theorem chainGrows_any (v : Value) (l : List NdV) (a b : Int) (w : World) (hG : NodesAt w v l) (hB : ∀ a ∈ l, ∀ k ∈ a.sups, B64 k) (htab : Tab w) : Calls Tryz.prog 4 #[v, .int .i64 a, .int .i64 b] w fun e w' => e = .returned (.bool true) ∧ Below w.heap.size w w' := by
  obtain ⟨ao, cap, rfl⟩ := hG.form
  have HG := Lib.hid hG; have HBB := Lib.hid hB; have HTAB := Lib.hid htab
  obtain ⟨n, hn⟩ : ∃ n, l.length = n := ⟨_, rfl⟩
  have HN := Lib.hid hn
  rw [hn]
  clear hG hB htab hn
  go_enter Tryz.func4, Tryz.ntmps4
  go_wp2_with fail
  refine (known11_any w HTAB.out).mono ?_
  rintro e w1 ⟨rfl, hb1⟩
  have HB1 := Lib.hid hb1
  clear hb1
  by_cases hn100 : (100 : Int) < n
  · go_wp2
    go_ret
    exact ⟨rfl, HB1.out⟩
  go_wp2_with fail
  refine (new_any _).mono ?_
  rintro e w2 ⟨t, S0, rfl, hta, hba, hbe2⟩
  have HT0 := Lib.hid (⟨hta, ⟨by simp, by simp, by simp, by simp [total]⟩, hba, hbe2⟩ : TabN w1 S0 (fun _ => False) w2 t [])
  clear hta hba hbe2
  go_wp2_with fail
  refine (chNew_any _).mono ?_
  rintro e w3 ⟨c, SL, rfl, hL0, hLb, hb3⟩
  have hb2a : Below w2.heap.size w2 (w2.alloc (.cells #[.slice none 0 0] 35)) := (Below.refl _ _).alloc (Nat.le_refl _) _
  have hbo : Both w1 S0 (fun _ => False) (fun _ => False) w3 t w2.heap.size 0 [] := ⟨(HT0.out.below hb2a).below hb3, (refK_new (heap_alloc_at _ _ rfl)).below hb3, tabC_nil, fun k hk => ⟨fun q => q, fun e => by have := (HT0.out.tab.lt k hk).1; omega⟩, fun q => q, HT0.out.be.size⟩
  have hcg : CgJ w1 t w2.heap.size c 0 (.slice none 0 0) 0 w3 := ⟨S0, _, _, SL, [], [], [], hbo, hL0, fun k hk => by
    have h1 := hLb k hk
    have h2 := HT0.out.be.size
    simp at h1
    exact ⟨fun q => by have := (HT0.out.tab.lt k q).1; omega, fun q => q, fun q => q, by omega, by omega⟩, LineOk.nil, fun w'' _ => RowAt.nil w'' 1, Nat.zero_le _, .inl rfl⟩
  have HCG := Lib.hid hcg; have HN100 := Lib.hid hn100
  obtain ⟨r, hr⟩ : ∃ r, w2.heap.size = r := ⟨_, rfl⟩
  rw [hr] at HCG
  clear hbo hcg hL0 hLb hb3 hb2a
  go_wp2
  try rw [hr]
  clear hr
  go_loopw [10, 11, 12] (fun t10 t11 t12 wz => ∃ (i : Nat) (bk : Int) (ta : Option Addr) (tl tc : Nat), t10 = .slice ta tl tc ∧ t11 = .int .i64 bk ∧ t12 = .int .i64 i ∧ i ≤ n ∧ CgJ w1 t r c i t10 bk wz) (fun _ _ t12 _ => n - (intOf t12).toNat)
  case atStart => exact ⟨0, 0, none, 0, 0, rfl, rfl, rfl, Nat.zero_le _, HCG.out⟩
  case round =>
    clear HCG
    obtain ⟨i, bk, ta, tl, tc, rfl, rfl, rfl, hi, hI⟩ := hrel
    have HI := Lib.hid hI
    have hbe := HB1.out.trans (hI.be.mono HB1.out.size)
    have HBE := Lib.hid hbe
    have hgr := HG.out.below hbe (Nat.le_refl _)
    clear hI hbe
    by_cases hlt : i < n
    · obtain ⟨x, hx⟩ : ∃ x, l[i]? = some x := ⟨l[i]'(by rw [HN.out]; exact hlt), by simp⟩
      obtain ⟨lb, loff, xa, xc, hao, hxv, hxi, p0, p1, p2⟩ := hgr.at hx
      have LBW := Lib.hid (show lb < w.heap.size by
        obtain ⟨b', off', a', c', e, _, _, h, _⟩ := HG.out.at hx
        rw [hao] at e
        simp only [Option.some.injEq, Addr.mk.injEq] at e
        rw [e.1]; exact World.block_lt_of_cell? _ _ h)
      have PG := Lib.hid (show ∀ wz, Below w.heap.size w wz → wz.cell? ⟨lb, loff + i * 3 + 2, none⟩ = some (.bool x.g) from fun wz hb => by
        obtain ⟨b', off', a', c', e, _, _, _, _, h⟩ := HG.out.at hx
        rw [hao] at e
        simp only [Option.some.injEq, Addr.mk.injEq] at e
        rw [e.1, e.2.1, hb.cell (World.block_lt_of_cell? _ _ h)]
        exact h)
      have hxw : IntsAt w (.slice xa x.sups.length xc) x.sups := by have h := HG.out.ints x (List.mem_of_getElem? hx); rw [hxv] at h; exact h
      subst hao
      have hlt' : (i : Int) < n := by omega
      have hi6 : (i : Int) < 1000000 := by omega
      have HX := Lib.hid hx; have HLT := Lib.hid hlt; have HXI := Lib.hid hxi; have HXW := Lib.hid hxw
      clear hx hlt hi hgr hxv hxi hxw
      by_cases h0 : x.n < 0
      · go_wp2
        go_ret
        exact ⟨rfl, HBE.out⟩
      by_cases h1 : 10 < x.n
      · go_wp2
        go_ret
        exact ⟨rfl, HBE.out⟩
      by_cases h2 : 3 < (x.sups.length : Int)
      · go_wp2
        go_ret
        exact ⟨rfl, HBE.out⟩
      obtain ⟨m, hm⟩ : ∃ m : Nat, x.n = m := ⟨x.n.toNat, by omega⟩
      have hm10 : m ≤ 10 := by omega
      have hs3 : x.sups.length ≤ 3 := by omega
      rw [hm] at p0 h0 h1
      obtain ⟨q, hq⟩ : ∃ q, x.sups.length = q := ⟨_, rfl⟩
      rw [hq] at p1 h2
      have HM := Lib.hid hm10; have HS3 := Lib.hid hs3; have HQ := Lib.hid hq
      have d0 : ∀ z : Ext wr, z.val.cell? ⟨lb, loff + i * 3, none⟩ = some (.int .i64 m) := Ext.cells p0
      have d1 : ∀ z : Ext wr, z.val.cell? ⟨lb, loff + i * 3 + 1, none⟩ = some (.slice xa q xc) := Ext.cells p1
      have D0 := Lib.hid d0; have D1 := Lib.hid d1
      clear hm10 hs3 hq hm d0 d1 p2
      go_upto_region 15 with fail
      clear p0 p1
      go_cut [13] from 34 to 215 (fun s13 wx => ∃ xb xd, s13 = .slice xb 1 xd ∧ (∀ w'', Upd (fun q => q < wr.heap.size) wx w'' → GrpAt w'' s13 [subS m x.sups]) ∧ Below wr.heap.size wr wx)
      case first =>
        have d0 := D0.out; have d1 := D1.out
        have C1 := Lib.hid (sub_any2 m (.slice xa q xc) x.sups wr.drew (by have h := RowAt.below HXW.out (HBE.out.trans (((Below.refl _ _).drew).mono HBE.out.size)) (Nat.le_refl _); rw [HQ.out] at h; show RowAt _ 1 _ x.sups.length _; rw [HQ.out]; exact h) HM.out (by have := HS3.out; omega))
        have KZ0 := Lib.hid (show wr.drew.cell? ⟨lb, loff + i * 3, none⟩ = some (.int .i64 m) ∧ wr.drew.cell? ⟨lb, loff + i * 3 + 1, none⟩ = some (.slice xa q xc) from ⟨d0 ⟨_, (Below.refl _ _).drew⟩, d1 ⟨_, (Below.refl _ _).drew⟩⟩)
        go_region_held_law (fun w' => w'.cell? ⟨lb, loff + i * 3, none⟩ = some (.int .i64 m) ∧ w'.cell? ⟨lb, loff + i * 3 + 1, none⟩ = some (.slice xa q xc)) (first | exact KZ0.out | exact KZ1.out | exact KZ2.out)
          (first
            | (go_at_call 21
               refine C1.out.mono ?_
               rintro e w5 ⟨cs, rfl, h6, hs, hb5⟩
               obtain ⟨vs, vp, vr, vf, rfl, -⟩ := (hs w5 (Upd.refl _ _)).ex
               have hb5' : Below wr.heap.size wr w5 := (Below.refl _ _).drew.trans hb5
               have hbA := hb5'.alloc hb5'.size (.cells #[.bool (subS m x.sups).fin, vs, .int .i64 (subS m x.sups).k, vp, vr, vf] 48)
               have hgrp : ∀ w'', Upd (fun q => q < wr.heap.size) (w5.alloc (.cells #[.bool (subS m x.sups).fin, vs, .int .i64 (subS m x.sups).k, vp, vr, vf] 48)) w'' → GrpAt w'' (.slice (some ⟨w5.heap.size, 0, none⟩) 1 1) [subS m x.sups] := fun w'' hu => grp_1 ((hu.block _ (by simp) (by have := hb5'.size; omega)).trans (heap_alloc_at w5 (.cells #[.bool (subS m x.sups).fin, vs, .int .i64 (subS m x.sups).k, vp, vr, vf] 48) rfl)) h6 (hs w'' (((Upd.refl _ w5).alloc _).trans' hu))
               have HBA := Lib.hid hbA; have HGRP := Lib.hid hgrp
               have KZ1 := Lib.hid (show w5.cell? ⟨lb, loff + i * 3, none⟩ = some (.int .i64 m) ∧ w5.cell? ⟨lb, loff + i * 3 + 1, none⟩ = some (.slice xa q xc) from ⟨d0 ⟨_, hb5'⟩, d1 ⟨_, hb5'⟩⟩)
               have KZ2 := Lib.hid (show (w5.alloc (.cells #[.bool (subS m x.sups).fin, vs, .int .i64 (subS m x.sups).k, vp, vr, vf] 48)).cell? ⟨lb, loff + i * 3, none⟩ = some (.int .i64 m) ∧ (w5.alloc (.cells #[.bool (subS m x.sups).fin, vs, .int .i64 (subS m x.sups).k, vp, vr, vf] 48)).cell? ⟨lb, loff + i * 3 + 1, none⟩ = some (.slice xa q xc) from ⟨d0 ⟨_, hbA⟩, d1 ⟨_, hbA⟩⟩)
               clear hs h6 hb5 hb5' hbA hgrp C1
               dsimp only))
        all_goals
          go_wp2
          go_meet
          exact ⟨_, _, rfl, HGRP.out, HBA.out⟩
      case rest =>
        obtain ⟨xb, xd, rfl, hgrp, hbc⟩ := hcut
        obtain ⟨S, R, Q, SL, gs, L, is, k1, k2, k3, k4, k5, k6, k7⟩ := HI.out.ex
        have his : is.length ≤ 100000 := by have := HLT.out; have := HN100.out; omega
        have hraw : RawG [subS m x.sups] := subS_raw HM.out (by have := HS3.out; omega) (HBB.out x (List.mem_of_getElem? HX.out))
        obtain ⟨A, hA⟩ : ∃ A, addG gs is [subS m x.sups] = A := ⟨_, rfl⟩
        have hAl : A.1.length ≤ i + 1 := by
          rw [← hA]
          rcases addG_fact gs is [subS m x.sups] with ⟨_, h, _⟩ | ⟨_, h⟩
          · rw [h]; exact Nat.zero_le _
          · rw [h.len]; simpa using k6
        have k5' : ∀ w'', Upd (fun b => S b ∨ b = r ∨ SL b) wc w'' → IntsAt w'' (.slice ta tl tc) is := fun w'' hu => k5 w'' ((Upd.of_below hbc).trans' hu)
        have D1 := add_n2 (v1 := .slice ta tl tc) (k1.tab.below hbc) (fun w' hu => k5' w' (hu.mono fun _ _ q => .inl q)) his (hgrp wc (Upd.refl _ _)) hraw (HTAB.out.on HB1.out)
        rw [hA] at D1
        have DD1 := Lib.hid D1; have HIS := Lib.hid his; have HRAW := Lib.hid hraw; have HA := Lib.hid hA; have HAL := Lib.hid hAl; have HGRP := Lib.hid hgrp; have HBC := Lib.hid hbc
        have K1 := Lib.hid k1; have K2 := Lib.hid k2; have K3 := Lib.hid k3; have K4 := Lib.hid k4; have K5 := Lib.hid k5'; have K6 := Lib.hid k6; have K7 := Lib.hid k7
        clear his hraw hA hAl k5' D1 k1 k2 k3 k4 k5 k6 k7 hgrp hbc D0
        obtain ⟨er, her⟩ : ∃ er, A.2.1 = er := ⟨_, rfl⟩
        have HER := Lib.hid her
        go_wp2_with fail
        refine DD1.out.mono ?_
        rintro e w4 ⟨u1, S1, R1, rfl, ht1, hu1, hup, hfs, hfr⟩
        have D2 := kAdd_any ((K1.out.below HBC.out).keepR hup) K1.out.tab.ok (by have := HLT.out; have := HN100.out; omega) (K5.out w4 (hup.mono fun _ _ q => .inl q)) HIS.out (HGRP.out w4 (hup.mono fun k _ q => (K1.out.tab.tab.lt k q).1)) HRAW.out
        rw [HA.out] at D2
        have DD2 := Lib.hid D2; have HT1 := Lib.hid ht1; have HU1 := Lib.hid hu1; have HUP := Lib.hid hup; have HFS := Lib.hid hfs; have HFR := Lib.hid hfr
        clear D2 ht1 hu1 hup hfs hfr DD1
        rw [her]
        go_wp2_with fail
        refine DD2.out.mono ?_
        rintro e w5 ⟨u2, Q1, rfl, hr1, hu2, hup2, hfq⟩
        have hu1v := HU1.out w5 (hup2.mono fun b _ e => by subst e; exact .inr ((K1.out.below HBC.out).ref.tlt))
        have D3 := ints11_any u1 u2 A.1 A.1 w5 hu1v (hu2 w5 (Upd.refl _ _)) (by have := HAL.out; have := HLT.out; have := HN100.out; omega) (by have := HAL.out; have := HLT.out; have := HN100.out; omega)
        rw [decide_eq_true rfl] at D3
        have hold : CgJ w1 t r c (i + 1) (.slice ta tl tc) bk w5 := cgj_old (is := is) (g := [subS m x.sups]) (K1.out.below HBC.out) (K2.out.below HBC.out) K3.out K4.out K5.out K6.out K7.out (by rw [HA.out]; exact HT1.out) HUP.out HFS.out (fun k hk => (HFR.out k hk)) (by rw [HA.out]; exact hr1) hup2 hfq
        have hnew : er = 0 → CgJ w1 t r c (i + 1) u1 bk w5 := fun e0 => cgj_new (is := is) (g := [subS m x.sups]) (K1.out.below HBC.out) (K2.out.below HBC.out) K3.out K4.out K6.out K7.out rfl (by rw [HA.out, her]; exact e0) (by rw [HA.out]; exact HU1.out) (by rw [HA.out]; exact HT1.out) HUP.out HFS.out (fun k hk => (HFR.out k hk)) (by rw [HA.out]; exact hr1) hup2 hfq
        obtain ⟨ua, uc, hu1f⟩ := RowAt.form hu1v
        obtain ⟨va, vc, hu2f⟩ := RowAt.form (hu2 w5 (Upd.refl _ _))
        have DD3 := Lib.hid D3; have HOLD := Lib.hid hold; have HNEW := Lib.hid hnew
        obtain ⟨an, han⟩ : ∃ an, A.1.length = an := ⟨_, rfl⟩
        rw [han] at hu1f hu2f
        subst hu1f hu2f
        clear D3 hold hnew DD2 hr1 hu2 hup2 hfq hu1v HU1 HUP HFS HFR HT1 K1 K2 K3 K4 K5 K6 K7 HGRP HRAW
        have hee : (er != er) = false := by simp
        rw [her]
        go_wp2_with fail
        refine DD3.out.mono ?_
        rintro e w6 ⟨rfl, dk, hw6⟩
        have hb56 : Below w5.heap.size w5 w6 := by rw [hw6]; exact ⟨rfl, rfl, rfl, Nat.le_refl _, fun _ _ => rfl⟩
        have HB56 := Lib.hid hb56
        clear DD3 hb56 hw6 her han hee
        go_upto_if 99 with fail
        go_cut [10] from 98 to 100 (fun s10 wx => ∃ ta tl tc, s10 = .slice ta tl tc ∧ CgJ w1 t r c (i + 1) s10 bk wx)
        case first =>
          obtain ⟨bq, hbq⟩ : ∃ bq, (er == 0) = bq := ⟨_, rfl⟩
          have HBQ := Lib.hid hbq
          rw [hbq]
          clear hbq PG HG HBB HTAB HX HXI HXW HM HS3 HQ HIS HA HAL HER h0 h1 h2 LBW D1
          cases bq
          · go_wp2_with fail
            go_meet
            exact ⟨ta, tl, tc, rfl, HOLD.out.below HB56.out⟩
          · go_wp2_with fail
            go_meet
            exact ⟨ua, an, uc, rfl, (HNEW.out (by simpa using HBQ.out)).below HB56.out⟩
        case rest =>
          clear HOLD HNEW HB56 HI HBE
          obtain ⟨ta, tl, tc, rfl, hcg⟩ := hcut
          have hbz := HB1.out.trans (hcg.be.mono HB1.out.size)
          have pg := PG.out wc hbz
          obtain ⟨gq, hgq⟩ : ∃ gq, x.g = gq := ⟨_, rfl⟩
          rw [hgq] at pg
          have HCG := Lib.hid hcg; have PGH := Lib.hid pg
          clear hcg hbz hgq PG pg
          have hn6 : (n : Int) ≤ 100 := by have := HN100.out; omega
          go_upto_region 22 with fail
          have pg := PGH.out
          go_cut [113] from 101 to 113 (fun s wx => s = .bool (!gq && decide ((i : Int) < n - 1)) ∧ CgJ w1 t r c (i + 1) (.slice ta tl tc) bk wx)
          case first =>
            cases gq
            · by_cases hln : (i : Int) < n - 1
              · go_wp2_with fail
                go_meet
                exact ⟨by simp [hln], HCG.out⟩
              · go_wp2_with fail
                go_meet
                exact ⟨by simp [hln], HCG.out⟩
            · go_wp2_with fail
              go_meet
              exact ⟨by simp, HCG.out⟩
          case rest =>
            obtain ⟨rfl, hcg⟩ := hcut
            clear HCG pg PGH
            have HCG := Lib.hid hcg
            clear hcg
            obtain ⟨bq, hbq⟩ : ∃ bq, (!gq && decide ((i : Int) < n - 1)) = bq := ⟨_, rfl⟩
            rw [hbq]
            clear hbq
            cases bq
            · obtain ⟨w7, hw7⟩ : ∃ w7, w7 = wc := ⟨_, rfl⟩
              subst hw7
              obtain ⟨S, R, Q, SL, gs, L, is, k1, k2, k3, k4, k5, k6, k7⟩ := HCG.out.ex
              obtain ⟨⟨f, L2⟩, hG⟩ : ∃ G, growAll (tabL gs) L = G := ⟨_, rfl⟩
              have D1 := rLines_any k1.ref k1.tab.ok k1.c (by have := HLT.out; omega)
              rw [← grow_linesR k4 (tabC_pos k1.c), hG] at D1
              have K1 := Lib.hid k1; have K2 := Lib.hid k2; have K3 := Lib.hid k3; have K4 := Lib.hid k4; have K5 := Lib.hid k5; have K6 := Lib.hid k6; have K7 := Lib.hid k7
              have DD1 := Lib.hid D1; have HGE := Lib.hid hG
              clear k1 k2 k3 k4 k5 k6 k7 D1 hG HCG
              go_wp2_with fail
              refine DD1.out.mono ?_
              rintro e w8 ⟨lv, rfl, hlv, hb8⟩
              obtain ⟨N, hN⟩ : ∃ N, L2.length = N := ⟨_, rfl⟩
              obtain ⟨lo, lc, hlvf⟩ := (hlv w8 (Upd.refl _ _)).form
              dsimp only at hlvf
              rw [hN] at hlvf
              subst hlvf
              have HLV := Lib.hid hlv; have HB8 := Lib.hid hb8; have HNN := Lib.hid hN
              clear hlv hb8 hN DD1
              dsimp only
              go_upto_if 120 with fail
              go_cut [11] from 119 to 121 (fun s11 wx => s11 = .int .i64 (if f = 0 then bk else f) ∧ Below w7.heap.size w7 wx ∧ ∀ w'', Upd (fun b => b < w7.heap.size) wx w'' → LlsAt w'' (.slice lo N lc) L2)
              case first =>
                obtain ⟨bq, hbq⟩ : ∃ bq, (f != 0) = bq := ⟨_, rfl⟩
                have HBQ := Lib.hid hbq
                rw [hbq]
                clear hbq
                cases bq
                · go_wp2_with fail
                  go_meet
                  exact ⟨by rw [if_pos (by simpa using HBQ.out)], HB8.out, HLV.out⟩
                · go_wp2_with fail
                  go_meet
                  exact ⟨by rw [if_neg (by simpa using HBQ.out)], HB8.out, HLV.out⟩
              case rest =>
                obtain ⟨rfl, hb8, hlv⟩ := hcut
                clear HB8 HLV
                obtain ⟨bk2, hbk2⟩ : ∃ bk2, (if f = 0 then bk else f) = bk2 := ⟨_, rfl⟩
                rw [hbk2]
                have HBK2 := Lib.hid hbk2
                clear hbk2
                have D2 := grow_any wc (K2.out.below hb8) (⟨K1.out.tab.tab.below hb8, K1.out.tab.ok, K1.out.c⟩ : TabK S R wc t gs) (fun k hk => ⟨(K3.out k hk).1, (K3.out k hk).2.1⟩)
                rw [HGE.out] at D2
                have DD2 := Lib.hid D2; have HB8 := Lib.hid hb8; have HLV := Lib.hid hlv
                clear D2 hb8 hlv
                have hff : (f != f) = false := by simp
                have hN6 : (N : Int) ≤ 10000 := by
                  have h := (growL_ok K4.out ((tabL gs).length - L.length)).le
                  have h2 := HGE.out
                  unfold growAll at h2
                  rw [h2] at h
                  have h3 := K1.out.tab.ok.total
                  rw [tabL_len] at h
                  have := HNN.out
                  dsimp only at h
                  omega
                go_wp2_with fail
                refine DD2.out.mono ?_
                rintro e w9 ⟨S9, rfl, hI⟩
                dsimp only at hI ⊢
                have D3 := chLen_any hI.li
                rw [HNN.out] at D3
                have hcg9 := cgj_grown (is := is) (K1.out.below HB8.out) (K2.out.below HB8.out) K3.out K4.out (fun w'' hu => K5.out w'' ((Upd.of_below HB8.out).trans' hu)) K6.out K7.out HGE.out hI
                rw [HBK2.out] at hcg9
                have hlv9 := HLV.out w9 (hI.up.mono fun k _ q => K2.out.lt k q)
                have D4 := chCopy_any hI.li
                have hok2 : LineOk (tabL gs) L2 := by
                  have h := growL_ok K4.out ((tabL gs).length - L.length)
                  have h2 := HGE.out
                  unfold growAll at h2
                  rw [h2] at h
                  exact h
                have DD3 := Lib.hid D3; have DD4 := Lib.hid D4; have HCG9 := Lib.hid hcg9; have HLV9 := Lib.hid hlv9; have HOK2 := Lib.hid hok2
                clear D3 D4 hcg9 hlv9 hok2 hI K1 K2 K3 K4 K5 K6 K7 HB8 HLV DD2
                go_wp2_with fail
                refine DD3.out.mono ?_
                rintro e w10 ⟨rfl, hw10⟩
                have hw10' := hw10.symm
                subst hw10'
                clear hw10 DD3
                have hNN : ((N : Int) != N) = false := by simp
                go_wp2_with fail
                refine DD4.out.mono ?_
                rintro e w10 ⟨d, SD, rfl, hld, hsd, hb10⟩
                have HLD := Lib.hid hld; have HB10 := Lib.hid hb10
                clear hld hsd hb10 DD4
                go_wp2
                go_loopw [20] (fun t20 wz => ∃ (j : Nat) (id : Int), t20 = .int .i64 id ∧ id = (j : Int) - 1 ∧ j ≤ N + 2 ∧ LinesAt SD wz d L2 ∧ Below w9.heap.size w9 wz) (fun t20 _ => N + 2 - (intOf t20 + 1).toNat)
                case atStart => exact ⟨0, -1, rfl, by simp, by omega, HLD.out, HB10.out⟩
                case round =>
                  clear HLD HB10
                  obtain ⟨j, id, rfl, hid, hj, hl, hbz⟩ := hrel
                  have HL := Lib.hid hl; have HBZ := Lib.hid hbz
                  clear hl hbz
                  by_cases hlj : j < N + 2
                  · by_cases h0 : j = 0
                    · subst h0
                      obtain rfl : id = -1 := by simpa using hid
                      have hle : (-1 : Int) ≤ N := by omega
                      clear hid hj hlj
                      have D5 := chLine_out (id := -1) HL.out (by simp [hasL, HNN.out])
                      have DD5 := Lib.hid D5
                      clear D5
                      go_wp2_with fail
                      refine DD5.out.mono ?_
                      rintro e w11 ⟨rfl, hb11⟩
                      have D6 := chDepth_any (HL.out.below hb11) (-1)
                      rw [show depthL L2 (-1) = -1 by simp [depthL]] at D6
                      have DD6 := Lib.hid D6; have HB11 := Lib.hid hb11
                      clear D6 hb11
                      go_wp2_with fail
                      refine DD6.out.mono ?_
                      rintro e w12 ⟨rfl, hw12⟩
                      have hw12' := hw12.symm
                      subst hw12'
                      clear hw12
                      go_wp2
                      go_roundw
                      case rel => exact ⟨1, _, rfl, by omega, by omega, HL.out.below HB11.out, HBZ.out.trans (HB11.out.mono HBZ.out.size)⟩
                      case measure => simp [intOf] <;> omega
                    by_cases hjn : j = N + 1
                    · subst hjn
                      obtain rfl : id = N := by omega
                      have hle : (N : Int) ≤ N := by omega
                      have hlt0 : ¬ (N : Int) < 0 := by omega
                      clear hid hj hlj h0
                      have D5 := chLine_out (id := (N : Int)) HL.out (by simp [hasL, HNN.out])
                      have DD5 := Lib.hid D5
                      clear D5
                      go_wp2_with fail
                      refine DD5.out.mono ?_
                      rintro e w11 ⟨rfl, hb11⟩
                      have D6 := chDepth_any (HL.out.below hb11) ((N : Int))
                      rw [show depthL L2 ((N : Int)) = -1 by simp [depthL, HNN.out]] at D6
                      have DD6 := Lib.hid D6; have HB11 := Lib.hid hb11
                      clear D6 hb11
                      go_wp2_with fail
                      refine DD6.out.mono ?_
                      rintro e w12 ⟨rfl, hw12⟩
                      have hw12' := hw12.symm
                      subst hw12'
                      clear hw12
                      go_wp2
                      go_roundw
                      case rel => exact ⟨N + 1 + 1, _, rfl, by omega, by omega, HL.out.below HB11.out, HBZ.out.trans (HB11.out.mono HBZ.out.size)⟩
                      case measure => simp [intOf] <;> omega
                    obtain ⟨k, rfl⟩ : ∃ k, j = k + 1 := ⟨j - 1, by omega⟩
                    obtain rfl : id = k := by omega
                    have hkN : k < N := by omega
                    have hle : (k : Int) ≤ N := by omega
                    have hlt0 : ¬ (k : Int) < 0 := by omega
                    obtain ⟨p, hp⟩ : ∃ p, L2[k]? = some p := ⟨L2[k]'(by rw [HNN.out]; exact hkN), by simp⟩
                    have D5 := chLine_any HL.out hp
                    have h9 := HLV9.out
                    rw [← HNN.out] at h9
                    obtain ⟨ub, uoff, xa5, xc5, hua, hcell, hints⟩ := LlsAt.at h9 hp
                    subst hua
                    have DD5 := Lib.hid D5; have HKN := Lib.hid hkN; have HP := Lib.hid hp; have HCELL := Lib.hid hcell; have HINTS := Lib.hid hints
                    clear D5 hkN hp h9 hcell hints hid hj hlj h0 hjn
                    go_wp2_with fail
                    refine DD5.out.mono ?_
                    rintro e w11 ⟨u, rfl, how, hb11⟩
                    have hpl0 := HL.out.ok.1 p (List.mem_of_getElem? HP.out)
                    obtain ⟨g5, uc5, cur5, rfl, hg5, hr5⟩ := ownsRow_some how (List.length_pos_iff.2 hpl0.2)
                    obtain ⟨ua5, hua5⟩ : ∃ ua : Option Addr, some ⟨g5, 0, none⟩ = ua := ⟨_, rfl⟩
                    rw [hua5] at how ⊢
                    have HUA := Lib.hid hua5; have HG5 := Lib.hid hg5; have HR5 := Lib.hid hr5.2.2
                    have HOW := Lib.hid how; have HB11 := Lib.hid hb11
                    clear how hb11 hg5 hr5 hua5 hpl0 DD5
                    go_upto_region 33 with fail
                    go_cut [155] from 148 to 155 (fun s wx => s = .bool false ∧ w11 = wx)
                    case first =>
                      go_wp2_with fail
                      go_meet
                      exact ⟨by have := HKN.out; simp; try omega, rfl⟩
                    case rest =>
                      obtain ⟨rfl, hwx⟩ := hcut
                      subst hwx
                      have hb11' := HBZ.out.trans (HB11.out.mono HBZ.out.size)
                      have hpl := HL.out.ok.1 p (List.mem_of_getElem? HP.out)
                      have hip : IntsAt w11 (.slice ua5 p.length uc5) (intsN p) := by
                        have h := RowAt.of_own HOW.out
                        show RowAt _ 1 _ (intsN p).length ((intsN p).map _)
                        rw [show (intsN p).length = p.length by simp [intsN]]
                        rw [show (intsN p).map (Value.int .i64) = p.map fun k : Nat => Value.int .i64 (k : Int) by simp [intsN, Function.comp_def]]
                        exact h
                      have g0 : ∀ z : Ext w11, z.val.cell? ⟨ub, uoff + k, none⟩ = some (.slice xa5 p.length xc5) := Ext.cells (by rw [hb11'.cell (World.block_lt_of_cell? _ _ HCELL.out)]; exact HCELL.out)
                      have hln : (intsN p).length ≤ 1000000 := by simp [intsN]; omega
                      have d1 : ∀ q : Ext w11, Calls Tryz.prog 22 #[.slice ua5 p.length uc5, .slice xa5 p.length xc5] q.val fun e w' => e = .returned (.bool true) ∧ ∃ n, w' = q.val.drewN n := fun q => by
                        have h := ints11_any _ _ _ _ q.val (RowAt.ext hip q) (RowAt.below HINTS.out (hb11'.trans (q.2.mono hb11'.size)) (Nat.le_refl _)) hln hln
                        rw [decide_eq_true rfl] at h
                        exact h
                      have hld : LinesAt SD w11 d L2 := HL.out.below HB11.out
                      have d2 : ∀ q : Ext w11, Calls Tryz.prog 28 #[.pointer (some ⟨d, 0, none⟩), .int .i64 (k : Int)] q.val fun e w' => e = .returned (.int .i64 ((p.length : Int) - 1)) ∧ Below q.val.heap.size q.val w' := fun q => by
                        have h := chDepth_any (hld.below q.2) (k : Int)
                        rw [show depthL L2 (k : Int) = (p.length : Int) - 1 by
                          unfold depthL
                          rw [if_pos ⟨by omega, by rw [HNN.out]; have := HKN.out; omega⟩, show ((k : Int)).toNat = k from Int.toNat_natCast k, getD_some HP.out]] at h
                        exact h.mono fun _ _ ⟨h1, h2⟩ => ⟨h1, by rw [h2]; exact Below.refl _ _⟩
                      have d3 : ∀ (x y : Int) (r : Bool), belowL L2 x y = r → ∀ q : Ext w11, Calls Tryz.prog 29 #[.pointer (some ⟨d, 0, none⟩), .int .i64 x, .int .i64 y] q.val fun e w' => e = .returned (.bool r) ∧ Below q.val.heap.size q.val w' := fun x y r hr q => by
                        rw [← hr]
                        exact chBelow_any (hld.below q.2) x y
                      have d4 : ∀ (x y : Int) (r : Bool), belowL L2 x y = r → ∀ q : Ext w11, Calls Tryz.prog 30 #[.slice (some ⟨ub, uoff, none⟩) N lc, .int .i64 x, .int .i64 y] q.val fun e w' => e = .returned (.bool r) ∧ Below q.val.heap.size q.val w' := fun x y r hr q => by
                        rw [← hr, ← belowN_eq HOK2.out]
                        exact rBelow_any _ L2 x y q.val (HLV9.out.below (hb11'.trans (q.2.mono hb11'.size)) (Nat.le_refl _)) (by rw [HNN.out]; omega) (fun p hp => (hld.ok.1 p hp).1)
                      obtain ⟨r1, hr1⟩ : ∃ r, belowL L2 (k : Int) a = r := ⟨_, rfl⟩
                      obtain ⟨r2, hr2⟩ : ∃ r, belowL L2 b (k : Int) = r := ⟨_, rfl⟩
                      have D1 := Lib.hid d1; have D2 := Lib.hid d2; have D3 := Lib.hid (d3 _ _ _ hr1); have D4 := Lib.hid (d4 _ _ _ hr1); have D5 := Lib.hid (d3 _ _ _ hr2); have D6 := Lib.hid (d4 _ _ _ hr2)
                      have hkN := HKN.out
                      have hp64 : (p.length : Int) ≤ 64 := by omega
                      have hp0 : 0 < (p.length : Int) := by have := List.length_pos_iff.2 hpl.2; omega
                      have hx1 : (r1 != r1) = false := by simp
                      have hx2 : (r2 != r2) = false := by simp
                      have hx3 : ((p.length : Int) - 1 != (p.length : Int) - 1) = false := by simp
                      clear d1 d2 d3 d4 hr1 hr2 hld hln hip hpl hb11'
                      go_upto_region 36 with fail
                      refine wp_region_calm (by kernel_rfl) (by kernel_rfl) ?_
                      iterate 9 (go_big_quiet_step (exact Ext.call_quiet _ (D1.out _)))
                      iterate 6 (go_big_quiet_step (exact Ext.call _ (D2.out _)))
                      iterate 13 (go_big_quiet_step (exact Ext.call _ (D3.out _)))
                      iterate 4 (go_big_quiet_step (exact Ext.call _ (D4.out _)))
                      iterate 7 (go_big_quiet_step (exact Ext.call _ (D5.out _)))
                      iterate 4 (go_big_quiet_step (exact Ext.call _ (D6.out _)))
                      iterate 2 (go_big_quiet_step (fail))
                      refine wpQuiet_nil ?_
                      rintro _ ⟨q0, rfl⟩
                      clear g0
                      go_upto_region 38 with fail
                      have hgl := (HOW.out.lt g5 (by rw [← HUA.out]; rfl))
                      have hua5 := HUA.out
                      subst hua5
                      have hz := (q0.2.block _ (heap_lt HG5.out)).trans HG5.out
                      have hc5 : ∃ c5, q0.val.cell? ⟨g5, 0, none⟩ = some c5 := by
                        have h := HR5.out 0 (by have := List.length_pos_iff.2 (HL.out.ok.1 p (List.mem_of_getElem? HP.out)).2; omega)
                        rw [← q0.2.cell (heap_lt HG5.out)] at h
                        obtain ⟨y, ys, hpe⟩ : ∃ y ys, p = y :: ys := List.exists_cons_of_ne_nil (HL.out.ok.1 p (List.mem_of_getElem? HP.out)).2
                        exact ⟨_, h.trans (by rw [hpe]; rfl)⟩
                      obtain ⟨c5, hc5⟩ := hc5
                      have hfz := heap_frozen hz 0
                      have hbw := (HB11.out.trans (q0.2.mono HB11.out.size)).setCell (p := ⟨g5, 0, none⟩) hgl.1 (.int .i64 (-5))
                      have HBW := Lib.hid hbw
                      clear hz hbw hgl
                      go_wp2
                      go_roundw
                      case rel => exact ⟨k + 1 + 1, _, rfl, by omega, by omega, HL.out.below HBW.out, HBZ.out.trans (HBW.out.mono HBZ.out.size)⟩
                      case measure => simp [intOf] <;> omega
                  · have hgt : ¬ id ≤ N := by omega
                    clear hlj hid hj
                    go_wp2
                    go_roundw
                    case rel => exact ⟨i + 1, _, ta, tl, tc, rfl, rfl, by go_num, HLT.out, HCG9.out.below HBZ.out⟩
                    case measure => have := HLT.out; simp [intOf]; omega
            · go_wp2
              go_roundw
              case rel => exact ⟨i + 1, bk, ta, tl, tc, rfl, rfl, by go_num, HLT.out, HCG.out⟩
              case measure => have := HLT.out; simp [intOf]; omega
    · obtain rfl : i = n := by omega
      have hlt' : ¬ (i : Int) < i := by omega
      clear hlt hi hgr
      obtain ⟨S, R, Q, SL, gs, L, is, k1, k2, k3, k4, k5, k6, k7⟩ := HI.out.ex
      rcases k7 with rfl | hst
      · clear k1 k2 k3 k4 k5 k6
        go_wp2
        go_ret
        exact ⟨rfl, HBE.out⟩
      · have D1 := grow_any wr k2 (⟨k1.tab.tab, k1.tab.ok, k1.c⟩ : TabK S R wr t gs) (fun k hk => ⟨(k3 k hk).1, (k3 k hk).2.1⟩)
        rw [hst.grow] at D1
        have hb0 : (bk == 0) = false := by obtain ⟨_, _, _, h⟩ := hst; simpa using h
        have hbb : (bk == bk) = true := by simp
        have DD1 := Lib.hid D1; have K3 := Lib.hid k3
        clear k1 k2 k3 k4 k5 k6 hst D1
        go_wp2_with fail
        refine DD1.out.mono ?_
        rintro e w9 ⟨S9, rfl, hI⟩
        have HUP := Lib.hid hI.up
        clear hI
        go_wp2
        go_ret
        exact ⟨rfl, HB1.out.trans ((HI.out.be.trans (HUP.out.below (fun k hk => (K3.out k hk).2.2.2.2) HI.out.be.size)).mono HB1.out.size)⟩
end Go.Proofs.YtoamhiaagaaaaaaGreatDoor
