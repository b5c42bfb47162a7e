/- geodelaw09: RollOnce (the walk). -/
import Derived.Test.YtmjehnjodaicfaaDoorQRoOnceS
import Derived.Test.YtmjehnjodaicfaaDoorQRoLawH
import Derived.Test.YtmjehnjodaicfaaDoorQKdSame
import Derived.IntWalk
namespace Go.Proofs.YtmjehnjodaicfaaDoor
open Go.RowKit Go.Maps Go.WideMaps

set_option maxRecDepth 100000 in
set_option maxHeartbeats 32000000 in
theorem rollOnce_any (vl vo : Value) (l : List (List Sb)) (ord : List Int) (ah : Int) (w : World) (hl : GrpsAt w vl l) (hr : RawL l) (ho : IntsAt w vo ord) (htab : Tab w) :
    Calls Tryd.prog 4 #[vl, vo, .int .i64 ah] w fun e w' => e = .returned (.bool true) ∧ Below w.heap.size w w' := by
  obtain ⟨al, cl, rfl⟩ := hl.form
  obtain ⟨ao, co, rfl⟩ := RowAt.form ho
  obtain ⟨W0, hW⟩ : ∃ W0 : World, W0 = w.alloc (.cells #[.int .i64 ah] 3) := ⟨_, rfl⟩
  have hb0 : Below w.heap.size w W0 := by rw [hW]; exact (Below.refl _ _).alloc (Nat.le_refl _) _
  have z0 : W0.heap[w.heap.size]? = some (.cells #[.int .i64 ah] 3 (0, 0)) := by rw [hW]; exact heap_alloc_at _ _ rfl
  have CK := Lib.hid (known_any W0 (htab.on hb0))
  have HLL := Lib.hid hl; have HR := Lib.hid hr; have HTAB := Lib.hid (htab.on hb0); have HW := Lib.hid hW; have HB0 := Lib.hid hb0; have Z0 := Lib.hid z0; have HO := Lib.hid ho
  clear hl hr htab hW hb0 z0 ho
  have hmf : ∀ (fn : Fn) (first cap : Array Value) (w : World), (Instr.makeFunc fn first cap).run Tryd.prog w = .ok (.func fn first cap) w := fun _ _ _ _ => rfl
  go_enter Tryd.func4, Tryd.ntmps4
  go_wp2_with fail
  rw [← HW.out]
  refine CK.out.mono ?_
  rintro e w1 ⟨rfl, hb1⟩
  have y0 := (hb1.block _ (heap_lt Z0.out)).trans Z0.out
  have c0 := heap_cell y0 0
  simp at c0
  have HB1 := Lib.hid hb1; have Y0 := Lib.hid y0
  clear hb1 y0
  by_cases h12 : (12 : Int) < l.length
  · go_wp2
    go_ret
    exact ⟨rfl, HB0.out.trans (HB1.out.mono HB0.out.size)⟩
  by_cases h60 : (60 : Int) < ord.length
  · go_wp2
    go_ret
    exact ⟨rfl, HB0.out.trans (HB1.out.mono HB0.out.size)⟩
  by_cases hneg : ah < 0
  · go_wp2
    go_ret
    exact ⟨rfl, HB0.out.trans (HB1.out.mono HB0.out.size)⟩
  by_cases h20 : (20 : Int) < ah
  · go_wp2
    go_ret
    exact ⟨rfl, HB0.out.trans (HB1.out.mono HB0.out.size)⟩
  obtain ⟨a, rfl⟩ : ∃ a : Nat, ah = a := ⟨ah.toNat, by omega⟩
  have H12 := Lib.hid (show l.length ≤ 12 by omega); have H60 := Lib.hid (show ord.length ≤ 60 by omega); have H20 := Lib.hid (show a ≤ 20 by omega)
  go_wp2_with fail
  refine (new_any w1).mono ?_
  rintro e w2 ⟨t, S0, rfl, hta, hba, hbe⟩
  have HT0 := Lib.hid (⟨hta, ⟨by simp, by simp, by simp, by simp [total]⟩, fun k hk => Nat.le_trans HB1.out.size (hba k hk), HB1.out.trans (hbe.mono HB1.out.size)⟩ : TabN W0 S0 (fun _ => False) w2 t [])
  clear hta hba hbe h12 h60 hneg h20
  go_wp2_with fail
  refine (box_any 0 w2).mono ?_
  rintro e x2 ⟨a4, c4, rfl, sb, hx⟩
  have SB := Lib.hid sb; have HX := Lib.hid hx
  clear sb hx
  have hbA : Below w2.heap.size w2 (x2.alloc (.cells #[.bool false, .slice none 0 0, .int .i64 2, .slice none 0 0, .slice none 0 0, .slice a4 1 c4] 48)) := HX.out.alloc HX.out.size _
  have hg : GrpAt (x2.alloc (.cells #[.bool false, .slice none 0 0, .int .i64 2, .slice none 0 0, .slice none 0 0, .slice a4 1 c4] 48)) (.slice (some ⟨x2.heap.size, 0, none⟩) 1 1) [bx 0] := by
    refine grp_of (css := [[.bool false, .slice none 0 0, .int .i64 2, .slice none 0 0, .slice none 0 0, .slice a4 1 c4]]) (heap_alloc_at _ _ rfl) rfl (by simp) (fun j c x hc hx => ?_) 1 1 rfl (Nat.le_refl _)
    have h0 : j = 0 := by have := (List.getElem?_eq_some_iff.1 hc).1; simp at this; omega
    subst h0; simp at hc hx; subst hc hx; exact SB.out.below ((Below.refl _ _).alloc (Nat.le_refl _) _) (Nat.le_refl _)
  have C := add_n (HT0.out.below hbA) (fun w' _ => (RowAt.nil w' 1 : IntsAt w' (.slice none 0 0) [])) (ids := []) (by simp) hg (bx_raw1 0 (by omega)) HTAB.out
  rw [add1] at C
  have HC := Lib.hid C; have HBA := Lib.hid hbA
  clear C hg hbA
  go_wp2_with fail
  refine HC.out.mono ?_
  rintro e w3 ⟨u1, S1, R1, rfl, ht1, hi1, _, _, _⟩
  obtain ⟨au1, cu1, rfl⟩ := RowAt.form (hi1 _ (Upd.refl _ _))
  have HI0 := Lib.hid (⟨ht1, Upd.refl _ _, Fresh.refl _ _, owns_zero _ _ _ _, fun b h => by simp [Value.ownBlock] at h, ⟨rfl, fun k g hk => by omega, by decide +kernel⟩, by decide +kernel, ht1.be.size⟩ : On1 W0 w3 S1 t (.slice none 0 0) 0 l gsK1 [] S1 R1 w3)
  have HI1 := Lib.hid hi1
  clear ht1 hi1 c0
  obtain ⟨i0, hi, hz0, hz1, hz2⟩ := info_parts Tryd.infoSub
  have Hi := Lib.hid hi; have Hz0 := Lib.hid hz0; have Hz1 := Lib.hid hz1; have Hz2 := Lib.hid hz2
  clear hi hz0 hz1 hz2
  obtain ⟨i1, hi', hz0', hz1', hz2'⟩ := info_parts Tryd.infoInt
  have Hi' := Lib.hid hi'; have Hz0' := Lib.hid hz0'; have Hz1' := Lib.hid hz1'; have Hz2' := Lib.hid hz2'
  clear hi' hz0' hz1' hz2'
  go_wp2
  go_loopw [10, 11] (fun t10 t11 wr => ∃ (i : Nat) (gs : List (List Sb)) (fs : List Int) (S R : Nat → Prop), t11 = .int .i64 i ∧ i ≤ l.length ∧ On1 W0 w3 S1 t t10 i l gs fs S R wr) (fun _ t11 _ => l.length - (intOf t11).toNat)
  case atStart => exact ⟨0, gsK1, [], S1, R1, rfl, Nat.zero_le _, HI0.out⟩
  case round =>
    obtain ⟨i, gs, fs, S, R, rfl, hi, hI⟩ := hrel
    by_cases hlt : i < l.length
--CUT 1
    · obtain ⟨g, hg⟩ : ∃ g, l[i]? = some g := ⟨l[i], by simp [hlt]⟩
      have hbw : Below w.heap.size w wr := HB0.out.trans (hI.tab.be.mono HB0.out.size)
      obtain ⟨b1, o1, a2, c2, e1, p0w, hgr⟩ := HLL.out.at hg
      subst e1
      have PW := Lib.hid p0w
      have p0 := (hbw.cell (World.block_lt_of_cell? _ _ p0w)).trans p0w
      clear p0w
      have hlt' : (i : Int) < l.length := by omega
      have hi6 : (i : Int) < 1000000 := by have := H12.out; omega
      have HI := Lib.hid hI; have HLT := Lib.hid hlt; have HGR := Lib.hid hgr; have HG := Lib.hid hg; have HBW := Lib.hid hbw
      clear hI hlt hgr hg hi hbw
      by_cases h1 : (g.length : Int) < 1
      · go_wp2
        go_ret
        exact ⟨rfl, HBW.out⟩
      by_cases h6 : (6 : Int) < g.length
      · go_wp2
        go_ret
        exact ⟨rfl, HBW.out⟩
      have hgl : g.length ≤ 6 := by omega
      have hne : g ≠ [] := fun e => by rw [e] at h1; simp at h1
      have hraw : RawG g := ⟨by omega, fun x hx => (HR.out g (List.mem_of_getElem? HG.out) x hx).1, fun x hx => (HR.out g (List.mem_of_getElem? HG.out) x hx).2⟩
      have C := Lib.hid (add_n HI.out.tab (fun w' _ => (RowAt.nil w' 1 : IntsAt w' (.slice none 0 0) [])) (ids := []) (by simp) (HGR.out.below HBW.out (Nat.le_refl _)) hraw HTAB.out)
      have hfact := addG_fact gs [] g
      have hstep := fun he => HI.out.held.step HG.out hne hgl he
      have hval := fun he => (addG_holds (gs := gs) (ids := []) (g := g) he hne).2.1
      have herr := addG_err (gs := gs) (ids := []) (g := g) (by have := HI.out.tot; have := H12.out; have := HLT.out; omega)
      have htot := addG_total (gs := gs) (ids := []) (g := g)
      obtain ⟨A, hA⟩ : ∃ A, addG gs [] g = A := ⟨_, rfl⟩
      rw [hA] at C hfact hstep herr htot hval
      have HF := Lib.hid hfact; have HST := Lib.hid hstep; have HER := Lib.hid herr; have HTO := Lib.hid htot; have HGL := Lib.hid hgl; have HVAL := Lib.hid hval
      clear hraw hne hA hfact hstep herr htot hgl hval
      go_wp2_with fail
      refine C.out.mono ?_
      rintro e w4 ⟨u4, S4, R4, rfl, ht4, hi4, hu4, hf4, hr4⟩
      obtain ⟨au4, cu4, rfl⟩ := RowAt.form (hi4 _ (Upd.refl _ _))
      have p0w := ((HBW.out.trans ((hu4.below HI.out.tab.base HI.out.tab.be.size).mono HB0.out.size)).cell (World.block_lt_of_cell? _ _ PW.out)).trans PW.out
      obtain ⟨A1, A2, A3⟩ := A
      dsimp only at ht4 hi4
      have HT4 := Lib.hid ht4; have HI4 := Lib.hid hi4; have HU4 := Lib.hid hu4; have HF4 := Lib.hid hf4; have HR4 := Lib.hid hr4; have P0W := Lib.hid p0w
      clear ht4 hi4 hu4 hf4 hr4 p0
      by_cases he : A2 = 0
      · subst he
        have hal : A1.length = g.length := by
          rcases HF.out with ⟨q, _⟩ | ⟨_, q⟩
          · exact absurd rfl q
          · simpa using q.len
        have HAL := Lib.hid hal
        obtain ⟨f, hf⟩ : ∃ f, firstG A3 (rollG [] g).1 = f := ⟨_, rfl⟩
        have hv0 : A1[0]? = some f := by rw [← hf]; exact HVAL.out rfl
        obtain ⟨b4, o4, e4, _, p4⟩ := IntsAt.at (HI4.out _ (Upd.refl _ _)) hv0
        subst e4
        have HFE := Lib.hid hf
        dsimp only
        rw [hal]
        obtain ⟨au6, cu6, rfl, _⟩ := ownsRow_form HI.out.row
        have hrow4 : w4.ownsRow w3.heap.size 3 1 (.slice au6 i cu6) i (fs.map (Value.int .i64)) := ownsRow_upd HI.out.row HU4.out (fun b hb => (HI.out.off b hb).1)
        have HROW := Lib.hid hrow4
        have HRC := Lib.hid (row_cells (cs := [.int .i64 f]) (heap_alloc_at w4 (.cells #[.int .i64 f] 3) rfl))
        have hg1 : (0 : Int) < g.length := by omega
        have hi12 : i < 12 := Nat.lt_of_lt_of_le HLT.out H12.out
        rw [Nat.add_zero] at p4
        have p0w := P0W.out
        clear hal hf hv0 hrow4 h1 h6
        go_wp2_with (at_builtin; refine wpList_append_own2 _ rfl _ _ 32 rfl w3.heap.size 3 i1 _ 1 8 Tryd.underlying32 Hi'.out Hz0'.out Hz1'.out Hz2'.out rfl (by decide) _ _ _ rfl (HROW.out.alloc _) ⟨w4.heap.size, 0, none⟩ 1 1 [.int .i64 f] rfl rfl HRC.out (by intro u hu; simp at hu; rcases hu with rfl; rfl) (by unfold maxLen; omega) (by omega) (by have := HI.out.up.size; have := HU4.out.size; simp; omega) (by decide) ?_)
        intro v5 w5 o5 gr5 mv5
        have hst := HST.out (by first | trivial | rfl)
        try dsimp only at hst
        rw [HFE.out] at hst
        have HN := Lib.hid (HI.out.next HT4.out HU4.out HF4.out HR4.out o5 gr5 mv5 hst HTO.out HGL.out)
        clear o5 gr5 mv5 hst p4 p0w
        go_wp2
        go_roundw
        case rel => exact ⟨i + 1, A3, fs ++ [f], S4, R4, by go_num, HLT.out, HN.out⟩
        case measure => have := HLT.out; simp [intOf]; omega
      · have h2 : A2 = 2 := HER.out he
        subst h2
        clear p0w
        go_wp2
        go_ret
        exact ⟨rfl, HB0.out.trans (HT4.out.be.mono HB0.out.size)⟩
--END 1
    · obtain rfl : i = l.length := by omega
      have hlt' : ¬ (l.length : Int) < l.length := by omega
      obtain ⟨au6, cu6, rfl, _⟩ := ownsRow_form hI.row
      have HI := Lib.hid hI
      clear hI hlt hi
      rename World => wS
      go_wp2
      obtain ⟨Wb, hWb⟩ : ∃ Wb : World, Wb = wS.alloc (.cells #[] 3) := ⟨_, rfl⟩
      rw [← hWb]
      have hbb : Below wS.heap.size wS Wb := by rw [hWb]; exact (Below.refl _ _).alloc (Nat.le_refl _) _
      have hob : Wb.ownsRow wS.heap.size 3 1 (.slice (some ⟨wS.heap.size, 0, none⟩) 0 0) 0 (((List.replicate 0 (0 : Int))).map (Value.int .i64)) := by
        rw [hWb]; exact ⟨rfl, .inr ⟨_, 0, #[], rfl, Nat.le_refl _, heap_alloc_at _ _ rfl, Nat.le_refl _, Nat.zero_le _, rfl, rfl⟩⟩
      have HBB := Lib.hid hbb; have HOB := Lib.hid hob
      clear hWb hbb hob
      go_loopw [14, 15] (fun t14 t15 wr => ∃ j : Nat, t15 = .int .i64 j ∧ j ≤ a ∧ wr.ownsRow wS.heap.size 3 1 t14 j ((List.replicate j (0 : Int)).map (Value.int .i64)) ∧ Below wS.heap.size wS wr) (fun _ t15 _ => a - (intOf t15).toNat)
      case atStart => exact ⟨0, rfl, Nat.zero_le _, HOB.out, HBB.out⟩
      case round =>
        obtain ⟨j, rfl, hj, ho, hbe⟩ := hrel
        have zq : wr.heap[w.heap.size]? = some (.cells #[.int .i64 a] 3 (0, 0)) := by
          have h1 := (HI.out.tab.be.block _ (heap_lt Z0.out)).trans Z0.out
          exact (hbe.block _ (heap_lt h1)).trans h1
        have cq := heap_cell zq 0
        simp at cq
        by_cases hlt : j < a
        · obtain ⟨ao3, co3, rfl, _⟩ := ownsRow_form ho
          have hlt' : (j : Int) < a := by omega
          have hj6 : (j : Int) < 1000000 := by have := H20.out; omega
          have hrd := HI1.out wr (HI.out.up.trans' (Upd.of_below hbe))
          obtain ⟨b4, o4, e4, _, p4⟩ := IntsAt.at (i := 0) (x := 0) hrd rfl
          subst e4
          rw [Nat.add_zero] at p4
          have HR2 := Lib.hid (row_cells (cs := [.int .i64 0]) (heap_alloc_at wr (.cells #[.int .i64 0] 3) rfl))
          have HO2 := Lib.hid ho; have HBE3 := Lib.hid hbe; have HLT := Lib.hid hlt
          clear ho hbe hlt hj hrd zq
          go_wp2_with (at_builtin; refine wpList_append_own2 _ rfl _ _ 32 rfl wS.heap.size 3 i1 _ 1 8 Tryd.underlying32 Hi'.out Hz0'.out Hz1'.out Hz2'.out rfl (by decide) _ _ _ rfl (HO2.out.alloc _) ⟨wr.heap.size, 0, none⟩ 1 1 [.int .i64 0] rfl rfl HR2.out (by intro u hu; simp at hu; rcases hu with rfl; rfl) (by have := H20.out; unfold maxLen; omega) (by have := H20.out; omega) (by have := HBE3.out.size; simp; omega) (by decide) ?_)
          intro v5 w5 o5 gr5 mv5
          have hb5 : Below wS.heap.size wS w5 := (HBE3.out.alloc HBE3.out.size _).grown gr5 (by have := HBE3.out.size; simp; omega) (fun k hk => (HO2.out.lt k hk).1)
          have O5 := Lib.hid o5; have HB5 := Lib.hid hb5
          clear o5 gr5 mv5 hb5 cq p4
          go_wp2
          go_roundw
          case rel =>
            refine ⟨j + 1, by go_num, HLT.out, ?_, HB5.out⟩
            have h := O5.out
            rw [show List.replicate (j + 1) (0 : Int) = List.replicate j 0 ++ [0] from List.replicate_succ']
            simpa using h
          case measure => have := HLT.out; simp [intOf]; omega
        · obtain rfl : j = a := by omega
          have hlt' : ¬ (j : Int) < j := by omega
          obtain ⟨ao3, co3, rfl, _⟩ := ownsRow_form ho
          have hbo : ∀ b, (Value.slice ao3 j co3).ownBlock = some b → wS.heap.size ≤ b := fun b hb => (ho.lt b hb).1
          have hM : OnM W0 wr S t gs S R wr := ⟨HI.out.tab.below hbe, Upd.refl _ _, Fresh.refl _ _⟩
          have hF : ∀ w', Upd S wr w' → IntsAt w' (.slice au6 l.length cu6) fs := fun w' hu => by
            have h1 := ownsRow_upd HI.out.row (Upd.of_below hbe : Upd S wS wr) (fun b hb => (HI.out.off b hb).1)
            have h2 := RowAt.of_own (ownsRow_upd h1 hu (fun b hb => (HI.out.off b hb).1))
            have e := HI.out.held.len
            show RowAt w' 1 _ fs.length _
            rw [e]; exact h2
          have hB : ∀ w', Upd S wr w' → IntsAt w' (.slice ao3 j co3) (List.replicate j 0) := fun w' hu => by
            have h2 := RowAt.of_own (ownsRow_upd ho hu (fun b hb hk => by have h1 := (HI.out.tab.tab.lt b hk).1; have := hbo b hb; omega))
            show RowAt w' 1 _ (List.replicate j (0 : Int)).length _
            rw [List.length_replicate]; exact h2
          have hH := HI.out.held
          have hT := HI.out.tot
          have hW : ∀ w', Upd S wr w' → w'.heap[w.heap.size]? = some (.cells #[.int .i64 j] 3 (0, 0)) := fun w' hu => hu.heap_some zq (fun hk => by have := HI.out.tab.base _ hk; have := heap_lt Z0.out; omega)
          have HM := Lib.hid hM; have HF6 := Lib.hid hF; have HB6 := Lib.hid hB; have HH := Lib.hid hH; have HT := Lib.hid hT; have HZW := Lib.hid hW
          clear HI HI0 HI1 HC HBB HOB hM hF hB hH hT hW hlt hj ho hbe hbo zq HBA SB HX HT0
          go_wp2
          obtain ⟨w6, rfl⟩ : ∃ w6 : World, w6 = wr := ⟨_, rfl⟩
          go_loopw [16] (fun t16 wr => ∃ (i : Nat) (S' R' : Nat → Prop), t16 = .int .i64 i ∧ i ≤ ord.length ∧ OnM W0 w6 S t gs S' R' wr) (fun t16 _ => ord.length - (intOf t16).toNat)
          case atStart => exact ⟨0, S, R, rfl, Nat.zero_le _, HM.out⟩
          case round =>
            obtain ⟨i, S7, R7, rfl, hi, hM7⟩ := hrel
            obtain ⟨w7, rfl⟩ : ∃ w7 : World, w7 = wr := ⟨_, rfl⟩
            have hbw : Below w.heap.size w w7 := HB0.out.trans (hM7.tab.be.mono HB0.out.size)
            by_cases hlt : i < ord.length
            · obtain ⟨o, ho⟩ : ∃ o, ord[i]? = some o := ⟨ord[i], by simp [hlt]⟩
              obtain ⟨b2, o2, e2, _, p2w⟩ := IntsAt.at HO.out ho
              subst e2
              have p2 := (hbw.cell (World.block_lt_of_cell? _ _ p2w)).trans p2w
              have hlt' : (i : Int) < ord.length := by omega
              have hi6 : (i : Int) < 1000000 := by have := H60.out; omega
              have HM7 := Lib.hid hM7; have HLT := Lib.hid hlt; have HBW := Lib.hid hbw; have P2W := Lib.hid p2w
              clear hM7 hlt hi hbw ho p2w
              by_cases hneg : o < 0
              · go_wp2
                go_ret
                exact ⟨rfl, HBW.out⟩
              by_cases hge : (l.length : Int) ≤ o
              · go_wp2
                go_ret
                exact ⟨rfl, HBW.out⟩
              obtain ⟨on, rfl⟩ : ∃ on : Nat, o = on := ⟨o.toNat, by omega⟩
              have hol : on < l.length := by omega
              obtain ⟨g, hg⟩ : ∃ g, l[on]? = some g := ⟨l[on], by simp [hol]⟩
              obtain ⟨b1, o1, a2, c2, e1, p0w, hgr⟩ := HLL.out.at hg
              subst e1
              have p0 := (HBW.out.cell (World.block_lt_of_cell? _ _ p0w)).trans p0w
              obtain ⟨hne, hg6, hpl, hok, hmem, hfo⟩ := HH.out.each on g hol hg
              have hol' : (on : Int) < l.length := by omega
              have HOL := Lib.hid hol; have HG := Lib.hid hg; have P0W := Lib.hid p0w; have HGR := Lib.hid hgr; have HNE := Lib.hid hne; have HG6 := Lib.hid hg6; have HPL := Lib.hid hpl; have HOK := Lib.hid hok; have HME := Lib.hid hmem; have HFO := Lib.hid hfo
              clear hol hg p0w hgr hne hg6 hpl hok hmem hfo
              go_wp2
              clear p0 p2
              go_loopw [18, 19] (fun t18 t19 wr => ∃ k : Nat, t19 = .int .i64 k ∧ k ≤ g.length ∧ MovI w7 t18 k ((g.take k).map (mapP (shiftH j))) wr) (fun _ t19 _ => g.length - (intOf t19).toNat)
              case atStart => exact ⟨0, rfl, Nat.zero_le _, ⟨[], rfl, by simp, owns_zero _ _ _ _, by simp⟩, rfl, Below.refl _ _⟩
              case round =>
                obtain ⟨k, rfl, hk, hI⟩ := hrel
                by_cases hlt : k < g.length
--CUT 2
                · obtain ⟨x, hx⟩ : ∃ x, g[k]? = some x := ⟨g[k], by simp [hlt]⟩
                  have hwk : Below w.heap.size w wr := HBW.out.trans (hI.be.mono HBW.out.size)
                  obtain ⟨b3, o3, e3, _, d1, f1, d2, f2, d3, f3, d4, f4, sb, q0, q1, q2, q3, q4, q5⟩ := (HGR.out.below hwk (Nat.le_refl _)).at hx
                  subst e3
                  have hlt' : (k : Int) < g.length := by omega
                  have hk6 : (k : Int) < 1000000 := by have := HG6.out; omega
                  have hW0 : Below W0.heap.size W0 wr := HM7.out.tab.be.trans (hI.be.mono HM7.out.tab.be.size)
                  have zb : wr.heap[w.heap.size]? = some (.cells #[.int .i64 j] 3 (0, 0)) := (hW0.block _ (heap_lt Z0.out)).trans Z0.out
                  have hmem := List.mem_of_getElem? hx
                  have hcx := (HR.out g (List.mem_of_getElem? HG.out) x hmem).2
                  have FN := shift_ok wr wr.heap.size w.heap.size j zb (heap_lt zb) (by have := H20.out; omega)
                  have C := map_any FN _ x () 0 (fun _ => False) wr (fun w' hu => sb.below (hu.toBelow (fun _ h => h)) (Nat.le_refl _)) (small_of_cnt hcx) (plain_DS (HPL.out x hmem)) ⟨Below.refl _ _, fun _ h => h, Nat.le_refl _⟩
                  rw [mapSub_mapP (f := shiftH j) (fun _ _ => rfl)] at C
                  have hstep : (g.take (k + 1)).map (mapP (shiftH j)) = (g.take k).map (mapP (shiftH j)) ++ [mapP (shiftH j) x] := by
                    rw [List.take_add_one, hx]; simp
                  have HC4 := Lib.hid C; have HI := Lib.hid hI; have HST := Lib.hid hstep; have HLT4 := Lib.hid hlt
                  clear C hI hstep hlt hx hk sb hwk hW0 zb hmem hcx FN
                  go_wp2_with fail
                  refine HC4.out.mono ?_
                  rintro e w1 ⟨ds, rfl, T1, hsub, hj1, hu1, _⟩
                  have hb1 : Below wr.heap.size wr w1 := hu1.toBelow (fun _ h => h)
                  obtain ⟨cs, hcl, hc6, hown, hsubs⟩ := HI.out.ex
                  obtain ⟨x2, hx2⟩ : ∃ x2, mapP (shiftH j) x = x2 := ⟨_, rfl⟩
                  rw [hx2] at hsub
                  have hst := HST.out
                  rw [hx2] at hst
                  have hsub1 := hsub w1 (Upd.refl _ _)
                  have hds := one_S hsub1
                  have hown1 : w1.ownsRow w7.heap.size 48 6 u18 k cs.flatten := ownsRow_upd hown (Upd.of_below hb1 : Upd (fun _ => False) wr w1) (fun _ _ h => h)
                  obtain ⟨a5, c5, a6, c6, a7, c7, a8, c8, rfl⟩ := hsub1.out
                  obtain ⟨ds, hdse⟩ : ∃ ds : List Value, ds = [.bool x2.fin, .slice a5 x2.sups.length c5, .int .i64 x2.k, .slice a6 x2.ps.length c6, .slice a7 x2.rs.length c7, .slice a8 x2.fs.length c8] := ⟨_, rfl⟩
                  rw [← hdse] at hsub hds
                  have HR4 := Lib.hid (row_cells (cs := ds) (heap_alloc_at w1 (.cells ds.toArray 48) rfl))
                  obtain ⟨ao9, co9, hu18, _⟩ := ownsRow_form hown1
                  subst hu18
                  have hsub' : ∀ w'', Upd (fun b => b < wr.heap.size) w1 w'' → SubAt w'' ds x2 := fun w'' hu => hsub w'' (hu.mono fun b _ hb => .inl hb)
                  have hg6 := HG6.out
                  have hlt2 := HLT4.out
                  have hb7 := HI.out.be.size
                  have hb8 := hb1.size
                  have HDS := Lib.hid hds; have HSUB := Lib.hid hsub'; have HO1 := Lib.hid hown1; have HB1W := Lib.hid hb1; have HST2 := Lib.hid hst; have HOW := Lib.hid hown; have HSB := Lib.hid hsubs; have HC6 := Lib.hid hc6; have HCL := Lib.hid hcl; have HDE := Lib.hid hdse
                  rw [hdse] at HR4
                  clear hds hsub hsub' hown1 hu1 hj1 hst hown hsubs hc6 hcl hsub1 hx2 HC4 HST q0 q1 q2 q3 q4 q5 hdse hb1
                  go_wp2_with (at_builtin; refine wpList_append_own2 _ rfl _ _ 33 rfl w7.heap.size 48 i0 _ 6 112 Tryd.underlying33 Hi.out Hz0.out Hz1.out Hz2.out rfl (by decide) _ _ _ rfl (HO1.out.alloc _) ⟨w1.heap.size, 0, none⟩ 1 1 [.bool x2.fin, .slice a5 x2.sups.length c5, .int .i64 x2.k, .slice a6 x2.ps.length c6, .slice a7 x2.rs.length c7, .slice a8 x2.fs.length c8] rfl rfl HR4.out (by rw [← HDE.out]; exact HDS.out.2) (by simp [maxLen]; omega) (by omega) (by simp; omega) (by decide) ?_)
                  intro v2 w2 o2 gr2 mv2
                  rw [← HDE.out] at o2
                  have O2 := Lib.hid o2; have GR2 := Lib.hid gr2; have MV2 := Lib.hid mv2
                  clear o2 gr2 mv2 hg6 hlt2 hb7 hb8
                  go_wp2
                  go_roundw
                  case rel =>
                    refine ⟨k + 1, by go_num, HLT4.out, ?_⟩
                    rw [HST2.out]
                    exact MovI.next HI.out HCL.out HC6.out HOW.out HSB.out HSUB.out HDS.out.1 HB1W.out O2.out GR2.out MV2.out
                  case measure => have := HLT4.out; simp [intOf]; omega
--END 2
                · obtain rfl : k = g.length := by omega
                  have hlt' : ¬ (g.length : Int) < g.length := by omega
                  rw [List.take_length] at hI
                  have hM8 := HM7.out.below hI.be
                  have hgrp := hI.grp
                  obtain ⟨a18, c18, hu18⟩ := hgrp.form
                  rw [List.length_map] at hu18
                  subst hu18
                  have hbeh : ∀ i ∈ List.replicate j (0 : Int), inTab gs i = true := fun i hi => by
                    rw [List.eq_of_mem_replicate hi]; exact HH.out.zero
                  have hadd := addG_moved hbeh HPL.out HOK.out HME.out (by have := HG6.out; have := H20.out; simp; omega)
                  rw [List.length_replicate] at hadd
                  have hraw : RawG (g.map (mapP (shiftH j))) := shift_raw (by have := HG6.out; omega) (by have := H20.out; omega) (fun x hx => HPL.out x hx) (fun x hx => HR.out g (List.mem_of_getElem? HG.out) x hx)
                  have CA := add_n hM8.tab (fun w' hu => HB6.out w' (hM8.up.trans hM8.fr hu)) (by have := H20.out; simp; omega) hgrp hraw HTAB.out
                  rw [hadd] at CA
                  have CL := len_any hM8.tab.tab
                  have HCA := Lib.hid CA; have HCL := Lib.hid CL; have HM8 := Lib.hid hM8
                  clear CA CL hM8 hgrp hbeh hadd hraw hI hlt hk
                  go_wp2_with fail
                  refine HCL.out.mono ?_
                  rintro e w8 ⟨rfl, rfl⟩
                  go_wp2_with fail
                  refine HCA.out.mono ?_
                  rintro e w9 ⟨u9, S9, R9, rfl, ht9, hi9, hu9, hf9, _⟩
                  obtain ⟨f, hf⟩ : ∃ f, firstG gs (rollG [] g).1 = f := ⟨_, rfl⟩
                  have hfo := HFO.out
                  rw [hf] at hfo hi9
                  have hi9' := hi9 w9 (Upd.refl _ _)
                  obtain ⟨au9, cu9, hu9f⟩ := RowAt.form hi9'
                  obtain ⟨n9, hn9⟩ : ∃ n9 : Nat, j + g.length = n9 := ⟨_, rfl⟩
                  have hlen9 : (List.replicate j (0 : Int) ++ (List.range g.length).map (fun k : Nat => f + (k : Int))).length = n9 := by simp [hn9]
                  dsimp only at hi9' hu9f
                  rw [hlen9] at hu9f
                  subst hu9f
                  have hM9 := HM8.out.add ht9 hu9 hf9
                  have hgl := List.length_pos_iff.2 HNE.out
                  have hv9 : (List.replicate j (0 : Int) ++ (List.range g.length).map (fun k : Nat => f + (k : Int)))[j]? = some f := by
                    rw [List.getElem?_append_right (by simp), List.length_replicate, Nat.sub_self, List.getElem?_map, List.getElem?_range hgl]; simp
                  have hi9c : IntsAt w9 (.slice au9 (List.replicate j (0 : Int) ++ (List.range g.length).map (fun k : Nat => f + (k : Int))).length cu9) (List.replicate j (0 : Int) ++ (List.range g.length).map (fun k : Nat => f + (k : Int))) := by rw [hlen9]; exact hi9'
                  obtain ⟨b9, o9, e9, _, v9⟩ := IntsAt.at hi9c hv9
                  subst e9
                  have hff := HF6.out w9 hM9.up
                  obtain ⟨bf, of, ef, _, vf9⟩ := IntsAt.at (l := fs) (by have e := HH.out.len; rw [e]; exact hff) hfo
                  subst ef
                  have hbw9 : Below w.heap.size w w9 := HB0.out.trans (hM9.tab.be.mono HB0.out.size)
                  have po9 := (hbw9.cell (World.block_lt_of_cell? _ _ P2W.out)).trans P2W.out
                  have zb9 := (hM9.tab.be.block _ (heap_lt Z0.out)).trans Z0.out
                  have cb9 := heap_cell zb9 0
                  simp at cb9
                  have CL := fun n : Nat => len_any (hM9.tab.tab.below (⟨rfl, rfl, rfl, Nat.le_refl _, fun _ _ => rfl⟩ : Below w9.heap.size w9 (w9.drewN n)))
                  have hsum : ((j : Int) + (g.length : Int)) = (n9 : Int) := by omega
                  have hjl : (j : Int) < (n9 : Int) := by omega
                  have hs9 : IntKind.i64.wrap (n9 : Int) = n9 := IntWalk.i64_in _ (by have := H20.out; have := HG6.out; omega)
                  have h20 := H20.out
                  have h6' := HG6.out
                  have HCL9 := Lib.hid CL; have HM9 := Lib.hid hM9; have HBW9 := Lib.hid hbw9; have HF := Lib.hid hf; have HFO9 := Lib.hid hfo
                  clear hn9 hi9 hi9' hi9c hv9 hlen9 hff hM9 hu9 hf9 ht9 zb9 hbw9 CL hf hfo hgl
                  dsimp only
                  go_wp2
                  go_quiet ((go_at_call 15; exact Calls.quiet_of_same (HCL9.out _)))
                  go_wp2
                  have hb10 : Below w9.heap.size w9 (w9.drewN nq) := ⟨rfl, rfl, rfl, Nat.le_refl _, fun _ _ => rfl⟩
                  have HB10 := Lib.hid hb10
                  clear hb10 v9 vf9 po9 cb9 hsum hjl h20 h6' hs9
                  go_loopw [23] (fun t23 wr => ∃ k : Nat, t23 = .int .i64 k ∧ k ≤ l.length ∧ Below w9.heap.size w9 wr) (fun t23 _ => l.length - (intOf t23).toNat)
                  case atStart => exact ⟨0, rfl, Nat.zero_le _, HB10.out⟩
                  case round =>
                    obtain ⟨k, rfl, hk, hbk⟩ := hrel
                    by_cases hkl : k < l.length
--CUT 3
                    · obtain ⟨g2, hg2⟩ : ∃ g2, l[k]? = some g2 := ⟨l[k], by simp [hkl]⟩
                      obtain ⟨b', o', a3, c3, e', p3w, hgr2⟩ := HLL.out.at hg2
                      simp only [Option.some.injEq, Addr.mk.injEq, and_true] at e'
                      obtain ⟨rfl, rfl⟩ := e'
                      have hwk : Below w.heap.size w wr := HBW9.out.trans (hbk.mono HBW9.out.size)
                      have p3 := (hwk.cell (World.block_lt_of_cell? _ _ p3w)).trans p3w
                      obtain ⟨hne2, hg62, hpl2, hok2, hmem2, hfo2⟩ := HH.out.each k g2 hkl hg2
                      obtain ⟨f2, hf2⟩ : ∃ f2, firstG gs (rollG [] g2).1 = f2 := ⟨_, rfl⟩
                      rw [hf2] at hfo2
                      have hiff : f2 = f ↔ g2 = g := by
                        rw [← hf2, ← HF.out, firstG_iff HM9.out.tab.ok.ne hmem2 HME.out]
                        exact ⟨fun e => rollG_inj hpl2 HPL.out hok2 HOK.out e, fun e => by rw [e]⟩
                      have hkl' : (k : Int) < l.length := by omega
                      have hk6 : (k : Int) < 1000000 := by have := H12.out; omega
                      have HKL := Lib.hid hkl; have HBK := Lib.hid hbk; have P3W := Lib.hid p3w; have HGR2 := Lib.hid hgr2; have HFO2 := Lib.hid hfo2; have HIF := Lib.hid hiff; have HWK := Lib.hid hwk; have HG2 := Lib.hid hg2; have HG62 := Lib.hid hg62
                      clear hkl hbk p3w hgr2 hfo2 hiff hwk hf2 hne2 hg62 hpl2 hok2 hmem2 hg2 hk
                      obtain ⟨sl, hsl⟩ := boolOf' (g2.length = g.length)
                      have hcmp : ((g2.length : Int) == (g.length : Int)) = sl := by
                        rw [Bool.eq_iff_iff, hsl]; simp; omega
                      have hcmpN : (g2.length == g.length) = sl := by
                        rw [Bool.eq_iff_iff, hsl]; simp
                      have HSL := Lib.hid hsl
                      clear hsl
                      go_wp2
                      clear hcmp hcmpN p3
                      go_loopw [24, 25] (fun t24 t25 wq => ∃ (m : Nat) (sm : Bool), t24 = .bool sm ∧ t25 = .int .i64 m ∧ m ≤ g.length ∧ (sm = true ↔ (g2.length = g.length ∧ g2.take m = g.take m)) ∧ Below w9.heap.size w9 wq) (fun _ t25 _ => g.length - (intOf t25).toNat)
                      case atStart => exact ⟨0, sl, rfl, rfl, Nat.zero_le _, by rw [HSL.out]; simp, HBK.out⟩
                      case round =>
                        obtain ⟨m, sm, rfl, rfl, hm, hsm, hbm⟩ := hrel
                        have hwm : Below w.heap.size w wr := HBW9.out.trans (hbm.mono HBW9.out.size)
                        have p3 := (hwm.cell (World.block_lt_of_cell? _ _ P3W.out)).trans P3W.out
                        have hend : (sm = true ↔ g2 = g) → sm = decide (f2 = f) := fun h => by
                          rw [Bool.eq_iff_iff, h, ← HIF.out]; simp
                        have HEND := Lib.hid hend
                        clear hend
                        by_cases hgo : sm = true ∧ m < g.length
--CUT 4
                        · obtain ⟨rfl, hml⟩ := hgo
                          obtain ⟨hll, htk⟩ := hsm.1 rfl
                          obtain ⟨x, hx⟩ : ∃ x, g[m]? = some x := ⟨g[m], by simp [hml]⟩
                          obtain ⟨y, hy⟩ : ∃ y, g2[m]? = some y := ⟨g2[m]'(by omega), by simp⟩
                          obtain ⟨b4, o4, e4, _, d1, f1, d2, f2', d3, f3, d4, f4, sx, q0, q1, q2, q3, q4, q5⟩ := (HGR.out.below hwm (Nat.le_refl _)).at hx
                          obtain ⟨b5, o5, e5, _, d5, f5, d6, f6, d7, f7, d8, f8, sy, r0, r1, r2, r3, r4, r5⟩ := (HGR2.out.below hwm (Nat.le_refl _)).at hy
                          subst e4 e5
                          have hml' : (m : Int) < g.length := by omega
                          have hml2 : (m : Int) < g2.length := by omega
                          have hm6 : (m : Int) < 1000000 := by have := HG6.out; omega
                          obtain ⟨bs, hbs⟩ : ∃ bs, decide (y = x) = bs := ⟨_, rfl⟩
                          have hstep : bs = true ↔ (g2.length = g.length ∧ g2.take (m + 1) = g.take (m + 1)) := by
                            rw [← hbs, List.take_add_one, List.take_add_one, hx, hy, htk]
                            simp [hll]
                          have hsx := small_of_cnt (HR.out g (List.mem_of_getElem? HG.out) x (List.mem_of_getElem? hx)).2
                          have hsy := small_of_cnt (HR.out g2 (List.mem_of_getElem? HG2.out) y (List.mem_of_getElem? hy)).2
                          have qx0 : ∀ x' : Ext wr, x'.val.cell? ⟨b4, o4 + m * 6, none⟩ = some (.bool x.fin) := Ext.cells q0
                          have qx1 : ∀ x' : Ext wr, x'.val.cell? ⟨b4, o4 + m * 6 + 1, none⟩ = some (.slice d1 x.sups.length f1) := Ext.cells q1
                          have qx2 : ∀ x' : Ext wr, x'.val.cell? ⟨b4, o4 + m * 6 + 2, none⟩ = some (.int .i64 x.k) := Ext.cells q2
                          have qx3 : ∀ x' : Ext wr, x'.val.cell? ⟨b4, o4 + m * 6 + 3, none⟩ = some (.slice d2 x.ps.length f2') := Ext.cells q3
                          have qx4 : ∀ x' : Ext wr, x'.val.cell? ⟨b4, o4 + m * 6 + 4, none⟩ = some (.slice d3 x.rs.length f3) := Ext.cells q4
                          have qx5 : ∀ x' : Ext wr, x'.val.cell? ⟨b4, o4 + m * 6 + 5, none⟩ = some (.slice d4 x.fs.length f4) := Ext.cells q5
                          have rx0 : ∀ x' : Ext wr, x'.val.cell? ⟨b5, o5 + m * 6, none⟩ = some (.bool y.fin) := Ext.cells r0
                          have rx1 : ∀ x' : Ext wr, x'.val.cell? ⟨b5, o5 + m * 6 + 1, none⟩ = some (.slice d5 y.sups.length f5) := Ext.cells r1
                          have rx2 : ∀ x' : Ext wr, x'.val.cell? ⟨b5, o5 + m * 6 + 2, none⟩ = some (.int .i64 y.k) := Ext.cells r2
                          have rx3 : ∀ x' : Ext wr, x'.val.cell? ⟨b5, o5 + m * 6 + 3, none⟩ = some (.slice d6 y.ps.length f6) := Ext.cells r3
                          have rx4 : ∀ x' : Ext wr, x'.val.cell? ⟨b5, o5 + m * 6 + 4, none⟩ = some (.slice d7 y.rs.length f7) := Ext.cells r4
                          have rx5 : ∀ x' : Ext wr, x'.val.cell? ⟨b5, o5 + m * 6 + 5, none⟩ = some (.slice d8 y.fs.length f8) := Ext.cells r5
                          have p3x : ∀ x' : Ext wr, x'.val.cell? ⟨b1, o1 + k, none⟩ = some (.slice (some ⟨b5, o5, none⟩) g2.length c3) := Ext.cells p3
                          have SX := Lib.hid sx; have SY := Lib.hid sy; have HBS := Lib.hid hbs; have HST := Lib.hid hstep; have HSX := Lib.hid hsx; have HSY := Lib.hid hsy; have HML := Lib.hid hml; have HBM := Lib.hid hbm
                          clear sx sy hbs hstep hsx hsy hml hbm hsm hll htk hx hy q0 q1 q2 q3 q4 q5 r0 r1 r2 r3 r4 r5 p3 hm hwm
                          go_wp2
                          refine wp_region_calm (by kernel_rfl) (by kernel_rfl) ?_
                          repeat (go_big_quiet_step (first | (go_at_call 16; exact Ext.call _ ((same_any _ _ _ _ _ (SY.out.ext _) (SX.out.ext _) HSY.out HSX.out).mono (by rintro e w' ⟨rfl, hb⟩; exact ⟨by rw [HBS.out], hb⟩)))))
                          refine wpQuiet_nil ?_
                          rintro _ ⟨xe, rfl⟩
                          clear p3x qx0 qx1 qx2 qx3 qx4 qx5 rx0 rx1 rx2 rx3 rx4 rx5
                          go_wp2
                          go_roundw
                          case rel => exact ⟨m + 1, bs, rfl, by go_num, HML.out, HST.out, HBM.out.trans (xe.2.mono HBM.out.size)⟩
                          case measure => have := HML.out; simp [intOf]; omega
--END 4
                        · have hsg : sm = true ↔ g2 = g := by
                            constructor
                            · intro h
                              obtain ⟨h1, h2⟩ := hsm.1 h
                              have hmg : m = g.length := by
                                have : ¬ m < g.length := fun e => hgo ⟨h, e⟩
                                omega
                              subst hmg
                              rw [List.take_length, ← h1, List.take_length] at h2; exact h2
                            · intro h
                              subst h
                              exact hsm.2 ⟨rfl, rfl⟩
                          have hsm2 := HEND.out hsg
                          have hff := HF6.out wr (HM9.out.below hbm).up
                          have hff' : IntsAt wr (.slice (some ⟨bf, of, none⟩) fs.length cu6) fs := by have e := HH.out.len; rw [e]; exact hff
                          obtain ⟨bx, ox, ex, _, v1⟩ := IntsAt.at hff' HFO9.out
                          simp only [Option.some.injEq, Addr.mk.injEq, and_true] at ex
                          obtain ⟨rfl, rfl⟩ := ex
                          obtain ⟨bx, ox, ex, _, v2⟩ := IntsAt.at hff' HFO2.out
                          simp only [Option.some.injEq, Addr.mk.injEq, and_true] at ex
                          obtain ⟨rfl, rfl⟩ := ex
                          have po := (hwm.cell (World.block_lt_of_cell? _ _ P2W.out)).trans P2W.out
                          have hcond : sm = true → ¬ (m : Int) < g.length := fun h e => hgo ⟨h, by omega⟩
                          have HBM := Lib.hid hbm
                          have hdone : ∀ wz, Below wr.heap.size wr wz → Below w9.heap.size w9 wz := fun wz h => hbm.trans (h.mono hbm.size)
                          have HD := Lib.hid hdone
                          clear hdone hff hff' hsg hsm hgo hbm hm p3 hwm
                          by_cases hef : f2 = f
                          · have : sm = true := by rw [hsm2]; simpa using hef
                            subst this
                            have hc := hcond rfl
                            subst hef
                            clear hcond hsm2
                            go_wp2
                            go_quiet (fail)
                            go_wp2
                            go_roundw
                            case rel => exact ⟨k + 1, by go_num, HKL.out, HD.out _ ⟨rfl, rfl, rfl, Nat.le_refl _, fun _ _ => rfl⟩⟩
                            case measure => have := HKL.out; simp [intOf]; omega
                          · have : sm = false := by rw [hsm2]; simpa using hef
                            subst this
                            have hef' : (f2 == f) = false := by simpa using hef
                            clear hcond hsm2 hef
                            go_wp2
                            go_quiet (fail)
                            go_wp2
                            go_roundw
                            case rel => exact ⟨k + 1, by go_num, HKL.out, HD.out _ ⟨rfl, rfl, rfl, Nat.le_refl _, fun _ _ => rfl⟩⟩
                            case measure => have := HKL.out; simp [intOf]; omega
--END 3
                    · obtain rfl : k = l.length := by omega
                      have hkl' : ¬ (l.length : Int) < l.length := by omega
                      have HBK := Lib.hid hbk
                      clear hbk hkl hk
                      go_wp2
                      go_roundw
                      case rel => exact ⟨i + 1, S9, R9, by go_num, HLT.out, HM9.out.below HBK.out⟩
                      case measure => have := HLT.out; simp [intOf]; omega
            · obtain rfl : i = ord.length := by omega
              have hlt' : ¬ (ord.length : Int) < ord.length := by omega
              have HBW := Lib.hid hbw
              clear hM7 hlt hi hbw
              go_wp2
              go_ret
              exact ⟨rfl, HBW.out⟩
end Go.Proofs.YtmjehnjodaicfaaDoor
