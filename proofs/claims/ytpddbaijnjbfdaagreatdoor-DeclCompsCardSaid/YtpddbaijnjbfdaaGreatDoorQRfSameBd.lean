import Derived.Test.YtpddbaijnjbfdaaGreatDoorQRfWith
namespace Go.Proofs.YtpddbaijnjbfdaaGreatDoor
open Lib (hid)
section
open Go.RowKit
theorem own_set2 {w : World} {base g n cap i : Nat} {e : TypeId} {xs : List Value} {y0 y1 : Value} (h : w.ownsRow base e 2 (.slice (some ⟨g, 0, none⟩) n cap) n xs) :
    (w.setCells g (i * 2) [y0, y1]).ownsRow base e 2 (.slice (some ⟨g, 0, none⟩) n cap) n ((xs.set (i * 2) y0).set (i * 2 + 1) y1) ∧ w.grownBy (w.setCells g (i * 2) [y0, y1]) (some g) := by
  obtain ⟨h1, g1⟩ := h.stored (i * 2) y0
  obtain ⟨h2, g2⟩ := h1.stored (i * 2 + 1) y1
  exact ⟨h2, ⟨g2.os.trans g1.os, g2.tape.trans g1.tape, g2.output.trans g1.output, Nat.le_trans g1.size g2.size, fun k hk hn => (g2.block k (Nat.lt_of_lt_of_le hk g1.size) hn).trans (g1.block k hk hn)⟩⟩
theorem flatH_set (l : List Hp) (i : Nat) (h : Hp) : flatH (l.set i h) = ((flatH l).set (i * 2) (.int .i64 h.k)).set (i * 2 + 1) (.int .i64 h.n) := by
  induction l generalizing i with
  | nil => simp [flatH]
  | cons a l ih =>
    cases i with
    | zero => simp [flatH, cellsH]
    | succ i =>
      have e : (i + 1) * 2 = i * 2 + 1 + 1 := by omega
      rw [e]
      have := ih i
      simp only [flatH] at this
      simp [flatH, cellsH, this]
def part {α : Type} (f : α → α) (l : List α) (k : Nat) : List α := (l.take k).map f ++ l.drop k
variable {α : Type} {f : α → α} {l : List α} {k : Nat} {x : α}
theorem part_zero : part f l 0 = l := by simp [part]
theorem part_len : (part f l k).length = l.length := by simp [part]; omega
theorem part_full (h : l.length ≤ k) : part f l k = l.map f := by simp [part, List.take_of_length_le h, List.drop_eq_nil_of_le h]
theorem part_at (hx : l[k]? = some x) : (part f l k)[k]? = some x := by
  have hk := (List.getElem?_eq_some_iff.1 hx).1
  rw [part, List.getElem?_append_right (by simp; omega)]
  simp [Nat.min_eq_left (Nat.le_of_lt hk), hx]
theorem part_succ (hx : l[k]? = some x) : part f l (k + 1) = (part f l k).set k (f x) := by
  obtain ⟨hk, hg⟩ := List.getElem?_eq_some_iff.1 hx
  have hd : l.drop k = x :: l.drop (k + 1) := by rw [List.drop_eq_getElem_cons hk, hg]
  rw [part, part, List.take_add_one, hx, hd, List.set_append_right _ _ (by simp; omega)]
  simp [Nat.min_eq_left (Nat.le_of_lt hk)]
theorem part_same (hx : l[k]? = some x) (h : f x = x) : part f l (k + 1) = part f l k := by
  rw [part_succ hx, h]
  obtain ⟨hk, hg⟩ := List.getElem?_eq_some_iff.1 (part_at (f := f) hx)
  rw [← hg, List.set_getElem_self]
structure RolR (w : World) (u : Value) (i : Nat) (ys : List Sb) (W : World) : Prop where
  ex : ∃ cs : List (List Value), cs.length = i ∧ (∀ c ∈ cs, c.length = 6) ∧ W.ownsRow w.heap.size 46 6 u i cs.flatten ∧ ∀ (j : Nat) c x, cs[j]? = some c → ys[j]? = some x → ∀ w'', Upd (fun b => b < w.heap.size ∨ u.ownBlock = some b) W w'' → SubAt w'' c x
  be : Below w.heap.size w W
theorem rolr_step {w wr wz w1 w2 : World} {i : Nat} {u8 v2 : Value} {ys : List Sb} {cs : List (List Value)} {ds : List Value} {x2 : Sb} {o' : Obj} (hbe : Below w.heap.size w wr)
    (hcl : cs.length = i) (hc6 : ∀ c ∈ cs, c.length = 6) (hown : wr.ownsRow w.heap.size 46 6 u8 i cs.flatten)
    (hsubs : ∀ (j : Nat) c x, cs[j]? = some c → ys[j]? = some x → ∀ w'', Upd (fun b => b < w.heap.size ∨ u8.ownBlock = some b) wr w'' → SubAt w'' c x) (hyl : ys.length = i)
    (hz : wr.heap.size ≤ wz.heap.size) (hsub : ∀ w'', Upd (fun b => b < wz.heap.size) w1 w'' → SubAt w'' ds x2) (hd6 : ds.length = 6) (hu1 : Below wr.heap.size wr w1)
    (o2 : w2.ownsRow w.heap.size 46 6 v2 (i + 1) (cs.flatten ++ ds)) (gr2 : (w1.alloc o').grownBy w2 u8.ownBlock) (mv2 : MovedUp (w1.alloc o') u8 v2)
   : RolR w v2 (i + 1) (ys ++ [x2]) w2 := by
  have hob : ∀ k, u8.ownBlock = some k → w.heap.size ≤ k ∧ k < wr.heap.size := fun k hk => hown.lt k hk
  have hs1 := hu1.size
  have hs0 := hbe.size
  have u02 : Upd (fun b => b < w.heap.size ∨ u8.ownBlock = some b) wr w2 := ((Upd.of_below hu1).alloc o').grown gr2 (fun k hk => .inl (.inr hk))
  have u12 : Upd (fun b => b < wz.heap.size) w1 w2 := ((Upd.refl _ w1).alloc o').grown gr2 (fun k hk => .inl (by have := (hob k hk).2; omega))
  have hmv : ∀ b, v2.ownBlock = some b → u8.ownBlock = some b ∨ w1.heap.size ≤ b := fun b hb => by
    rcases mv2 with e | e
    · exact .inl (by rw [← e]; exact hb)
    · have := e b hb; simp at this; exact .inr (by omega)
  refine ⟨⟨cs ++ [ds], by simp [hcl], ?_, by simpa using o2, ?_⟩, ?_⟩
  · intro c hc
    simp at hc
    rcases hc with hc | rfl
    · exact hc6 c hc
    · exact hd6
  · intro j c x hc hx w'' hu
    by_cases hj : j < i
    · rw [List.getElem?_append_left (by omega)] at hc hx
      refine hsubs j c x hc hx w'' (u02.trans (fun b hb => ?_) hu)
      rcases hb with hb | hb
      · exact .inl (.inl hb)
      · rcases hmv b hb with h | h
        · exact .inl (.inr h)
        · exact .inr (by omega)
    · have hj2 : j = i := by
        have := (List.getElem?_eq_some_iff.1 hc).1
        simp at this; omega
      subst hj2
      rw [List.getElem?_append_right (by omega)] at hc hx
      simp [hcl, hyl] at hc hx
      subst hc hx
      refine hsub w'' (u12.trans (fun b hb => ?_) hu)
      rcases hb with hb | hb
      · exact .inl (by omega)
      · rcases hmv b hb with h | h
        · exact .inl (by have := (hob b h).2; omega)
        · exact .inr h
  · have hb1 : Below w.heap.size w w1 := hbe.trans (hu1.mono hs0)
    exact (hb1.alloc hb1.size o').grown gr2 (by have := hb1.size; simp; omega) (fun k hk => by have := (hob k hk).1; omega)
end
section
open Go.RowKit
theorem rollR_none {ids : List Int} {g : List Sb} {i : Nat} {x : Sb} (hx : g[i]? = some x) (h : rollB ids g.length x = false) : rollR ids g = none := by
  unfold rollR
  rw [if_neg]
  intro e
  have := List.all_eq_true.1 e x (List.mem_of_getElem? hx)
  rw [h] at this; cases this
theorem can_none {ids : List Int} {g : List Sb} {i k : Nat} {x : Sb} {h : Hp} (hx : g[i]? = some x) (hh : (heapsR x)[k]? = some h) (hc : canB ids g.length h = false) : rollR ids g = none := by
  refine rollR_none hx ?_
  unfold rollB
  rw [Bool.and_eq_false_iff]
  right
  rw [List.all_eq_false]
  exact ⟨h, List.mem_of_getElem? hh, by simp [hc]⟩
theorem own_form {w : World} {base n sz cap k : Nat} {e : TypeId} {ao : Option Addr} {xs : List Value} (h : w.ownsRow base e sz (.slice ao n cap) n xs) (hk : k < n) : ∃ g, ao = some ⟨g, 0, none⟩ ∧ base ≤ g := by
  rcases h.2 with ⟨h', _⟩ | ⟨g, cap', cur, h', hb, _⟩
  · simp at h'; omega
  · simp at h'
    exact ⟨g, h'.1, hb⟩
structure RolK (ids : List Int) (gn : Nat) (L : List Hp) (wB : World) (v : Value) (n k : Nat) (W : World) : Prop where
  le : k ≤ n
  can : ∀ h ∈ L.take k, canB ids gn h = true
  own : W.ownsRow wB.heap.size 75 2 v n (flatH (part (shutP ids) L k))
  be : Below wB.heap.size wB W
set_option maxRecDepth 100000 in
set_option maxHeartbeats 16000000 in
theorem rRoll_any (v1 v2 : Value) (ids : List Int) (g : List Sb) (w : World) (h1 : IntsAt w v1 ids) (h2 : GrpAt w v2 g) (hin : ids.length ≤ 1000000) (hgn : g.length ≤ 1000000) (hs : ∀ x ∈ g, Small x ∧ cnt x ≤ 1000000) :
    Calls Tryz.prog 58 #[v1, v2] w fun e w' => ((rollR ids g = none ∧ e = .returned (.tuple #[.slice none 0 0, .bool false])) ∨ ∃ r u, rollR ids g = some r ∧ e = .returned (.tuple #[u, .bool true]) ∧ ∀ w'', Upd (fun b => b < w.heap.size) w' w'' → GrpAt w'' u r) ∧ Below w.heap.size w w' := by
  obtain ⟨a1, c1, rfl⟩ := RowAt.form h1
  obtain ⟨a2, c2, rfl⟩ := h2.form
  obtain ⟨i0, hi, hz0, hz1, hz2⟩ := info_parts Tryz.infoSub
  have Hi := hid hi; have Hz0 := hid hz0; have Hz1 := hid hz1; have Hz2 := hid hz2
  have H1 := hid h1; have H2 := hid h2; have HIN := hid hin; have HGN := hid hgn; have HS := hid hs
  clear hi hz0 hz1 hz2 h1 h2 hin hgn hs
  go_enter Tryz.func58, Tryz.ntmps58
  go_wp2
  go_loopw [6, 8] (fun t6 t8 wr => ∃ i : Nat, t8 = .int .i64 i ∧ i ≤ g.length ∧ (∀ j x, j < i → g[j]? = some x → rollB ids g.length x = true) ∧ RolR w t6 i ((g.take i).map (mapP (shutP ids))) wr) (fun _ t8 _ => g.length - (intOf t8).toNat)
  case atStart => exact ⟨0, rfl, Nat.zero_le _, fun j x hj => by omega, ⟨[], rfl, by simp, owns_zero _ _ _ _, by simp⟩, Below.refl _ _⟩
  case round =>
    obtain ⟨i, rfl, hi, hall, hI⟩ := hrel
    by_cases hlt : i < g.length
    · obtain ⟨x, hx⟩ : ∃ x, g[i]? = some x := ⟨g[i], by simp [hlt]⟩
      obtain ⟨b2, o2, e2, hb2, d1, f1, d2, f2, d3, f3, d4, f4, sb, q0, q1, q2, q3, q4, q5⟩ := H2.out.at hx
      subst e2
      have hQ := fun (W : World) (hW : Below w.heap.size w W) => And.intro ((hW.cell (by simpa using hb2)).trans q0) (And.intro ((hW.cell (by simpa using hb2)).trans q1) (And.intro ((hW.cell (by simpa using hb2)).trans q2) (And.intro ((hW.cell (by simpa using hb2)).trans q3) (And.intro ((hW.cell (by simpa using hb2)).trans q4) ((hW.cell (by simpa using hb2)).trans q5)))))
      have HQ := hid hQ
      have hlt' : (i : Int) < g.length := by omega
      have hi6 : (i : Int) < 1000000 := by have := HGN.out; omega
      have hmem := HS.out x (List.mem_of_getElem? hx)
      obtain ⟨pb, hpb⟩ : ∃ b, plainS x = b := ⟨_, rfl⟩
      have C := rSub_any _ x wr (sb.below hI.be (Nat.le_refl _)) hmem.1
      rw [hpb] at C
      have HC := hid C; have HI := hid hI; have HLT := hid hlt; have HX := hid hx; have HALL := hid hall; have HPB := hid hpb; have HMEM := hid hmem; have SB := hid sb
      obtain ⟨q0, q1, q2, q3, q4, q5⟩ := hQ wr hI.be
      clear C hI hlt hx hi hall hpb hmem sb hQ
      go_wp2_with fail
      refine HC.out.mono ?_
      rintro e wB ⟨rfl, hbB⟩
      have HBB := hid hbB
      have hbe := HI.out.be.trans (hbB.mono HI.out.be.size)
      have HBE := hid hbe
      obtain ⟨q0, q1, q2, q3, q4, q5⟩ := HQ.out wB hbe
      clear hbB hbe HC
      cases pb
      · go_wp2
        refine bodyPost_ret (v := .tuple #[.slice none 0 0, .bool false]) (by simp [results, Tryz.results58, go_sem]) rfl ?_
        exact ⟨.inl ⟨rollR_none HX.out (by unfold rollB; rw [HPB.out]; rfl), rfl⟩, HBE.out⟩
      have C := rHeaps_any _ x wB (SB.out.below HBE.out (Nat.le_refl _)) HMEM.out.2
      have HC := hid C
      clear C
      go_wp2_with fail
      refine HC.out.mono ?_
      rintro e wC ⟨u9, rfl, ow, hbC⟩
      obtain ⟨L, hL⟩ : ∃ L, heapsR x = L := ⟨_, rfl⟩
      obtain ⟨n, hn⟩ : ∃ n, L.length = n := ⟨_, rfl⟩
      rw [hL, hn] at ow
      obtain ⟨a9, c9, e9⟩ := RowAt.form (RowAt.of_own ow)
      subst e9
      have hdx : ∀ h ∈ L, DIdx h := by rw [← hL]; exact ds_heaps.1 (plain_DS HPB.out)
      have hn6 : n ≤ 1000000 := by rw [← hn, ← hL]; exact Nat.le_trans (heapsR_len x) HMEM.out.2
      have HL := hid hL; have HN := hid hn; have HDX := hid hdx; have HN6 := hid hn6; have OW0 := hid ow; have HBC := hid hbC
      clear hL hn hdx hn6 ow hbC HC q0 q1 q2 q3 q4 q5
      go_wp2
      go_loopw [10] (fun t10 wz => ∃ k : Nat, t10 = .int .i64 k ∧ RolK ids g.length L wB (.slice a9 n c9) n k wz) (fun t10 _ => n - (intOf t10).toNat)
      case atStart => exact ⟨0, rfl, Nat.zero_le _, by simp, by rw [part_zero]; exact OW0.out, HBC.out⟩
      case round =>
        obtain ⟨k, rfl, hk, hcan, ow, hbz⟩ := hrel
        have hwz := HBE.out.trans (hbz.mono HBE.out.size)
        have HWZ := hid hwz; have HBZ := hid hbz; have HCAN := hid hcan
        clear hbz hcan hwz
        by_cases hlk : k < n
        · obtain ⟨y, hy⟩ : ∃ y, L[k]? = some y := ⟨L[k]'(by rw [HN.out]; exact hlk), by simp⟩
          obtain ⟨yk, yn⟩ := y
          obtain ⟨g9, e9, hg9⟩ := own_form ow hlk
          subst e9
          have hpa := part_at (f := shutP ids) hy
          have HP : HpsAt wr (.slice (some ⟨g9, 0, none⟩) (part (shutP ids) L k).length c9) (part (shutP ids) L k) := by unfold HpsAt; rw [part_len, HN.out]; exact RowAt.of_own ow
          obtain ⟨b, off, e, _, p0, p1⟩ := hps_at HP hpa
          simp at e
          obtain ⟨rfl, rfl⟩ := e
          rw [Nat.zero_add] at p0 p1
          dsimp only at p0 p1
          have hlk' : (k : Int) < n := by omega
          have hk6 : (k : Int) < 1000000 := by have := HN6.out; omega
          have HY := hid hy; have OW := hid ow; have HLK := hid hlk; have HG9 := hid hg9
          clear HP hpa ow hk hg9
          by_cases h13 : yk = 13
          · subst h13
            obtain ⟨hn0, hn1⟩ := HDX.out _ (List.mem_of_getElem? hy) rfl
            dsimp only at hn0 hn1
            obtain ⟨m, rfl⟩ := Int.eq_ofNat_of_zero_le hn0
            clear hy hlk hn0
            have hin6 : (ids.length : Int) ≤ 1000000 := by have := HIN.out; omega
            by_cases hm : m < ids.length
            · obtain ⟨z, hz⟩ : ∃ z, ids[m]? = some z := ⟨ids[m], by simp [hm]⟩
              obtain ⟨b3, o3, e3, hb3, r0⟩ := IntsAt.at H1.out hz
              subst e3
              have r1 := (HWZ.out.cell (by simpa using hb3)).trans r0
              have hm' : (m : Int) < ids.length := by omega
              have hsh : shutP ids ⟨13, (m : Int)⟩ = ⟨15, z⟩ := by unfold shutP; rw [if_neg (by simp), if_pos (show (m : Int) < ids.length by omega)]; simp [List.getD_eq_getElem?_getD, hz]
              have HSH := hid hsh; have HM := hid hm
              clear hsh r0 hm hz
              have f0 : wr.frozen? ⟨g9, k * 2, none⟩ = false := OW.out.frozenAt _
              have f1 : wr.frozen? ⟨g9, k * 2 + 1, none⟩ = false := OW.out.frozenAt _
              go_upto_region 11 with fail
              clear p0 p1 f0 f1
              go_wp2
              go_roundw
              case rel =>
                obtain ⟨o9, gr9⟩ := own_set2 (i := k) (y0 := .int .i64 15) (y1 := .int .i64 z) OW.out
                refine ⟨k + 1, by go_num, HLK.out, ?_, by rw [part_succ HY.out, HSH.out, flatH_set]; exact o9, HBZ.out.grown gr9 HBZ.out.size (fun q hq => by cases hq; exact HG9.out)⟩
                intro h hh
                rw [List.take_add_one, HY.out] at hh
                simp at hh
                rcases hh with hh | rfl
                · exact HCAN.out h hh
                · have := HM.out; simp [canB]; omega
              case measure => have := HLK.out; simp [intOf]; omega
            · have hm' : ¬ (m : Int) < ids.length := by omega
              by_cases hmg : m - ids.length < g.length
              · have hmg' : (m : Int) - ids.length < g.length := by omega
                have hsh : shutP ids ⟨13, (m : Int)⟩ = ⟨14, (m : Int) - ids.length⟩ := by unfold shutP; rw [if_neg (by simp), if_neg (show ¬ (m : Int) < ids.length by omega)]
                have HSH := hid hsh; have HM := hid hm; have HMG := hid hmg
                clear hsh hm hmg
                have f0 : wr.frozen? ⟨g9, k * 2, none⟩ = false := OW.out.frozenAt _
                have f1 : wr.frozen? ⟨g9, k * 2 + 1, none⟩ = false := OW.out.frozenAt _
                go_upto_region 11 with fail
                clear p0 p1 f0 f1
                go_wp2
                go_roundw
                case rel =>
                  obtain ⟨o9, gr9⟩ := own_set2 (i := k) (y0 := .int .i64 14) (y1 := .int .i64 ((m : Int) - ids.length)) OW.out
                  refine ⟨k + 1, by go_num, HLK.out, ?_, by rw [part_succ HY.out, HSH.out, flatH_set]; exact o9, HBZ.out.grown gr9 HBZ.out.size (fun q hq => by cases hq; exact HG9.out)⟩
                  intro h hh
                  rw [List.take_add_one, HY.out] at hh
                  simp at hh
                  rcases hh with hh | rfl
                  · exact HCAN.out h hh
                  · have := HMG.out; simp [canB]; omega
                case measure => have := HLK.out; simp [intOf]; omega
              · have hmg' : ¬ (m : Int) - ids.length < g.length := by omega
                have hno : canB ids g.length ⟨13, (m : Int)⟩ = false := by simp [canB]; omega
                have HNO := hid hno
                clear hno hm hmg
                go_wp2
                refine bodyPost_ret (v := .tuple #[.slice none 0 0, .bool false]) (by simp [results, Tryz.results58, go_sem]) rfl ?_
                exact ⟨.inl ⟨can_none HX.out (by rw [HL.out]; exact HY.out) HNO.out, rfl⟩, HWZ.out⟩
          · have h13' : (yk == 13) = false := by simpa using h13
            have hsh : shutP ids ⟨yk, yn⟩ = ⟨yk, yn⟩ := by unfold shutP; simp [h13]
            have HSH := hid hsh
            have hno : canB ids g.length ⟨yk, yn⟩ = true := by simp [canB, h13]
            have HNO := hid hno
            clear hno hsh hy hlk
            have h13'' : (yk != 13) = true := by simpa using h13
            go_upto_if 41 with fail
            try rw [h13'']
            clear p0 p1 h13 h13' h13''
            go_wp2
            go_roundw
            case rel =>
              refine ⟨k + 1, by go_num, HLK.out, ?_, by rw [part_same HY.out HSH.out]; exact OW.out, HBZ.out⟩
              intro h hh
              rw [List.take_add_one, HY.out] at hh
              simp at hh
              rcases hh with hh | rfl
              · exact HCAN.out h hh
              · exact HNO.out
            case measure => have := HLK.out; simp [intOf]; omega
        · obtain rfl : k = n := by omega
          have hlk' : ¬ (k : Int) < k := by omega
          have hfull : part (shutP ids) L k = L.map (shutP ids) := part_full (by rw [HN.out]; exact Nat.le_refl _)
          rw [hfull] at ow
          have hcanL : rollB ids g.length x = true := by
            unfold rollB
            rw [HPB.out, Bool.true_and, List.all_eq_true, HL.out]
            intro h hh
            exact HCAN.out h (by rw [List.take_of_length_le (by rw [HN.out]; exact Nat.le_refl _)]; exact hh)
          obtain ⟨q0, q1, q2, q3, q4, q5⟩ := HQ.out wr HWZ.out
          have C := rWith_any (shutP ids) _ x (.slice a9 k c9) wr (SB.out.below HWZ.out (Nat.le_refl _)) (by rw [HL.out]; unfold HpsAt; rw [List.length_map, HN.out]; exact RowAt.of_own ow) HMEM.out.2
          have HC := hid C; have HCL := hid hcanL
          clear C ow hfull hcanL hlk hk
          go_wp2_with fail
          refine HC.out.mono ?_
          rintro e w1 ⟨ds, rfl, hd6, hsub, hb1⟩
          obtain ⟨cs, hcl, hc6, hown, hsubs⟩ := HI.out.ex
          obtain ⟨x2, hx2⟩ : ∃ x2, mapP (shutP ids) x = x2 := ⟨_, rfl⟩
          rw [hx2] at hsub
          have hsub1 := hsub w1 (Upd.refl _ _)
          have hds := one_S hsub1
          have hu1 := HBB.out.trans ((HBZ.out.trans (hb1.mono HBZ.out.size)).mono HBB.out.size)
          have hz := Nat.le_trans HBB.out.size HBZ.out.size
          have hown1 := ownsRow_upd hown (Upd.of_below (S := fun _ => False) hu1) (fun _ _ h => h)
          have hw1 := HWZ.out.trans (hb1.mono HWZ.out.size)
          obtain ⟨vs, vp, vr, vf, rfl, k1, k2, k3, k4⟩ := hsub1.ex
          obtain ⟨a5, c5, rfl⟩ := RowAt.form k1
          obtain ⟨a6, c6, rfl⟩ := RowAt.form k2
          obtain ⟨a7, c7, rfl⟩ := RowAt.form k3
          obtain ⟨a8, c8, rfl⟩ := RowAt.form k4
          obtain ⟨ds, hdse⟩ : ∃ ds : List Value, ds = [.bool x2.fin, .slice a5 x2.sups.length c5, .int .i64 x2.k, .slice a6 x2.ps.length c6, .slice a7 x2.rs.length c7, .slice a8 x2.fs.length c8] := ⟨_, rfl⟩
          rw [← hdse] at hsub hds
          have HR := hid (row_cells (cs := ds) (heap_alloc_at w1 (.cells ds.toArray 46) rfl))
          have hgn := HGN.out
          have hlt2 := HLT.out
          have HDS := hid hds; have HSUB := hid hsub; have HO1 := hid hown1; have HU1 := hid hu1; have HZ := hid hz; have HW1 := hid hw1; have HOW := hid hown; have HSB := hid hsubs; have HC6 := hid hc6; have HCN := hid hcl; have HDE := hid hdse; have HX2 := hid hx2
          rw [hdse] at HR
          clear hds hsub hown1 hu1 hz hw1 hown hsubs hc6 hcl hdse hx2 hsub1 k1 k2 k3 k4 HC q0 q1 q2 q3 q4 q5 hb1 hd6
          go_wp2_with (at_builtin; refine wpList_append_own2 _ rfl _ _ 97 rfl w.heap.size 46 i0 _ 6 112 Tryz.underlying97 Hi.out Hz0.out Hz1.out Hz2.out rfl (by decide) _ _ _ rfl (HO1.out.alloc _) ⟨w1.heap.size, 0, none⟩ 1 1 [.bool x2.fin, .slice a5 x2.sups.length c5, .int .i64 x2.k, .slice a6 x2.ps.length c6, .slice a7 x2.rs.length c7, .slice a8 x2.fs.length c8] rfl rfl HR.out (by rw [← HDE.out]; exact HDS.out.2) (by simp [maxLen]; omega) (by omega) (by have h1 := HW1.out.size; simp; omega) (by decide) ?_)
          intro v2 w2 o2 gr2 mv2
          rw [← HDE.out] at o2
          have O2 := hid o2; have GR2 := hid gr2; have MV2 := hid mv2
          clear o2 gr2 mv2
          go_wp2
          go_roundw
          case rel =>
            refine ⟨i + 1, by go_num, HLT.out, ?_, ?_⟩
            · intro j y hj hy
              by_cases e : j < i
              · exact HALL.out j y e hy
              · obtain rfl : j = i := by omega
                rw [HX.out] at hy
                cases hy
                exact HCL.out
            · have ht : (g.take (i + 1)).map (mapP (shutP ids)) = (g.take i).map (mapP (shutP ids)) ++ [x2] := by rw [List.take_add_one, HX.out]; simp [HX2.out]
              rw [ht]
              exact rolr_step HI.out.be HCN.out HC6.out HOW.out HSB.out (by rw [List.length_map, List.length_take]; have := HLT.out; omega) HZ.out HSUB.out HDS.out.1 HU1.out O2.out GR2.out MV2.out
          case measure => have := HLT.out; simp [intOf]; omega
    · obtain rfl : i = g.length := by omega
      have hlt' : ¬ (g.length : Int) < g.length := by omega
      rw [List.take_length] at hI
      have HI := hid hI; have HALL := hid hall
      clear hI hall hlt hi
      have hrs : rollR ids g = some (g.map (mapP (shutP ids))) := by
        unfold rollR
        rw [if_pos]
        rw [List.all_eq_true]
        intro y hy
        obtain ⟨j, hj, rfl⟩ := List.mem_iff_getElem.1 hy
        exact HALL.out j _ hj (List.getElem?_eq_getElem hj)
      have HRS := hid hrs
      clear hrs
      go_wp2
      refine bodyPost_ret (v := .tuple #[u6, .bool true]) (by simp [results, Tryz.results58, go_sem]) rfl ?_
      refine And.intro (Or.inr (Exists.intro (g.map (mapP (shutP ids))) (And.intro HRS.out (Exists.intro u6 (And.intro rfl (fun w'' hu => ?_)))))) ⟨HI.out.be.os, HI.out.be.tape, HI.out.be.output, HI.out.be.size, HI.out.be.block⟩
      obtain ⟨cs, hcl, hc6, hown, hsubs⟩ := HI.out.ex
      have hu' : Upd (fun b => b < w.heap.size) wr w'' := ⟨hu.os, hu.tape, hu.output, hu.size, hu.block⟩
      refine ⟨cs, by rw [List.length_map]; exact hcl, hc6, by rw [List.length_map]; exact RowAt.of_own (ownsRow_upd hown hu' (fun b hb e => by have := (hown.lt b hb).1; omega)), fun j c x hc hx => hsubs j c x hc hx w'' (hu'.mono fun b _ hb => .inl hb)⟩
end
section
open Go.RowKit
theorem below_drewN {b : Nat} (w : World) (n : Nat) : Below b w (w.drewN n) := ⟨rfl, rfl, rfl, Nat.le_refl _, fun _ _ => rfl⟩
set_option maxRecDepth 100000 in
set_option maxHeartbeats 4000000 in
theorem rSameVals_any (a b : Value) (l m : List Vl) (w : World) (ha : ValsAt w a l) (hb : ValsAt w b m) (hl : l.length ≤ 1000000) (_ : m.length ≤ 1000000) :
    Calls Tryz.prog 32 #[a, b] w fun e w' => e = .returned (.bool (decide (l = m))) ∧ ∃ n, w' = w.drewN n := by
  obtain ⟨ao, ca, rfl⟩ := RowAt.form ha
  obtain ⟨bo, cb, rfl⟩ := RowAt.form hb
  by_cases hlen : l.length = m.length
  · obtain ⟨n, hn⟩ : ∃ n, l.length = n := ⟨_, rfl⟩
    have hn2 : m.length = n := by rw [← hlen]; exact hn
    have HA := hid ha; have HB := hid hb; have HN := hid hn; have HN2 := hid hn2
    rw [hn] at hl
    rw [hn, hn2]
    have HL := hid hl
    clear ha hb hlen hn hn2 hl
    go_enter Tryz.func32, Tryz.ntmps32
    go_wp2
    go_loopw [5] (fun t13 wr => ∃ i : Nat, i ≤ n ∧ t13 = .int .i64 i ∧ l.take i = m.take i ∧ ∃ k, wr = w.drewN k) (fun t13 _ => n - (intOf t13).toNat)
    case atStart => exact ⟨0, by omega, rfl, rfl, 0, rfl⟩
    case round =>
      obtain ⟨i, hi, rfl, htk, nd, rfl⟩ := hrel
      have HT := hid htk
      clear htk
      by_cases hlt : i < n
      · obtain ⟨x, hx⟩ : ∃ x, l[i]? = some x := ⟨l[i]'(by rw [HN.out]; exact hlt), by simp⟩
        obtain ⟨y, hy⟩ : ∃ y, m[i]? = some y := ⟨m[i]'(by rw [HN2.out]; exact hlt), by simp⟩
        obtain ⟨x0, x1, x2, x3⟩ := x
        obtain ⟨y0, y1, y2, y3⟩ := y
        obtain ⟨b1, o1, e1, _, p0, p1, p2, p3⟩ := vals_at HA.out hx
        obtain ⟨b2, o2, e2, _, q0, q1, q2, q3⟩ := vals_at HB.out hy
        subst e1 e2
        dsimp only at p0 p1 p2 p3 q0 q1 q2 q3
        have HX := hid hx; have HY := hid hy; have HI := hid hlt
        have hlt' : (i : Int) < n := by omega
        have HI6 := hid (show (i : Int) < 1000000 by have := HL.out; omega)
        clear hx hy hlt hi
        by_cases e0 : x0 = y0
        · subst e0
          by_cases e1 : x1 = y1
          · subst e1
            by_cases e2 : x2 = y2
            · subst e2
              by_cases e3 : x3 = y3
              · subst e3
                have HX2 := hid (take_eq HX.out HY.out HT.out)
                have hi6 := HI6.out
                go_wp2
                go_quiet (fail)
                go_wp2
                go_roundw
                case rel => exact ⟨i + 1, HI.out, by go_num, HX2.out, _, rfl⟩
                case measure => have := HI.out; simp [intOf]; omega
              · have NE := hid (get_ne HX.out HY.out (fun e => e3 (by simp at e; simp [e])))
                go_wp2
                go_quiet (fail)
                go_wp2
                go_ret
                exact ⟨retd (decide_eq_false NE.out), _, drewN_drewN _ _ _⟩
            · have NE := hid (get_ne HX.out HY.out (fun e => e2 (by simp at e; simp [e])))
              go_wp2
              go_quiet (fail)
              go_wp2
              go_ret
              exact ⟨retd (decide_eq_false NE.out), _, drewN_drewN _ _ _⟩
          · have NE := hid (get_ne HX.out HY.out (fun e => e1 (by simp at e; simp [e])))
            go_wp2
            go_quiet (fail)
            go_wp2
            go_ret
            exact ⟨retd (decide_eq_false NE.out), _, drewN_drewN _ _ _⟩
        · have NE := hid (get_ne HX.out HY.out (fun e => e0 (by simp at e; simp [e])))
          go_wp2
          go_quiet (fail)
          go_wp2
          go_ret
          exact ⟨retd (decide_eq_false NE.out), _, drewN_drewN _ _ _⟩
      · obtain rfl : i = n := by omega
        have hlt' : ¬ (i : Int) < i := by omega
        have hlm : l = m := by have := HT.out; rw [List.take_of_length_le (by rw [HN.out]; exact Nat.le_refl _), List.take_of_length_le (by rw [HN2.out]; exact Nat.le_refl _)] at this; exact this
        have EQ := hid hlm
        clear hlm hlt hi
        go_wp2
        go_ret
        exact ⟨retd (decide_eq_true EQ.out), _, rfl⟩
  · have hne : l ≠ m := fun e => hlen (by rw [e])
    have h1 : ((l.length : Int) != (m.length : Int)) = true := by simpa using fun h => hlen (by omega)
    have NE := hid hne
    clear hne ha hb hlen
    go_enter Tryz.func32, Tryz.ntmps32
    go_wp2
    go_ret
    exact ⟨retd (decide_eq_false NE.out), 0, rfl⟩
set_option maxRecDepth 100000 in
set_option maxHeartbeats 16000000 in
theorem rSame_any (ca cb : List Value) (x y : Sb) (w : World) (ha : SubAt w ca x) (hb : SubAt w cb y) (hx : cnt x ≤ 1000000) (hy : cnt y ≤ 1000000) : Calls Tryz.prog 14 #[.agg ca.toArray, .agg cb.toArray] w fun e w' => e = .returned (.bool (decide (x = y))) ∧ Below w.heap.size w w' := by
  obtain ⟨vs, vp, vr, vf, rfl, h1, h2, h3, h4⟩ := ha.ex
  obtain ⟨so, sc, rfl⟩ := RowAt.form h1
  obtain ⟨ps, pc, rfl⟩ := RowAt.form h2
  obtain ⟨rs, rc, rfl⟩ := RowAt.form h3
  obtain ⟨fs, fc, rfl⟩ := RowAt.form h4
  obtain ⟨vs', vp', vr', vf', rfl, g1, g2, g3, g4⟩ := hb.ex
  obtain ⟨so', sc', rfl⟩ := RowAt.form g1
  obtain ⟨ps', pc', rfl⟩ := RowAt.form g2
  obtain ⟨rs', rc', rfl⟩ := RowAt.form g3
  obtain ⟨fs', fc', rfl⟩ := RowAt.form g4
  obtain ⟨fin, sups, k, lp, lr, lf⟩ := x
  obtain ⟨fin', sups', k', lp', lr', lf'⟩ := y
  dsimp only at h1 h2 h3 h4 g1 g2 g3 g4 ⊢
  obtain ⟨ns, hns⟩ : ∃ n, sups.length = n := ⟨_, rfl⟩
  obtain ⟨np, hnp⟩ : ∃ n, lp.length = n := ⟨_, rfl⟩
  obtain ⟨nr, hnr⟩ : ∃ n, lr.length = n := ⟨_, rfl⟩
  obtain ⟨nf, hnf⟩ : ∃ n, lf.length = n := ⟨_, rfl⟩
  obtain ⟨ns', hns'⟩ : ∃ n, sups'.length = n := ⟨_, rfl⟩
  obtain ⟨np', hnp'⟩ : ∃ n, lp'.length = n := ⟨_, rfl⟩
  obtain ⟨nr', hnr'⟩ : ∃ n, lr'.length = n := ⟨_, rfl⟩
  obtain ⟨nf', hnf'⟩ : ∃ n, lf'.length = n := ⟨_, rfl⟩
  have HNS := hid hns; have HNF := hid hnf; have HNS' := hid hns'; have HNF' := hid hnf'
  have hcc : ns + (np + (nr + nf)) ≤ 1000000 := by simp only [cnt] at hx; omega
  have hcc' : ns' + (np' + (nr' + nf')) ≤ 1000000 := by simp only [cnt] at hy; omega
  have HP1 := hid (show lp.length ≤ 1000000 by omega); have HR1 := hid (show lr.length ≤ 1000000 by omega)
  have HP2 := hid (show lp'.length ≤ 1000000 by omega); have HR2 := hid (show lr'.length ≤ 1000000 by omega)
  have HCC := hid hcc
  have hfn : ((ns : Int) ≤ 1000000) := by omega
  have hfn2 : ((nf : Int) ≤ 1000000) := by omega
  simp only [hns, hnp, hnr, hnf, hns', hnp', hnr', hnf']
  obtain ⟨W0, hW⟩ : ∃ W0 : World, W0 = (w.alloc (.cells #[.bool fin, .slice so ns sc, .int .i64 k, .slice ps np pc, .slice rs nr rc, .slice fs nf fc] 46)).alloc (.cells #[.bool fin', .slice so' ns' sc', .int .i64 k', .slice ps' np' pc', .slice rs' nr' rc', .slice fs' nf' fc'] 46) := ⟨_, rfl⟩
  have hB : Below w.heap.size w W0 := by rw [hW]; exact ((Below.refl _ _).alloc (by simp) _).alloc (by simp) _
  have ba_0 : W0.cell? ⟨w.heap.size, 0, none⟩ = some (.bool fin) := by rw [hW]; exact heap_cell (heap_alloc_keep (heap_alloc_at _ _ rfl) _) 0
  have ba_1 : W0.cell? ⟨w.heap.size, 1, none⟩ = some (.slice so ns sc) := by rw [hW]; exact heap_cell (heap_alloc_keep (heap_alloc_at _ _ rfl) _) 1
  have ba_2 : W0.cell? ⟨w.heap.size, 2, none⟩ = some (.int .i64 k) := by rw [hW]; exact heap_cell (heap_alloc_keep (heap_alloc_at _ _ rfl) _) 2
  have ba_3 : W0.cell? ⟨w.heap.size, 3, none⟩ = some (.slice ps np pc) := by rw [hW]; exact heap_cell (heap_alloc_keep (heap_alloc_at _ _ rfl) _) 3
  have ba_4 : W0.cell? ⟨w.heap.size, 4, none⟩ = some (.slice rs nr rc) := by rw [hW]; exact heap_cell (heap_alloc_keep (heap_alloc_at _ _ rfl) _) 4
  have ba_5 : W0.cell? ⟨w.heap.size, 5, none⟩ = some (.slice fs nf fc) := by rw [hW]; exact heap_cell (heap_alloc_keep (heap_alloc_at _ _ rfl) _) 5
  have bb_0 : W0.cell? ⟨w.heap.size + 1, 0, none⟩ = some (.bool fin') := by rw [hW]; exact heap_cell (heap_alloc_at _ _ (by simp)) 0
  have bb_1 : W0.cell? ⟨w.heap.size + 1, 1, none⟩ = some (.slice so' ns' sc') := by rw [hW]; exact heap_cell (heap_alloc_at _ _ (by simp)) 1
  have bb_2 : W0.cell? ⟨w.heap.size + 1, 2, none⟩ = some (.int .i64 k') := by rw [hW]; exact heap_cell (heap_alloc_at _ _ (by simp)) 2
  have bb_3 : W0.cell? ⟨w.heap.size + 1, 3, none⟩ = some (.slice ps' np' pc') := by rw [hW]; exact heap_cell (heap_alloc_at _ _ (by simp)) 3
  have bb_4 : W0.cell? ⟨w.heap.size + 1, 4, none⟩ = some (.slice rs' nr' rc') := by rw [hW]; exact heap_cell (heap_alloc_at _ _ (by simp)) 4
  have bb_5 : W0.cell? ⟨w.heap.size + 1, 5, none⟩ = some (.slice fs' nf' fc') := by rw [hW]; exact heap_cell (heap_alloc_at _ _ (by simp)) 5
  have R1 := hid (RowAt.below h1 hB (Nat.le_refl _)); have R2 := hid (RowAt.below h2 hB (Nat.le_refl _)); have R3 := hid (RowAt.below h3 hB (Nat.le_refl _)); have R4 := hid (RowAt.below h4 hB (Nat.le_refl _))
  have T1 := hid (RowAt.below g1 hB (Nat.le_refl _)); have T2 := hid (RowAt.below g2 hB (Nat.le_refl _)); have T3 := hid (RowAt.below g3 hB (Nat.le_refl _)); have T4 := hid (RowAt.below g4 hB (Nat.le_refl _))
  have HW := hid hW; have HB := hid hB
  have HNP := hid hnp; have HNR := hid hnr; have HNP' := hid hnp'; have HNR' := hid hnr'
  clear h1 h2 h3 h4 g1 g2 g3 g4 ha hb hx hy hW hB hns hnp hnr hnf hns' hnp' hnr' hnf' hcc hcc'
  have NO : ∀ q : Prop, (q → False) → ((⟨fin, sups, k, lp, lr, lf⟩ : Sb) = ⟨fin', sups', k', lp', lr', lf'⟩ → q) → ∀ w', Below w.heap.size w w' → (Ending.returned (.bool false) = .returned (.bool (decide ((⟨fin, sups, k, lp, lr, lf⟩ : Sb) = ⟨fin', sups', k', lp', lr', lf'⟩))) ∧ Below w.heap.size w w') := fun q hq h w' hb => ⟨retb (decide_eq_false (fun e => hq (h e))).symm, hb⟩
  have HNO := hid NO
  clear NO
  have HBN := hid (fun k : Nat => (HB.out.trans (⟨rfl, rfl, rfl, Nat.le_refl _, fun _ _ => rfl⟩ : Below w.heap.size W0 (W0.drewN k)) : Below w.heap.size w (W0.drewN k)))
  by_cases e1 : fin = fin'
  · subst e1
    by_cases e1 : k = k'
    · subst e1
      by_cases e1 : ns = ns'
      · subst e1
        by_cases e1 : nf = nf'
        · subst e1
          go_enter Tryz.func14, Tryz.ntmps14
          go_wp2
          rw [← HW.out]
          go_loopw [5] (fun t13 wr => ∃ i : Nat, i ≤ ns ∧ t13 = .int .i64 i ∧ sups.take i = sups'.take i ∧ ∃ k, wr = W0.drewN k) (fun t13 _ => ns - (intOf t13).toNat)
          case atStart => exact ⟨0, by omega, rfl, rfl, 0, rfl⟩
          case round =>
            obtain ⟨i, hi, rfl, htk, nd, rfl⟩ := hrel
            have HT := hid htk
            clear htk
            by_cases hlt : i < ns
            · obtain ⟨x, hx⟩ : ∃ x, sups[i]? = some x := ⟨sups[i]'(by rw [HNS.out]; exact hlt), by simp⟩
              obtain ⟨y, hy⟩ : ∃ y, sups'[i]? = some y := ⟨sups'[i]'(by rw [HNS'.out]; exact hlt), by simp⟩
              obtain ⟨x0, x1⟩ := x
              obtain ⟨y0, y1⟩ := y
              obtain ⟨b1, o1, e1, _, p0, p1⟩ := hps_at R1.out hx
              obtain ⟨b2, o2, e2, _, q0, q1⟩ := hps_at T1.out hy
              subst e1 e2
              dsimp only at p0 p1 q0 q1
              have HX := hid hx; have HY := hid hy; have HI := hid hlt
              have hlt' : (i : Int) < ns := by omega
              have HI6 := hid (show (i : Int) < 1000000 by omega)
              have HX3 := hid HT.out
              clear hx hy hlt hi
              by_cases e0 : x0 = y0
              · subst e0
                by_cases e1 : x1 = y1
                · subst e1
                  have HX2 := hid (take_eq HX.out HY.out HT.out)
                  have hi6 := HI6.out
                  go_wp2
                  go_quiet (fail)
                  go_wp2
                  go_roundw
                  case rel => exact ⟨i + 1, HI.out, by go_num, HX2.out, _, rfl⟩
                  case measure => have := HI.out; simp [intOf]; omega
                · have NE := hid (HNO.out _ (get_ne HX.out HY.out (fun e => e1 (by simp at e; simp [e]))) (fun e => congrArg Sb.sups e))
                  go_wp2
                  go_quiet (fail)
                  go_wp2
                  go_ret
                  exact NE.out _ (by rw [drewN_drewN]; exact HBN.out _)
              · have NE := hid (HNO.out _ (get_ne HX.out HY.out (fun e => e0 (by simp at e; simp [e]))) (fun e => congrArg Sb.sups e))
                go_wp2
                go_quiet (fail)
                go_wp2
                go_ret
                exact NE.out _ (by rw [drewN_drewN]; exact HBN.out _)
            · obtain rfl : i = ns := by omega
              have hlt' : ¬ (i : Int) < i := by omega
              have hlm : sups = sups' := by have := HT.out; rw [List.take_of_length_le (by rw [HNS.out]; exact Nat.le_refl _), List.take_of_length_le (by rw [HNS'.out]; exact Nat.le_refl _)] at this; exact this
              have EQ5 := hid hlm
              clear hlm hlt hi
              go_wp2
              go_loopw [6] (fun t13 wr => ∃ i : Nat, i ≤ nf ∧ t13 = .int .i64 i ∧ lf.take i = lf'.take i ∧ ∃ k, wr = W0.drewN k) (fun t13 _ => nf - (intOf t13).toNat)
              case atStart => exact ⟨0, by omega, rfl, rfl, _, rfl⟩
              case round =>
                obtain ⟨i, hi, rfl, htk, nd, rfl⟩ := hrel
                have HT := hid htk
                clear htk
                by_cases hlt : i < nf
                · obtain ⟨x, hx⟩ : ∃ x, lf[i]? = some x := ⟨lf[i]'(by rw [HNF.out]; exact hlt), by simp⟩
                  obtain ⟨y, hy⟩ : ∃ y, lf'[i]? = some y := ⟨lf'[i]'(by rw [HNF'.out]; exact hlt), by simp⟩
                  obtain ⟨x0, ⟨x1, x2, x3, x4⟩, x5⟩ := x
                  obtain ⟨y0, ⟨y1, y2, y3, y4⟩, y5⟩ := y
                  obtain ⟨b1, o1, e1, _, p0, p1, p2, p3, p4, p5⟩ := fls_at R4.out hx
                  obtain ⟨b2, o2, e2, _, q0, q1, q2, q3, q4, q5⟩ := fls_at T4.out hy
                  subst e1 e2
                  dsimp only at p0 p1 p2 p3 p4 p5 q0 q1 q2 q3 q4 q5
                  have HX := hid hx; have HY := hid hy; have HI := hid hlt
                  have hlt' : (i : Int) < nf := by omega
                  have HI6 := hid (show (i : Int) < 1000000 by omega)
                  have HX3 := hid HT.out
                  clear hx hy hlt hi
                  by_cases e0 : x0 = y0
                  · subst e0
                    by_cases e1 : x1 = y1
                    · subst e1
                      by_cases e2 : x2 = y2
                      · subst e2
                        by_cases e3 : x3 = y3
                        · subst e3
                          by_cases e4 : x4 = y4
                          · subst e4
                            by_cases e5 : x5 = y5
                            · subst e5
                              have HX2 := hid (take_eq HX.out HY.out HT.out)
                              have hi6 := HI6.out
                              go_wp2
                              go_quiet (fail)
                              go_wp2
                              go_roundw
                              case rel => exact ⟨i + 1, HI.out, by go_num, HX2.out, _, rfl⟩
                              case measure => have := HI.out; simp [intOf]; omega
                            · have NE := hid (HNO.out _ (get_ne HX.out HY.out (fun e => e5 (by simp at e; simp [e]))) (fun e => congrArg Sb.fs e))
                              go_wp2
                              go_quiet (fail)
                              go_wp2
                              go_ret
                              exact NE.out _ (by rw [drewN_drewN]; exact HBN.out _)
                          · have NE := hid (HNO.out _ (get_ne HX.out HY.out (fun e => e4 (by simp at e; simp [e]))) (fun e => congrArg Sb.fs e))
                            go_wp2
                            go_quiet (fail)
                            go_wp2
                            go_ret
                            exact NE.out _ (by rw [drewN_drewN]; exact HBN.out _)
                        · have NE := hid (HNO.out _ (get_ne HX.out HY.out (fun e => e3 (by simp at e; simp [e]))) (fun e => congrArg Sb.fs e))
                          go_wp2
                          go_quiet (fail)
                          go_wp2
                          go_ret
                          exact NE.out _ (by rw [drewN_drewN]; exact HBN.out _)
                      · have NE := hid (HNO.out _ (get_ne HX.out HY.out (fun e => e2 (by simp at e; simp [e]))) (fun e => congrArg Sb.fs e))
                        go_wp2
                        go_quiet (fail)
                        go_wp2
                        go_ret
                        exact NE.out _ (by rw [drewN_drewN]; exact HBN.out _)
                    · have NE := hid (HNO.out _ (get_ne HX.out HY.out (fun e => e1 (by simp at e; simp [e]))) (fun e => congrArg Sb.fs e))
                      go_wp2
                      go_quiet (fail)
                      go_wp2
                      go_ret
                      exact NE.out _ (by rw [drewN_drewN]; exact HBN.out _)
                  · have NE := hid (HNO.out _ (get_ne HX.out HY.out (fun e => e0 (by simp at e; simp [e]))) (fun e => congrArg Sb.fs e))
                    go_wp2
                    go_quiet (fail)
                    go_wp2
                    go_ret
                    exact NE.out _ (by rw [drewN_drewN]; exact HBN.out _)
                · obtain rfl : i = nf := by omega
                  have hlt' : ¬ (i : Int) < i := by omega
                  have hlm : lf = lf' := by have := HT.out; rw [List.take_of_length_le (by rw [HNF.out]; exact Nat.le_refl _), List.take_of_length_le (by rw [HNF'.out]; exact Nat.le_refl _)] at this; exact this
                  have EQ6 := hid hlm
                  clear hlm hlt hi
                  obtain ⟨s1, hs1⟩ : ∃ b, decide (lp = lp') = b := ⟨_, rfl⟩
                  obtain ⟨s2, hs2⟩ : ∃ b, decide (lr = lr') = b := ⟨_, rfl⟩
                  have S1 := hid hs1; have S2 := hid hs2
                  clear hs1 hs2
                  obtain ⟨W2, hW2⟩ : ∃ W2 : World, W0.drewN nd = W2 := ⟨_, rfl⟩
                  have HBW := hid (HBN.out nd)
                  rw [hW2] at HBW
                  have ca_3 := (show (W0.drewN nd).cell? ⟨w.heap.size, 3, none⟩ = _ from ba_3)
                  rw [hW2] at ca_3
                  have ea_3 := fun n : Nat => (show (W2.drewN n).cell? ⟨w.heap.size, 3, none⟩ = _ from ca_3)
                  have ca_4 := (show (W0.drewN nd).cell? ⟨w.heap.size, 4, none⟩ = _ from ba_4)
                  rw [hW2] at ca_4
                  have ea_4 := fun n : Nat => (show (W2.drewN n).cell? ⟨w.heap.size, 4, none⟩ = _ from ca_4)
                  have ca_5 := (show (W0.drewN nd).cell? ⟨w.heap.size, 5, none⟩ = _ from ba_5)
                  rw [hW2] at ca_5
                  have ea_5 := fun n : Nat => (show (W2.drewN n).cell? ⟨w.heap.size, 5, none⟩ = _ from ca_5)
                  have cb_3 := (show (W0.drewN nd).cell? ⟨w.heap.size + 1, 3, none⟩ = _ from bb_3)
                  rw [hW2] at cb_3
                  have eb_3 := fun n : Nat => (show (W2.drewN n).cell? ⟨w.heap.size + 1, 3, none⟩ = _ from cb_3)
                  have cb_4 := (show (W0.drewN nd).cell? ⟨w.heap.size + 1, 4, none⟩ = _ from bb_4)
                  rw [hW2] at cb_4
                  have eb_4 := fun n : Nat => (show (W2.drewN n).cell? ⟨w.heap.size + 1, 4, none⟩ = _ from cb_4)
                  have cb_5 := (show (W0.drewN nd).cell? ⟨w.heap.size + 1, 5, none⟩ = _ from bb_5)
                  rw [hW2] at cb_5
                  have eb_5 := fun n : Nat => (show (W2.drewN n).cell? ⟨w.heap.size + 1, 5, none⟩ = _ from cb_5)
                  have R2W := hid (show ∀ n : Nat, ValsAt (W2.drewN n) (.slice ps np pc) lp from fun n => by rw [← HNP.out]; have q := RowAt.drewN (RowAt.drewN R2.out nd) n; rw [hW2] at q; exact q)
                  have R2V := hid (show ValsAt W2 (.slice ps np pc) lp from by rw [← HNP.out]; have q := RowAt.drewN R2.out nd; rw [hW2] at q; exact q)
                  have R3W := hid (show ∀ n : Nat, ValsAt (W2.drewN n) (.slice rs nr rc) lr from fun n => by rw [← HNR.out]; have q := RowAt.drewN (RowAt.drewN R3.out nd) n; rw [hW2] at q; exact q)
                  have R3V := hid (show ValsAt W2 (.slice rs nr rc) lr from by rw [← HNR.out]; have q := RowAt.drewN R3.out nd; rw [hW2] at q; exact q)
                  have T2W := hid (show ∀ n : Nat, ValsAt (W2.drewN n) (.slice ps' np' pc') lp' from fun n => by rw [← HNP'.out]; have q := RowAt.drewN (RowAt.drewN T2.out nd) n; rw [hW2] at q; exact q)
                  have T2V := hid (show ValsAt W2 (.slice ps' np' pc') lp' from by rw [← HNP'.out]; have q := RowAt.drewN T2.out nd; rw [hW2] at q; exact q)
                  have T3W := hid (show ∀ n : Nat, ValsAt (W2.drewN n) (.slice rs' nr' rc') lr' from fun n => by rw [← HNR'.out]; have q := RowAt.drewN (RowAt.drewN T3.out nd) n; rw [hW2] at q; exact q)
                  have T3V := hid (show ValsAt W2 (.slice rs' nr' rc') lr' from by rw [← HNR'.out]; have q := RowAt.drewN T3.out nd; rw [hW2] at q; exact q)
                  rw [hW2]
                  clear hW2 ba_0 ba_1 ba_2 ba_3 ba_4 ba_5 bb_0 bb_1 bb_2 bb_3 bb_4 bb_5 hfn hfn2
                  go_wp2_with fail
                  refine (rSameVals_any _ _ lp lp' _ (R2V.out) (T2V.out) HP1.out HP2.out).mono ?_
                  rintro e _ ⟨rfl, n1, rfl⟩
                  rw [S1.out]
                  try rw [drewN_drewN]
                  cases s1
                  · go_wp2
                    go_ret
                    exact HNO.out _ (of_decide_eq_false S1.out) (fun e => congrArg Sb.ps e) _ (HBW.out.trans (below_drewN _ _))
                  go_wp2_with fail
                  refine (rSameVals_any _ _ lr lr' _ (R3W.out n1) (T3W.out n1) HR1.out HR2.out).mono ?_
                  rintro e _ ⟨rfl, n2, rfl⟩
                  rw [S2.out]
                  try rw [drewN_drewN]
                  cases s2
                  · go_wp2
                    go_ret
                    exact HNO.out _ (of_decide_eq_false S2.out) (fun e => congrArg Sb.rs e) _ (HBW.out.trans (below_drewN _ _))
                  go_wp2
                  go_ret
                  refine ⟨retb (decide_eq_true ?_).symm, HBW.out.trans (below_drewN _ _)⟩
                  rw [EQ5.out, EQ6.out, of_decide_eq_true S1.out, of_decide_eq_true S2.out]
        · have ne1 := HNO.out _ e1 (fun e => by rw [← HNF.out, ← HNF'.out]; exact congrArg (fun s => s.fs.length) e)
          have NE := hid ne1
          clear ne1
          have e1' : ((nf : Int) == nf') = false := by simp; omega
          have e1'' : ((nf : Int) != nf') = true := by simp; omega
          have e1''' : ¬ (nf : Int) = nf' := by omega
          clear e1
          go_enter Tryz.func14, Tryz.ntmps14
          go_wp2
          all_goals
            try rw [← HW.out]
            go_ret
            exact NE.out _ HB.out
      · have ne1 := HNO.out _ e1 (fun e => by rw [← HNS.out, ← HNS'.out]; exact congrArg (fun s => s.sups.length) e)
        have NE := hid ne1
        clear ne1
        have e1' : ((ns : Int) == ns') = false := by simp; omega
        have e1'' : ((ns : Int) != ns') = true := by simp; omega
        have e1''' : ¬ (ns : Int) = ns' := by omega
        clear e1
        go_enter Tryz.func14, Tryz.ntmps14
        go_wp2
        all_goals
          try rw [← HW.out]
          go_ret
          exact NE.out _ HB.out
    · have ne1 := HNO.out _ e1 (fun e => congrArg Sb.k e)
      have NE := hid ne1
      clear ne1
      have e1' : (k == k') = false := by simpa using e1
      have e1'' : (k != k') = true := by simpa using e1
      clear e1
      go_enter Tryz.func14, Tryz.ntmps14
      go_wp2
      all_goals
        try rw [← HW.out]
        go_ret
        exact NE.out _ HB.out
  · have ne1 := HNO.out _ e1 (fun e => congrArg Sb.fin e)
    have NE := hid ne1
    clear ne1
    have e1' : (fin == fin') = false := by simpa using e1
    have e1'' : (fin != fin') = true := by simpa using e1
    clear e1
    go_enter Tryz.func14, Tryz.ntmps14
    go_wp2
    all_goals
      try rw [← HW.out]
      go_ret
      exact NE.out _ HB.out
end
end Go.Proofs.YtpddbaijnjbfdaaGreatDoor
