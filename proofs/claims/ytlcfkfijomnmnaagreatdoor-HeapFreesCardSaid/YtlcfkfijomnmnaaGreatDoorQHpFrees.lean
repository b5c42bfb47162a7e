import Derived.Test.YtlcfkfijomnmnaaGreatDoorQHpKnownBd
namespace Go.Proofs.YtlcfkfijomnmnaaGreatDoor
open Lib (hid)
open Go.RowKit Go.Maps Go.WideMaps
theorem line_one : lineB 1000 (0 + 1) (nextL 0) = lineB 1000 (0 + 1) (nextL (0 + 1)) := by simp [lineB, rowB, nextL]
theorem nextL_end (n : Nat) : nextL n n = 0 := by unfold nextL; rw [if_neg (by omega)]
set_option maxRecDepth 100000 in
set_option maxHeartbeats 4000000 in
theorem heapFrees_any (n cut : Int) (w : World) (htab : WTab w ∧ TzTab w) (htk : Tab w) : Calls Tryz.prog 3 #[.int .i64 n, .int .i64 cut] w fun e w' => e = .returned (.bool true) ∧ Below w.heap.size w w' := by
  have HTAB := hid htab; have HTK := hid htk
  clear htab htk
  go_enter Tryz.func3, Tryz.ntmps3
  go_wp2_with fail
  refine (known24_any w HTAB.out HTK.out).mono ?_
  rintro e w1 ⟨rfl, hb1⟩
  have HB1 := hid hb1
  clear hb1
  by_cases g1 : n < 1
  · go_wp2; go_ret; exact ⟨rfl, HB1.out⟩
  by_cases g2 : 60 < n
  · go_wp2; go_ret; exact ⟨rfl, HB1.out⟩
  by_cases g3 : cut < 0
  · go_wp2; go_ret; exact ⟨rfl, HB1.out⟩
  by_cases g4 : n ≤ cut
  · go_wp2; go_ret; exact ⟨rfl, HB1.out⟩
  go_wp2_with fail
  refine (new_any _).mono ?_
  rintro e w2 ⟨t, S, rfl, hta, hba, hbe⟩
  have hT := tabN_new hta (fun k q => Nat.le_trans HB1.out.size (hba k q)) (HB1.out.trans (hbe.mono HB1.out.size))
  have HT := hid hT; have HB := hid (HB1.out.trans (hbe.mono HB1.out.size))
  clear hta hba hbe hT
  go_wp2_with fail
  obtain ⟨W2, hW2⟩ : ∃ W2, W2 = (((w2.alloc (.cells #[.int .i64 0, .int .i64 3, .bool true, .int .i64 13, .int .i64 0, .bool true] 39)).alloc (.cells #[.bool false, .slice none 0 0, .int .i64 2, .slice none 0 0, .slice none 0 0, .slice (some ⟨w2.heap.size, 0, none⟩) 1 1] 46)).alloc (.cells #[.slice (some ⟨w2.heap.size + 1, 0, none⟩) 1 1] 47)) := ⟨_, rfl⟩
  have b2 : Below w2.heap.size w2 W2 := by rw [hW2]; exact (((Below.refl _ _).alloc (Nat.le_refl _) _).alloc (by simp) _).alloc (by simp; omega) _
  have hg : GrpsK S W2 (.slice (some ⟨w2.heap.size + 1 + 1, 0, none⟩) 1 1) [[tyS 13]] := by
    have hS : ∀ b, S b → b < w2.heap.size := fun b q => (HT.out.tab.lt b q).1
    refine lit_grps (b0 := w2.heap.size) (b1 := w2.heap.size + 1) ?_ ?_ ?_ (fun q => by have := hS _ q; omega) (fun q => by have := hS _ q; omega) (fun q => by have := hS _ q; omega)
    · rw [hW2]; exact heap_alloc_keep (heap_alloc_keep (heap_alloc_at _ _ rfl) _) _
    · rw [hW2]; exact heap_alloc_keep (heap_alloc_at _ _ (by simp)) _
    · rw [hW2]; exact heap_alloc_at _ _ (by simp)
  rw [← hW2]
  have HB2 := hid (HB.out.trans (b2.mono HB.out.size))
  have HT2 := hid (HT.out.below b2)
  have HG := hid hg
  clear hW2 b2 hg
  refine (check_any _ [[tyS 13]] HT2.out tabC_nil HG.out raw_ty (by simp) (by simp) HTK.out ty_noI).mono ?_
  rintro e w3 ⟨u, S3, R3, rfl, ht3, _, _, hu3, hf3, hr3⟩
  rw [ty_checkI.2] at ht3
  rw [ty_checkI.1]
  obtain ⟨cn, hcn⟩ : ∃ cn : Int, (((checkD ⟨[], [], [], []⟩ [[tyS 13]]).2.1 : Nat) : Int) = cn := ⟨_, rfl⟩
  rw [hcn]
  have HR3 := hid (show ∀ b, R3 b → w.heap.size ≤ b from fun b q => by
    have := HB2.out.size
    rcases hr3 b q with q | q
    · exact q.elim
    · omega)
  have HT3 := hid ht3
  clear hcn ht3 hu3 hf3 hr3
  go_wp2_with fail
  refine (new_h (hk := 15) (hn := 0) HT3.out HR3.out 1000 1000 (by decide) (by decide)).mono ?_
  rintro e w4 ⟨hb, rfl, hz4, hb4⟩
  rw [newBs_line (l := nextL 0) (by decide)] at hz4
  have HL4 := hid (LnZ.nil (w := w) hz4)
  clear hz4 hb4
  obtain ⟨N, rfl⟩ : ∃ N : Nat, n = N := ⟨n.toNat, by omega⟩
  obtain ⟨C, rfl⟩ : ∃ C : Nat, cut = C := ⟨cut.toNat, by omega⟩
  have HN := hid (show 1 ≤ N ∧ N ≤ 60 ∧ C < N by omega)
  clear g1 g2 g3 g4
  go_wp2
  go_loopw [7, 8, 9, 10] (fun vf vl va vi wr => ∃ (i f l : Nat) (v : Value), vf = .int .i64 (f : Nat) ∧ vl = .int .i64 (l : Nat) ∧ va = v ∧ vi = .int .i64 (i : Nat) ∧ i ≤ N ∧ (0 < i → f = 1 ∧ l = 1 + 3 * (i - 1)) ∧
      LnZ (fun b => v.ownBlock = some b) w hb (tyS 14) 15 0 (decide (0 < i)) 0 1000 (lineB 1000 i (nextL i)) v i wr) (fun _ _ _ vi _ => N - (intOf vi).toNat)
  case atStart => exact ⟨0, 0, 0, _, rfl, rfl, rfl, rfl, Nat.zero_le _, fun h => absurd h (Nat.lt_irrefl 0), HL4.out⟩
  case round =>
    obtain ⟨i, f, l, v, rfl, rfl, rfl, rfl, hiN, hfl, hL⟩ := hrel
    obtain ⟨ao, cp, rfl⟩ := hL.form
    have HL := hid hL; have HFL := hid hfl; have HI := hid hiN
    clear hL hfl hiN
    by_cases hi : i < N
    · have hi' : (i : Int) < N := by omega
      obtain ⟨p, hp⟩ : ∃ p, 1 + 3 * i = p := ⟨_, rfl⟩
      have HP := hid hp; have HIN := hid hi
      have hN := HN.out
      have C := hid (make_h HL.out.hp ty_okI HL.out.lt (a := 1 + 3 * i) (by omega) (line_take (l := nextL i) (by omega)) (line_put (by omega) (nextL_end i)) .nilFunc)
      rw [hp] at C
      clear hp hi hN
      go_wp2_with fail
      refine C.out.mono ?_
      rintro e w5 ⟨rfl, hz, hk⟩
      have HL5 := hid (HL.out.turn hz hk)
      clear hz hk C
      cases i with
      | zero =>
        have HL6 := HL5
        rw [line_one] at HL6
        obtain ⟨w6, hw6⟩ : ∃ w6, w5 = w6 := ⟨_, rfl⟩
        subst hw6
        obtain ⟨i0, hi, hz0, hz1, hz2⟩ := info_parts Tryz.infoInt
        have Hi := hid hi; have Hz0 := hid hz0; have Hz1 := hid hz1; have Hz2 := hid hz2
        have HROW := hid HL6.out.row
        clear hi hz0 hz1 hz2
        go_wp2_with (at_builtin; refine wpList_append_own_at _ rfl _ _ 25 rfl w.heap.size 3 i0 _ 1 8 Tryz.underlying25 Hi.out Hz0.out Hz1.out Hz2.out rfl (by decide) _ _ _ rfl (HROW.out.alloc _) ⟨w5.heap.size, 0, none⟩ 1 1 [.int .i64 (p : Nat)] rfl rfl (row_one _ _ _) (fun u hu => by simp at hu; subst hu; rfl) (by have := HIN.out; have := HN.out; unfold maxLen; omega) (by have := HIN.out; have := HN.out; omega) (by have := HL6.out.hp.be.size; simp; omega) ?_)
        intro v2 w7 o2 gr2 _ mv2
        have hrow2 : LnZ (fun b => v2.ownBlock = some b) w hb (tyS 14) 15 0 (decide (0 < 0 + 1)) 0 1000 (lineB 1000 (0 + 1) (nextL (0 + 1))) v2 (0 + 1) w7 := by
          have u := ((Upd.refl (fun b => (Value.slice ao 0 cp).ownBlock = some b) w5).alloc _).grown gr2 (fun k hk => .inl hk)
          rw [decide_eq_true (Nat.succ_pos _)]
          exact HL6.out.push u (by rw [← HP.out] at o2; exact o2) (mv2.imp id (fun e => ⟨_, e, by simp⟩))
        have HRW := hid hrow2
        clear o2 gr2 mv2 hrow2
        go_wp2
        go_roundw
        case rel => exact ⟨0 + 1, p, p, _, rfl, rfl, rfl, by go_num, by have := HIN.out; omega, fun _ => ⟨by have := HP.out; omega, by have := HP.out; omega⟩, HRW.out⟩
        case measure => have := HIN.out; simp [intOf]; omega
      | succ i1 =>
        obtain ⟨rfl, rfl⟩ := HFL.out (Nat.succ_pos _)
        obtain ⟨i, hi1⟩ : ∃ i, i1 + 1 = i := ⟨_, rfl⟩
        rw [hi1] at HL HL5 HP HIN HI ⊢ hi'
        obtain ⟨l, hl⟩ : ∃ l, 1 + 3 * (i - 1) = l := ⟨_, rfl⟩
        obtain ⟨m8, hm8⟩ : ∃ m8, p * 8 = m8 := ⟨_, rfl⟩
        obtain ⟨m2, hm2⟩ : ∃ m2, m8 + 2 = m2 := ⟨_, rfl⟩
        have hN := HN.out; have hp := HP.out; have hiN := HIN.out
        have e1 : IntKind.u64.wrap (p : Int) = (p : Int) := wrap_u64_in (by omega) (by omega)
        have e2 : IntKind.u64.wrap ((p : Int) * 8) = (m8 : Int) := by rw [wrap_u64_in (by omega) (by omega)]; omega
        have e3 : IntKind.u64.wrap ((m8 : Int) + 2) = (m2 : Int) := by rw [wrap_u64_in (by omega) (by omega)]; omega
        have C := hid (set_h HL5.out.hp ty_okI HL5.out.lt (line_things (k := 1000) (n := i + 1) (l := nextL i) (by omega) (by omega) (fun _ => nextL_lt (by omega)) (1 + 3 * (i - 1)) (lineB_usedC.2 ⟨i - 1, by omega, rfl⟩)) (y := (1 + 3 * i) * 8 + 2) (by omega) (line_more (by omega) (by omega)))
        rw [hl, hp, hm8, hm2] at C
        have j0 : (0 : Int) < i := by omega
        have j1 : ¬ (i : Int) = 0 := by omega
        have j2 : ((i : Int) == 0) = false := by simpa using j1
        have HI1 := hid hi1; have HLL := hid hl
        rw [hl]
        clear hi1 hl hm8 hm2 hN hp hiN
        go_wp2_with fail
        refine C.out.mono ?_
        rintro e w6 ⟨rfl, hz, hk⟩
        have HL6 := hid (HL5.out.turn hz hk)
        clear hz hk C
        obtain ⟨i0, hi, hz0, hz1, hz2⟩ := info_parts Tryz.infoInt
        have Hi := hid hi; have Hz0 := hid hz0; have Hz1 := hid hz1; have Hz2 := hid hz2
        have HROW := hid HL6.out.row
        clear hi hz0 hz1 hz2
        go_wp2_with (at_builtin; refine wpList_append_own_at _ rfl _ _ 25 rfl w.heap.size 3 i0 _ 1 8 Tryz.underlying25 Hi.out Hz0.out Hz1.out Hz2.out rfl (by decide) _ _ _ rfl (HROW.out.alloc _) ⟨w6.heap.size, 0, none⟩ 1 1 [.int .i64 (p : Nat)] rfl rfl (row_one _ _ _) (fun u hu => by simp at hu; subst hu; rfl) (by have := HIN.out; have := HN.out; unfold maxLen; omega) (by have := HIN.out; have := HN.out; omega) (by have := HL6.out.hp.be.size; simp; omega) ?_)
        intro v2 w7 o2 gr2 _ mv2
        have hrow2 : LnZ (fun b => v2.ownBlock = some b) w hb (tyS 14) 15 0 (decide (0 < i + 1)) 0 1000 (lineB 1000 (i + 1) (nextL (i + 1))) v2 (i + 1) w7 := by
          have u := ((Upd.refl (fun b => (Value.slice ao i cp).ownBlock = some b) w6).alloc _).grown gr2 (fun k hk => .inl hk)
          rw [decide_eq_true (Nat.succ_pos _)]
          exact HL6.out.push u (by rw [← HP.out] at o2; exact o2) (mv2.imp id (fun e => ⟨_, e, by simp⟩))
        have HRW := hid hrow2
        clear o2 gr2 mv2 hrow2
        go_wp2
        go_roundw
        case rel => exact ⟨i + 1, 1, p, _, rfl, rfl, rfl, by go_num, by have := HIN.out; omega, fun _ => ⟨rfl, by have := HP.out; omega⟩, HRW.out⟩
        case measure => have := HIN.out; have := HI1.out; simp [intOf]; omega
    · obtain rfl : i = N := by have := HI.out; omega
      have h1 : ¬ (i : Int) < i := by omega
      have hpos : 0 < i := by have := HN.out; omega
      obtain ⟨rfl, -⟩ := HFL.out hpos
      have HLA := HL.out
      rw [decide_eq_true hpos] at HLA
      have HLA := hid HLA
      clear hi HFL HI HL hpos
      go_wp2_with fail
      refine (seq_any _ _ _ _).mono ?_
      rintro e w11 ⟨rfl, hw11⟩
      have b11 : Below wr.heap.size wr w11 := by rw [hw11]; exact ((Below.refl _ _).alloc (Nat.le_refl _) _).alloc (by simp) _
      have q0 : w11.heap[wr.heap.size]? = some (.cells (u64s [1 * 8 + 2]).toArray 56 (0, 0)) := by rw [hw11]; exact heap_alloc_keep (heap_alloc_at _ _ rfl) _
      have q1 : w11.heap[wr.heap.size + 1]? = some (.cells #[.slice (some ⟨wr.heap.size, 0, none⟩) 1 1] 60 (0, 0)) := by rw [hw11]; exact heap_alloc_at _ _ (by simp)
      have hsz : w11.heap.size = wr.heap.size + 2 := by rw [hw11]; simp
      have e1 : (wr.alloc (.cells #[.int .u64 10] 56)).heap.size = wr.heap.size + 1 := by simp
      rw [e1]
      obtain ⟨Z, hZ⟩ : ∃ Z : Nat → Prop, Z = fun b => (Value.slice ao i cp).ownBlock = some b ∨ (wr.heap.size ≤ b ∧ b < w11.heap.size) := ⟨_, rfl⟩
      have hg := HLA.out.grow b11
      rw [← hZ] at hg
      have HG := hid hg
      obtain ⟨sb, hsb⟩ : ∃ sb, wr.heap.size + 1 = sb := ⟨_, rfl⟩
      have HRO := hid (show RootsOk Z w11 (.func (.func 29) #[] #[.pointer (some ⟨sb, 0, none⟩)]) [1 * 8 + 2] from by
        rw [hZ, ← hsb]
        exact roots_seq (B := wr.heap.size) q1 (.inr ⟨by omega, by omega⟩) (own_lit q0 rfl (by decide)) (fun b h1 h2 => .inr ⟨h1, h2⟩) (by decide))
      rw [hsb]
      clear hZ hw11 b11 q0 q1 hsz e1 hg hsb HLA
      go_wp2_with fail
      have hN := HN.out
      refine (Collect_h HG.out.hp (line_things (k := 1000) (n := i) (l := nextL i) (by omega) (by decide) (fun _ => nextL_lt (by omega))) HTAB.out HG.out.lt lineB_unm _ _ HRO.out (by decide) (by decide)).mono ?_
      rintro e w12 ⟨bs', hco, rfl, hz, hk⟩
      rw [coll_used hco, fr_sweep1 hN.1 hN.2.1 hco, lineB_used, Int.sub_self]
      rw [fr_sweep1 hN.1 hN.2.1 hco] at hz
      have HL12 := hid (HG.out.turn hz hk); have HRO12 := hid (HRO.out.kept hk)
      clear hco hz hk hN
      go_wp2_with fail
      refine (Used_h HL12.out.hp).mono ?_
      rintro e w13 ⟨rfl, hb⟩
      rw [lineB_used]
      have HL13 := hid (HL12.out.below hb); have HRO13 := hid (HRO12.out.kept (Kept.of_below HL12.out.lt hb))
      clear hb
      go_wp2_with fail
      refine (Live_h HL13.out.hp (line_things (k := 1000) (n := i) (l := nextL i) (by have := HN.out; omega) (by decide) (fun _ => nextL_lt (by have := HN.out; omega))) HTAB.out _ _ (HRO13.out) (by decide) (by decide)).mono ?_
      rintro e w14 ⟨r, hr1, hr2, rfl, hb⟩
      rw [fr_live1 HN.out.1 HN.out.2.1 hr1 hr2]
      have HL14 := hid (HL13.out.below hb); have HRO14 := hid (HRO13.out.kept (Kept.of_below HL13.out.lt hb))
      clear hb hr1 hr2
      go_wp2_with fail
      obtain ⟨g, rfl, hc, hcp⟩ := HL14.out.at HN.out.2.2
      have h2 : (C : Int) < i := by have := HN.out; omega
      have h0 : ¬ (C : Int) < 0 := by omega
      obtain ⟨p, hp⟩ : ∃ p, 1 + 3 * C = p := ⟨_, rfl⟩
      rw [hp] at hc
      have HP := hid hp
      have CS := hid (set_h HL14.out.hp ty_okI HL14.out.lt (line_things (k := 1000) (n := i) (l := nextL i) (by have := HN.out; omega) (by decide) (fun _ => nextL_lt (by have := HN.out; omega)) (1 + 3 * C) (lineB_usedC.2 ⟨C, HN.out.2.2, rfl⟩)) (y := 0) (by decide) (fr_set HN.out.2.2 HN.out.2.1))
      rw [hp] at CS
      clear hp
      go_wp2_with fail
      refine CS.out.mono ?_
      rintro e w15 ⟨rfl, hz, hk⟩
      have HL15 := hid (HL14.out.turn hz hk); have HRO15 := hid (HRO14.out.kept hk)
      clear hz hk hc CS h2 h0
      go_wp2_with fail
      refine (Live_h HL15.out.hp (line_things (k := 1000) (n := i) (l := cutL i C) (by have := HN.out; omega) (by decide) (fun _ => cutL_lt (by have := HN.out; omega))) HTAB.out _ _ (HRO15.out) (by decide) (by decide)).mono ?_
      rintro e w16 ⟨r, hr1, hr2, rfl, hb⟩
      rw [fr_live2 HN.out.2.2 HN.out.2.1 hr1 hr2]
      have HL16 := hid (HL15.out.below hb); have HRO16 := hid (HRO15.out.kept (Kept.of_below HL15.out.lt hb))
      clear hb hr1 hr2
      go_wp2_with fail
      refine (Collect_h HL16.out.hp (line_things (k := 1000) (n := i) (l := cutL i C) (by have := HN.out; omega) (by decide) (fun _ => cutL_lt (by have := HN.out; omega))) HTAB.out HL16.out.lt lineB_unm _ _ HRO16.out (by decide) (by decide)).mono ?_
      rintro e w17 ⟨bs', hco, rfl, hz, hk⟩
      rw [coll_used hco, fr_sweep2 HN.out.2.2 (Nat.le_refl _) HN.out.2.1 hco, lineB_used, lineB_used]
      rw [fr_sweep2 HN.out.2.2 (Nat.le_refl _) HN.out.2.1 hco] at hz
      have HL17 := hid (HL16.out.turn hz hk); have HRO17 := hid (HRO16.out.kept hk)
      clear hco hz hk
      have hA : 3 * (i : Int) - 3 * ((C : Int) + 1) = 3 * ((i : Int) - (C : Int) - 1) := by omega
      go_wp2_with fail
      clear hA
      refine (Collect_h HL17.out.hp (line_things (k := 1000) (n := C + 1) (l := cutL i C) (by have := HN.out; omega) (by decide) (fun _ => cutL_lt (by have := HN.out; omega))) HTAB.out HL17.out.lt lineB_unm _ _ HRO17.out (by decide) (by decide)).mono ?_
      rintro e w18 ⟨bs', hco, rfl, hz, hk⟩
      rw [coll_used hco, fr_sweep2 (Nat.lt_succ_self C) HN.out.2.2 HN.out.2.1 hco, lineB_used, Int.sub_self]
      rw [fr_sweep2 (Nat.lt_succ_self C) HN.out.2.2 HN.out.2.1 hco] at hz
      have HL18 := hid (HL17.out.turn hz hk)
      clear hco hz hk
      obtain ⟨j, hj⟩ : ∃ j, i - 1 = j := ⟨_, rfl⟩
      have hji : j < i := by have := HN.out; omega
      obtain ⟨g', e', hc, hcp⟩ := HL18.out.at hji
      simp only [Option.some.injEq, Addr.mk.injEq, and_true] at e'
      subst e'
      obtain ⟨p, hp⟩ : ∃ p, 1 + 3 * j = p := ⟨_, rfl⟩
      rw [hp] at hc
      have HPJ := hid hp
      have f1 : (i : Int) - 1 = (j : Int) := by have := HN.out; omega
      have f2 : (j : Int) < i := by omega
      have f3 : ¬ (j : Int) < 0 := by omega
      have HJ := hid hj
      clear hj hp
      by_cases hjc : C = j
      · subst hjc
        have CH := hid (head_h HL18.out.hp (line_things (k := 1000) (n := C + 1) (l := cutL i C) (by have := HN.out; omega) (by decide) (fun _ => cutL_lt (by have := HN.out; omega)) (1 + 3 * C) (lineB_usedC.2 ⟨C, Nat.lt_succ_self C, rfl⟩)))
        rw [HPJ.out] at CH
        go_wp2_with fail
        refine CH.out.mono ?_
        rintro e w19 ⟨rfl, hb⟩
        have HL19 := hid (HL18.out.below hb)
        clear hb CH
        go_wp2_with fail
        have HL20 := hid (HL19.out.below ((Below.refl _ w19).alloc (Nat.le_refl _) (.cells #[.int .i64 0, .int .i64 0, .int .i64 1] 54)))
        refine (Collect_h HL20.out.hp (line_things (k := 1000) (n := C + 1) (l := cutL i C) (by have := HN.out; omega) (by decide) (fun _ => cutL_lt (by have := HN.out; omega))) HTAB.out HL20.out.lt lineB_unm _ _ roots_nil (by simp) (by decide)).mono ?_
        rintro e w21 ⟨bs', hco, rfl, hz, hk⟩
        rw [coll_used hco, fr_sweep0 (by have := HN.out; omega) hco, lineB_used, lineB_used]
        rw [fr_sweep0 (by have := HN.out; omega) hco] at hz
        have HL21 := hid (HL20.out.turn hz hk)
        clear hco hz hk
        go_wp2_with fail
        refine (Used_h HL21.out.hp).mono ?_
        rintro e w22 ⟨rfl, hb⟩
        rw [lineB_used]
        have HL22 := hid (HL21.out.below hb)
        clear hb
        go_wp2_with fail
        refine (Live_h HL22.out.hp (line_things (k := 1000) (n := 0) (l := cutL i C) (by decide) (by decide) (fun _ => cutL_lt (by have := HN.out; omega))) HTAB.out _ _ roots_nil (by simp) (by decide)).mono ?_
        rintro e w23 ⟨r, hr1, hr2, rfl, hb⟩
        rw [fr_live0 (by decide) hr1 hr2]
        have HL23 := hid (HL22.out.below hb)
        clear hb hr1 hr2
        go_wp2
        go_ret
        exact ⟨rfl, HL23.out.hp.be⟩
      · have f4 : ¬ (C : Int) = j := by omega
        have f5 : ((C : Int) == j) = false := by simpa using f4
        have CH := hid (head_none HL18.out.hp (lineB_gone (k := 1000) (n := C + 1) (l := cutL i C) (j := j) (by have := HN.out; have := HJ.out; omega)) (by omega))
        rw [HPJ.out] at CH
        go_wp2_with fail
        refine CH.out.mono ?_
        rintro e w19 ⟨rfl, hb⟩
        have HL19 := hid (HL18.out.below hb)
        clear hb CH
        go_wp2_with fail
        have HL20 := hid (HL19.out.below ((Below.refl _ w19).alloc (Nat.le_refl _) (.cells #[.int .i64 0, .int .i64 0, .int .i64 0] 54)))
        refine (Collect_h HL20.out.hp (line_things (k := 1000) (n := C + 1) (l := cutL i C) (by have := HN.out; omega) (by decide) (fun _ => cutL_lt (by have := HN.out; omega))) HTAB.out HL20.out.lt lineB_unm _ _ roots_nil (by simp) (by decide)).mono ?_
        rintro e w21 ⟨bs', hco, rfl, hz, hk⟩
        rw [coll_used hco, fr_sweep0 (by have := HN.out; omega) hco, lineB_used, lineB_used]
        rw [fr_sweep0 (by have := HN.out; omega) hco] at hz
        have HL21 := hid (HL20.out.turn hz hk)
        clear hco hz hk
        go_wp2_with fail
        refine (Used_h HL21.out.hp).mono ?_
        rintro e w22 ⟨rfl, hb⟩
        rw [lineB_used]
        have HL22 := hid (HL21.out.below hb)
        clear hb
        go_wp2_with fail
        refine (Live_h HL22.out.hp (line_things (k := 1000) (n := 0) (l := cutL i C) (by decide) (by decide) (fun _ => cutL_lt (by have := HN.out; omega))) HTAB.out _ _ roots_nil (by simp) (by decide)).mono ?_
        rintro e w23 ⟨r, hr1, hr2, rfl, hb⟩
        rw [fr_live0 (by decide) hr1 hr2]
        have HL23 := hid (HL22.out.below hb)
        clear hb hr1 hr2
        go_wp2
        go_ret
        exact ⟨rfl, HL23.out.hp.be⟩
end Go.Proofs.YtlcfkfijomnmnaaGreatDoor
