import Derived.Test.YtlcfkfijomnmnaaGreatDoorQHpRingsP
import Derived.Test.YtlcfkfijomnmnaaGreatDoorQHpKnownBd
namespace Go.Proofs.YtlcfkfijomnmnaaGreatDoor
open Lib (hid)
open Go.RowKit Go.Maps Go.WideMaps
set_option maxRecDepth 100000 in
set_option maxHeartbeats 4000000 in
theorem heapRings_any (n at_ : Int) (w : World) (htab : WTab w ∧ TzTab w) (htk : Tab w) : Calls Tryz.prog 4 #[.int .i64 n, .int .i64 at_] w fun e w' => e = .returned (.bool true) ∧ Below w.heap.size w w' := by
  have HTAB := hid htab; have HTK := hid htk
  clear htab htk
  go_enter Tryz.func4, Tryz.ntmps4
  go_wp2_with fail
  refine (known24_any w HTAB.out HTK.out).mono ?_
  rintro e w1 ⟨rfl, hb1⟩
  have HB1 := hid hb1
  clear hb1
  by_cases g1 : n < 1
  · go_wp2; go_ret; exact ⟨rfl, HB1.out⟩
  by_cases g2 : 40 < n
  · go_wp2; go_ret; exact ⟨rfl, HB1.out⟩
  by_cases g3 : at_ < 0
  · go_wp2; go_ret; exact ⟨rfl, HB1.out⟩
  by_cases g4 : n ≤ at_
  · go_wp2; go_ret; exact ⟨rfl, HB1.out⟩
  go_wp2_with fail
  refine (new_any _).mono ?_
  rintro e w2 ⟨t, S, rfl, hta, hba, hbe⟩
  have hT := tabN_new hta (fun k q => Nat.le_trans HB1.out.size (hba k q)) (HB1.out.trans (hbe.mono HB1.out.size))
  have HT := hid hT; have HB := hid (HB1.out.trans (hbe.mono HB1.out.size))
  clear hta hba hbe hT
  go_wp2_with fail
  obtain ⟨W2, hW2⟩ : ∃ W2, W2 = (((w2.alloc (.cells #[.int .i64 0, .int .i64 3, .bool true, .int .i64 1, .int .i64 0, .bool true] 39)).alloc (.cells #[.bool false, .slice none 0 0, .int .i64 2, .slice none 0 0, .slice none 0 0, .slice (some ⟨w2.heap.size, 0, none⟩) 1 1] 46)).alloc (.cells #[.slice (some ⟨w2.heap.size + 1, 0, none⟩) 1 1] 47)) := ⟨_, rfl⟩
  have b2 : Below w2.heap.size w2 W2 := by rw [hW2]; exact (((Below.refl _ _).alloc (Nat.le_refl _) _).alloc (by simp) _).alloc (by simp; omega) _
  have hg : GrpsK S W2 (.slice (some ⟨w2.heap.size + 1 + 1, 0, none⟩) 1 1) [[tyS 1]] := by
    have hS : ∀ b, S b → b < w2.heap.size := fun b q => (HT.out.tab.lt b q).1
    refine lit_grps (b0 := w2.heap.size) (b1 := w2.heap.size + 1) ?_ ?_ ?_ (fun q => by have := hS _ q; omega) (fun q => by have := hS _ q; omega) (fun q => by have := hS _ q; omega)
    · rw [hW2]; exact heap_alloc_keep (heap_alloc_keep (heap_alloc_at _ _ rfl) _) _
    · rw [hW2]; exact heap_alloc_keep (heap_alloc_at _ _ (by simp)) _
    · rw [hW2]; exact heap_alloc_at _ _ (by simp)
  rw [← hW2]
  have HB2 := hid (HB.out.trans (b2.mono HB.out.size))
  have HT2 := hid (HT.out.below b2)
  have HG := hid hg
  clear hW2 b2 hg
  refine (check_any _ [[tyS 1]] HT2.out tabC_nil HG.out raw_ty (by simp) (by simp) HTK.out ty_noA).mono ?_
  rintro e w3 ⟨u, S3, R3, rfl, ht3, _, _, hu3, hf3, hr3⟩
  rw [ty_checkA.2] at ht3
  rw [ty_checkA.1]
  obtain ⟨cn, hcn⟩ : ∃ cn : Int, (((checkD ⟨[], [], [], []⟩ [[tyS 1]]).2.1 : Nat) : Int) = cn := ⟨_, rfl⟩
  rw [hcn]
  have HR3 := hid (show ∀ b, R3 b → w.heap.size ≤ b from fun b q => by
    have := HB2.out.size
    rcases hr3 b q with q | q
    · exact q.elim
    · omega)
  have HT3 := hid ht3
  clear hcn ht3 hu3 hf3 hr3
  go_wp2_with fail
  refine (new_h (hk := 1) (hn := 0) HT3.out HR3.out 300 300 (by decide) (by decide)).mono ?_
  rintro e w4 ⟨hb, rfl, hz4, hb4⟩
  rw [newBs_line (l := fun _ => 0) (by decide)] at hz4
  have HL4 := hid (LnZ.nil (w := w) hz4)
  clear hz4 hb4
  obtain ⟨N, rfl⟩ : ∃ N : Nat, n = N := ⟨n.toNat, by omega⟩
  obtain ⟨A, rfl⟩ : ∃ A : Nat, at_ = A := ⟨at_.toNat, by omega⟩
  have HN := hid (show 1 ≤ N ∧ N ≤ 40 ∧ A < N by omega)
  clear g1 g2 g3 g4
  go_wp2
  go_loopw [7, 8] (fun va vi wr => ∃ (i : Nat) (v : Value), va = v ∧ vi = .int .i64 (i : Nat) ∧ i ≤ N ∧
      LnZ (fun b => v.ownBlock = some b) w hb (tyS 1) 1 0 (decide (0 < i)) 0 300 (lineB 300 i (fun _ => 0)) v i wr) (fun _ vi _ => N - (intOf vi).toNat)
  case atStart => exact ⟨0, _, rfl, rfl, Nat.zero_le _, HL4.out⟩
  case round =>
    obtain ⟨i, v, rfl, rfl, hiN, hL⟩ := hrel
    obtain ⟨ao, cp, rfl⟩ := hL.form
    have HL := hid hL; have HI := hid hiN
    clear hL hiN
    by_cases hi : i < N
    · have hi' : (i : Int) < N := by omega
      obtain ⟨p, hp⟩ : ∃ p, 1 + 3 * i = p := ⟨_, rfl⟩
      have HP := hid hp; have HIN := hid hi
      have hN := HN.out
      have C := hid (make_h HL.out.hp ty_okA HL.out.lt (a := 1 + 3 * i) (by omega) (line_take (l := fun _ => 0) (by omega)) (line_put (by omega) rfl) .nilFunc)
      rw [hp] at C
      clear hp hi hN
      go_wp2_with fail
      refine C.out.mono ?_
      rintro e w5 ⟨rfl, hz, hk⟩
      have HL5 := hid (HL.out.turn hz hk)
      clear hz hk C
      obtain ⟨i0, hi, hz0, hz1, hz2⟩ := info_parts Tryz.infoInt
      have Hi := hid hi; have Hz0 := hid hz0; have Hz1 := hid hz1; have Hz2 := hid hz2
      have HROW := hid HL5.out.row
      clear hi hz0 hz1 hz2
      go_wp2_with (at_builtin; refine wpList_append_own_at _ rfl _ _ 25 rfl w.heap.size 3 i0 _ 1 8 Tryz.underlying25 Hi.out Hz0.out Hz1.out Hz2.out rfl (by decide) _ _ _ rfl (HROW.out.alloc _) ⟨w5.heap.size, 0, none⟩ 1 1 [.int .i64 (p : Nat)] rfl rfl (row_one _ _ _) (fun u hu => by simp at hu; subst hu; rfl) (by have := HIN.out; have := HN.out; unfold maxLen; omega) (by have := HIN.out; have := HN.out; omega) (by have := HL5.out.hp.be.size; simp; omega) ?_)
      intro v2 w7 o2 gr2 _ mv2
      have hrow2 : LnZ (fun b => v2.ownBlock = some b) w hb (tyS 1) 1 0 (decide (0 < i + 1)) 0 300 (lineB 300 (i + 1) (fun _ => 0)) v2 (i + 1) w7 := by
        have u := ((Upd.refl (fun b => (Value.slice ao i cp).ownBlock = some b) w5).alloc _).grown gr2 (fun k hk => .inl hk)
        rw [decide_eq_true (Nat.succ_pos _)]
        exact HL5.out.push u (by rw [← HP.out] at o2; exact o2) (mv2.imp id (fun e => ⟨_, e, by simp⟩))
      have HRW := hid hrow2
      clear o2 gr2 mv2 hrow2
      go_wp2
      go_roundw
      case rel => exact ⟨i + 1, _, rfl, by go_num, by have := HIN.out; omega, HRW.out⟩
      case measure => have := HIN.out; simp [intOf]; omega
    · obtain rfl : i = N := by have := HI.out; omega
      have h1 : ¬ (i : Int) < i := by omega
      have hpos : 0 < i := by have := HN.out; omega
      have HLA := HL.out
      rw [decide_eq_true hpos, ← ringL_zero (N := i)] at HLA
      have HLA := hid HLA
      clear hi HI HL hpos
      go_wp2
      go_loopw [11] (fun vi wr => ∃ k : Nat, vi = .int .i64 (k : Nat) ∧ k ≤ i ∧ LnZ (fun b => (Value.slice ao i cp).ownBlock = some b) w hb (tyS 1) 1 0 true 0 300 (lineB 300 i (ringL i k)) (.slice ao i cp) i wr) (fun vi _ => i - (intOf vi).toNat)
      case atStart => exact ⟨0, rfl, Nat.zero_le _, HLA.out⟩
      case round =>
        obtain ⟨k, rfl, hk, hL⟩ := hrel
        have HK := hid hk; have HL := hid hL
        clear hk hL HLA
        by_cases hi : k < i
        · have hi' : (k : Int) < i := by omega
          have hk0 : ¬ (k : Int) < 0 := by omega
          obtain ⟨m, hm⟩ : ∃ m, (k + 1) % i = m := ⟨_, rfl⟩
          have hmi : m < i := by rw [← hm]; exact Nat.mod_lt _ (by omega)
          have hmi' : (m : Int) < i := by omega
          have hm0 : ¬ (m : Int) < 0 := by omega
          obtain ⟨g, rfl, hc1, hcp⟩ := HL.out.at hi
          obtain ⟨g', e', hc2, _⟩ := HL.out.at hmi
          simp only [Option.some.injEq, Addr.mk.injEq, and_true] at e'
          subst e'
          obtain ⟨p, hp⟩ : ∃ p, 1 + 3 * k = p := ⟨_, rfl⟩
          obtain ⟨q, hq⟩ : ∃ q, 1 + 3 * m = q := ⟨_, rfl⟩
          obtain ⟨m8, hm8⟩ : ∃ m8, q * 8 = m8 := ⟨_, rfl⟩
          obtain ⟨m2, hm2⟩ : ∃ m2, m8 + 2 = m2 := ⟨_, rfl⟩
          have hN := HN.out
          have e1 : IntKind.u64.wrap (q : Int) = (q : Int) := wrap_u64_in (by omega) (by omega)
          have e2 : IntKind.u64.wrap ((q : Int) * 8) = (m8 : Int) := by rw [wrap_u64_in (by omega) (by omega)]; omega
          have e3 : IntKind.u64.wrap ((m8 : Int) + 2) = (m2 : Int) := by rw [wrap_u64_in (by omega) (by omega)]; omega
          have hin : ¬ (i : Int) = 0 := by omega
          have hin2 : ¬ i = 0 := by omega
          have hin3 : ((i : Int) == 0) = false := by simpa using hin2
          have e4 : (IntKind.i64.wrap ((k : Int) + 1)).tmod (i : Int) = (m : Int) := by rw [IntWalk.i64_in _ (by omega), ← hm, Int.tmod_eq_emod_of_nonneg (by omega)]; simp
          rw [hp] at hc1
          rw [hq] at hc2
          have HLD := hid (HL.out.below (Below.refl _ wr).drew)
          have CS := hid (set_h HLD.out.hp ty_okA HLD.out.lt (line_things (k := 300) (n := i) (l := ringL i k) (by omega) (by decide) (fun _ => ringL_lt (by omega) (by omega)) (1 + 3 * k) (lineB_usedC.2 ⟨k, hi, rfl⟩)) (y := (1 + 3 * ((k + 1) % i)) * 8 + 2) (by rw [hm]; omega) (rg_set hi (by omega)))
          rw [hm, hp, hq, hm8, hm2] at CS
          have HIN := hid hi
          clear hm hp hq hm8 hm2 hN hi hmi
          go_wp2_with fail
          go_still_tail 15, (by kernel_rfl)
          change wpList _ _ _ _ _ wr.drew
          go_wp2_with fail
          refine CS.out.mono ?_
          rintro e w5 ⟨rfl, hz, hk⟩
          have HL5 := hid (HLD.out.turn hz hk)
          clear hz hk CS hc1 hc2
          go_wp2
          go_roundw
          case rel => exact ⟨k + 1, by go_num, by have := HIN.out; omega, HL5.out⟩
          case measure => have := HIN.out; simp [intOf]; omega
        · obtain rfl : k = i := by have := HK.out; omega
          have h1 : ¬ (k : Int) < k := by omega
          clear hi HK
          have hN := HN.out
          have hA' : (A : Int) < k := by omega
          have hA0 : ¬ (A : Int) < 0 := by omega
          obtain ⟨g, rfl, hc1, hcp⟩ := HL.out.at hN.2.2
          obtain ⟨q, hq⟩ : ∃ q, 1 + 3 * A = q := ⟨_, rfl⟩
          obtain ⟨m8, hm8⟩ : ∃ m8, q * 8 = m8 := ⟨_, rfl⟩
          obtain ⟨m2, hm2⟩ : ∃ m2, m8 + 2 = m2 := ⟨_, rfl⟩
          have e1 : IntKind.u64.wrap (q : Int) = (q : Int) := wrap_u64_in (by omega) (by omega)
          have e2 : IntKind.u64.wrap ((q : Int) * 8) = (m8 : Int) := by rw [wrap_u64_in (by omega) (by omega)]; omega
          have e3 : IntKind.u64.wrap ((m8 : Int) + 2) = (m2 : Int) := by rw [wrap_u64_in (by omega) (by omega)]; omega
          have HM2 := hid (show (1 + 3 * A) * 8 + 2 = m2 by omega)
          have HM64 := hid (show m2 < 18446744073709551616 by omega)
          rw [hq] at hc1
          clear hq hm8 hm2 hN
          go_wp2_with fail
          refine (seq_any _ _ _ _).mono ?_
          rintro e w11 ⟨rfl, hw11⟩
          have b11 : Below wr.heap.size wr w11 := by rw [hw11]; exact ((Below.refl _ _).alloc (Nat.le_refl _) _).alloc (by simp) _
          have q0 : w11.heap[wr.heap.size]? = some (.cells (u64s [m2]).toArray 56 (0, 0)) := by rw [hw11]; exact heap_alloc_keep (heap_alloc_at _ _ rfl) _
          have q1 : w11.heap[wr.heap.size + 1]? = some (.cells #[.slice (some ⟨wr.heap.size, 0, none⟩) 1 1] 60 (0, 0)) := by rw [hw11]; exact heap_alloc_at _ _ (by simp)
          have hsz : w11.heap.size = wr.heap.size + 2 := by rw [hw11]; simp
          have eb : (wr.alloc (.cells #[.int .u64 (m2 : Nat)] 56)).heap.size = wr.heap.size + 1 := by simp
          rw [eb]
          obtain ⟨Z, hZ⟩ : ∃ Z : Nat → Prop, Z = fun b => (Value.slice (some ⟨g, 0, none⟩) k cp).ownBlock = some b ∨ (wr.heap.size ≤ b ∧ b < w11.heap.size) := ⟨_, rfl⟩
          have hg := HL.out.grow b11
          rw [← hZ] at hg
          have HG := hid hg
          obtain ⟨sb, hsb⟩ : ∃ sb, wr.heap.size + 1 = sb := ⟨_, rfl⟩
          have HRO := hid (show RootsOk Z w11 (.func (.func 29) #[] #[.pointer (some ⟨sb, 0, none⟩)]) [(1 + 3 * A) * 8 + 2] from by
            rw [hZ, ← hsb, HM2.out]
            exact roots_seq (B := wr.heap.size) q1 (.inr ⟨by omega, by omega⟩) (own_lit q0 rfl (by decide)) (fun b h1 h2 => .inr ⟨h1, h2⟩) (by simp))
          have HX := hid (show ∀ y ∈ [(1 + 3 * A) * 8 + 2], y < 18446744073709551616 from fun y hy => by
            simp only [List.mem_singleton] at hy
            have := HM64.out; have := HM2.out; omega)
          rw [hsb]
          clear hZ hw11 b11 q0 q1 hsz eb hg hsb HL hc1 e1 e2 e3 hA' hA0
          go_wp2_with fail
          refine (Live_h HG.out.hp (line_things (k := 300) (n := k) (l := ringL k k) (by have := HN.out; omega) (by decide) (fun _ => ringL_lt (by have := HN.out; omega) (by have := HN.out; omega))) HTAB.out _ _ HRO.out HX.out (by simp)).mono ?_
          rintro e w12 ⟨r, hr1, hr2, rfl, hb⟩
          rw [rg_live HN.out.2.2 HN.out.2.1 hr1 hr2]
          have HL12 := hid (HG.out.below hb); have HRO12 := hid (HRO.out.kept (Kept.of_below HG.out.lt hb))
          clear hb hr1 hr2
          go_wp2_with fail
          refine (Collect_h HL12.out.hp (line_things (k := 300) (n := k) (l := ringL k k) (by have := HN.out; omega) (by decide) (fun _ => ringL_lt (by have := HN.out; omega) (by have := HN.out; omega))) HTAB.out HL12.out.lt lineB_unm _ _ HRO12.out HX.out (by simp)).mono ?_
          rintro e w13 ⟨bs', hco, rfl, hz, hk⟩
          rw [coll_used hco, rg_sweep HN.out.2.2 HN.out.2.1 hco, Int.sub_self]
          rw [rg_sweep HN.out.2.2 HN.out.2.1 hco] at hz
          have HL13 := hid (HL12.out.turn hz hk)
          clear hco hz hk
          go_wp2
          go_loopw [13] (fun vi wr => ∃ j : Nat, vi = .int .i64 (j : Nat) ∧ j ≤ k ∧ LnZ Z w hb (tyS 1) 1 0 true (wrap64 (0 + 1)) 300 (lineB 300 k (ringL k k)) (.slice (some ⟨g, 0, none⟩) k cp) k wr) (fun vi _ => k - (intOf vi).toNat)
          case atStart => exact ⟨0, rfl, Nat.zero_le _, HL13.out⟩
          case round =>
            obtain ⟨j, rfl, hj, hL⟩ := hrel
            have HJ := hid hj; have HL := hid hL
            clear hj hL HL13 HL12 HG HRO HRO12
            by_cases hi : j < k
            · have hi' : (j : Int) < k := by omega
              have hk0 : ¬ (j : Int) < 0 := by omega
              obtain ⟨m, hm⟩ : ∃ m, (j + 1) % k = m := ⟨_, rfl⟩
              have hmi : m < k := by rw [← hm]; exact Nat.mod_lt _ (by omega)
              have hmi' : (m : Int) < k := by omega
              have hm0 : ¬ (m : Int) < 0 := by omega
              obtain ⟨g1, e', hc1, _⟩ := HL.out.at hi
              simp only [Option.some.injEq, Addr.mk.injEq, and_true] at e'
              subst e'
              obtain ⟨p, hp⟩ : ∃ p, 1 + 3 * j = p := ⟨_, rfl⟩
              obtain ⟨q, hq⟩ : ∃ q, 1 + 3 * m = q := ⟨_, rfl⟩
              obtain ⟨m8, hm8⟩ : ∃ m8, q * 8 = m8 := ⟨_, rfl⟩
              obtain ⟨m9, hm9⟩ : ∃ m9, m8 + 2 = m9 := ⟨_, rfl⟩
              have hN := HN.out
              have e1 : IntKind.u64.wrap (q : Int) = (q : Int) := wrap_u64_in (by omega) (by omega)
              have e2 : IntKind.u64.wrap ((q : Int) * 8) = (m8 : Int) := by rw [wrap_u64_in (by omega) (by omega)]; omega
              have e3 : IntKind.u64.wrap ((m8 : Int) + 2) = (m9 : Int) := by rw [wrap_u64_in (by omega) (by omega)]; omega
              have hin : ¬ (k : Int) = 0 := by omega
              have hin2 : ¬ k = 0 := by omega
              have e4 : (IntKind.i64.wrap ((j : Int) + 1)).tmod (k : Int) = (m : Int) := by rw [IntWalk.i64_in _ (by omega), ← hm, Int.tmod_eq_emod_of_nonneg (by omega)]; simp
              have e5 : ((j : Int) + 1).tmod (k : Int) = (m : Int) := by rw [← hm, Int.tmod_eq_emod_of_nonneg (by omega)]; simp
              rw [hp] at hc1
              have CS := hid (get_h HL.out.hp ty_okA HL.out.lt (line_things (k := 300) (n := k) (l := ringL k k) (by omega) (by decide) (fun _ => ringL_lt (by omega) (by omega)) (1 + 3 * j) (lineB_usedC.2 ⟨j, hi, rfl⟩)))
              rw [rg_lk hi (by omega), hm, hp, hq, hm8, hm9] at CS
              have HIN := hid hi; have HQ := hid hq; have HMI := hid hmi
              clear hm hp hq hm8 hm9 hN hi hmi
              go_wp2_with fail
              refine CS.out.mono ?_
              rintro e w5 ⟨rfl, hz, hk⟩
              have HL5 := hid (HL.out.turn hz hk)
              obtain ⟨g2, e', hc2, _⟩ := HL5.out.at HMI.out
              simp only [Option.some.injEq, Addr.mk.injEq, and_true] at e'
              subst e'
              rw [HQ.out] at hc2
              clear hz hk CS hc1
              go_wp2
              go_roundw
              case rel => exact ⟨j + 1, by go_num, by have := HIN.out; omega, HL5.out⟩
              case measure => have := HIN.out; simp [intOf]; omega
            · obtain rfl : j = k := by have := HJ.out; omega
              have h1 : ¬ (j : Int) < j := by omega
              clear hi HJ
              go_wp2_with fail
              refine (seq_any _ _ _ _).mono ?_
              rintro e w21 ⟨rfl, hw21⟩
              have b21 : Below wr.heap.size wr w21 := by rw [hw21]; exact ((Below.refl _ _).alloc (Nat.le_refl _) _).alloc (by simp) _
              have q0 : w21.heap[wr.heap.size]? = some (.cells (u64s [0, 41, 3]).toArray 56 (0, 0)) := by rw [hw21]; exact heap_alloc_keep (heap_alloc_at _ _ rfl) _
              have q1 : w21.heap[wr.heap.size + 1]? = some (.cells #[.slice (some ⟨wr.heap.size, 0, none⟩) 3 3] 60 (0, 0)) := by rw [hw21]; exact heap_alloc_at _ _ (by simp)
              have hsz : w21.heap.size = wr.heap.size + 2 := by rw [hw21]; simp
              have eb : (wr.alloc (.cells #[.int .u64 0, .int .u64 41, .int .u64 3] 56)).heap.size = wr.heap.size + 1 := by simp
              rw [eb]
              have HL21 := hid (HL.out.grow b21)
              have HR21 := hid (show RootsOk (fun b => Z b ∨ (wr.heap.size ≤ b ∧ b < w21.heap.size)) w21 (.func (.func 29) #[] #[.pointer (some ⟨wr.heap.size + 1, 0, none⟩)]) [0, 41, 3] from
                roots_seq (B := wr.heap.size) q1 (.inr ⟨by omega, by omega⟩) (own_lit q0 rfl (by decide)) (fun b h1 h2 => .inr ⟨h1, h2⟩) (by decide))
              clear hw21 b21 q0 q1 hsz eb
              go_wp2_with fail
              refine (Collect_h HL21.out.hp (line_things (k := 300) (n := j) (l := ringL j j) (by have := HN.out; omega) (by decide) (fun _ => ringL_lt (by have := HN.out; omega) (by have := HN.out; omega))) HTAB.out HL21.out.lt lineB_unm _ _ HR21.out (by decide) (by decide)).mono ?_
              rintro e w22 ⟨bs', hco, rfl, hz, hk⟩
              rw [coll_used hco, rg_sweep0 HN.out.2.1 hco, lineB_used, lineB_used]
              rw [rg_sweep0 HN.out.2.1 hco] at hz
              have HL22 := hid (HL21.out.turn hz hk)
              clear hco hz hk
              go_wp2_with fail
              refine (Used_h HL22.out.hp).mono ?_
              rintro e w23 ⟨rfl, hb⟩
              rw [lineB_used]
              have HL23 := hid (HL22.out.below hb)
              clear hb
              go_wp2
              go_ret
              exact ⟨rfl, HL23.out.hp.be⟩
end Go.Proofs.YtlcfkfijomnmnaaGreatDoor
