/- geodelaw23.built. -/
import Derived.Test.YtfpfpopfnbcblaaDoorQMkBuiltMBd
import Derived.Test.YtfpfpopfnbcblaaDoorQInRoundBd
namespace Go.Proofs.YtfpfpopfnbcblaaDoor
open Go.RowKit Go.Maps

/-- A row of numbers, to be read. -/
def IntsAt (W : World) (v : Value) (xs : List Int) : Prop := ∃ ao c, v = .slice ao xs.length c ∧ (xs = [] ∨ ∃ b o, ao = some ⟨b, o, none⟩ ∧ ∀ (k : Nat) (x : Int), xs[k]? = some x → W.cell? ⟨b, o + k, none⟩ = some (.int .i64 x))
/-- One block, as it is given, in memory. -/
structure Bk1 (W : World) (b o : Nat) (x : BkIn) : Prop where
  c0 : W.cell? ⟨b, o, none⟩ = some (.int .i64 x.n)
  c1 : ∃ v, W.cell? ⟨b, o + 1, none⟩ = some v ∧ IntsAt W v x.tl
  c2 : ∃ v, W.cell? ⟨b, o + 2, none⟩ = some v ∧ U64At W v x.raw
  c3 : W.cell? ⟨b, o + 3, none⟩ = some (.bool x.exn)
/-- The row of blocks that is given. -/
def BksAt (W : World) (v : Value) (l : List BkIn) : Prop := ∃ ao c, v = .slice ao l.length c ∧ ∀ i x, l[i]? = some x → ∃ b o, ao = some ⟨b, o, none⟩ ∧ Bk1 W b (o + i * 4) x
structure OkIn (x : BkIn) : Prop where
  n1 : -9223372036854775808 ≤ x.n
  n2 : x.n < 9223372036854775808
  raw : ∀ y ∈ x.raw, y < 18446744073709551616
theorem U64At.on {W W' : World} {v : Value} {xs : List Nat} (h : U64At W v xs) (hb : Below W.heap.size W W') : U64At W' v xs := by
  obtain ⟨ao, c, rfl, h⟩ := h
  exact ⟨ao, c, rfl, h.imp id (fun ⟨b, o, e, hc⟩ => ⟨b, o, e, fun k x hk => below_cell hb (hc k x hk)⟩)⟩
theorem IntsAt.on {W W' : World} {v : Value} {xs : List Int} (h : IntsAt W v xs) (hb : Below W.heap.size W W') : IntsAt W' v xs := by
  obtain ⟨ao, c, rfl, h⟩ := h
  exact ⟨ao, c, rfl, h.imp id (fun ⟨b, o, e, hc⟩ => ⟨b, o, e, fun k x hk => below_cell hb (hc k x hk)⟩)⟩
theorem Bk1.on {W W' : World} {b o : Nat} {x : BkIn} (h : Bk1 W b o x) (hb : Below W.heap.size W W') : Bk1 W' b o x := by
  obtain ⟨c0, ⟨v1, c1, d1⟩, ⟨v2, c2, d2⟩, c3⟩ := h
  exact ⟨below_cell hb c0, ⟨v1, below_cell hb c1, d1.on hb⟩, ⟨v2, below_cell hb c2, d2.on hb⟩, below_cell hb c3⟩
theorem BksAt.on {W W' : World} {v : Value} {l : List BkIn} (h : BksAt W v l) (hb : Below W.heap.size W W') : BksAt W' v l := by
  obtain ⟨ao, c, rfl, h⟩ := h
  exact ⟨ao, c, rfl, fun i x hi => by obtain ⟨b, o, e, h1⟩ := h i x hi; exact ⟨b, o, e, h1.on hb⟩⟩
/-- The cells of one block, as they stand in slots. -/
theorem Bk1.cells {W : World} {b o : Nat} {x : BkIn} (h : Bk1 W b o x) : W.cell? ⟨b, o, none⟩ = some (.int .i64 x.n) ∧ (∃ a1 c1, W.cell? ⟨b, o + 1, none⟩ = some (.slice a1 x.tl.length c1) ∧ ∀ (k : Nat) (y : Int), x.tl[k]? = some y → ∃ g d, a1 = some ⟨g, d, none⟩ ∧ W.cell? ⟨g, d + k, none⟩ = some (.int .i64 y)) ∧ (∃ a2 c2, W.cell? ⟨b, o + 2, none⟩ = some (.slice a2 x.raw.length c2) ∧ ∀ k y : Nat, x.raw[k]? = some y → ∃ g d, a2 = some ⟨g, d, none⟩ ∧ W.cell? ⟨g, d + k, none⟩ = some (.int .u64 y)) ∧ W.cell? ⟨b, o + 3, none⟩ = some (.bool x.exn) := by
  obtain ⟨c0, ⟨v1, c1, ⟨a1, z1, rfl, d1⟩⟩, ⟨v2, c2, ⟨a2, z2, rfl, d2⟩⟩, c3⟩ := h
  refine ⟨c0, ⟨a1, z1, c1, fun k y hk => ?_⟩, ⟨a2, z2, c2, fun k y hk => ?_⟩, c3⟩
  · rcases d1 with h | ⟨g, d, e, hc⟩
    · rw [h] at hk; simp at hk
    · exact ⟨g, d, e, hc k y hk⟩
  · rcases d2 with h | ⟨g, d, e, hc⟩
    · rw [h] at hk; simp at hk
    · refine ⟨g, d, e, ?_⟩
      have := hc k y hk
      rwa [Addr.add_lit] at this
def NoBuilt (e : Ending) (w W : World) : Prop := e = .returned (.tuple #[.pointer none, .pointer none, .slice none 0 0, .bool false]) ∧ Below w.heap.size w W
/-- What built tells. -/
def BuiltPost (w : World) (l : List BkIn) (e : Ending) (W : World) : Prop :=
  (builtF l = none ∧ NoBuilt e w W) ∨ ∃ p q bs ats tv, builtF l = some (bs, ats) ∧ e = .returned (.tuple #[.pointer (some ⟨p, 0, none⟩), .pointer (some ⟨q, 0, none⟩), tv, .bool true]) ∧ Bu w p q 600 bs bs ats tv W
set_option maxRecDepth 100000 in
set_option maxHeartbeats 40000000 in
theorem built_any (l : List BkIn) (v : Value) (w : World) (hv : BksAt w v l) (hok : ∀ x ∈ l, OkIn x) :
    Calls Tryd.prog 7 #[v] w (BuiltPost w l) := by
  obtain ⟨ao, c, rfl, hr⟩ := hv
  have HV := Lib.hid (show BksAt w (.slice ao l.length c) l from ⟨ao, c, rfl, hr⟩); have HOK := Lib.hid hok
  obtain ⟨L, hL⟩ : ∃ L, l.length = L := ⟨_, rfl⟩
  rw [hL]
  have HL := Lib.hid hL
  have HR := Lib.hid hr
  clear hr hok hL
  go_enter Tryd.func7, Tryd.ntmps7
  go_wp2_with fail
  refine (New_n w 600 600 (by decide) (by decide)).mono ?_
  rintro e w1 ⟨p, rfl, A1⟩
  have HA1 := Lib.hid A1
  clear A1
  go_wp2_with fail
  refine (rNew_at 600 (by decide) w1).mono ?_
  rintro e w2 ⟨q, rfl, R2, b2⟩
  have H2 := Lib.hid (Bu.start HA1.out R2 b2)
  clear R2 b2
  by_cases hg : 60 < L
  · have hg' : (60 : Int) < L := by omega
    have HG := Lib.hid hg
    clear hg
    go_wp2
    refine bodyPost_ret (v := .tuple #[.pointer none, .pointer none, .slice none 0 0, .bool false]) (by simp [results, Tryd.results7, go_sem]) rfl ?_
    exact .inl ⟨by unfold builtF; rw [if_pos (by rw [HL.out]; exact HG.out)], rfl, H2.out.below⟩
  · have hg' : ¬ (60 : Int) < L := by omega
    have hg2 : decide ((60 : Int) < (L : Nat)) = false := decide_eq_false hg'
    have HG := Lib.hid hg
    clear hg
    go_wp2
    go_loopw [8, 9, 10, 11, 12, 13] (fun t8 t9 t10 t11 t12 t13 wr => ∃ (i : Nat) (bs : List Blk) (ats : List Nat), t9 = .int .i64 i ∧ i ≤ L ∧ takesF (l.take i) (newBs 600, []) = some (bs, ats) ∧ Bu w p q 600 bs bs ats t8 wr) (fun _ t9 _ _ _ _ _ => L - (intOf t9).toNat)
    case atStart => exact ⟨0, newBs 600, [], rfl, Nat.zero_le _, rfl, H2.out⟩
    case round =>
      obtain ⟨i, bs, ats, rfl, hi, htk, hbu⟩ := hrel
      obtain ⟨aot, ct, rfl⟩ := hbu.form
      have HBU := Lib.hid hbu; have HT := Lib.hid htk
      clear hbu htk
      by_cases hlt : i < L
      · obtain ⟨x, hx⟩ : ∃ x, l[i]? = some x := ⟨l[i]'(by rw [HL.out]; exact hlt), by simp [HL.out, hlt]⟩
        obtain ⟨b, o, rfl, hb⟩ := HR.out i x hx
        have hox := HOK.out x (List.mem_of_getElem? hx)
        obtain ⟨k0, ⟨a1, z1, k1, _⟩, ⟨a2, z2, k2, _⟩, k3⟩ := (hb.on (show Below w.heap.size w wr from HBU.out.below)).cells
        have hlt' : (i : Int) < L := by omega
        have hi0 : (0 : Int) ≤ i := by omega
        have HX := Lib.hid hx; have HLT := Lib.hid hlt; have HOX := Lib.hid hox
        have HI6 := Lib.hid (show (i : Int) < 60 by have := HG.out; omega)
        obtain ⟨lt, hlt2⟩ : ∃ lt, x.tl.length = lt := ⟨_, rfl⟩
        obtain ⟨lr, hlr⟩ : ∃ lr, x.raw.length = lr := ⟨_, rfl⟩
        obtain ⟨n, hn⟩ : ∃ n, x.n = n := ⟨_, rfl⟩
        rw [hlt2] at k1
        rw [hlr] at k2
        rw [hn] at k0
        have HLTO := Lib.hid hlt2; have HLR := Lib.hid hlr; have HN := Lib.hid hn
        clear hx hlt hox hb hi hlt2 hlr hn
        by_cases c1 : n < 1
        · have HNS := Lib.hid (show takeStep (bs, ats) x = none from by unfold takeStep; rw [if_neg (by simp only [okB, HN.out, Bool.and_eq_true, decide_eq_true_eq]; omega)])
          go_wp2
          refine bodyPost_ret (v := .tuple #[.pointer none, .pointer none, .slice none 0 0, .bool false]) (by simp [results, Tryd.results7, go_sem]) rfl ?_
          exact .inl ⟨builtF_none (takesF_none HT.out HX.out HNS.out), rfl, HBU.out.below⟩
        by_cases c2 : 8 < n
        · have HNS := Lib.hid (show takeStep (bs, ats) x = none from by unfold takeStep; rw [if_neg (by simp only [okB, HN.out, Bool.and_eq_true, decide_eq_true_eq]; omega)])
          go_wp2
          refine bodyPost_ret (v := .tuple #[.pointer none, .pointer none, .slice none 0 0, .bool false]) (by simp [results, Tryd.results7, go_sem]) rfl ?_
          exact .inl ⟨builtF_none (takesF_none HT.out HX.out HNS.out), rfl, HBU.out.below⟩
        by_cases c3 : 8 < lt
        · have c3' : (8 : Int) < lt := by omega
          have HNS := Lib.hid (show takeStep (bs, ats) x = none from by unfold takeStep; rw [if_neg (by simp only [okB, HLTO.out, Bool.and_eq_true, decide_eq_true_eq]; omega)])
          clear c3
          go_wp2
          refine bodyPost_ret (v := .tuple #[.pointer none, .pointer none, .slice none 0 0, .bool false]) (by simp [results, Tryd.results7, go_sem]) rfl ?_
          exact .inl ⟨builtF_none (takesF_none HT.out HX.out HNS.out), rfl, HBU.out.below⟩
        have c3' : ¬ (8 : Int) < lt := by omega
        by_cases c4 : 8 < lr
        · have c4' : (8 : Int) < lr := by omega
          have HNS := Lib.hid (show takeStep (bs, ats) x = none from by unfold takeStep; rw [if_neg (by simp only [okB, HLR.out, Bool.and_eq_true, decide_eq_true_eq]; omega)])
          clear c3 c4
          go_wp2
          refine bodyPost_ret (v := .tuple #[.pointer none, .pointer none, .slice none 0 0, .bool false]) (by simp [results, Tryd.results7, go_sem]) rfl ?_
          exact .inl ⟨builtF_none (takesF_none HT.out HX.out HNS.out), rfl, HBU.out.below⟩
        have c4' : ¬ (8 : Int) < lr := by omega
        have hok : okB x = true := by
          simp only [okB, HN.out, HLTO.out, HLR.out, Bool.and_eq_true, decide_eq_true_eq]; omega
        obtain ⟨a, er, bs', ht⟩ : ∃ a er bs', takeF bs n = (a, er, bs') := ⟨_, _, _, rfl⟩
        have her := takeF_er (bs := bs) (n := n) (by omega)
        rw [ht] at her
        have HOKB := Lib.hid hok; have HTF := Lib.hid ht
        have HC1 := Lib.hid c1; have HC2 := Lib.hid c2
        have hn1 : 1 ≤ n := by omega
        have hn2 : n ≤ 8 := by omega
        have CA := Lib.hid (HBU.out.callA (f := 18) (args := #[.pointer (some ⟨p, 0, none⟩), .int .i64 n]) (v := .tuple #[.int .i64 (a : Nat), .int .i64 er]) (bs' := bs') (fun R A hR => Take_r A hR ht (a : Int) rfl (by omega) (by omega)))
        have HKK := Lib.hid k0
        have HN12 := Lib.hid (And.intro hn1 hn2)
        clear ht hok c3 c4 hn1 hn2
        go_wp2_with fail
        refine CA.out.mono ?_
        rintro e w3 ⟨rfl, hbu3⟩
        have k0' : w3.cell? ⟨b, o + i * 4, none⟩ = some (.int .i64 n) := by
          have := (HR.out i x HX.out)
          obtain ⟨b', o', e, h⟩ := this
          simp only [Option.some.injEq, Addr.mk.injEq, and_true] at e
          obtain ⟨rfl, rfl⟩ := e
          have h1 := (h.on (show Below w.heap.size w w3 from hbu3.below)).c0
          rw [HN.out] at h1; exact h1
        have CR := Lib.hid (hbu3.callR (f := 21) (args := #[.pointer (some ⟨q, 0, none⟩), .int .i64 n]) (v := .tuple #[.int .i64 (a : Nat), .int .i64 er]) (bs' := bs') (fun S2 rs h e => (rTake_at h n HN12.out.1 (by have := HN12.out.2; omega)).mono (fun e' w' hp => by
          unfold RTakePost at hp
          rw [e, HTF.out] at hp
          exact hp)))
        clear k0 k1 k2 k3 hbu3
        go_wp2_with fail
        refine CR.out.mono ?_
        rintro e w4 ⟨rfl, hbu4⟩
        have HBU4 := Lib.hid hbu4
        clear hbu4 CA CR k0'
        rcases her with her | her
        · have her : er = 0 := her
          subst her
          obtain ⟨i0, hi, hz0, hz1, hz2⟩ := info_parts Tryd.infoInt
          have Hi := Lib.hid hi; have Hz0 := Lib.hid hz0; have Hz1 := Lib.hid hz1; have Hz2 := Lib.hid hz2
          obtain ⟨R, S2, _, _, _, _, _, hrow, _⟩ := HBU4.out.ex
          have HROW := Lib.hid hrow
          obtain ⟨al, hal⟩ : ∃ al, ats.length = al := ⟨_, rfl⟩
          have halen := takesF_len _ _ _ HT.out
          have hal60 : al ≤ 60 := by rw [← hal]; dsimp only at halen; rw [halen, List.length_take]; have := HG.out; have := HL.out; simp; omega
          have HAL := Lib.hid hal; have HAL60 := Lib.hid hal60
          rw [hal]
          clear hi hz0 hz1 hz2 hrow halen hal60
          rw [hal] at HROW
          clear hal
          go_wp2_with (at_builtin; refine wpList_append_own_at _ rfl _ _ 27 rfl w.heap.size 3 i0 _ 1 8 Tryd.underlying27 Hi.out Hz0.out Hz1.out Hz2.out rfl (by decide) _ _ _ rfl (HROW.out.alloc _) ⟨w4.heap.size, 0, none⟩ 1 1 [.int .i64 (a : Nat)] rfl rfl (row_one _ _ _) (fun u hu => by simp at hu; subst hu; rfl) (by have := HAL60.out; simp [maxLen]; omega) (by have := HAL60.out; omega) (by have := HBU4.out.below.size; simp; omega) ?_)
          intro v2 w5 o2 gr2 _ mv2
          have hrow2 : Bu w p q 600 bs' bs' (ats ++ [a]) v2 w5 := by
            have u := ((Upd.refl (fun b => (Value.slice aot al ct).ownBlock = some b) w4).alloc _).grown gr2 (fun k hk => .inl hk)
            have h4 := HBU4.out
            rw [HAL.out] at h4
            refine h4.row ?_ u (mv2.imp id (fun e => ⟨_, e, by simp⟩))
            rw [List.length_append, HAL.out]
            unfold ints at o2 ⊢
            rw [List.map_append]
            exact o2
          have HRW := Lib.hid hrow2
          clear o2 gr2 mv2 hrow2
          have HTS := Lib.hid (show takeStep (bs, ats) x = some (bs', ats ++ [a]) from by unfold takeStep; rw [if_pos HOKB.out]; dsimp only; rw [HN.out, HTF.out]; rfl)
          have HI6' := HI6.out
          go_wp2
          go_roundw
          case rel => exact ⟨i + 1, bs', ats ++ [a], by go_num, HLT.out, takesF_step HT.out HX.out HTS.out, HRW.out⟩
          case measure => have := HLT.out; simp [intOf]; omega
        · have her : er = 5 := her
          subst her
          have HNS := Lib.hid (show takeStep (bs, ats) x = none from by unfold takeStep; rw [if_pos HOKB.out]; dsimp only; rw [HN.out, HTF.out]; rfl)
          go_wp2
          refine bodyPost_ret (v := .tuple #[.pointer none, .pointer none, .slice none 0 0, .bool false]) (by simp [results, Tryd.results7, go_sem]) rfl ?_
          exact .inl ⟨builtF_none (takesF_none HT.out HX.out HNS.out), rfl, HBU4.out.below⟩
      · obtain rfl : i = L := by omega
        have hlt' : ¬ (i : Int) < i := by omega
        have htk : takesF l (newBs 600, []) = some (bs, ats) := by
          have := HT.out
          rw [List.take_of_length_le (by rw [HL.out]; exact Nat.le_refl _)] at this
          exact this
        have hall : ats.length = i := by have := takesF_len _ _ _ htk; simp at this; rw [this, HL.out]
        have hbok := BuOk.takes l _ (bs, ats) BuOk.start htk
        have HALL := Lib.hid hall; have HTK := Lib.hid htk; have HBOK := Lib.hid hbok
        rw [hall]
        clear htk hi hall hbok
        go_wp2
        go_loopw [14, 15, 16] (fun t14 t15 t16 wr => ∃ j : Nat, t14 = .int .i64 j ∧ j ≤ i ∧ Bu w p q 600 (setsF ats ats (l.take j) bs) (setsF ats ats (l.take j) bs) ats (.slice aot i ct) wr) (fun t14 _ _ _ => i - (intOf t14).toNat)
        case atStart => exact ⟨0, rfl, Nat.zero_le _, by have := HBU.out; rw [HALL.out] at this; exact this⟩
        case round =>
          obtain ⟨j, rfl, hj, hbu⟩ := hrel
          have HBJ := Lib.hid hbu
          clear hbu
          by_cases hlt2 : j < i
          · obtain ⟨x, hx⟩ : ∃ x, l[j]? = some x := ⟨l[j]'(by rw [HL.out]; exact hlt2), by simp [HL.out, hlt2]⟩
            obtain ⟨b, o, rfl, hb⟩ := HR.out j x hx
            have hokx := takesF_okB l _ _ HTK.out x (List.mem_of_getElem? hx)
            have hox := HOK.out x (List.mem_of_getElem? hx)
            simp only [okB, Bool.and_eq_true, decide_eq_true_eq] at hokx
            obtain ⟨nn, hnn⟩ : ∃ nn : Nat, x.n = nn := ⟨x.n.toNat, by omega⟩
            obtain ⟨g, cg, eg, _⟩ := HBJ.out.at j (by rw [HALL.out]; exact hlt2)
            simp only [Value.slice.injEq] at eg
            obtain ⟨ea, el, ec⟩ := eg
            clear el ec
            subst ea
            obtain ⟨B0, hB0⟩ : ∃ B0, setsF ats ats (l.take j) bs = B0 := ⟨_, rfl⟩
            obtain ⟨a, ha⟩ : ∃ a, ats.getD j 0 = a := ⟨_, rfl⟩
            have hat : ∀ (bA bR : List Blk) (t : Nat) (w' : World), t < i → Bu w p q 600 bA bR ats (.slice (some ⟨g, 0, none⟩) i ct) w' → w'.cell? ⟨g, t, none⟩ = some (.int .i64 (ats.getD t 0 : Nat)) := fun bA bR t w' ht h => by
              obtain ⟨g', c', e, h⟩ := h.at t (by rw [HALL.out]; exact ht)
              simp only [Value.slice.injEq, Option.some.injEq, Addr.mk.injEq, and_true] at e
              rw [e.1]; exact h
            have ha6 : ∀ t, t < i → ats.getD t 0 ≤ 601 := fun t ht => HBOK.out.le (by simp [HALL.out, ht])
            have ha60 : a ≤ 601 := by rw [← ha]; exact ha6 j hlt2
            have hlt2' : (j : Int) < i := by omega
            have hj0 : (0 : Int) ≤ j := by omega
            have HX := Lib.hid hx; have HLT := Lib.hid hlt2; have HOX := Lib.hid hox; have HOKX := Lib.hid hokx; have HNN := Lib.hid hnn; have HB0 := Lib.hid hB0; have HAJ := Lib.hid ha; have HAT := Lib.hid hat; have HA6 := Lib.hid ha6; have HA60 := Lib.hid ha60; have HB := Lib.hid hb
            have HJ6 := Lib.hid (show (j : Int) < 60 by have := HG.out; omega)
            have HBS := Lib.hid (show Bu w p q 600 B0 B0 ats (.slice (some ⟨g, 0, none⟩) i ct) wr from by have := HBJ.out; rw [hB0] at this; exact this)
            clear hx hlt2 hox hokx hnn hB0 ha hat ha6 ha60 hb hj hlt'
            go_wp2
            go_loopw [15, 16] (fun t15 t16 wi => ∃ k : Nat, t15 = .int .i64 k ∧ k ≤ nn ∧ Bu w p q 600 (sets1 ats x a B0 k) (sets1 ats x a B0 k) ats (.slice (some ⟨g, 0, none⟩) i ct) wi) (fun t15 _ _ => nn - (intOf t15).toNat)
            case atStart => exact ⟨0, rfl, Nat.zero_le _, HBS.out⟩
            case round =>
              obtain ⟨k, rfl, hk, hbk⟩ := hrel
              have HBK := Lib.hid hbk
              obtain ⟨k0, ⟨a1, z1, k1, t1⟩, ⟨a2, z2, k2, t2⟩, k3⟩ := (HB.out.on (show Below w.heap.size w wr from hbk.below)).cells
              rw [HNN.out] at k0
              clear hbk
              by_cases hkn : k < nn
              · skip
-- INNER (printed by mkbuilt.py)
                have hkn' : (k : Int) < nn := by omega
                have hk0 : (0 : Int) ≤ k := by omega
                obtain ⟨lt, hlt2⟩ : ∃ lt, x.tl.length = lt := ⟨_, rfl⟩
                obtain ⟨lr, hlr⟩ : ∃ lr, x.raw.length = lr := ⟨_, rfl⟩
                obtain ⟨ex, hex⟩ : ∃ ex, x.exn = ex := ⟨_, rfl⟩
                rw [hlt2] at k1
                rw [hlr] at k2
                rw [hex] at k3
                have ka : wr.cell? ⟨g, j, none⟩ = some (.int .i64 (a : Nat)) := by rw [← HAJ.out]; exact HAT.out _ _ j wr HLT.out HBK.out
                have HKN := Lib.hid hkn; have HLTO := Lib.hid hlt2; have HLR := Lib.hid hlr; have HEX := Lib.hid hex; have HT1 := Lib.hid t1; have HT2 := Lib.hid t2
                have HK8 := Lib.hid (show (k : Int) < 8 by have := HOKX.out; have := HNN.out; omega)
                obtain ⟨B, hBB⟩ : ∃ B, sets1 ats x a B0 k = B := ⟨_, rfl⟩
                have hbk := HBK.out
                rw [hBB] at hbk
                have HBB := Lib.hid hBB; have HBU := Lib.hid hbk
                clear hkn hk hlt2 hlr hex hBB hbk t1 t2 HBK
                by_cases hr : k < lr
                · obtain ⟨y, hy⟩ : ∃ y, x.raw[k]? = some y := ⟨x.raw[k]'(by rw [HLR.out]; exact hr), by simp [HLR.out, hr]⟩
                  obtain ⟨gr, dr, rfl, kr⟩ := HT2.out k y hy
                  have hr' : (k : Int) < lr := by omega
                  have HY := Lib.hid hy; have HY64 := Lib.hid (HOX.out.raw y (List.mem_of_getElem? hy))
                  clear hy hr
                  by_cases ht : k < lt
                  · obtain ⟨t, htt⟩ : ∃ t, x.tl[k]? = some t := ⟨x.tl[k]'(by rw [HLTO.out]; exact ht), by simp [HLTO.out, ht]⟩
                    obtain ⟨gt, dt, rfl, kt⟩ := HT1.out k t htt
                    have ht' : (k : Int) < lt := by omega
                    have HTT := Lib.hid htt
                    clear htt ht
                    by_cases hn0 : 0 ≤ t
                    · obtain ⟨tt, rfl⟩ : ∃ tt : Nat, t = tt := ⟨t.toNat, by omega⟩
                      by_cases hti : tt < i
                      · have hti' : (tt : Int) < i := by omega
                        have ktt := HAT.out _ _ tt wr hti HBU.out
                        have ht6 := HA6.out tt hti
                        obtain ⟨a2', ha2⟩ : ∃ a2', ats.getD tt 0 = a2' := ⟨_, rfl⟩
                        rw [ha2] at ktt ht6
                        have HA2 := Lib.hid ha2; have HTI := Lib.hid hti; have HT6 := Lib.hid ht6
                        have e1 : IntKind.u64.wrap (a2' : Int) = (a2' : Int) := wrap_u64_in (by omega) (by omega)
                        obtain ⟨m8, hm8⟩ : ∃ m8, a2' * 8 = m8 := ⟨_, rfl⟩
                        obtain ⟨m2, hm2⟩ : ∃ m2, m8 + 2 = m2 := ⟨_, rfl⟩
                        obtain ⟨m5, hm5⟩ : ∃ m5, m2 + 3 = m5 := ⟨_, rfl⟩
                        have e2 : IntKind.u64.wrap ((a2' : Int) * 8) = (m8 : Int) := by rw [wrap_u64_in (by omega) (by omega)]; omega
                        have e3 : IntKind.u64.wrap ((m8 : Int) + 2) = (m2 : Int) := by rw [wrap_u64_in (by omega) (by omega)]; omega
                        have e4 : IntKind.u64.wrap ((m2 : Int) + 3) = (m5 : Int) := by rw [wrap_u64_in (by omega) (by omega)]; omega
                        have HM8 := Lib.hid hm8; have HM2 := Lib.hid hm2; have HM5 := Lib.hid hm5
                        clear hti ha2 ht6 hm8 hm2 hm5
                        cases ex
                        · skip
                          have HW := Lib.hid (show wordOf ats x k = m2 from by unfold wordOf; rw [HTT.out]; dsimp only; rw [if_pos (by have := HTI.out; have := HALL.out; omega), HEX.out, Int.toNat_natCast, HA2.out]; have h1 := HM8.out; have h2 := HM2.out; have h5 := HM5.out; simp; omega)
                          have HV64 := Lib.hid (show m2 < 18446744073709551616 from by have := HT6.out; have h1 := HM8.out; have h2 := HM2.out; have h5 := HM5.out; omega)
                          obtain ⟨er, B', hst⟩ : ∃ er B', setF B (a : Int) (k : Int) (m2) = (er, B') := ⟨_, _, rfl⟩
                          have HST := Lib.hid hst
                          clear hst
                          have CA := Lib.hid (HBU.out.callA (f := 19) (args := #[.pointer (some ⟨p, 0, none⟩), .int .i64 (a : Nat), .int .i64 (k : Nat), .int .u64 (m2 : Nat)]) (v := .int .i64 er) (bs' := B') (fun R A hR => Set_r A hR HST.out _ rfl (by omega) (by have := HA60.out; omega) HV64.out))
                          have HJ6' := HJ6.out
                          have HK8' := HK8.out
                          go_wp2_with fail
                          refine CA.out.mono ?_
                          rintro e w3 ⟨rfl, hbu3⟩
                          have ka' : w3.cell? ⟨g, j, none⟩ = some (.int .i64 (a : Nat)) := by rw [← HAJ.out]; exact HAT.out _ _ j w3 HLT.out hbu3
                          have CR := Lib.hid (hbu3.callR (f := 22) (args := #[.pointer (some ⟨q, 0, none⟩), .int .i64 (a : Nat), .int .i64 (k : Nat), .int .u64 (m2 : Nat)]) (v := .int .i64 er) (bs' := B') (fun S2 rs h e => (rSet_at h (a : Int) (k : Int) (m2) HV64.out).mono (fun e' w' hp => by
                            unfold SetPost at hp
                            rw [e, HST.out] at hp
                            exact ⟨hp.1, S2, hp.2.1, hp.2.2, Fresh.refl _ _⟩)))
                          clear hbu3 ka k0 k1 k2 k3
                          go_wp2_with fail
                          refine CR.out.mono ?_
                          rintro e w4 ⟨rfl, hbu4⟩
                          have HBU4 := Lib.hid hbu4
                          clear hbu4 CA CR ka'
                          go_wp2
                          go_roundw
                          case rel => exact ⟨k + 1, by go_num, HKN.out, by rw [sets1_succ, HBB.out, HW.out, HST.out]; exact HBU4.out⟩
                          case measure => have := HKN.out; simp [intOf]; omega
                        · skip
                          have HW := Lib.hid (show wordOf ats x k = m5 from by unfold wordOf; rw [HTT.out]; dsimp only; rw [if_pos (by have := HTI.out; have := HALL.out; omega), HEX.out, Int.toNat_natCast, HA2.out]; have h1 := HM8.out; have h2 := HM2.out; have h5 := HM5.out; simp; omega)
                          have HV64 := Lib.hid (show m5 < 18446744073709551616 from by have := HT6.out; have h1 := HM8.out; have h2 := HM2.out; have h5 := HM5.out; omega)
                          obtain ⟨er, B', hst⟩ : ∃ er B', setF B (a : Int) (k : Int) (m5) = (er, B') := ⟨_, _, rfl⟩
                          have HST := Lib.hid hst
                          clear hst
                          have CA := Lib.hid (HBU.out.callA (f := 19) (args := #[.pointer (some ⟨p, 0, none⟩), .int .i64 (a : Nat), .int .i64 (k : Nat), .int .u64 (m5 : Nat)]) (v := .int .i64 er) (bs' := B') (fun R A hR => Set_r A hR HST.out _ rfl (by omega) (by have := HA60.out; omega) HV64.out))
                          have HJ6' := HJ6.out
                          have HK8' := HK8.out
                          go_wp2_with fail
                          refine CA.out.mono ?_
                          rintro e w3 ⟨rfl, hbu3⟩
                          have ka' : w3.cell? ⟨g, j, none⟩ = some (.int .i64 (a : Nat)) := by rw [← HAJ.out]; exact HAT.out _ _ j w3 HLT.out hbu3
                          have CR := Lib.hid (hbu3.callR (f := 22) (args := #[.pointer (some ⟨q, 0, none⟩), .int .i64 (a : Nat), .int .i64 (k : Nat), .int .u64 (m5 : Nat)]) (v := .int .i64 er) (bs' := B') (fun S2 rs h e => (rSet_at h (a : Int) (k : Int) (m5) HV64.out).mono (fun e' w' hp => by
                            unfold SetPost at hp
                            rw [e, HST.out] at hp
                            exact ⟨hp.1, S2, hp.2.1, hp.2.2, Fresh.refl _ _⟩)))
                          clear hbu3 ka k0 k1 k2 k3
                          go_wp2_with fail
                          refine CR.out.mono ?_
                          rintro e w4 ⟨rfl, hbu4⟩
                          have HBU4 := Lib.hid hbu4
                          clear hbu4 CA CR ka'
                          go_wp2
                          go_roundw
                          case rel => exact ⟨k + 1, by go_num, HKN.out, by rw [sets1_succ, HBB.out, HW.out, HST.out]; exact HBU4.out⟩
                          case measure => have := HKN.out; simp [intOf]; omega
                      · have hti' : ¬ (tt : Int) < i := by omega
                        have HTI := Lib.hid hti
                        clear hti
                        have HW := Lib.hid (show wordOf ats x k = y from by unfold wordOf; rw [HTT.out]; dsimp only; rw [if_neg (by have := HTI.out; have := HALL.out; omega)]; simp [HY.out])
                        have HV64 := Lib.hid (show y < 18446744073709551616 from by exact HY64.out)
                        obtain ⟨er, B', hst⟩ : ∃ er B', setF B (a : Int) (k : Int) (y) = (er, B') := ⟨_, _, rfl⟩
                        have HST := Lib.hid hst
                        clear hst
                        have CA := Lib.hid (HBU.out.callA (f := 19) (args := #[.pointer (some ⟨p, 0, none⟩), .int .i64 (a : Nat), .int .i64 (k : Nat), .int .u64 (y : Nat)]) (v := .int .i64 er) (bs' := B') (fun R A hR => Set_r A hR HST.out _ rfl (by omega) (by have := HA60.out; omega) HV64.out))
                        have HJ6' := HJ6.out
                        have HK8' := HK8.out
                        go_wp2_with fail
                        refine CA.out.mono ?_
                        rintro e w3 ⟨rfl, hbu3⟩
                        have ka' : w3.cell? ⟨g, j, none⟩ = some (.int .i64 (a : Nat)) := by rw [← HAJ.out]; exact HAT.out _ _ j w3 HLT.out hbu3
                        have CR := Lib.hid (hbu3.callR (f := 22) (args := #[.pointer (some ⟨q, 0, none⟩), .int .i64 (a : Nat), .int .i64 (k : Nat), .int .u64 (y : Nat)]) (v := .int .i64 er) (bs' := B') (fun S2 rs h e => (rSet_at h (a : Int) (k : Int) (y) HV64.out).mono (fun e' w' hp => by
                          unfold SetPost at hp
                          rw [e, HST.out] at hp
                          exact ⟨hp.1, S2, hp.2.1, hp.2.2, Fresh.refl _ _⟩)))
                        clear hbu3 ka k0 k1 k2 k3
                        go_wp2_with fail
                        refine CR.out.mono ?_
                        rintro e w4 ⟨rfl, hbu4⟩
                        have HBU4 := Lib.hid hbu4
                        clear hbu4 CA CR ka'
                        go_wp2
                        go_roundw
                        case rel => exact ⟨k + 1, by go_num, HKN.out, by rw [sets1_succ, HBB.out, HW.out, HST.out]; exact HBU4.out⟩
                        case measure => have := HKN.out; simp [intOf]; omega
                    · have HN0 := Lib.hid hn0
                      have hn0' : decide ((0 : Int) ≤ t) = false := by simpa using hn0
                      have HW := Lib.hid (show wordOf ats x k = y from by unfold wordOf; rw [HTT.out]; dsimp only; rw [if_neg (by have := HN0.out; omega)]; simp [HY.out])
                      have HV64 := Lib.hid (show y < 18446744073709551616 from by exact HY64.out)
                      obtain ⟨er, B', hst⟩ : ∃ er B', setF B (a : Int) (k : Int) (y) = (er, B') := ⟨_, _, rfl⟩
                      have HST := Lib.hid hst
                      clear hst
                      have CA := Lib.hid (HBU.out.callA (f := 19) (args := #[.pointer (some ⟨p, 0, none⟩), .int .i64 (a : Nat), .int .i64 (k : Nat), .int .u64 (y : Nat)]) (v := .int .i64 er) (bs' := B') (fun R A hR => Set_r A hR HST.out _ rfl (by omega) (by have := HA60.out; omega) HV64.out))
                      have HJ6' := HJ6.out
                      have HK8' := HK8.out
                      go_wp2_with fail
                      refine CA.out.mono ?_
                      rintro e w3 ⟨rfl, hbu3⟩
                      have ka' : w3.cell? ⟨g, j, none⟩ = some (.int .i64 (a : Nat)) := by rw [← HAJ.out]; exact HAT.out _ _ j w3 HLT.out hbu3
                      have CR := Lib.hid (hbu3.callR (f := 22) (args := #[.pointer (some ⟨q, 0, none⟩), .int .i64 (a : Nat), .int .i64 (k : Nat), .int .u64 (y : Nat)]) (v := .int .i64 er) (bs' := B') (fun S2 rs h e => (rSet_at h (a : Int) (k : Int) (y) HV64.out).mono (fun e' w' hp => by
                        unfold SetPost at hp
                        rw [e, HST.out] at hp
                        exact ⟨hp.1, S2, hp.2.1, hp.2.2, Fresh.refl _ _⟩)))
                      clear hbu3 ka k0 k1 k2 k3
                      go_wp2_with fail
                      refine CR.out.mono ?_
                      rintro e w4 ⟨rfl, hbu4⟩
                      have HBU4 := Lib.hid hbu4
                      clear hbu4 CA CR ka'
                      go_wp2
                      go_roundw
                      case rel => exact ⟨k + 1, by go_num, HKN.out, by rw [sets1_succ, HBB.out, HW.out, HST.out]; exact HBU4.out⟩
                      case measure => have := HKN.out; simp [intOf]; omega
                  · have ht' : ¬ (k : Int) < lt := by omega
                    have HTN := Lib.hid (show x.tl[k]? = none from List.getElem?_eq_none_iff.2 (by rw [HLTO.out]; omega))
                    clear ht
                    have HW := Lib.hid (show wordOf ats x k = y from by unfold wordOf; rw [HTN.out]; simp [HY.out])
                    have HV64 := Lib.hid (show y < 18446744073709551616 from by exact HY64.out)
                    obtain ⟨er, B', hst⟩ : ∃ er B', setF B (a : Int) (k : Int) (y) = (er, B') := ⟨_, _, rfl⟩
                    have HST := Lib.hid hst
                    clear hst
                    have CA := Lib.hid (HBU.out.callA (f := 19) (args := #[.pointer (some ⟨p, 0, none⟩), .int .i64 (a : Nat), .int .i64 (k : Nat), .int .u64 (y : Nat)]) (v := .int .i64 er) (bs' := B') (fun R A hR => Set_r A hR HST.out _ rfl (by omega) (by have := HA60.out; omega) HV64.out))
                    have HJ6' := HJ6.out
                    have HK8' := HK8.out
                    go_wp2_with fail
                    refine CA.out.mono ?_
                    rintro e w3 ⟨rfl, hbu3⟩
                    have ka' : w3.cell? ⟨g, j, none⟩ = some (.int .i64 (a : Nat)) := by rw [← HAJ.out]; exact HAT.out _ _ j w3 HLT.out hbu3
                    have CR := Lib.hid (hbu3.callR (f := 22) (args := #[.pointer (some ⟨q, 0, none⟩), .int .i64 (a : Nat), .int .i64 (k : Nat), .int .u64 (y : Nat)]) (v := .int .i64 er) (bs' := B') (fun S2 rs h e => (rSet_at h (a : Int) (k : Int) (y) HV64.out).mono (fun e' w' hp => by
                      unfold SetPost at hp
                      rw [e, HST.out] at hp
                      exact ⟨hp.1, S2, hp.2.1, hp.2.2, Fresh.refl _ _⟩)))
                    clear hbu3 ka k0 k1 k2 k3
                    go_wp2_with fail
                    refine CR.out.mono ?_
                    rintro e w4 ⟨rfl, hbu4⟩
                    have HBU4 := Lib.hid hbu4
                    clear hbu4 CA CR ka'
                    go_wp2
                    go_roundw
                    case rel => exact ⟨k + 1, by go_num, HKN.out, by rw [sets1_succ, HBB.out, HW.out, HST.out]; exact HBU4.out⟩
                    case measure => have := HKN.out; simp [intOf]; omega
                · have hr' : ¬ (k : Int) < lr := by omega
                  have HRN := Lib.hid (show x.raw[k]? = none from List.getElem?_eq_none_iff.2 (by rw [HLR.out]; omega))
                  clear hr
                  by_cases ht : k < lt
                  · obtain ⟨t, htt⟩ : ∃ t, x.tl[k]? = some t := ⟨x.tl[k]'(by rw [HLTO.out]; exact ht), by simp [HLTO.out, ht]⟩
                    obtain ⟨gt, dt, rfl, kt⟩ := HT1.out k t htt
                    have ht' : (k : Int) < lt := by omega
                    have HTT := Lib.hid htt
                    clear htt ht
                    by_cases hn0 : 0 ≤ t
                    · obtain ⟨tt, rfl⟩ : ∃ tt : Nat, t = tt := ⟨t.toNat, by omega⟩
                      by_cases hti : tt < i
                      · have hti' : (tt : Int) < i := by omega
                        have ktt := HAT.out _ _ tt wr hti HBU.out
                        have ht6 := HA6.out tt hti
                        obtain ⟨a2', ha2⟩ : ∃ a2', ats.getD tt 0 = a2' := ⟨_, rfl⟩
                        rw [ha2] at ktt ht6
                        have HA2 := Lib.hid ha2; have HTI := Lib.hid hti; have HT6 := Lib.hid ht6
                        have e1 : IntKind.u64.wrap (a2' : Int) = (a2' : Int) := wrap_u64_in (by omega) (by omega)
                        obtain ⟨m8, hm8⟩ : ∃ m8, a2' * 8 = m8 := ⟨_, rfl⟩
                        obtain ⟨m2, hm2⟩ : ∃ m2, m8 + 2 = m2 := ⟨_, rfl⟩
                        obtain ⟨m5, hm5⟩ : ∃ m5, m2 + 3 = m5 := ⟨_, rfl⟩
                        have e2 : IntKind.u64.wrap ((a2' : Int) * 8) = (m8 : Int) := by rw [wrap_u64_in (by omega) (by omega)]; omega
                        have e3 : IntKind.u64.wrap ((m8 : Int) + 2) = (m2 : Int) := by rw [wrap_u64_in (by omega) (by omega)]; omega
                        have e4 : IntKind.u64.wrap ((m2 : Int) + 3) = (m5 : Int) := by rw [wrap_u64_in (by omega) (by omega)]; omega
                        have HM8 := Lib.hid hm8; have HM2 := Lib.hid hm2; have HM5 := Lib.hid hm5
                        clear hti ha2 ht6 hm8 hm2 hm5
                        cases ex
                        · skip
                          have HW := Lib.hid (show wordOf ats x k = m2 from by unfold wordOf; rw [HTT.out]; dsimp only; rw [if_pos (by have := HTI.out; have := HALL.out; omega), HEX.out, Int.toNat_natCast, HA2.out]; have h1 := HM8.out; have h2 := HM2.out; have h5 := HM5.out; simp; omega)
                          have HV64 := Lib.hid (show m2 < 18446744073709551616 from by have := HT6.out; have h1 := HM8.out; have h2 := HM2.out; have h5 := HM5.out; omega)
                          obtain ⟨er, B', hst⟩ : ∃ er B', setF B (a : Int) (k : Int) (m2) = (er, B') := ⟨_, _, rfl⟩
                          have HST := Lib.hid hst
                          clear hst
                          have CA := Lib.hid (HBU.out.callA (f := 19) (args := #[.pointer (some ⟨p, 0, none⟩), .int .i64 (a : Nat), .int .i64 (k : Nat), .int .u64 (m2 : Nat)]) (v := .int .i64 er) (bs' := B') (fun R A hR => Set_r A hR HST.out _ rfl (by omega) (by have := HA60.out; omega) HV64.out))
                          have HJ6' := HJ6.out
                          have HK8' := HK8.out
                          go_wp2_with fail
                          refine CA.out.mono ?_
                          rintro e w3 ⟨rfl, hbu3⟩
                          have ka' : w3.cell? ⟨g, j, none⟩ = some (.int .i64 (a : Nat)) := by rw [← HAJ.out]; exact HAT.out _ _ j w3 HLT.out hbu3
                          have CR := Lib.hid (hbu3.callR (f := 22) (args := #[.pointer (some ⟨q, 0, none⟩), .int .i64 (a : Nat), .int .i64 (k : Nat), .int .u64 (m2 : Nat)]) (v := .int .i64 er) (bs' := B') (fun S2 rs h e => (rSet_at h (a : Int) (k : Int) (m2) HV64.out).mono (fun e' w' hp => by
                            unfold SetPost at hp
                            rw [e, HST.out] at hp
                            exact ⟨hp.1, S2, hp.2.1, hp.2.2, Fresh.refl _ _⟩)))
                          clear hbu3 ka k0 k1 k2 k3
                          go_wp2_with fail
                          refine CR.out.mono ?_
                          rintro e w4 ⟨rfl, hbu4⟩
                          have HBU4 := Lib.hid hbu4
                          clear hbu4 CA CR ka'
                          go_wp2
                          go_roundw
                          case rel => exact ⟨k + 1, by go_num, HKN.out, by rw [sets1_succ, HBB.out, HW.out, HST.out]; exact HBU4.out⟩
                          case measure => have := HKN.out; simp [intOf]; omega
                        · skip
                          have HW := Lib.hid (show wordOf ats x k = m5 from by unfold wordOf; rw [HTT.out]; dsimp only; rw [if_pos (by have := HTI.out; have := HALL.out; omega), HEX.out, Int.toNat_natCast, HA2.out]; have h1 := HM8.out; have h2 := HM2.out; have h5 := HM5.out; simp; omega)
                          have HV64 := Lib.hid (show m5 < 18446744073709551616 from by have := HT6.out; have h1 := HM8.out; have h2 := HM2.out; have h5 := HM5.out; omega)
                          obtain ⟨er, B', hst⟩ : ∃ er B', setF B (a : Int) (k : Int) (m5) = (er, B') := ⟨_, _, rfl⟩
                          have HST := Lib.hid hst
                          clear hst
                          have CA := Lib.hid (HBU.out.callA (f := 19) (args := #[.pointer (some ⟨p, 0, none⟩), .int .i64 (a : Nat), .int .i64 (k : Nat), .int .u64 (m5 : Nat)]) (v := .int .i64 er) (bs' := B') (fun R A hR => Set_r A hR HST.out _ rfl (by omega) (by have := HA60.out; omega) HV64.out))
                          have HJ6' := HJ6.out
                          have HK8' := HK8.out
                          go_wp2_with fail
                          refine CA.out.mono ?_
                          rintro e w3 ⟨rfl, hbu3⟩
                          have ka' : w3.cell? ⟨g, j, none⟩ = some (.int .i64 (a : Nat)) := by rw [← HAJ.out]; exact HAT.out _ _ j w3 HLT.out hbu3
                          have CR := Lib.hid (hbu3.callR (f := 22) (args := #[.pointer (some ⟨q, 0, none⟩), .int .i64 (a : Nat), .int .i64 (k : Nat), .int .u64 (m5 : Nat)]) (v := .int .i64 er) (bs' := B') (fun S2 rs h e => (rSet_at h (a : Int) (k : Int) (m5) HV64.out).mono (fun e' w' hp => by
                            unfold SetPost at hp
                            rw [e, HST.out] at hp
                            exact ⟨hp.1, S2, hp.2.1, hp.2.2, Fresh.refl _ _⟩)))
                          clear hbu3 ka k0 k1 k2 k3
                          go_wp2_with fail
                          refine CR.out.mono ?_
                          rintro e w4 ⟨rfl, hbu4⟩
                          have HBU4 := Lib.hid hbu4
                          clear hbu4 CA CR ka'
                          go_wp2
                          go_roundw
                          case rel => exact ⟨k + 1, by go_num, HKN.out, by rw [sets1_succ, HBB.out, HW.out, HST.out]; exact HBU4.out⟩
                          case measure => have := HKN.out; simp [intOf]; omega
                      · have hti' : ¬ (tt : Int) < i := by omega
                        have HTI := Lib.hid hti
                        clear hti
                        have HW := Lib.hid (show wordOf ats x k = 0 from by unfold wordOf; rw [HTT.out]; dsimp only; rw [if_neg (by have := HTI.out; have := HALL.out; omega)]; simp [HRN.out])
                        have HV64 := Lib.hid (show 0 < 18446744073709551616 from by decide)
                        obtain ⟨er, B', hst⟩ : ∃ er B', setF B (a : Int) (k : Int) (0) = (er, B') := ⟨_, _, rfl⟩
                        have HST := Lib.hid hst
                        clear hst
                        have CA := Lib.hid (HBU.out.callA (f := 19) (args := #[.pointer (some ⟨p, 0, none⟩), .int .i64 (a : Nat), .int .i64 (k : Nat), .int .u64 (0 : Nat)]) (v := .int .i64 er) (bs' := B') (fun R A hR => Set_r A hR HST.out _ rfl (by omega) (by have := HA60.out; omega) HV64.out))
                        have HJ6' := HJ6.out
                        have HK8' := HK8.out
                        go_wp2_with fail
                        refine CA.out.mono ?_
                        rintro e w3 ⟨rfl, hbu3⟩
                        have ka' : w3.cell? ⟨g, j, none⟩ = some (.int .i64 (a : Nat)) := by rw [← HAJ.out]; exact HAT.out _ _ j w3 HLT.out hbu3
                        have CR := Lib.hid (hbu3.callR (f := 22) (args := #[.pointer (some ⟨q, 0, none⟩), .int .i64 (a : Nat), .int .i64 (k : Nat), .int .u64 (0 : Nat)]) (v := .int .i64 er) (bs' := B') (fun S2 rs h e => (rSet_at h (a : Int) (k : Int) (0) HV64.out).mono (fun e' w' hp => by
                          unfold SetPost at hp
                          rw [e, HST.out] at hp
                          exact ⟨hp.1, S2, hp.2.1, hp.2.2, Fresh.refl _ _⟩)))
                        clear hbu3 ka k0 k1 k2 k3
                        go_wp2_with fail
                        refine CR.out.mono ?_
                        rintro e w4 ⟨rfl, hbu4⟩
                        have HBU4 := Lib.hid hbu4
                        clear hbu4 CA CR ka'
                        go_wp2
                        go_roundw
                        case rel => exact ⟨k + 1, by go_num, HKN.out, by rw [sets1_succ, HBB.out, HW.out, HST.out]; exact HBU4.out⟩
                        case measure => have := HKN.out; simp [intOf]; omega
                    · have HN0 := Lib.hid hn0
                      have hn0' : decide ((0 : Int) ≤ t) = false := by simpa using hn0
                      have HW := Lib.hid (show wordOf ats x k = 0 from by unfold wordOf; rw [HTT.out]; dsimp only; rw [if_neg (by have := HN0.out; omega)]; simp [HRN.out])
                      have HV64 := Lib.hid (show 0 < 18446744073709551616 from by decide)
                      obtain ⟨er, B', hst⟩ : ∃ er B', setF B (a : Int) (k : Int) (0) = (er, B') := ⟨_, _, rfl⟩
                      have HST := Lib.hid hst
                      clear hst
                      have CA := Lib.hid (HBU.out.callA (f := 19) (args := #[.pointer (some ⟨p, 0, none⟩), .int .i64 (a : Nat), .int .i64 (k : Nat), .int .u64 (0 : Nat)]) (v := .int .i64 er) (bs' := B') (fun R A hR => Set_r A hR HST.out _ rfl (by omega) (by have := HA60.out; omega) HV64.out))
                      have HJ6' := HJ6.out
                      have HK8' := HK8.out
                      go_wp2_with fail
                      refine CA.out.mono ?_
                      rintro e w3 ⟨rfl, hbu3⟩
                      have ka' : w3.cell? ⟨g, j, none⟩ = some (.int .i64 (a : Nat)) := by rw [← HAJ.out]; exact HAT.out _ _ j w3 HLT.out hbu3
                      have CR := Lib.hid (hbu3.callR (f := 22) (args := #[.pointer (some ⟨q, 0, none⟩), .int .i64 (a : Nat), .int .i64 (k : Nat), .int .u64 (0 : Nat)]) (v := .int .i64 er) (bs' := B') (fun S2 rs h e => (rSet_at h (a : Int) (k : Int) (0) HV64.out).mono (fun e' w' hp => by
                        unfold SetPost at hp
                        rw [e, HST.out] at hp
                        exact ⟨hp.1, S2, hp.2.1, hp.2.2, Fresh.refl _ _⟩)))
                      clear hbu3 ka k0 k1 k2 k3
                      go_wp2_with fail
                      refine CR.out.mono ?_
                      rintro e w4 ⟨rfl, hbu4⟩
                      have HBU4 := Lib.hid hbu4
                      clear hbu4 CA CR ka'
                      go_wp2
                      go_roundw
                      case rel => exact ⟨k + 1, by go_num, HKN.out, by rw [sets1_succ, HBB.out, HW.out, HST.out]; exact HBU4.out⟩
                      case measure => have := HKN.out; simp [intOf]; omega
                  · have ht' : ¬ (k : Int) < lt := by omega
                    have HTN := Lib.hid (show x.tl[k]? = none from List.getElem?_eq_none_iff.2 (by rw [HLTO.out]; omega))
                    clear ht
                    have HW := Lib.hid (show wordOf ats x k = 0 from by unfold wordOf; rw [HTN.out]; simp [HRN.out])
                    have HV64 := Lib.hid (show 0 < 18446744073709551616 from by decide)
                    obtain ⟨er, B', hst⟩ : ∃ er B', setF B (a : Int) (k : Int) (0) = (er, B') := ⟨_, _, rfl⟩
                    have HST := Lib.hid hst
                    clear hst
                    have CA := Lib.hid (HBU.out.callA (f := 19) (args := #[.pointer (some ⟨p, 0, none⟩), .int .i64 (a : Nat), .int .i64 (k : Nat), .int .u64 (0 : Nat)]) (v := .int .i64 er) (bs' := B') (fun R A hR => Set_r A hR HST.out _ rfl (by omega) (by have := HA60.out; omega) HV64.out))
                    have HJ6' := HJ6.out
                    have HK8' := HK8.out
                    go_wp2_with fail
                    refine CA.out.mono ?_
                    rintro e w3 ⟨rfl, hbu3⟩
                    have ka' : w3.cell? ⟨g, j, none⟩ = some (.int .i64 (a : Nat)) := by rw [← HAJ.out]; exact HAT.out _ _ j w3 HLT.out hbu3
                    have CR := Lib.hid (hbu3.callR (f := 22) (args := #[.pointer (some ⟨q, 0, none⟩), .int .i64 (a : Nat), .int .i64 (k : Nat), .int .u64 (0 : Nat)]) (v := .int .i64 er) (bs' := B') (fun S2 rs h e => (rSet_at h (a : Int) (k : Int) (0) HV64.out).mono (fun e' w' hp => by
                      unfold SetPost at hp
                      rw [e, HST.out] at hp
                      exact ⟨hp.1, S2, hp.2.1, hp.2.2, Fresh.refl _ _⟩)))
                    clear hbu3 ka k0 k1 k2 k3
                    go_wp2_with fail
                    refine CR.out.mono ?_
                    rintro e w4 ⟨rfl, hbu4⟩
                    have HBU4 := Lib.hid hbu4
                    clear hbu4 CA CR ka'
                    go_wp2
                    go_roundw
                    case rel => exact ⟨k + 1, by go_num, HKN.out, by rw [sets1_succ, HBB.out, HW.out, HST.out]; exact HBU4.out⟩
                    case measure => have := HKN.out; simp [intOf]; omega
-- END INNER
              · obtain rfl : k = nn := by omega
                have hkn' : ¬ (k : Int) < k := by omega
                clear hk
                have HJ6' := HJ6.out
                go_wp2
                go_roundw
                case rel =>
                  refine ⟨j + 1, by go_num, HLT.out, ?_⟩
                  have e : l.take (j + 1) = l.take j ++ [x] := by
                    obtain ⟨hk, e⟩ := List.getElem?_eq_some_iff.1 HX.out
                    rw [List.take_succ_eq_append_getElem hk, e]
                  rw [e, setsF_snoc, HB0.out, show (l.take j).length = j by rw [List.length_take, HL.out]; have := HLT.out; omega, HAJ.out, show x.n.toNat = k by rw [HNN.out]; simp]
                  exact HBK.out
                case measure => have := HLT.out; simp [intOf]; omega
          · obtain rfl : j = i := by omega
            have hlt3 : ¬ (j : Int) < j := by omega
            clear hlt' hj
            go_wp2
            refine bodyPost_ret (v := .tuple #[.pointer (some ⟨p, 0, none⟩), .pointer (some ⟨q, 0, none⟩), .slice aot j ct, .bool true]) (by simp [results, Tryd.results7, go_sem]) rfl ?_
            refine .inr ⟨p, q, _, ats, _, ?_, rfl, HBJ.out⟩
            unfold builtF
            rw [if_neg (by rw [HL.out]; exact HG.out), HTK.out, List.take_of_length_le (by rw [HL.out]; exact Nat.le_refl _)]
            rfl
end Go.Proofs.YtfpfpopfnbcblaaDoor
