/- geodelaw11: ChainBelow's law. -/
import Derived.Test.YtcihideabmpmjaaDoorQChLineL
import Derived.Test.YtcihideabmpmjaaDoorQMaHeap
import Derived.Test.YtcihideabmpmjaaDoorQMaOrder
namespace Go.Proofs.YtcihideabmpmjaaDoor
open Go.RowKit

theorem addG_tot {gs : List (List Sb)} {ids : List Int} {x : Sb} : total (addG gs ids [x]).2.2 ≤ total gs + 1 := by
  unfold addG
  split
  · exact Nat.le_succ _
  split
  · exact Nat.le_succ _
  split
  · exact Nat.le_succ _
  split
  · exact Nat.le_succ _
  dsimp only
  unfold enterG
  have hl : (rollG ids [x]).1.length = 1 := by rw [rollG_len]; rfl
  split
  · exact Nat.le_succ _
  · split
    · exact Nat.le_succ _
    · split
      · exact Nat.le_succ _
      · dsimp only; rw [total_snoc, hl]; exact Nat.le_refl _
theorem addG_err2 {gs : List (List Sb)} {ids : List Int} {x : Sb} (ht : total gs ≤ 1000) (h : (addG gs ids [x]).2.1 ≠ 0) : (addG gs ids [x]).2.1 = 2 := by
  unfold addG at h ⊢
  have hl : (rollG ids [x]).1.length = 1 := by rw [rollG_len]; rfl
  split
  · rfl
  split
  · rfl
  split
  · rfl
  rename_i h1 h2 h3
  rw [if_neg h1, if_neg h2, if_neg h3] at h
  exfalso
  have he : (enterG gs (rollG ids [x]).1).2.1 = 0 := by
    unfold enterG
    split
    · rfl
    · split
      · omega
      · split <;> rfl
  rw [if_neg (by simpa using he)] at h
  exact h rfl
theorem nextL_err (L : List (List Nat)) (id : Nat) (s : List Hp) : (nextL L id s).1 = 0 ∨ (nextL L id s).1 = 110 ∨ (nextL L id s).1 = 111 := by
  unfold nextL
  split
  · exact .inl rfl
  · split
    · exact .inr (.inl rfl)
    · split
      · exact .inr (.inr rfl)
      · exact .inl rfl
  · exact .inr (.inl rfl)
theorem growL_err (ts : List Sb) : ∀ (n : Nat) (L : List (List Nat)), (growL ts n L).1 = 0 ∨ (growL ts n L).1 = 110 ∨ (growL ts n L).1 = 111
  | 0, L => .inl rfl
  | n + 1, L => by
    unfold growL
    split
    · exact .inl rfl
    · split
      · exact growL_err ts n _
      · exact nextL_err _ _ _
/-- What the calls tell of three types. -/
theorem heap_below {ts : List Sb} {L : List (List Nat)} (h : LineOk ts L) (hl : L.length = ts.length) {a b : Nat} (ha : a < L.length) (hb : b < L.length) : belowL L a b = true ↔ HeapP ts ⟨15, a⟩ ⟨15, b⟩ := by
  obtain ⟨p, hp⟩ : ∃ p, L[a]? = some p := ⟨L[a], by simp [ha]⟩
  rw [h.below hp, ← h.up a p hp b, heapP_def]
  constructor
  · intro hu
    exact ⟨by omega, closed_def (by omega), (climb_dd a b).2 hu⟩
  · rintro ⟨_, _, hc⟩
    exact (climb_dd a b).1 hc
theorem below_depth {ts : List Sb} {L : List (List Nat)} (h : LineOk ts L) {a b : Nat} (hab : belowL L a b = true) : b ≤ a ∧ depthL L b ≤ depthL L a ∧ (a ≠ b → belowL L b a = false) := by
  have hr : a < L.length ∧ b < L.length := by
    by_cases h0 : (0 ≤ (a : Int) ∧ (a : Int) < L.length)
    · by_cases h1 : (0 ≤ (b : Int) ∧ (b : Int) < L.length)
      · omega
      · rw [belowL_out (.inr h1)] at hab; cases hab
    · rw [belowL_out (.inl h0)] at hab; cases hab
  obtain ⟨p, hp⟩ : ∃ p, L[a]? = some p := ⟨L[a]'hr.1, by simp [hr.1]⟩
  have hm := (h.below hp).1 hab
  obtain ⟨j, hj, hq⟩ := h.mem hp hm
  have hle := h.le_of a p hp b hm
  have hjl := (List.getElem?_eq_some_iff.1 hj).1
  refine ⟨hle, ?_, fun hne => ?_⟩
  · unfold depthL
    rw [if_pos (by omega), if_pos (by omega)]
    simp only [Int.toNat_natCast]
    rw [getD_some hp, getD_some hq, List.length_take]
    omega
  · rw [Bool.eq_false_iff]
    intro hba
    have := h.le_of b _ hq a ((h.below hq).1 hba)
    omega
theorem below_trans {ts : List Sb} {L : List (List Nat)} (h : LineOk ts L) {a b d : Nat} (hab : belowL L a b = true) (hbd : belowL L b d = true) : belowL L a d = true := by
  have hr : ∀ {x y : Nat}, belowL L x y = true → x < L.length := fun {x y} hxy => by
    by_cases h0 : (0 ≤ (x : Int) ∧ (x : Int) < L.length)
    · omega
    · rw [belowL_out (.inl h0)] at hxy; cases hxy
  obtain ⟨p, hp⟩ : ∃ p, L[a]? = some p := ⟨L[a]'(hr hab), by simp [hr hab]⟩
  obtain ⟨q, hq⟩ : ∃ q, L[b]? = some q := ⟨L[b]'(hr hbd), by simp [hr hbd]⟩
  exact (h.below hp).2 ((h.up a p hp d).1 (((h.up a p hp b).2 ((h.below hp).1 hab)).trans ((h.up b q hq d).2 ((h.below hq).1 hbd))))
theorem below_self {ts : List Sb} {L : List (List Nat)} (h : LineOk ts L) {a : Nat} (ha : a < L.length) : belowL L a a = true := by
  obtain ⟨p, hp⟩ : ∃ p, L[a]? = some p := ⟨L[a], by simp [ha]⟩
  exact (h.below hp).2 (List.mem_of_getElem? (h.last hp).2.2.2)
set_option maxRecDepth 100000 in
set_option maxHeartbeats 16000000 in
theorem chainBelow_any (v : Value) (l : List NdV) (w : World) (hG : NodesAt w v l) (hB : ∀ a ∈ l, ∀ k ∈ a.sups, B64 k) (htab : Tab w) : Calls Tryd.prog 5 #[v] w fun e w' => e = .returned (.bool true) ∧ Below w.heap.size w w' := by
  obtain ⟨ao, cap, rfl⟩ := hG.form
  have HG := Lib.hid hG; have HBB := Lib.hid hB; have HTAB := Lib.hid htab
  obtain ⟨n, hn⟩ : ∃ n, l.length = n := ⟨_, rfl⟩
  have HN := Lib.hid hn
  rw [hn]
  clear hG hB htab hn
  go_enter Tryd.func5, Tryd.ntmps5
  go_wp2_with fail
  refine (known11_any w HTAB.out).mono ?_
  rintro e w1 ⟨rfl, hb1⟩
  have HB1 := Lib.hid hb1
  clear hb1
  by_cases hn60 : (60 : Int) < n
  · go_wp2
    go_ret
    exact ⟨rfl, HB1.out⟩
  go_wp2_with fail
  refine (new_any _).mono ?_
  rintro e w2 ⟨t, S0, rfl, hta, hba, hbe2⟩
  have HT0 := Lib.hid (⟨hta, ⟨by simp, by simp, by simp, by simp [total]⟩, hba, hbe2⟩ : TabN w1 S0 (fun _ => False) w2 t [])
  clear hta hba hbe2
  go_wp2_with fail
  refine (chNew_any _).mono ?_
  rintro e w3 ⟨c, SL, rfl, hL0, hLb, hb3⟩
  have bl0 : BlI w1 SL t c 0 w3 (.slice none 0 0) [] [] S0 (fun _ => False) := ⟨HT0.out.below hb3, tabC_nil, fun w' _ => RowAt.nil w' 1, rfl, hL0, fun k hk => ⟨fun h => by have := (HT0.out.tab.lt k h).1; have := hLb k hk; omega, fun h => h⟩⟩
  have hlb : ∀ k, SL k → w1.heap.size ≤ k := fun k hk => Nat.le_trans HT0.out.be.size (hLb k hk)
  have BL0 := Lib.hid bl0; have HLB := Lib.hid hlb; have HN60 := Lib.hid hn60
  clear bl0 hL0 hLb hb3 hlb
  go_wp2
  go_loopw [5, 6] (fun t5 t6 wz => ∃ (i : Nat) (ids : List Int) (gs : List (List Sb)) (S R : Nat → Prop), t6 = .int .i64 i ∧ i ≤ n ∧ total gs ≤ i ∧ BlI w1 SL t c i wz t5 ids gs S R) (fun _ t6 _ => n - (intOf t6).toNat)
  case atStart => exact ⟨0, [], [], S0, _, rfl, Nat.zero_le _, by simp [total], BL0.out⟩
  case round =>
    clear BL0
    obtain ⟨i, ids, gs, S, R, rfl, hi, htot, hI⟩ := hrel
    have HTOT := Lib.hid htot
    clear htot
    have HI := Lib.hid hI
    have hgr := HG.out.below (HB1.out.trans (hI.tab.be.mono HB1.out.size)) (Nat.le_refl _)
    clear hI
    by_cases hlt : i < n
    · obtain ⟨x, hx⟩ : ∃ x, l[i]? = some x := ⟨l[i]'(by rw [HN.out]; exact hlt), by simp⟩
      obtain ⟨lb, loff, xa, xc, hao, hxv, hxi, p0, p1, p2⟩ := hgr.at hx
      have LBW := Lib.hid (show lb < w.heap.size by
        obtain ⟨b', off', a', c', e, _, _, h, _⟩ := HG.out.at hx
        rw [hao] at e
        simp only [Option.some.injEq, Addr.mk.injEq] at e
        rw [e.1]; exact World.block_lt_of_cell? _ _ h)
      have hxw : IntsAt w (.slice xa x.sups.length xc) x.sups := by have h := HG.out.ints x (List.mem_of_getElem? hx); rw [hxv] at h; exact h
      subst hao
      have hlt' : (i : Int) < n := by omega
      have hi6 : (i : Int) < 1000000 := by omega
      have HX := Lib.hid hx; have HLT := Lib.hid hlt; have HXI := Lib.hid hxi; have HXW := Lib.hid hxw
      clear hx hlt hi hgr hxv hxi hxw
      by_cases h0 : x.n < 0
      · go_wp2
        go_ret
        exact ⟨rfl, HB1.out.trans (HI.out.tab.be.mono HB1.out.size)⟩
      by_cases h1 : 10 < x.n
      · go_wp2
        go_ret
        exact ⟨rfl, HB1.out.trans (HI.out.tab.be.mono HB1.out.size)⟩
      by_cases h2 : 1 < (x.sups.length : Int)
      · go_wp2
        go_ret
        exact ⟨rfl, HB1.out.trans (HI.out.tab.be.mono HB1.out.size)⟩
      obtain ⟨m, hm⟩ : ∃ m : Nat, x.n = m := ⟨x.n.toNat, by omega⟩
      have hm10 : m ≤ 10 := by omega
      have hs1 : x.sups.length ≤ 1 := by omega
      rw [hm] at p0 h0 h1
      obtain ⟨q, hq⟩ : ∃ q, x.sups.length = q := ⟨_, rfl⟩
      rw [hq] at p1 h2
      have HM := Lib.hid hm10; have HS1 := Lib.hid hs1; have HQ := Lib.hid hq
      have hnS : ¬ S lb := fun h => by have := HI.out.tab.base lb h; have := LBW.out; have := HB1.out.size; omega
      have d0 := ExtU.cells (R := S) p0 hnS
      have d1 := ExtU.cells (R := S) p1 hnS
      have D0 := Lib.hid d0; have D1 := Lib.hid d1
      clear hm10 hs1 hq hm hnS d0 d1
      go_upto_region 12 with fail
      clear p0 p1 p2
      have d0 := D0.out; have d1 := D1.out
      have hbr : Below wr.heap.size wr wr.drew := (Below.refl _ _).drew
      have C1 := Lib.hid (sub_any m (.slice xa q xc) x.sups wr.drew (by have h := RowAt.below HXW.out (HB1.out.trans ((HI.out.tab.be.trans (hbr.mono HI.out.tab.be.size)).mono HB1.out.size)) (Nat.le_refl _); rw [HQ.out] at h; show RowAt _ 1 _ x.sups.length _; rw [HQ.out]; exact h) HM.out (by have := HS1.out; omega))
      have KZ0 := Lib.hid (show wr.drew.cell? ⟨lb, loff + i * 3, none⟩ = some (.int .i64 m) ∧ wr.drew.cell? ⟨lb, loff + i * 3 + 1, none⟩ = some (.slice xa q xc) from ⟨d0 ⟨_, (Upd.refl _ _).drew⟩, d1 ⟨_, (Upd.refl _ _).drew⟩⟩)
      clear hbr
      go_region_held_law (fun w' => w'.cell? ⟨lb, loff + i * 3, none⟩ = some (.int .i64 m) ∧ w'.cell? ⟨lb, loff + i * 3 + 1, none⟩ = some (.slice xa q xc)) (first | exact KZ0.out | exact KZ1.out | exact KZ2.out | exact KZ3.out)
        (first
          | (go_at_call 10
             refine C1.out.mono ?_
             rintro e w5 ⟨cs, rfl, h6, hs, hb5⟩
             obtain ⟨vs, vp, vr, vf, rfl, -⟩ := hs.ex
             have hb5' : Below wr.heap.size wr w5 := (Below.refl _ _).drew.trans hb5
             have hA : ∃ A, addG gs ids [subS m x.sups] = A := ⟨_, rfl⟩
             obtain ⟨A, hA⟩ := hA
             have hraw : RawG [subS m x.sups] := subS_raw HM.out (by have := HS1.out; omega) (HBB.out x (List.mem_of_getElem? HX.out))
             have C2 := Lib.hid (add_sub hA (HI.out.tab.below hb5') (fun w' hu => HI.out.ints w' ((Upd.of_below hb5' : Upd S _ _).trans' hu)) (by rw [HI.out.len]; have := HLT.out; omega) hs h6 hraw (HTAB.out.on HB1.out))
             have hu5 : Upd S wr w5 := Upd.of_below hb5'
             have HB5 := Lib.hid hb5'; have HA := Lib.hid hA; have HU5 := Lib.hid hu5
             have KZ1 := Lib.hid (show w5.cell? ⟨lb, loff + i * 3, none⟩ = some (.int .i64 m) ∧ w5.cell? ⟨lb, loff + i * 3 + 1, none⟩ = some (.slice xa q xc) from ⟨d0 ⟨_, hu5⟩, d1 ⟨_, hu5⟩⟩)
             have KZ2 := Lib.hid (show (w5.alloc (.cells #[.bool (subS m x.sups).fin, vs, .int .i64 (subS m x.sups).k, vp, vr, vf] 41)).cell? ⟨lb, loff + i * 3, none⟩ = some (.int .i64 m) ∧ (w5.alloc (.cells #[.bool (subS m x.sups).fin, vs, .int .i64 (subS m x.sups).k, vp, vr, vf] 41)).cell? ⟨lb, loff + i * 3 + 1, none⟩ = some (.slice xa q xc) from ⟨d0 ⟨_, hu5.alloc _⟩, d1 ⟨_, hu5.alloc _⟩⟩)
             clear hs h6 hb5 hb5' hA hraw C1 hu5
             dsimp only)
          | (go_at_call 9
             refine C2.out.mono ?_
             rintro e w6 ⟨u1, S1, R1, rfl, ht1, hi1, hup1, hfs1, hfr1⟩
             have hu6 : Upd S wr w6 := (HU5.out.alloc _).trans' hup1
             have hsz : wr.heap.size ≤ (w5.alloc (.cells #[.bool (subS m x.sups).fin, vs, .int .i64 (subS m x.sups).k, vp, vr, vf] 41)).heap.size := (HU5.out.alloc _).size
             have HT1 := Lib.hid ht1; have HI1 := Lib.hid hi1; have HU6 := Lib.hid hu6
             have hoff1 : ∀ k, SL k → ¬ S1 k ∧ ¬ R1 k := fun k hk => ⟨fun h => (hfs1 k h).elim (HI.out.off k hk).1 (fun h => by have := HI.out.li.lt k hk; omega), fun h => (hfr1 k h).elim (HI.out.off k hk).2 (fun h => by have := HI.out.li.lt k hk; omega)⟩
             have hli1 : LinesAt SL w6 c [] := HI.out.li.keep (hu6.mono fun k _ hk => fun h => (HI.out.off k h).1 hk)
             have HOF := Lib.hid hoff1; have HLI := Lib.hid hli1
             have htc1 : TabC A.2.2 := by rw [← HA.out]; exact tabC_add HI.out.tc
             have HTC := Lib.hid htc1
             have KZ3 := Lib.hid (show w6.cell? ⟨lb, loff + i * 3, none⟩ = some (.int .i64 m) ∧ w6.cell? ⟨lb, loff + i * 3 + 1, none⟩ = some (.slice xa q xc) from ⟨d0 ⟨_, hu6⟩, d1 ⟨_, hu6⟩⟩)
             clear ht1 hi1 hup1 hfs1 hfr1 hoff1 hli1 hsz hu6 htc1 C2
             dsimp only))
      all_goals
        obtain ⟨er, her⟩ : ∃ er, A.2.1 = er := ⟨_, rfl⟩
        try rw [her]
        have HER := Lib.hid her
        clear her
        by_cases he0 : er = 0
        · subst he0
          go_wp2
          go_roundw
          case rel => exact ⟨i + 1, A.1, A.2.2, S1, R1, by go_num, HLT.out, by have h := addG_tot (gs := gs) (ids := ids) (x := subS m x.sups); rw [HA.out] at h; have := HTOT.out; omega, HT1.out, HTC.out, HI1.out, by rw [← HA.out, addG_len1 (by rw [HA.out]; exact HER.out), HI.out.len], HLI.out, HOF.out⟩
          case measure => have := HLT.out; simp [intOf]; omega
        · have heb : (er == 0) = false := by simpa using he0
          have heb2 : (er != 0) = true := by simpa using he0
          have HE0 := Lib.hid he0
          clear he0
          go_wp2
          go_ret
          have he2 : er = 2 := by
            have h := addG_err2 (gs := gs) (ids := ids) (x := subS m x.sups) (by have := HTOT.out; have := HLT.out; omega)
            rw [HA.out, HER.out] at h
            exact h HE0.out
          subst he2
          exact ⟨rfl, HB1.out.trans (HT1.out.be.mono HB1.out.size)⟩
    · obtain rfl : i = n := by omega
      have hlt' : ¬ (i : Int) < i := by omega
      clear hlt hi hgr
      have C5 := Lib.hid (grow_any wr HI.out.li (⟨HI.out.tab.tab, HI.out.tab.ok, HI.out.tc⟩ : TabK S R wr t gs) HI.out.off)
      go_wp2_with fail
      refine C5.out.mono ?_
      rintro e w7 ⟨S7, rfl, hI7⟩
      obtain ⟨er, her⟩ : ∃ er, (growAll (tabL gs) []).1 = er := ⟨_, rfl⟩
      obtain ⟨L, hL⟩ : ∃ L, (growAll (tabL gs) []).2 = L := ⟨_, rfl⟩
      have hlok : LineOk (tabL gs) L := by rw [← hL]; exact growL_ok LineOk.nil _
      rw [hL] at hI7
      rw [her]
      have hb7 : Below w1.heap.size w1 w7 := HI.out.tab.be.trans (hI7.up.below HLB.out HI.out.tab.be.size)
      have hor : er = 0 ∨ er = 110 ∨ er = 111 := by rw [← her]; exact growL_err _ _ _
      have hll : er = 0 → L.length = total gs := fun h0 => by
        rw [← hL, ← tabL_len]
        exact growL_len _ (her.trans h0) (by simp) (Nat.zero_le _)
      have HOK := Lib.hid hlok; have HLI7 := Lib.hid hI7.li; have HTK7 := Lib.hid hI7.tab; have HB7 := Lib.hid hb7; have HLL := Lib.hid hll
      clear hI7 hlok hb7 her hL C5 hll
      rcases hor with rfl | rfl | rfl
      rotate_left
      · go_wp2
        go_ret
        exact ⟨rfl, HB1.out.trans (HB7.out.mono HB1.out.size)⟩
      · go_wp2
        go_ret
        exact ⟨rfl, HB1.out.trans (HB7.out.mono HB1.out.size)⟩
      have hll2 := HLL.out rfl
      have hN60 : total gs ≤ 60 := by have := HTOT.out; have := HN60.out; omega
      obtain ⟨N, hN⟩ : ∃ N, total gs = N := ⟨_, rfl⟩
      rw [hN] at hll2 hN60
      have CLN := len_any HTK7.out.tab
      rw [hN] at CLN
      have HCLN := Lib.hid CLN; have HN0 := Lib.hid hN; have HL2 := Lib.hid hll2; have HNN := Lib.hid hN60
      clear CLN hN hll2 hN60
      go_wp2_with fail
      refine HCLN.out.mono ?_
      rintro e w8 ⟨rfl, rfl⟩
      -- LOOPS
      go_wp2
      go_loopw [11] (fun t11 wz => ∃ a : Nat, t11 = .int .i64 a ∧ a ≤ N ∧ Below w8.heap.size w8 wz) (fun t11 _ => N - (intOf t11).toNat)
      case atStart => exact ⟨0, rfl, Nat.zero_le _, Below.refl _ _⟩
      case round =>
        obtain ⟨a, rfl, ha, hbe⟩ := hrel
        have HBE := Lib.hid hbe
        clear hbe
        by_cases hlt : a < N
        · have hlt' : (a : Int) < N := by omega
          have HA1 := Lib.hid hlt
          clear hlt ha
          go_wp2
          go_loopw [12] (fun t12 wz => ∃ b : Nat, t12 = .int .i64 b ∧ b ≤ N ∧ Below w8.heap.size w8 wz) (fun t12 _ => N - (intOf t12).toNat)
          case atStart => exact ⟨0, rfl, Nat.zero_le _, HBE.out⟩
          case round =>
            clear HBE
            obtain ⟨b, rfl, hb, hbe⟩ := hrel
            have HBE := Lib.hid hbe
            clear hbe
            by_cases hlb : b < N
            · have hlb' : (b : Int) < N := by omega
              have ha6 : (a : Int) < 10000 := by have := HA1.out; have := HNN.out; omega
              have hb6 : (b : Int) < 10000 := by have := HNN.out; omega
              have HB2 := Lib.hid hlb
              obtain ⟨bb, hbb⟩ : ∃ bb, belowL L (a : Int) (b : Int) = bb := ⟨_, rfl⟩
              have hhp : bb = true ↔ HeapP (tabL gs) ⟨15, (a : Int)⟩ ⟨15, (b : Int)⟩ := by rw [← hbb]; exact heap_below HOK.out (by rw [HL2.out, tabL_len, HN0.out]) (by rw [HL2.out]; exact HA1.out) (by rw [HL2.out]; exact hlb)
              have HBBB := Lib.hid hbb; have HHP := Lib.hid hhp
              clear hlb hb hbb hhp
              have CB1 := chBelow_any (HLI7.out.below HBE.out) a b
              rw [HBBB.out] at CB1
              have HCB1 := Lib.hid CB1
              clear CB1
              go_wp2_with fail
              refine HCB1.out.mono ?_
              rintro e wq1 ⟨rfl, hq1⟩
              have HBE := Lib.hid (HBE.out.trans (hq1.mono HBE.out.size))
              clear hq1 HCB1
              have CH := Lib.hid (heap_k HHP.out (HTK7.out.below HBE.out))
              go_wp2_with fail
              refine CH.out.mono ?_
              rintro e wq2 ⟨rfl, hq2⟩
              have HBE := Lib.hid (HBE.out.trans (hq2.mono HBE.out.size))
              clear hq2 CH
              cases bb
              · skip
                have CB3 := chBelow_any (HLI7.out.below HBE.out) a b
                rw [HBBB.out] at CB3
                have HCB3 := Lib.hid CB3
                clear CB3
                go_wp2_with fail
                refine HCB3.out.mono ?_
                rintro e wq3 ⟨rfl, hq3⟩
                have HBE := Lib.hid (HBE.out.trans (hq3.mono HBE.out.size))
                clear hq3 HCB3
                go_wp2
                go_loopw [13] (fun t13 wz => ∃ d : Nat, t13 = .int .i64 d ∧ d ≤ N ∧ Below w8.heap.size w8 wz) (fun t13 _ => N - (intOf t13).toNat)
                case atStart => exact ⟨0, rfl, Nat.zero_le _, HBE.out⟩
                case round =>
                  clear HBE
                  obtain ⟨d, rfl, hd, hbe⟩ := hrel
                  have HBE := Lib.hid hbe
                  clear hbe
                  by_cases hld : d < N
                  · have hld' : (d : Int) < N := by omega
                    clear hld hd
                    have CB4 := chBelow_any (HLI7.out.below HBE.out) a b
                    rw [HBBB.out] at CB4
                    have HCB4 := Lib.hid CB4
                    clear CB4
                    go_wp2_with fail
                    refine HCB4.out.mono ?_
                    rintro e wq4 ⟨rfl, hq4⟩
                    have HBE := Lib.hid (HBE.out.trans (hq4.mono HBE.out.size))
                    clear hq4 HCB4
                    go_wp2
                    go_roundw
                    case rel => exact ⟨b + 1, by go_num, by have := HB2.out; omega, HBE.out⟩
                    case measure => have := HB2.out; simp [intOf]; omega
                  · have hld' : ¬ (d : Int) < N := by omega
                    clear hld hd
                    go_wp2
                    go_roundw
                    case rel => exact ⟨b + 1, by go_num, by have := HB2.out; omega, HBE.out⟩
                    case measure => have := HB2.out; simp [intOf]; omega
              · have hbd := below_depth HOK.out HBBB.out
                have hab' : ¬ (a : Int) < b := by omega
                have hab'' : decide ((a : Int) < (b : Int)) = false := decide_eq_false hab'
                have hab3 : ¬ a < b := by omega
                have hab4 : decide (a < b) = false := decide_eq_false hab3
                obtain ⟨da, hda⟩ : ∃ da, depthL L (a : Int) = da := ⟨_, rfl⟩
                obtain ⟨db, hdb⟩ : ∃ db, depthL L (b : Int) = db := ⟨_, rfl⟩
                have hdd : ¬ da < db := by have := hbd.2.1; rw [hda, hdb] at this; omega
                have hdd' : decide (da < db) = false := decide_eq_false hdd
                have HBD := Lib.hid hbd; have HDA := Lib.hid hda; have HDB := Lib.hid hdb
                clear hbd hda hdb
                have CB5 := chBelow_any (HLI7.out.below HBE.out) a b
                rw [HBBB.out] at CB5
                have HCB5 := Lib.hid CB5
                clear CB5
                go_wp2_with fail
                refine HCB5.out.mono ?_
                rintro e wq5 ⟨rfl, hq5⟩
                have HBE := Lib.hid (HBE.out.trans (hq5.mono HBE.out.size))
                clear hq5 HCB5
                have CD1 := chDepth_any (HLI7.out.below HBE.out) a
                rw [HDA.out] at CD1
                have CD2 := chDepth_any (HLI7.out.below HBE.out) b
                rw [HDB.out] at CD2
                have HCD1 := Lib.hid CD1; have HCD2 := Lib.hid CD2
                clear CD1 CD2
                go_wp2_with fail
                refine HCD1.out.mono ?_
                rintro e wq6 ⟨rfl, rfl⟩
                go_wp2_with fail
                refine HCD2.out.mono ?_
                rintro e wq7 ⟨rfl, rfl⟩
                have hba : ∃ bo, belowL L (b : Int) (a : Int) = bo ∧ (a ≠ b → bo = false) := ⟨_, rfl, HBD.out.2.2⟩
                obtain ⟨bo, hbo, hbo2⟩ := hba
                have HBO := Lib.hid hbo; have HBO2 := Lib.hid hbo2
                clear hbo hbo2
                have CB8 := chBelow_any (HLI7.out.below HBE.out) b a
                rw [HBO.out] at CB8
                have HCB8 := Lib.hid CB8
                clear CB8
                go_wp2_with fail
                refine HCB8.out.mono ?_
                rintro e wq8 ⟨rfl, hq8⟩
                have HBE := Lib.hid (HBE.out.trans (hq8.mono HBE.out.size))
                clear hq8 HCB8
                by_cases hne : a = b
                · subst hne
                  cases bo
                  · skip
                    go_wp2
                    try simp only [hab'', hab4, hdd']
                    go_loopw [13] (fun t13 wz => ∃ d : Nat, t13 = .int .i64 d ∧ d ≤ N ∧ Below w8.heap.size w8 wz) (fun t13 _ => N - (intOf t13).toNat)
                    case atStart => exact ⟨0, rfl, Nat.zero_le _, HBE.out⟩
                    case round =>
                      clear HBE
                      obtain ⟨d, rfl, hd, hbe⟩ := hrel
                      have HBE := Lib.hid hbe
                      clear hbe
                      by_cases hld : d < N
                      · have hld' : (d : Int) < N := by omega
                        have HLD := Lib.hid hld
                        have hd6 : (d : Int) < 10000 := by have := HNN.out; omega
                        obtain ⟨be, hbe2⟩ : ∃ be, belowL L (a : Int) (d : Int) = be := ⟨_, rfl⟩
                        have HBEE := Lib.hid hbe2
                        clear hld hd hbe2
                        have CB10 := chBelow_any (HLI7.out.below HBE.out) a a
                        rw [HBBB.out] at CB10
                        have HCB10 := Lib.hid CB10
                        clear CB10
                        go_wp2_with fail
                        refine HCB10.out.mono ?_
                        rintro e wq10 ⟨rfl, hq10⟩
                        have HBE := Lib.hid (HBE.out.trans (hq10.mono HBE.out.size))
                        clear hq10 HCB10
                        have CB11 := chBelow_any (HLI7.out.below HBE.out) a d
                        rw [HBEE.out] at CB11
                        have HCB11 := Lib.hid CB11
                        clear CB11
                        go_wp2_with fail
                        refine HCB11.out.mono ?_
                        rintro e wq11 ⟨rfl, hq11⟩
                        have HBE := Lib.hid (HBE.out.trans (hq11.mono HBE.out.size))
                        clear hq11 HCB11
                        cases be
                        · go_wp2
                          go_roundw
                          case rel => exact ⟨d + 1, by go_num, by have := HLD.out; omega, HBE.out⟩
                          case measure => have := HLD.out; simp [intOf]; omega
                        · have htr := below_trans HOK.out HBBB.out HBEE.out
                          have HTR := Lib.hid htr
                          clear htr
                          have CB12 := chBelow_any (HLI7.out.below HBE.out) a d
                          rw [HTR.out] at CB12
                          have HCB12 := Lib.hid CB12
                          clear CB12
                          go_wp2_with fail
                          refine HCB12.out.mono ?_
                          rintro e wq12 ⟨rfl, hq12⟩
                          have HBE := Lib.hid (HBE.out.trans (hq12.mono HBE.out.size))
                          clear hq12 HCB12
                          go_wp2
                          go_roundw
                          case rel => exact ⟨d + 1, by go_num, by have := HLD.out; omega, HBE.out⟩
                          case measure => have := HLD.out; simp [intOf]; omega
                      · have hld' : ¬ (d : Int) < N := by omega
                        clear hld hd
                        go_wp2
                        go_roundw
                        case rel => exact ⟨a + 1, by go_num, by have := HB2.out; omega, HBE.out⟩
                        case measure => have := HB2.out; simp [intOf]; omega
                  · skip
                    go_wp2
                    try simp only [hab'', hab4, hdd']
                    go_loopw [13] (fun t13 wz => ∃ d : Nat, t13 = .int .i64 d ∧ d ≤ N ∧ Below w8.heap.size w8 wz) (fun t13 _ => N - (intOf t13).toNat)
                    case atStart => exact ⟨0, rfl, Nat.zero_le _, HBE.out⟩
                    case round =>
                      clear HBE
                      obtain ⟨d, rfl, hd, hbe⟩ := hrel
                      have HBE := Lib.hid hbe
                      clear hbe
                      by_cases hld : d < N
                      · have hld' : (d : Int) < N := by omega
                        have HLD := Lib.hid hld
                        have hd6 : (d : Int) < 10000 := by have := HNN.out; omega
                        obtain ⟨be, hbe2⟩ : ∃ be, belowL L (a : Int) (d : Int) = be := ⟨_, rfl⟩
                        have HBEE := Lib.hid hbe2
                        clear hld hd hbe2
                        have CB10 := chBelow_any (HLI7.out.below HBE.out) a a
                        rw [HBBB.out] at CB10
                        have HCB10 := Lib.hid CB10
                        clear CB10
                        go_wp2_with fail
                        refine HCB10.out.mono ?_
                        rintro e wq10 ⟨rfl, hq10⟩
                        have HBE := Lib.hid (HBE.out.trans (hq10.mono HBE.out.size))
                        clear hq10 HCB10
                        have CB11 := chBelow_any (HLI7.out.below HBE.out) a d
                        rw [HBEE.out] at CB11
                        have HCB11 := Lib.hid CB11
                        clear CB11
                        go_wp2_with fail
                        refine HCB11.out.mono ?_
                        rintro e wq11 ⟨rfl, hq11⟩
                        have HBE := Lib.hid (HBE.out.trans (hq11.mono HBE.out.size))
                        clear hq11 HCB11
                        cases be
                        · go_wp2
                          go_roundw
                          case rel => exact ⟨d + 1, by go_num, by have := HLD.out; omega, HBE.out⟩
                          case measure => have := HLD.out; simp [intOf]; omega
                        · have htr := below_trans HOK.out HBBB.out HBEE.out
                          have HTR := Lib.hid htr
                          clear htr
                          have CB12 := chBelow_any (HLI7.out.below HBE.out) a d
                          rw [HTR.out] at CB12
                          have HCB12 := Lib.hid CB12
                          clear CB12
                          go_wp2_with fail
                          refine HCB12.out.mono ?_
                          rintro e wq12 ⟨rfl, hq12⟩
                          have HBE := Lib.hid (HBE.out.trans (hq12.mono HBE.out.size))
                          clear hq12 HCB12
                          go_wp2
                          go_roundw
                          case rel => exact ⟨d + 1, by go_num, by have := HLD.out; omega, HBE.out⟩
                          case measure => have := HLD.out; simp [intOf]; omega
                      · have hld' : ¬ (d : Int) < N := by omega
                        clear hld hd
                        go_wp2
                        go_roundw
                        case rel => exact ⟨a + 1, by go_num, by have := HB2.out; omega, HBE.out⟩
                        case measure => have := HB2.out; simp [intOf]; omega
                · have hbo3 := HBO2.out hne
                  subst hbo3
                  clear hne
                  go_wp2
                  try simp only [hab'', hab4, hdd']
                  go_loopw [13] (fun t13 wz => ∃ d : Nat, t13 = .int .i64 d ∧ d ≤ N ∧ Below w8.heap.size w8 wz) (fun t13 _ => N - (intOf t13).toNat)
                  case atStart => exact ⟨0, rfl, Nat.zero_le _, HBE.out⟩
                  case round =>
                    clear HBE
                    obtain ⟨d, rfl, hd, hbe⟩ := hrel
                    have HBE := Lib.hid hbe
                    clear hbe
                    by_cases hld : d < N
                    · have hld' : (d : Int) < N := by omega
                      have HLD := Lib.hid hld
                      have hd6 : (d : Int) < 10000 := by have := HNN.out; omega
                      obtain ⟨be, hbe2⟩ : ∃ be, belowL L (b : Int) (d : Int) = be := ⟨_, rfl⟩
                      have HBEE := Lib.hid hbe2
                      clear hld hd hbe2
                      have CB10 := chBelow_any (HLI7.out.below HBE.out) a b
                      rw [HBBB.out] at CB10
                      have HCB10 := Lib.hid CB10
                      clear CB10
                      go_wp2_with fail
                      refine HCB10.out.mono ?_
                      rintro e wq10 ⟨rfl, hq10⟩
                      have HBE := Lib.hid (HBE.out.trans (hq10.mono HBE.out.size))
                      clear hq10 HCB10
                      have CB11 := chBelow_any (HLI7.out.below HBE.out) b d
                      rw [HBEE.out] at CB11
                      have HCB11 := Lib.hid CB11
                      clear CB11
                      go_wp2_with fail
                      refine HCB11.out.mono ?_
                      rintro e wq11 ⟨rfl, hq11⟩
                      have HBE := Lib.hid (HBE.out.trans (hq11.mono HBE.out.size))
                      clear hq11 HCB11
                      cases be
                      · go_wp2
                        go_roundw
                        case rel => exact ⟨d + 1, by go_num, by have := HLD.out; omega, HBE.out⟩
                        case measure => have := HLD.out; simp [intOf]; omega
                      · have htr := below_trans HOK.out HBBB.out HBEE.out
                        have HTR := Lib.hid htr
                        clear htr
                        have CB12 := chBelow_any (HLI7.out.below HBE.out) a d
                        rw [HTR.out] at CB12
                        have HCB12 := Lib.hid CB12
                        clear CB12
                        go_wp2_with fail
                        refine HCB12.out.mono ?_
                        rintro e wq12 ⟨rfl, hq12⟩
                        have HBE := Lib.hid (HBE.out.trans (hq12.mono HBE.out.size))
                        clear hq12 HCB12
                        go_wp2
                        go_roundw
                        case rel => exact ⟨d + 1, by go_num, by have := HLD.out; omega, HBE.out⟩
                        case measure => have := HLD.out; simp [intOf]; omega
                    · have hld' : ¬ (d : Int) < N := by omega
                      clear hld hd
                      go_wp2
                      go_roundw
                      case rel => exact ⟨b + 1, by go_num, by have := HB2.out; omega, HBE.out⟩
                      case measure => have := HB2.out; simp [intOf]; omega
            · obtain rfl : b = N := by omega
              have hlb' : ¬ (b : Int) < b := by omega
              have hself := below_self HOK.out (a := a) (by rw [HL2.out]; exact HA1.out)
              have HSELF := Lib.hid hself
              have ha6 : (a : Int) < 10000 := by have := HA1.out; have := HNN.out; omega
              clear hlb hb hself
              have CB9 := chBelow_any (HLI7.out.below HBE.out) a a
              rw [HSELF.out] at CB9
              have HCB9 := Lib.hid CB9
              clear CB9
              go_wp2_with fail
              refine HCB9.out.mono ?_
              rintro e wq9 ⟨rfl, hq9⟩
              have HBE := Lib.hid (HBE.out.trans (hq9.mono HBE.out.size))
              clear hq9 HCB9
              go_wp2
              go_roundw
              case rel => exact ⟨a + 1, by go_num, by have := HA1.out; omega, HBE.out⟩
              case measure => have := HA1.out; simp [intOf]; omega
        · obtain rfl : a = N := by omega
          have hlt' : ¬ (a : Int) < a := by omega
          clear hlt ha
          go_wp2
          go_ret
          exact ⟨rfl, HB1.out.trans ((HB7.out.trans (HBE.out.mono HB7.out.size)).mono HB1.out.size)⟩
end Go.Proofs.YtcihideabmpmjaaDoor
