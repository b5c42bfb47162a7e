/- package arena: Free. -/
import Derived.Test.YtelohkppbmahnaaDoorQArFreePBd
namespace Go.Proofs.YtelohkppbmahnaaDoor
open Go.RowKit

theorem own_fresh {SL SL' : Nat → Prop} {w : World} {p wb tb kb : Nat} (h : Fresh SL w SL') : Fresh (Own SL p wb tb kb) w (Own SL' p wb tb kb) := fun q hq => by
  rcases hq with e | e | e | e | e
  · exact .inl (.inl e)
  · exact .inl (.inr (.inl e))
  · exact .inl (.inr (.inr (.inl e)))
  · exact .inl (.inr (.inr (.inr (.inl e))))
  · exact (h q e).imp (fun e => .inr (.inr (.inr (.inr e)))) id
theorem lo_fr {bs : List Blk} {s x : Nat} {a b : List Nat} (h : LowOnly (fun y => y ≠ x ∧ frF bs y s) a b) : LowOnly (frA bs) a b :=
  h.mono fun _ ⟨_, c, h1, h2, h3, _⟩ => ⟨c, h1, h2, h3⟩
theorem lo_fr2 {bs : List Blk} {s x z : Nat} {a b : List Nat} (h : LowOnly (fun y => y ≠ x ∧ less (frF bs) z y s) a b) : LowOnly (frA bs) a b :=
  h.mono fun _ ⟨_, _, c, h1, h2, h3, _⟩ => ⟨c, h1, h2, h3⟩
set_option maxRecDepth 100000 in
set_option maxHeartbeats 8000000 in
theorem free_oc {SL : Nat → Prop} {w : World} {p wb tb kb m : Nat} {mc : Caps} {lv : Value} {ws : List Nat} {L : List (Value × List (Ent Value))} {T K : Nat → Nat} {used : Nat} {tk mk : Nat → Bool} {tbs kbs : List Nat} {pre post : List Blk} {b c : Blk}
    (A : Ar1 SL w p wb tb kb m mc lv ws L T K used tk mk tbs kbs) (I : Inv ws tk mk used (L.map (·.2)) (pre ++ [b, c] ++ post)) (hbu : b.u = true) (hpre : ∀ c ∈ pre, c.u = false → c.a + c.n + 1 ≠ b.a) (hcu : c.u = false) :
    Calls Tryd.prog 10 #[.pointer (some ⟨p, 0, none⟩), .int .i64 (b.a : Nat)] w fun e w' => e = .returned (.int .i64 0) ∧ ArPost (Own SL p wb tb kb) w p m (pre ++ [⟨b.a, zeros (b.n + c.n + 1), false, false⟩] ++ post) w' := by
  have hlen := A.core.len
  have hsm := I.small
  obtain ⟨bs, hbs⟩ : ∃ bs, pre ++ [b, c] ++ post = bs := ⟨_, rfl⟩
  have hbm : b ∈ bs := by rw [← hbs]; simp
  have hend := I.end_le b (hbs ▸ hbm)
  have two : 2 ≤ ws.length := by omega
  have hsp := I.span
  rw [show endOf ws.length = ws.length + 1 from if_pos two, Span.append] at hsp
  obtain ⟨t, hsp1, hq⟩ := hsp
  rw [Span.append] at hsp1
  obtain ⟨s, hp, hm⟩ := hsp1
  have hm2 := hm
  have t1 := hq.le
  obtain ⟨hb1, hb2, hc1, hc2, ht⟩ := hm2
  have hc1 : c.a = s + b.n + 1 := hc1
  have ht : s + b.n + 1 + c.n + 1 = t := ht
  have hpost : ∀ e ∈ post, e.u = false → e.a ≠ t := fun e he heu h => I.adj c (by simp) e (by simp [he]) hcu heu (by omega)
  have hsum : usedSum [b, c] = b.n + 1 := by simp [usedSum, hbu, hcu]
  have hused : b.n + 1 ≤ used := by
    have := I.sum
    rw [usedSum_append, usedSum_append, hsum] at this
    omega
  have husedm := I.used_le
  have hone : ∀ e ∈ [b, c], e.u = true → e = b := fun e he heu => by
    simp at he
    rcases he with rfl | rfl
    · rfl
    · rw [hcu] at heu; cases heu
  have hfr : ∀ k, b.a - 1 ≤ k → k < b.a + b.n + 1 → ¬ frA bs k := fun k h1 h2 ⟨e, he, heu, hk⟩ => by
    have := I.end_le e (hbs ▸ he)
    rcases I.span.sep e (hbs ▸ he) b (hbs ▸ hbm) with h | h | h
    · rw [h, hbu] at heu; cases heu
    · omega
    · omega
  have hbit := I.bit b (hbs ▸ hbm)
  have hhead := I.head b (hbs ▸ hbm)
  have htkx : ∀ e ∈ bs, e.u = true → tk e.a = true := fun e he heu => (I.taken _).2 ⟨e, hbs ▸ he, heu, rfl⟩
  have hlall := less_all hp hm hq (fun x => x = c.a) (fun e he heu => by
    simp at he
    rcases he with rfl | rfl
    · rw [hbu] at heu; cases heu
    · rfl
    ) (fun x hx => by
    rw [hx]; exact ⟨c, by simp, rfl⟩)
  have hbit1 : ws.getD (b.a - 1) 0 % 2 = 0 := by
    have : ¬ ws.getD (b.a - 1) 0 % 2 = 1 := fun h => by
      obtain ⟨e, he, heu, hk⟩ := hbit.1 h
      have h3 : e ∈ pre ∨ e ∈ [b, c] ∨ e ∈ post := by simp at he ⊢; grind
      rcases h3 with h | h | h
      · exact hpre e h heu hk
      · have := hm.mem e h
        have := hone e
        omega
      · have := hq.mem e h; omega
    omega
  have hcm : c ∈ bs := by rw [← hbs]; simp
  have hcend := I.end_le c (hbs ▸ hcm)
  have hchead := I.head c (hbs ▸ hcm)
  have htkc : tk c.a = false := by
    cases h : tk c.a
    · rfl
    · obtain ⟨e, he, heu, hk⟩ := (I.taken _).1 h
      have := I.span.inj he (hbs ▸ hcm) hk
      rw [this, hcu] at heu; cases heu
  have hhas := has_at A I (b.a : Nat) (by omega) (by omega)
  have huse : usedAt bs (b.a : Nat) = true := (usedAt_iff _ _).2 ⟨b, hbm, hbu, rfl⟩
  obtain ⟨x, hx⟩ : ∃ x, b.a = x := ⟨_, rfl⟩
  obtain ⟨n, hn⟩ : ∃ n, b.n = n := ⟨_, rfl⟩
  obtain ⟨y, hy⟩ : ∃ y, x + n + 1 = y := ⟨_, rfl⟩
  obtain ⟨yy, hyy⟩ : ∃ yy, x + n = yy := ⟨_, rfl⟩
  obtain ⟨us, hus⟩ : ∃ us, used - (n + 1) = us := ⟨_, rfl⟩
  rw [hx, hn] at hend hfr
  rw [hn] at hused
  rw [hx] at hbit1
  rw [hx, hn] at hhead
  have hx1 : 1 ≤ x := hend.1
  have hn1 : 0 < n := hend.2.1
  have hm20 : m ≤ 1048576 := by omega
  have hxm : x + n ≤ m := by omega
  have e1 : IntKind.i64.wrap ((n : Int) + 1) = (n : Int) + 1 := IntWalk.i64_in _ ⟨by omega, by omega⟩
  have e2 : IntKind.i64.wrap ((used : Int) - ((n : Int) + 1)) = (us : Int) := by rw [IntWalk.i64_in _ ⟨by omega, by omega⟩]; omega
  have e3 : IntKind.i64.wrap ((x : Int) + n) = (yy : Int) := by rw [IntWalk.i64_in _ ⟨by omega, by omega⟩]; omega
  have e4 : IntKind.i64.wrap ((yy : Int) + 1) = (y : Int) := by rw [IntWalk.i64_in _ ⟨by omega, by omega⟩]; omega
  have ex1 : IntKind.i64.wrap ((x : Int) - 1) = ((x - 1 : Nat) : Int) := by rw [IntWalk.i64_in _ ⟨by omega, by omega⟩]; omega
  have hx64 : x < 64 * (m / 64 + 1) := by omega
  have hm64 : m / 64 + 1 ≤ 1048576 := by omega
  obtain ⟨cn, hcn⟩ : ∃ cn, c.n = cn := ⟨_, rfl⟩
  have hcy : c.a = y := by omega
  rw [hcy, hcn] at hcend hchead
  rw [hcy] at htkc
  obtain ⟨n2, hn2⟩ : ∃ n2, n + cn + 1 = n2 := ⟨_, rfl⟩
  have hym : (y : Int) < m := by omega
  have hy64 : y < 64 * (m / 64 + 1) := by omega
  have e5 : IntKind.i64.wrap ((cn : Int) + 1) = (cn : Int) + 1 := IntWalk.i64_in _ ⟨by omega, by omega⟩
  have e6 : IntKind.i64.wrap ((n : Int) + ((cn : Int) + 1)) = (n2 : Int) := by rw [IntWalk.i64_in _ ⟨by omega, by omega⟩]; omega
  have hty : turned tk x false y = false := by unfold turned; rw [if_neg (by omega)]; exact htkc
  have hsx : s = x := by omega
  have hlenF : t - s - 1 = n2 := by omega
  have hgoal : pre ++ [⟨b.a, zeros (b.n + c.n + 1), false, false⟩] ++ post = pre ++ [⟨s, zeros n2, false, false⟩] ++ post := by rw [show b.a = s by omega, show b.n + c.n + 1 = n2 by omega]
  rw [hgoal, hx]
  rw [hx] at hhas huse
  have hlall2 : ∀ z u, (¬ (z = y) ∧ frF bs z u) ↔ ∃ c ∈ pre ++ post, c.u = false ∧ c.a = z ∧ c.n = u := fun z u => by have h := hlall z u; rw [hcy] at h; rw [hbs] at h; exact h
  have HS := Lib.hid hsx; have HLF := Lib.hid hlenF; have HLA := Lib.hid hlall2; have HP := Lib.hid hp; have HM := Lib.hid hm; have HQ := Lib.hid hq; have HONE := Lib.hid hone; have HSUM := Lib.hid hsum; have HPRE := Lib.hid hpre; have HPOST := Lib.hid hpost; have HBS := Lib.hid hbs; have HBM := Lib.hid hbm; have HBU := Lib.hid hbu; have HTWO := Lib.hid two; have HST := Lib.hid (show s + 2 ≤ t by omega)
  have HA := Lib.hid A; have HI := Lib.hid (show Inv ws tk mk used (L.map (·.2)) bs from hbs ▸ I); have HH := Lib.hid (show Calls Tryd.prog 33 #[.pointer (some ⟨p, 0, none⟩), .int .i64 (x : Nat)] w (fun e w' => e = .returned (.bool (usedAt bs (x : Nat))) ∧ w = w') from hbs ▸ hhas); have HUSE := Lib.hid huse; have HD := Lib.hid hhead; have HBIT := Lib.hid hbit1; have HFR := Lib.hid hfr; have HX := Lib.hid hx; have HN := Lib.hid hn; have HUS := Lib.hid hus; have HY := Lib.hid hy; have HYY := Lib.hid hyy; have HLEN := Lib.hid hlen
  have HCU := Lib.hid hcu; have HCM := Lib.hid hcm; have HCE := Lib.hid hcend; have HCH := Lib.hid hchead; have HCY := Lib.hid hcy; have HCN := Lib.hid hcn; have HTY := Lib.hid hty; have HN2 := Lib.hid hn2; have HYM := Lib.hid (show 1 ≤ y ∧ y ≤ m by omega)
  clear A I hhas huse hhead hbit hbit1 hfr hx hn hus hy hyy hlen hsx hlenF hgoal hlall hlall2 hp hm hq hone hsum hpre hpost hbm hbu two hend hsm t1 ht hused husedm htkx hb1 hb2 hcu hcm hcend hchead hcy hcn hty hn2 htkc hc1 hc2 hbs
  have d1 := heap_cell HA.out.core.blk 1
  simp at d1
  go_enter Tryd.func10, Tryd.ntmps10
  go_wp2_with fail
  refine (absent_at p w).mono ?_
  rintro e w1 ⟨rfl, rfl⟩
  go_wp2_with fail
  refine HH.out.mono ?_
  rintro e w1 ⟨rfl, rfl⟩
  rw [HUSE.out]
  go_wp2_with fail
  refine (size_at HA.out.core x hx1 (by omega)).mono ?_
  rintro e w1 ⟨rfl, rfl⟩
  rw [HD.out]
  go_wp2_with fail
  refine (bunset_at w tb _ _ tk tbs HA.out.brt x hx64 hm64).mono ?_
  rintro e w1 ⟨rfl, ⟨tbs1, k1⟩, u1⟩
  have HA1 := Lib.hid (HA.out.turnT u1 k1)
  have U1 := Lib.hid (show Upd (Own SL p wb tb kb) w w1 from u1.mono (fun q _ hq => .inr (.inr (.inl hq))))
  clear u1 k1 d1
  have d2 := heap_cell HA1.out.core.blk 2
  simp at d2
  go_wp2_with fail
  refine (bunset_at w1 kb _ _ mk kbs HA1.out.brk x hx64 hm64).mono ?_
  rintro e w2 ⟨rfl, ⟨kbs2, k2⟩, u2⟩
  have HA2 := Lib.hid (HA1.out.turnK u2 k2)
  have U2 := Lib.hid (show Upd (Own SL p wb tb kb) w w2 from U1.out.trans' (u2.mono (fun q _ hq => .inr (.inr (.inr (.inl hq))))))
  clear u2 k2 d2
  have d3 := heap_cell HA2.out.core.blk 3
  have d30 := heap_cell HA2.out.core.blk 0
  have d31 := heap_cell HA2.out.core.blk 1
  simp at d3 d30 d31
  have f3 := heap_frozen HA2.out.core.blk 3
  have HA3 := Lib.hid (HA2.out.use us)
  have U3 := Lib.hid (show Upd (Own SL p wb tb kb) w (w2.setCell ⟨p, 3, none⟩ (.int .i64 (us : Int))) from U2.out.trans' ((upd_set _ _ _ _).mono (fun q _ hq => .inl hq)))
  have HOK3 := Lib.hid HI.out.lists
  have HL3 := Lib.hid (rfl : L.length = L.length)
  have HLO3 := Lib.hid (LowOnly.refl (frA bs) ws)
  have HFR3 := Lib.hid (Fresh.refl (Own SL p wb tb kb) w)
  have HZ := Lib.hid (show ws.getD (x - 1) 0 % 2 = 0 from HBIT.out)
  go_wp2_with fail
  refine (bhas_at _ tb _ _ (turned tk x false) tbs1 HA3.out.brt y hy64 hm64).mono ?_
  rintro e w3 ⟨rfl, rfl⟩
  rw [HTY.out]
  go_wp2_with fail
  refine (size_at HA3.out.core y HYM.out.1 HYM.out.2).mono ?_
  rintro e w3 ⟨rfl, rfl⟩
  rw [HCH.out]
  go_wp2_with fail
  refine (delist_at HA3.out.core HOK3.out y cn ⟨c, HCM.out, HCU.out, HCY.out, HCN.out⟩ (by have := HI.out.L_le; rw [List.length_map] at this; exact this) HI.out.fr_lt).mono ?_
  rintro e w4 ⟨rfl, SL4, ws4, L4, T4, K4, C4, ok4, hL4, lo4, fr4, u4⟩
  have HA4 := Lib.hid (HA3.out.post C4 fr4 u4)
  have HOK4 := Lib.hid ok4; have HL4 := Lib.hid hL4; have HLO4 := Lib.hid (lo_fr lo4)
  have HFR4 := Lib.hid (show Fresh (Own SL p wb tb kb) w (Own SL4 p wb tb kb) from HFR3.out.trans (own_fresh fr4) U3.out.size)
  have U4 := Lib.hid (show Upd (Own SL p wb tb kb) w w4 from U3.out.trans' (u4.mono (fun q _ hq => hq.elim (fun h => .inr (.inl h)) (fun h => .inr (.inr (.inr (.inr h)))))))
  clear C4 ok4 hL4 lo4 fr4 u4 d3 d30 d31 f3
  have d30 := heap_cell HA4.out.core.blk 0
  simp at d30
  have cwz := HA4.out.core.word (x - 1) (by omega)
  have hz64 := HA4.out.core.w64 (x - 1)
  obtain ⟨z, hz⟩ : ∃ z, ws4.getD (x - 1) 0 = z := ⟨_, rfl⟩
  rw [hz] at cwz hz64
  have hzb : z % 2 = 0 := by rw [← hz, HLO4.out.off _ (HFR.out _ (Nat.le_refl _) (by omega))]; exact HZ.out
  have hand : bits .and .u64 (z : Int) 1 = 0 := by rw [and_one z hz64, hzb]; rfl
  clear hz hzb
  have hx1m : x - 1 < m := by omega
  have HEND := Lib.hid (free_end (F := less (frF bs) y) (t := t) (b := b) (s := s) (pre := pre) (mid := [b, c]) (post := post) (ws := ws) (tk := tk) (mk := mk) (used := used) (L0 := L.map (·.2)) (by rw [HN.out, HX.out, HUS.out]; exact HA4.out) (by rw [HBS.out]; exact HI.out) HTWO.out HP.out HM.out HQ.out HST.out (by simp) HBU.out HONE.out HSUM.out (by have h := HPRE.out; rw [HX.out, ← HS.out] at h; exact h) HPOST.out (fun z u => (by unfold less; rw [← HLA.out z u])) HOK4.out (HL4.out.trans (by rw [List.length_map])) (by rw [HBS.out]; exact HLO4.out) n2 HLF.out)
  go_wp2_with fail
  rw [← HS.out]
  refine HEND.out.mono ?_
  rintro e w9 ⟨rfl, h9⟩
  have H9 := Lib.hid h9
  clear h9
  go_wp2
  go_ret
  exact ⟨rfl, ArPost.trans HFR4.out U4.out H9.out⟩
set_option maxRecDepth 100000 in
set_option maxHeartbeats 8000000 in
theorem free_oe {SL : Nat → Prop} {w : World} {p wb tb kb m : Nat} {mc : Caps} {lv : Value} {ws : List Nat} {L : List (Value × List (Ent Value))} {T K : Nat → Nat} {used : Nat} {tk mk : Nat → Bool} {tbs kbs : List Nat} {pre post : List Blk} {b : Blk}
    (A : Ar1 SL w p wb tb kb m mc lv ws L T K used tk mk tbs kbs) (I : Inv ws tk mk used (L.map (·.2)) (pre ++ [b] ++ post)) (hbu : b.u = true) (hpre : ∀ c ∈ pre, c.u = false → c.a + c.n + 1 ≠ b.a) (hpost : ∀ c ∈ post, c.u = false → c.a ≠ b.a + b.n + 1) (hye : m < b.a + b.n + 1) :
    Calls Tryd.prog 10 #[.pointer (some ⟨p, 0, none⟩), .int .i64 (b.a : Nat)] w fun e w' => e = .returned (.int .i64 0) ∧ ArPost (Own SL p wb tb kb) w p m (pre ++ [⟨b.a, zeros (b.n), false, false⟩] ++ post) w' := by
  have hlen := A.core.len
  have hsm := I.small
  obtain ⟨bs, hbs⟩ : ∃ bs, pre ++ [b] ++ post = bs := ⟨_, rfl⟩
  have hbm : b ∈ bs := by rw [← hbs]; simp
  have hend := I.end_le b (hbs ▸ hbm)
  have two : 2 ≤ ws.length := by omega
  have hsp := I.span
  rw [show endOf ws.length = ws.length + 1 from if_pos two, Span.append] at hsp
  obtain ⟨t, hsp1, hq⟩ := hsp
  rw [Span.append] at hsp1
  obtain ⟨s, hp, hm⟩ := hsp1
  have hm2 := hm
  have t1 := hq.le
  obtain ⟨hb1, hb2, ht⟩ := hm2
  have ht : s + b.n + 1 = t := ht
  have hpost : ∀ e ∈ post, e.u = false → e.a ≠ t := fun e he heu h => hpost e he heu (by omega)
  have hsum : usedSum [b] = b.n + 1 := by simp [usedSum, hbu]
  have hused : b.n + 1 ≤ used := by
    have := I.sum
    rw [usedSum_append, usedSum_append, hsum] at this
    omega
  have husedm := I.used_le
  have hone : ∀ e ∈ [b], e.u = true → e = b := fun e he heu => by
    simp at he
    rcases he with rfl
    · rfl
  have hfr : ∀ k, b.a - 1 ≤ k → k < b.a + b.n + 1 → ¬ frA bs k := fun k h1 h2 ⟨e, he, heu, hk⟩ => by
    have := I.end_le e (hbs ▸ he)
    rcases I.span.sep e (hbs ▸ he) b (hbs ▸ hbm) with h | h | h
    · rw [h, hbu] at heu; cases heu
    · omega
    · omega
  have hbit := I.bit b (hbs ▸ hbm)
  have hhead := I.head b (hbs ▸ hbm)
  have htkx : ∀ e ∈ bs, e.u = true → tk e.a = true := fun e he heu => (I.taken _).2 ⟨e, hbs ▸ he, heu, rfl⟩
  have hlall := less_all hp hm hq (fun x => False) (fun e he heu => by
    simp at he
    rcases he with rfl
    · rw [hbu] at heu; cases heu
    ) (fun x hx => by
    exact hx.elim)
  have hbit1 : ws.getD (b.a - 1) 0 % 2 = 0 := by
    have : ¬ ws.getD (b.a - 1) 0 % 2 = 1 := fun h => by
      obtain ⟨e, he, heu, hk⟩ := hbit.1 h
      have h3 : e ∈ pre ∨ e ∈ [b] ∨ e ∈ post := by simp at he ⊢; grind
      rcases h3 with h | h | h
      · exact hpre e h heu hk
      · have := hm.mem e h
        have := hone e
        omega
      · have := hq.mem e h; omega
    omega
  have hhas := has_at A I (b.a : Nat) (by omega) (by omega)
  have huse : usedAt bs (b.a : Nat) = true := (usedAt_iff _ _).2 ⟨b, hbm, hbu, rfl⟩
  obtain ⟨x, hx⟩ : ∃ x, b.a = x := ⟨_, rfl⟩
  obtain ⟨n, hn⟩ : ∃ n, b.n = n := ⟨_, rfl⟩
  obtain ⟨y, hy⟩ : ∃ y, x + n + 1 = y := ⟨_, rfl⟩
  obtain ⟨yy, hyy⟩ : ∃ yy, x + n = yy := ⟨_, rfl⟩
  obtain ⟨us, hus⟩ : ∃ us, used - (n + 1) = us := ⟨_, rfl⟩
  rw [hx, hn] at hend hfr
  rw [hn] at hused
  rw [hx] at hbit1
  rw [hx, hn] at hhead
  have hx1 : 1 ≤ x := hend.1
  have hn1 : 0 < n := hend.2.1
  have hm20 : m ≤ 1048576 := by omega
  have hxm : x + n ≤ m := by omega
  have e1 : IntKind.i64.wrap ((n : Int) + 1) = (n : Int) + 1 := IntWalk.i64_in _ ⟨by omega, by omega⟩
  have e2 : IntKind.i64.wrap ((used : Int) - ((n : Int) + 1)) = (us : Int) := by rw [IntWalk.i64_in _ ⟨by omega, by omega⟩]; omega
  have e3 : IntKind.i64.wrap ((x : Int) + n) = (yy : Int) := by rw [IntWalk.i64_in _ ⟨by omega, by omega⟩]; omega
  have e4 : IntKind.i64.wrap ((yy : Int) + 1) = (y : Int) := by rw [IntWalk.i64_in _ ⟨by omega, by omega⟩]; omega
  have ex1 : IntKind.i64.wrap ((x : Int) - 1) = ((x - 1 : Nat) : Int) := by rw [IntWalk.i64_in _ ⟨by omega, by omega⟩]; omega
  have hx64 : x < 64 * (m / 64 + 1) := by omega
  have hm64 : m / 64 + 1 ≤ 1048576 := by omega
  have hym : ¬ (y : Int) < m := by omega
  have hsx : s = x := by omega
  have hlenF : t - s - 1 = n := by omega
  have hgoal : pre ++ [⟨b.a, zeros (b.n), false, false⟩] ++ post = pre ++ [⟨s, zeros n, false, false⟩] ++ post := by rw [show b.a = s by omega, show b.n = n by omega]
  rw [hgoal, hx]
  rw [hx] at hhas huse
  have hlall2 : ∀ z u, (¬ (False) ∧ frF bs z u) ↔ ∃ c ∈ pre ++ post, c.u = false ∧ c.a = z ∧ c.n = u := fun z u => by have h := hlall z u; rw [hbs] at h; exact h
  have HS := Lib.hid hsx; have HLF := Lib.hid hlenF; have HLA := Lib.hid hlall2; have HP := Lib.hid hp; have HM := Lib.hid hm; have HQ := Lib.hid hq; have HONE := Lib.hid hone; have HSUM := Lib.hid hsum; have HPRE := Lib.hid hpre; have HPOST := Lib.hid hpost; have HBS := Lib.hid hbs; have HBM := Lib.hid hbm; have HBU := Lib.hid hbu; have HTWO := Lib.hid two; have HST := Lib.hid (show s + 2 ≤ t by omega)
  have HA := Lib.hid A; have HI := Lib.hid (show Inv ws tk mk used (L.map (·.2)) bs from hbs ▸ I); have HH := Lib.hid (show Calls Tryd.prog 33 #[.pointer (some ⟨p, 0, none⟩), .int .i64 (x : Nat)] w (fun e w' => e = .returned (.bool (usedAt bs (x : Nat))) ∧ w = w') from hbs ▸ hhas); have HUSE := Lib.hid huse; have HD := Lib.hid hhead; have HBIT := Lib.hid hbit1; have HFR := Lib.hid hfr; have HX := Lib.hid hx; have HN := Lib.hid hn; have HUS := Lib.hid hus; have HY := Lib.hid hy; have HYY := Lib.hid hyy; have HLEN := Lib.hid hlen
  clear A I hhas huse hhead hbit hbit1 hfr hx hn hus hy hyy hlen hsx hlenF hgoal hlall hlall2 hp hm hq hone hsum hpre hpost hbm hbu two hend hsm t1 ht hused husedm htkx hb1 hb2 hye hbs
  have d1 := heap_cell HA.out.core.blk 1
  simp at d1
  go_enter Tryd.func10, Tryd.ntmps10
  go_wp2_with fail
  refine (absent_at p w).mono ?_
  rintro e w1 ⟨rfl, rfl⟩
  go_wp2_with fail
  refine HH.out.mono ?_
  rintro e w1 ⟨rfl, rfl⟩
  rw [HUSE.out]
  go_wp2_with fail
  refine (size_at HA.out.core x hx1 (by omega)).mono ?_
  rintro e w1 ⟨rfl, rfl⟩
  rw [HD.out]
  go_wp2_with fail
  refine (bunset_at w tb _ _ tk tbs HA.out.brt x hx64 hm64).mono ?_
  rintro e w1 ⟨rfl, ⟨tbs1, k1⟩, u1⟩
  have HA1 := Lib.hid (HA.out.turnT u1 k1)
  have U1 := Lib.hid (show Upd (Own SL p wb tb kb) w w1 from u1.mono (fun q _ hq => .inr (.inr (.inl hq))))
  clear u1 k1 d1
  have d2 := heap_cell HA1.out.core.blk 2
  simp at d2
  go_wp2_with fail
  refine (bunset_at w1 kb _ _ mk kbs HA1.out.brk x hx64 hm64).mono ?_
  rintro e w2 ⟨rfl, ⟨kbs2, k2⟩, u2⟩
  have HA2 := Lib.hid (HA1.out.turnK u2 k2)
  have U2 := Lib.hid (show Upd (Own SL p wb tb kb) w w2 from U1.out.trans' (u2.mono (fun q _ hq => .inr (.inr (.inr (.inl hq))))))
  clear u2 k2 d2
  have d3 := heap_cell HA2.out.core.blk 3
  have d30 := heap_cell HA2.out.core.blk 0
  have d31 := heap_cell HA2.out.core.blk 1
  simp at d3 d30 d31
  have f3 := heap_frozen HA2.out.core.blk 3
  have HA3 := Lib.hid (HA2.out.use us)
  have U3 := Lib.hid (show Upd (Own SL p wb tb kb) w (w2.setCell ⟨p, 3, none⟩ (.int .i64 (us : Int))) from U2.out.trans' ((upd_set _ _ _ _).mono (fun q _ hq => .inl hq)))
  have HOK3 := Lib.hid HI.out.lists
  have HL3 := Lib.hid (rfl : L.length = L.length)
  have HLO3 := Lib.hid (LowOnly.refl (frA bs) ws)
  have HFR3 := Lib.hid (Fresh.refl (Own SL p wb tb kb) w)
  have HZ := Lib.hid (show ws.getD (x - 1) 0 % 2 = 0 from HBIT.out)
  have cwz := HA3.out.core.word (x - 1) (by omega)
  have hz64 := HA3.out.core.w64 (x - 1)
  obtain ⟨z, hz⟩ : ∃ z, ws.getD (x - 1) 0 = z := ⟨_, rfl⟩
  rw [hz] at cwz hz64
  have hzb : z % 2 = 0 := by rw [← hz, HLO3.out.off _ (HFR.out _ (Nat.le_refl _) (by omega))]; exact HZ.out
  have hand : bits .and .u64 (z : Int) 1 = 0 := by rw [and_one z hz64, hzb]; rfl
  clear hz hzb
  have hx1m : x - 1 < m := by omega
  have HEND := Lib.hid (free_end (F := frF bs) (t := t) (b := b) (s := s) (pre := pre) (mid := [b]) (post := post) (ws := ws) (tk := tk) (mk := mk) (used := used) (L0 := L.map (·.2)) (by rw [HN.out, HX.out, HUS.out]; exact HA3.out) (by rw [HBS.out]; exact HI.out) HTWO.out HP.out HM.out HQ.out HST.out (by simp) HBU.out HONE.out HSUM.out (by have h := HPRE.out; rw [HX.out, ← HS.out] at h; exact h) HPOST.out (fun z u => (by rw [← HLA.out z u]; simp)) HOK3.out ((rfl : L.length = L.length).trans (by rw [List.length_map])) (by rw [HBS.out]; exact HLO3.out) n HLF.out)
  go_wp2_with fail
  rw [← HS.out]
  refine HEND.out.mono ?_
  rintro e w9 ⟨rfl, h9⟩
  have H9 := Lib.hid h9
  clear h9
  go_wp2
  go_ret
  exact ⟨rfl, ArPost.trans HFR3.out U3.out H9.out⟩
set_option maxRecDepth 100000 in
set_option maxHeartbeats 8000000 in
theorem free_ou {SL : Nat → Prop} {w : World} {p wb tb kb m : Nat} {mc : Caps} {lv : Value} {ws : List Nat} {L : List (Value × List (Ent Value))} {T K : Nat → Nat} {used : Nat} {tk mk : Nat → Bool} {tbs kbs : List Nat} {pre post : List Blk} {b c : Blk}
    (A : Ar1 SL w p wb tb kb m mc lv ws L T K used tk mk tbs kbs) (I : Inv ws tk mk used (L.map (·.2)) (pre ++ [b] ++ post)) (hbu : b.u = true) (hpre : ∀ c ∈ pre, c.u = false → c.a + c.n + 1 ≠ b.a) (hpost : ∀ c ∈ post, c.u = false → c.a ≠ b.a + b.n + 1) (hcm : c ∈ post) (hca : c.a = b.a + b.n + 1) (hcu : c.u = true) :
    Calls Tryd.prog 10 #[.pointer (some ⟨p, 0, none⟩), .int .i64 (b.a : Nat)] w fun e w' => e = .returned (.int .i64 0) ∧ ArPost (Own SL p wb tb kb) w p m (pre ++ [⟨b.a, zeros (b.n), false, false⟩] ++ post) w' := by
  have hlen := A.core.len
  have hsm := I.small
  obtain ⟨bs, hbs⟩ : ∃ bs, pre ++ [b] ++ post = bs := ⟨_, rfl⟩
  have hbm : b ∈ bs := by rw [← hbs]; simp
  have hend := I.end_le b (hbs ▸ hbm)
  have two : 2 ≤ ws.length := by omega
  have hsp := I.span
  rw [show endOf ws.length = ws.length + 1 from if_pos two, Span.append] at hsp
  obtain ⟨t, hsp1, hq⟩ := hsp
  rw [Span.append] at hsp1
  obtain ⟨s, hp, hm⟩ := hsp1
  have hm2 := hm
  have t1 := hq.le
  obtain ⟨hb1, hb2, ht⟩ := hm2
  have ht : s + b.n + 1 = t := ht
  have hpost : ∀ e ∈ post, e.u = false → e.a ≠ t := fun e he heu h => hpost e he heu (by omega)
  have hsum : usedSum [b] = b.n + 1 := by simp [usedSum, hbu]
  have hused : b.n + 1 ≤ used := by
    have := I.sum
    rw [usedSum_append, usedSum_append, hsum] at this
    omega
  have husedm := I.used_le
  have hone : ∀ e ∈ [b], e.u = true → e = b := fun e he heu => by
    simp at he
    rcases he with rfl
    · rfl
  have hfr : ∀ k, b.a - 1 ≤ k → k < b.a + b.n + 1 → ¬ frA bs k := fun k h1 h2 ⟨e, he, heu, hk⟩ => by
    have := I.end_le e (hbs ▸ he)
    rcases I.span.sep e (hbs ▸ he) b (hbs ▸ hbm) with h | h | h
    · rw [h, hbu] at heu; cases heu
    · omega
    · omega
  have hbit := I.bit b (hbs ▸ hbm)
  have hhead := I.head b (hbs ▸ hbm)
  have htkx : ∀ e ∈ bs, e.u = true → tk e.a = true := fun e he heu => (I.taken _).2 ⟨e, hbs ▸ he, heu, rfl⟩
  have hlall := less_all hp hm hq (fun x => False) (fun e he heu => by
    simp at he
    rcases he with rfl
    · rw [hbu] at heu; cases heu
    ) (fun x hx => by
    exact hx.elim)
  have hbit1 : ws.getD (b.a - 1) 0 % 2 = 0 := by
    have : ¬ ws.getD (b.a - 1) 0 % 2 = 1 := fun h => by
      obtain ⟨e, he, heu, hk⟩ := hbit.1 h
      have h3 : e ∈ pre ∨ e ∈ [b] ∨ e ∈ post := by simp at he ⊢; grind
      rcases h3 with h | h | h
      · exact hpre e h heu hk
      · have := hm.mem e h
        have := hone e
        omega
      · have := hq.mem e h; omega
    omega
  have hcb : c ∈ bs := by rw [← hbs]; simp [hcm]
  have hcend := I.end_le c (hbs ▸ hcb)
  have htkc : tk c.a = true := htkx c hcb hcu
  have hhas := has_at A I (b.a : Nat) (by omega) (by omega)
  have huse : usedAt bs (b.a : Nat) = true := (usedAt_iff _ _).2 ⟨b, hbm, hbu, rfl⟩
  obtain ⟨x, hx⟩ : ∃ x, b.a = x := ⟨_, rfl⟩
  obtain ⟨n, hn⟩ : ∃ n, b.n = n := ⟨_, rfl⟩
  obtain ⟨y, hy⟩ : ∃ y, x + n + 1 = y := ⟨_, rfl⟩
  obtain ⟨yy, hyy⟩ : ∃ yy, x + n = yy := ⟨_, rfl⟩
  obtain ⟨us, hus⟩ : ∃ us, used - (n + 1) = us := ⟨_, rfl⟩
  rw [hx, hn] at hend hfr
  rw [hn] at hused
  rw [hx] at hbit1
  rw [hx, hn] at hhead
  have hx1 : 1 ≤ x := hend.1
  have hn1 : 0 < n := hend.2.1
  have hm20 : m ≤ 1048576 := by omega
  have hxm : x + n ≤ m := by omega
  have e1 : IntKind.i64.wrap ((n : Int) + 1) = (n : Int) + 1 := IntWalk.i64_in _ ⟨by omega, by omega⟩
  have e2 : IntKind.i64.wrap ((used : Int) - ((n : Int) + 1)) = (us : Int) := by rw [IntWalk.i64_in _ ⟨by omega, by omega⟩]; omega
  have e3 : IntKind.i64.wrap ((x : Int) + n) = (yy : Int) := by rw [IntWalk.i64_in _ ⟨by omega, by omega⟩]; omega
  have e4 : IntKind.i64.wrap ((yy : Int) + 1) = (y : Int) := by rw [IntWalk.i64_in _ ⟨by omega, by omega⟩]; omega
  have ex1 : IntKind.i64.wrap ((x : Int) - 1) = ((x - 1 : Nat) : Int) := by rw [IntWalk.i64_in _ ⟨by omega, by omega⟩]; omega
  have hx64 : x < 64 * (m / 64 + 1) := by omega
  have hm64 : m / 64 + 1 ≤ 1048576 := by omega
  have hcy : c.a = y := by omega
  rw [hcy] at htkc
  have hym : (y : Int) < m := by omega
  have hy64 : y < 64 * (m / 64 + 1) := by omega
  have hty : turned tk x false y = true := by unfold turned; rw [if_neg (by omega)]; exact htkc
  have hsx : s = x := by omega
  have hlenF : t - s - 1 = n := by omega
  have hgoal : pre ++ [⟨b.a, zeros (b.n), false, false⟩] ++ post = pre ++ [⟨s, zeros n, false, false⟩] ++ post := by rw [show b.a = s by omega, show b.n = n by omega]
  rw [hgoal, hx]
  rw [hx] at hhas huse
  have hlall2 : ∀ z u, (¬ (False) ∧ frF bs z u) ↔ ∃ c ∈ pre ++ post, c.u = false ∧ c.a = z ∧ c.n = u := fun z u => by have h := hlall z u; rw [hbs] at h; exact h
  have HS := Lib.hid hsx; have HLF := Lib.hid hlenF; have HLA := Lib.hid hlall2; have HP := Lib.hid hp; have HM := Lib.hid hm; have HQ := Lib.hid hq; have HONE := Lib.hid hone; have HSUM := Lib.hid hsum; have HPRE := Lib.hid hpre; have HPOST := Lib.hid hpost; have HBS := Lib.hid hbs; have HBM := Lib.hid hbm; have HBU := Lib.hid hbu; have HTWO := Lib.hid two; have HST := Lib.hid (show s + 2 ≤ t by omega)
  have HA := Lib.hid A; have HI := Lib.hid (show Inv ws tk mk used (L.map (·.2)) bs from hbs ▸ I); have HH := Lib.hid (show Calls Tryd.prog 33 #[.pointer (some ⟨p, 0, none⟩), .int .i64 (x : Nat)] w (fun e w' => e = .returned (.bool (usedAt bs (x : Nat))) ∧ w = w') from hbs ▸ hhas); have HUSE := Lib.hid huse; have HD := Lib.hid hhead; have HBIT := Lib.hid hbit1; have HFR := Lib.hid hfr; have HX := Lib.hid hx; have HN := Lib.hid hn; have HUS := Lib.hid hus; have HY := Lib.hid hy; have HYY := Lib.hid hyy; have HLEN := Lib.hid hlen
  have HTY := Lib.hid hty
  clear A I hhas huse hhead hbit hbit1 hfr hx hn hus hy hyy hlen hsx hlenF hgoal hlall hlall2 hp hm hq hone hsum hpre hpost hbm hbu two hend hsm t1 ht hused husedm htkx hb1 hb2 hcu hcm hcend hcb hcy hty htkc hca hbs
  have d1 := heap_cell HA.out.core.blk 1
  simp at d1
  go_enter Tryd.func10, Tryd.ntmps10
  go_wp2_with fail
  refine (absent_at p w).mono ?_
  rintro e w1 ⟨rfl, rfl⟩
  go_wp2_with fail
  refine HH.out.mono ?_
  rintro e w1 ⟨rfl, rfl⟩
  rw [HUSE.out]
  go_wp2_with fail
  refine (size_at HA.out.core x hx1 (by omega)).mono ?_
  rintro e w1 ⟨rfl, rfl⟩
  rw [HD.out]
  go_wp2_with fail
  refine (bunset_at w tb _ _ tk tbs HA.out.brt x hx64 hm64).mono ?_
  rintro e w1 ⟨rfl, ⟨tbs1, k1⟩, u1⟩
  have HA1 := Lib.hid (HA.out.turnT u1 k1)
  have U1 := Lib.hid (show Upd (Own SL p wb tb kb) w w1 from u1.mono (fun q _ hq => .inr (.inr (.inl hq))))
  clear u1 k1 d1
  have d2 := heap_cell HA1.out.core.blk 2
  simp at d2
  go_wp2_with fail
  refine (bunset_at w1 kb _ _ mk kbs HA1.out.brk x hx64 hm64).mono ?_
  rintro e w2 ⟨rfl, ⟨kbs2, k2⟩, u2⟩
  have HA2 := Lib.hid (HA1.out.turnK u2 k2)
  have U2 := Lib.hid (show Upd (Own SL p wb tb kb) w w2 from U1.out.trans' (u2.mono (fun q _ hq => .inr (.inr (.inr (.inl hq))))))
  clear u2 k2 d2
  have d3 := heap_cell HA2.out.core.blk 3
  have d30 := heap_cell HA2.out.core.blk 0
  have d31 := heap_cell HA2.out.core.blk 1
  simp at d3 d30 d31
  have f3 := heap_frozen HA2.out.core.blk 3
  have HA3 := Lib.hid (HA2.out.use us)
  have U3 := Lib.hid (show Upd (Own SL p wb tb kb) w (w2.setCell ⟨p, 3, none⟩ (.int .i64 (us : Int))) from U2.out.trans' ((upd_set _ _ _ _).mono (fun q _ hq => .inl hq)))
  have HOK3 := Lib.hid HI.out.lists
  have HL3 := Lib.hid (rfl : L.length = L.length)
  have HLO3 := Lib.hid (LowOnly.refl (frA bs) ws)
  have HFR3 := Lib.hid (Fresh.refl (Own SL p wb tb kb) w)
  have HZ := Lib.hid (show ws.getD (x - 1) 0 % 2 = 0 from HBIT.out)
  have cwz := HA3.out.core.word (x - 1) (by omega)
  have hz64 := HA3.out.core.w64 (x - 1)
  obtain ⟨z, hz⟩ : ∃ z, ws.getD (x - 1) 0 = z := ⟨_, rfl⟩
  rw [hz] at cwz hz64
  have hzb : z % 2 = 0 := by rw [← hz, HLO3.out.off _ (HFR.out _ (Nat.le_refl _) (by omega))]; exact HZ.out
  have hand : bits .and .u64 (z : Int) 1 = 0 := by rw [and_one z hz64, hzb]; rfl
  clear hz hzb
  have hx1m : x - 1 < m := by omega
  go_wp2_with fail
  refine (bhas_at _ tb _ _ (turned tk x false) tbs1 HA3.out.brt y hy64 hm64).mono ?_
  rintro e w3 ⟨rfl, rfl⟩
  rw [HTY.out]
  have HEND := Lib.hid (free_end (F := frF bs) (t := t) (b := b) (s := s) (pre := pre) (mid := [b]) (post := post) (ws := ws) (tk := tk) (mk := mk) (used := used) (L0 := L.map (·.2)) (by rw [HN.out, HX.out, HUS.out]; exact HA3.out) (by rw [HBS.out]; exact HI.out) HTWO.out HP.out HM.out HQ.out HST.out (by simp) HBU.out HONE.out HSUM.out (by have h := HPRE.out; rw [HX.out, ← HS.out] at h; exact h) HPOST.out (fun z u => (by rw [← HLA.out z u]; simp)) HOK3.out ((rfl : L.length = L.length).trans (by rw [List.length_map])) (by rw [HBS.out]; exact HLO3.out) n HLF.out)
  go_wp2_with fail
  rw [← HS.out]
  refine HEND.out.mono ?_
  rintro e w9 ⟨rfl, h9⟩
  have H9 := Lib.hid h9
  clear h9
  go_wp2
  go_ret
  exact ⟨rfl, ArPost.trans HFR3.out U3.out H9.out⟩
set_option maxRecDepth 100000 in
set_option maxHeartbeats 8000000 in
theorem free_pc {SL : Nat → Prop} {w : World} {p wb tb kb m : Nat} {mc : Caps} {lv : Value} {ws : List Nat} {L : List (Value × List (Ent Value))} {T K : Nat → Nat} {used : Nat} {tk mk : Nat → Bool} {tbs kbs : List Nat} {pre post : List Blk} {b c d : Blk}
    (A : Ar1 SL w p wb tb kb m mc lv ws L T K used tk mk tbs kbs) (I : Inv ws tk mk used (L.map (·.2)) (pre ++ [d, b, c] ++ post)) (hbu : b.u = true) (hdu : d.u = false) (hcu : c.u = false) :
    Calls Tryd.prog 10 #[.pointer (some ⟨p, 0, none⟩), .int .i64 (b.a : Nat)] w fun e w' => e = .returned (.int .i64 0) ∧ ArPost (Own SL p wb tb kb) w p m (pre ++ [⟨d.a, zeros (b.n + c.n + 1 + d.n + 1), false, false⟩] ++ post) w' := by
  have hlen := A.core.len
  have hsm := I.small
  obtain ⟨bs, hbs⟩ : ∃ bs, pre ++ [d, b, c] ++ post = bs := ⟨_, rfl⟩
  have hbm : b ∈ bs := by rw [← hbs]; simp
  have hend := I.end_le b (hbs ▸ hbm)
  have two : 2 ≤ ws.length := by omega
  have hsp := I.span
  rw [show endOf ws.length = ws.length + 1 from if_pos two, Span.append] at hsp
  obtain ⟨t, hsp1, hq⟩ := hsp
  rw [Span.append] at hsp1
  obtain ⟨s, hp, hm⟩ := hsp1
  have hm2 := hm
  have t1 := hq.le
  obtain ⟨hd1, hd2, hb1, hb2, hc1, hc2, ht⟩ := hm2
  have hb1 : b.a = s + d.n + 1 := hb1
  have hc1 : c.a = s + d.n + 1 + b.n + 1 := hc1
  have ht : s + d.n + 1 + b.n + 1 + c.n + 1 = t := ht
  have hpre : ∀ c ∈ pre, c.u = false → c.a + c.n + 1 ≠ d.a := fun c hc hcu e => I.adj c (by simp [hc]) d (by simp) hcu hdu e.symm
  have hpost : ∀ e ∈ post, e.u = false → e.a ≠ t := fun e he heu h => I.adj c (by simp) e (by simp [he]) hcu heu (by omega)
  have hsum : usedSum [d, b, c] = b.n + 1 := by simp [usedSum, hbu, hdu, hcu]
  have hused : b.n + 1 ≤ used := by
    have := I.sum
    rw [usedSum_append, usedSum_append, hsum] at this
    omega
  have husedm := I.used_le
  have hone : ∀ e ∈ [d, b, c], e.u = true → e = b := fun e he heu => by
    simp at he
    rcases he with rfl | rfl | rfl
    · rw [hdu] at heu; cases heu
    · rfl
    · rw [hcu] at heu; cases heu
  have hfr : ∀ k, b.a - 1 ≤ k → k < b.a + b.n + 1 → ¬ frA bs k := fun k h1 h2 ⟨e, he, heu, hk⟩ => by
    have := I.end_le e (hbs ▸ he)
    rcases I.span.sep e (hbs ▸ he) b (hbs ▸ hbm) with h | h | h
    · rw [h, hbu] at heu; cases heu
    · omega
    · omega
  have hbit := I.bit b (hbs ▸ hbm)
  have hhead := I.head b (hbs ▸ hbm)
  have htkx : ∀ e ∈ bs, e.u = true → tk e.a = true := fun e he heu => (I.taken _).2 ⟨e, hbs ▸ he, heu, rfl⟩
  have hlall := less_all hp hm hq (fun x => x = d.a ∨ x = c.a) (fun e he heu => by
    simp at he
    rcases he with rfl | rfl | rfl
    · exact .inl rfl
    · rw [hbu] at heu; cases heu
    · exact .inr rfl
    ) (fun x hx => by
    rcases hx with rfl | rfl
    · exact ⟨d, by simp, rfl⟩
    · exact ⟨c, by simp, rfl⟩)
  have hdm : d ∈ bs := by rw [← hbs]; simp
  have hdend := I.end_le d (hbs ▸ hdm)
  have hbit1 : ws.getD (b.a - 1) 0 % 2 = 1 := hbit.2 ⟨d, hbs ▸ hdm, hdu, by omega⟩
  have htail := I.tail d (hbs ▸ hdm) hdu
  have hcm : c ∈ bs := by rw [← hbs]; simp
  have hcend := I.end_le c (hbs ▸ hcm)
  have hchead := I.head c (hbs ▸ hcm)
  have htkc : tk c.a = false := by
    cases h : tk c.a
    · rfl
    · obtain ⟨e, he, heu, hk⟩ := (I.taken _).1 h
      have := I.span.inj he (hbs ▸ hcm) hk
      rw [this, hcu] at heu; cases heu
  have hhas := has_at A I (b.a : Nat) (by omega) (by omega)
  have huse : usedAt bs (b.a : Nat) = true := (usedAt_iff _ _).2 ⟨b, hbm, hbu, rfl⟩
  obtain ⟨x, hx⟩ : ∃ x, b.a = x := ⟨_, rfl⟩
  obtain ⟨n, hn⟩ : ∃ n, b.n = n := ⟨_, rfl⟩
  obtain ⟨y, hy⟩ : ∃ y, x + n + 1 = y := ⟨_, rfl⟩
  obtain ⟨yy, hyy⟩ : ∃ yy, x + n = yy := ⟨_, rfl⟩
  obtain ⟨us, hus⟩ : ∃ us, used - (n + 1) = us := ⟨_, rfl⟩
  rw [hx, hn] at hend hfr
  rw [hn] at hused
  rw [hx] at hbit1
  rw [hx, hn] at hhead
  have hx1 : 1 ≤ x := hend.1
  have hn1 : 0 < n := hend.2.1
  have hm20 : m ≤ 1048576 := by omega
  have hxm : x + n ≤ m := by omega
  have e1 : IntKind.i64.wrap ((n : Int) + 1) = (n : Int) + 1 := IntWalk.i64_in _ ⟨by omega, by omega⟩
  have e2 : IntKind.i64.wrap ((used : Int) - ((n : Int) + 1)) = (us : Int) := by rw [IntWalk.i64_in _ ⟨by omega, by omega⟩]; omega
  have e3 : IntKind.i64.wrap ((x : Int) + n) = (yy : Int) := by rw [IntWalk.i64_in _ ⟨by omega, by omega⟩]; omega
  have e4 : IntKind.i64.wrap ((yy : Int) + 1) = (y : Int) := by rw [IntWalk.i64_in _ ⟨by omega, by omega⟩]; omega
  have ex1 : IntKind.i64.wrap ((x : Int) - 1) = ((x - 1 : Nat) : Int) := by rw [IntWalk.i64_in _ ⟨by omega, by omega⟩]; omega
  have hx64 : x < 64 * (m / 64 + 1) := by omega
  have hm64 : m / 64 + 1 ≤ 1048576 := by omega
  obtain ⟨cn, hcn⟩ : ∃ cn, c.n = cn := ⟨_, rfl⟩
  have hcy : c.a = y := by omega
  rw [hcy, hcn] at hcend hchead
  rw [hcy] at htkc
  obtain ⟨n2, hn2⟩ : ∃ n2, n + cn + 1 = n2 := ⟨_, rfl⟩
  have hym : (y : Int) < m := by omega
  have hy64 : y < 64 * (m / 64 + 1) := by omega
  have e5 : IntKind.i64.wrap ((cn : Int) + 1) = (cn : Int) + 1 := IntWalk.i64_in _ ⟨by omega, by omega⟩
  have e6 : IntKind.i64.wrap ((n : Int) + ((cn : Int) + 1)) = (n2 : Int) := by rw [IntWalk.i64_in _ ⟨by omega, by omega⟩]; omega
  have hty : turned tk x false y = false := by unfold turned; rw [if_neg (by omega)]; exact htkc
  obtain ⟨dn, hdn⟩ : ∃ dn, d.n = dn := ⟨_, rfl⟩
  obtain ⟨da, hda⟩ : ∃ da, d.a = da := ⟨_, rfl⟩
  rw [hda, hdn] at hdend htail
  have hxd : x = da + dn + 1 := by omega
  rw [show da + dn - 1 = x - 2 by omega] at htail
  obtain ⟨n3, hn3⟩ : ∃ n3, n2 + dn + 1 = n3 := ⟨_, rfl⟩
  have ex2 : IntKind.i64.wrap ((x : Int) - 2) = ((x - 2 : Nat) : Int) := by rw [IntWalk.i64_in _ ⟨by omega, by omega⟩]; omega
  have e7 : IntKind.i64.wrap ((dn : Int) + 1) = (dn : Int) + 1 := IntWalk.i64_in _ ⟨by omega, by omega⟩
  have e8 : IntKind.i64.wrap ((x : Int) - ((dn : Int) + 1)) = (da : Int) := by rw [IntWalk.i64_in _ ⟨by omega, by omega⟩]; omega
  have e9 : IntKind.i64.wrap ((n2 : Int) + ((dn : Int) + 1)) = (n3 : Int) := by rw [IntWalk.i64_in _ ⟨by omega, by omega⟩]; omega
  have hsx : s = da := by omega
  have hlenF : t - s - 1 = n3 := by omega
  have hgoal : pre ++ [⟨d.a, zeros (b.n + c.n + 1 + d.n + 1), false, false⟩] ++ post = pre ++ [⟨s, zeros n3, false, false⟩] ++ post := by rw [show d.a = s by omega, show b.n + c.n + 1 + d.n + 1 = n3 by omega]
  rw [hgoal, hx]
  rw [hx] at hhas huse
  have hlall2 : ∀ z u, (¬ (z = da ∨ z = y) ∧ frF bs z u) ↔ ∃ c ∈ pre ++ post, c.u = false ∧ c.a = z ∧ c.n = u := fun z u => by have h := hlall z u; rw [hda] at h; rw [hcy] at h; rw [hbs] at h; exact h
  have HS := Lib.hid hsx; have HLF := Lib.hid hlenF; have HLA := Lib.hid hlall2; have HP := Lib.hid hp; have HM := Lib.hid hm; have HQ := Lib.hid hq; have HONE := Lib.hid hone; have HSUM := Lib.hid hsum; have HPRE := Lib.hid hpre; have HPOST := Lib.hid hpost; have HBS := Lib.hid hbs; have HBM := Lib.hid hbm; have HBU := Lib.hid hbu; have HTWO := Lib.hid two; have HST := Lib.hid (show s + 2 ≤ t by omega)
  have HA := Lib.hid A; have HI := Lib.hid (show Inv ws tk mk used (L.map (·.2)) bs from hbs ▸ I); have HH := Lib.hid (show Calls Tryd.prog 33 #[.pointer (some ⟨p, 0, none⟩), .int .i64 (x : Nat)] w (fun e w' => e = .returned (.bool (usedAt bs (x : Nat))) ∧ w = w') from hbs ▸ hhas); have HUSE := Lib.hid huse; have HD := Lib.hid hhead; have HBIT := Lib.hid hbit1; have HFR := Lib.hid hfr; have HX := Lib.hid hx; have HN := Lib.hid hn; have HUS := Lib.hid hus; have HY := Lib.hid hy; have HYY := Lib.hid hyy; have HLEN := Lib.hid hlen
  have HCU := Lib.hid hcu; have HCM := Lib.hid hcm; have HCE := Lib.hid hcend; have HCH := Lib.hid hchead; have HCY := Lib.hid hcy; have HCN := Lib.hid hcn; have HTY := Lib.hid hty; have HN2 := Lib.hid hn2; have HYM := Lib.hid (show 1 ≤ y ∧ y ≤ m by omega)
  have HDU := Lib.hid hdu; have HDM := Lib.hid hdm; have HDE := Lib.hid hdend; have HTL := Lib.hid htail; have HDN := Lib.hid hdn; have HDA := Lib.hid hda; have HXD := Lib.hid hxd; have HN3 := Lib.hid hn3
  clear A I hhas huse hhead hbit hbit1 hfr hx hn hus hy hyy hlen hsx hlenF hgoal hlall hlall2 hp hm hq hone hsum hpre hpost hbm hbu two hend hsm t1 ht hused husedm htkx hb1 hb2 hcu hcm hcend hchead hcy hcn hty hn2 htkc hc1 hc2 hdu hdm hdend htail hdn hda hxd hn3 hd1 hd2 hbs
  have d1 := heap_cell HA.out.core.blk 1
  simp at d1
  go_enter Tryd.func10, Tryd.ntmps10
  go_wp2_with fail
  refine (absent_at p w).mono ?_
  rintro e w1 ⟨rfl, rfl⟩
  go_wp2_with fail
  refine HH.out.mono ?_
  rintro e w1 ⟨rfl, rfl⟩
  rw [HUSE.out]
  go_wp2_with fail
  refine (size_at HA.out.core x hx1 (by omega)).mono ?_
  rintro e w1 ⟨rfl, rfl⟩
  rw [HD.out]
  go_wp2_with fail
  refine (bunset_at w tb _ _ tk tbs HA.out.brt x hx64 hm64).mono ?_
  rintro e w1 ⟨rfl, ⟨tbs1, k1⟩, u1⟩
  have HA1 := Lib.hid (HA.out.turnT u1 k1)
  have U1 := Lib.hid (show Upd (Own SL p wb tb kb) w w1 from u1.mono (fun q _ hq => .inr (.inr (.inl hq))))
  clear u1 k1 d1
  have d2 := heap_cell HA1.out.core.blk 2
  simp at d2
  go_wp2_with fail
  refine (bunset_at w1 kb _ _ mk kbs HA1.out.brk x hx64 hm64).mono ?_
  rintro e w2 ⟨rfl, ⟨kbs2, k2⟩, u2⟩
  have HA2 := Lib.hid (HA1.out.turnK u2 k2)
  have U2 := Lib.hid (show Upd (Own SL p wb tb kb) w w2 from U1.out.trans' (u2.mono (fun q _ hq => .inr (.inr (.inr (.inl hq))))))
  clear u2 k2 d2
  have d3 := heap_cell HA2.out.core.blk 3
  have d30 := heap_cell HA2.out.core.blk 0
  have d31 := heap_cell HA2.out.core.blk 1
  simp at d3 d30 d31
  have f3 := heap_frozen HA2.out.core.blk 3
  have HA3 := Lib.hid (HA2.out.use us)
  have U3 := Lib.hid (show Upd (Own SL p wb tb kb) w (w2.setCell ⟨p, 3, none⟩ (.int .i64 (us : Int))) from U2.out.trans' ((upd_set _ _ _ _).mono (fun q _ hq => .inl hq)))
  have HOK3 := Lib.hid HI.out.lists
  have HL3 := Lib.hid (rfl : L.length = L.length)
  have HLO3 := Lib.hid (LowOnly.refl (frA bs) ws)
  have HFR3 := Lib.hid (Fresh.refl (Own SL p wb tb kb) w)
  have HZ := Lib.hid (show ws.getD (x - 1) 0 % 2 = 1 from HBIT.out)
  go_wp2_with fail
  refine (bhas_at _ tb _ _ (turned tk x false) tbs1 HA3.out.brt y hy64 hm64).mono ?_
  rintro e w3 ⟨rfl, rfl⟩
  rw [HTY.out]
  go_wp2_with fail
  refine (size_at HA3.out.core y HYM.out.1 HYM.out.2).mono ?_
  rintro e w3 ⟨rfl, rfl⟩
  rw [HCH.out]
  go_wp2_with fail
  refine (delist_at HA3.out.core HOK3.out y cn ⟨c, HCM.out, HCU.out, HCY.out, HCN.out⟩ (by have := HI.out.L_le; rw [List.length_map] at this; exact this) HI.out.fr_lt).mono ?_
  rintro e w4 ⟨rfl, SL4, ws4, L4, T4, K4, C4, ok4, hL4, lo4, fr4, u4⟩
  have HA4 := Lib.hid (HA3.out.post C4 fr4 u4)
  have HOK4 := Lib.hid ok4; have HL4 := Lib.hid hL4; have HLO4 := Lib.hid (lo_fr lo4)
  have HFR4 := Lib.hid (show Fresh (Own SL p wb tb kb) w (Own SL4 p wb tb kb) from HFR3.out.trans (own_fresh fr4) U3.out.size)
  have U4 := Lib.hid (show Upd (Own SL p wb tb kb) w w4 from U3.out.trans' (u4.mono (fun q _ hq => hq.elim (fun h => .inr (.inl h)) (fun h => .inr (.inr (.inr (.inr h)))))))
  clear C4 ok4 hL4 lo4 fr4 u4 d3 d30 d31 f3
  have d30 := heap_cell HA4.out.core.blk 0
  simp at d30
  have cwz := HA4.out.core.word (x - 1) (by omega)
  have hz64 := HA4.out.core.w64 (x - 1)
  obtain ⟨z, hz⟩ : ∃ z, ws4.getD (x - 1) 0 = z := ⟨_, rfl⟩
  rw [hz] at cwz hz64
  have hzb : z % 2 = 1 := by rw [← hz, HLO4.out.off _ (HFR.out _ (Nat.le_refl _) (by omega))]; exact HZ.out
  have hand : bits .and .u64 (z : Int) 1 = 1 := by rw [and_one z hz64, hzb]; rfl
  clear hz hzb
  have cwy := HA4.out.core.word (x - 2) (by omega)
  have hy264 := HA4.out.core.w64 (x - 2)
  obtain ⟨z2, hz2⟩ : ∃ z2, ws4.getD (x - 2) 0 = z2 := ⟨_, rfl⟩
  rw [hz2] at cwy hy264
  have hz2b : z2 / 4294967296 = dn := by rw [← hz2, HLO4.out.up]; exact HTL.out
  have hsh : (z2 : Int) / 4294967296 = (dn : Int) := by omega
  have hdn20 : dn < 1048576 := by have := HDE.out; have := HLEN.out; omega
  have hx2m : x - 2 < m := by omega
  clear hz2 hz2b
  have hx1m : x - 1 < m := by omega
  go_wp2_with fail
  refine (delist_at HA4.out.core HOK4.out da dn ⟨by have := HXD.out; have := HY.out; omega, d, HDM.out, HDU.out, HDA.out, HDN.out⟩ (by have := HI.out.L_le; rw [List.length_map] at this; have := HL4.out; omega) (fun x s h => HI.out.fr_lt x s h.2)).mono ?_
  rintro e w5 ⟨rfl, SL5, ws5, L5, T5, K5, C5, ok5, hL5, lo5, fr5, u5⟩
  have HA5 := Lib.hid (HA4.out.post C5 fr5 u5)
  have HOK5 := Lib.hid ok5; have HL5 := Lib.hid (hL5.trans HL4.out); have HLO5 := Lib.hid (HLO4.out.trans (lo_fr2 lo5))
  have HFR5 := Lib.hid (show Fresh (Own SL p wb tb kb) w (Own SL5 p wb tb kb) from HFR4.out.trans (own_fresh fr5) U4.out.size)
  have U5 := Lib.hid (show Upd (Own SL p wb tb kb) w w5 from U4.out.trans HFR4.out (u5.mono (fun q _ hq => hq.elim (fun h => .inr (.inl h)) (fun h => .inr (.inr (.inr (.inr h)))))))
  clear C5 ok5 hL5 lo5 fr5 u5
  have HEND := Lib.hid (free_end (F := less (less (frF bs) y) da) (t := t) (b := b) (s := s) (pre := pre) (mid := [d, b, c]) (post := post) (ws := ws) (tk := tk) (mk := mk) (used := used) (L0 := L.map (·.2)) (by rw [HN.out, HX.out, HUS.out]; exact HA5.out) (by rw [HBS.out]; exact HI.out) HTWO.out HP.out HM.out HQ.out HST.out (by simp) HBU.out HONE.out HSUM.out (by have h := HPRE.out; rw [HDA.out, ← HS.out] at h; exact h) HPOST.out (fun z u => (by unfold less; rw [← HLA.out z u]; grind)) HOK5.out (HL5.out.trans (by rw [List.length_map])) (by rw [HBS.out]; exact HLO5.out) n3 HLF.out)
  go_wp2_with fail
  rw [← HS.out]
  refine HEND.out.mono ?_
  rintro e w9 ⟨rfl, h9⟩
  have H9 := Lib.hid h9
  clear h9
  go_wp2
  go_ret
  exact ⟨rfl, ArPost.trans HFR5.out U5.out H9.out⟩
set_option maxRecDepth 100000 in
set_option maxHeartbeats 8000000 in
theorem free_pe {SL : Nat → Prop} {w : World} {p wb tb kb m : Nat} {mc : Caps} {lv : Value} {ws : List Nat} {L : List (Value × List (Ent Value))} {T K : Nat → Nat} {used : Nat} {tk mk : Nat → Bool} {tbs kbs : List Nat} {pre post : List Blk} {b d : Blk}
    (A : Ar1 SL w p wb tb kb m mc lv ws L T K used tk mk tbs kbs) (I : Inv ws tk mk used (L.map (·.2)) (pre ++ [d, b] ++ post)) (hbu : b.u = true) (hdu : d.u = false) (hpost : ∀ c ∈ post, c.u = false → c.a ≠ b.a + b.n + 1) (hye : m < b.a + b.n + 1) :
    Calls Tryd.prog 10 #[.pointer (some ⟨p, 0, none⟩), .int .i64 (b.a : Nat)] w fun e w' => e = .returned (.int .i64 0) ∧ ArPost (Own SL p wb tb kb) w p m (pre ++ [⟨d.a, zeros (b.n + d.n + 1), false, false⟩] ++ post) w' := by
  have hlen := A.core.len
  have hsm := I.small
  obtain ⟨bs, hbs⟩ : ∃ bs, pre ++ [d, b] ++ post = bs := ⟨_, rfl⟩
  have hbm : b ∈ bs := by rw [← hbs]; simp
  have hend := I.end_le b (hbs ▸ hbm)
  have two : 2 ≤ ws.length := by omega
  have hsp := I.span
  rw [show endOf ws.length = ws.length + 1 from if_pos two, Span.append] at hsp
  obtain ⟨t, hsp1, hq⟩ := hsp
  rw [Span.append] at hsp1
  obtain ⟨s, hp, hm⟩ := hsp1
  have hm2 := hm
  have t1 := hq.le
  obtain ⟨hd1, hd2, hb1, hb2, ht⟩ := hm2
  have hb1 : b.a = s + d.n + 1 := hb1
  have ht : s + d.n + 1 + b.n + 1 = t := ht
  have hpre : ∀ c ∈ pre, c.u = false → c.a + c.n + 1 ≠ d.a := fun c hc hcu e => I.adj c (by simp [hc]) d (by simp) hcu hdu e.symm
  have hpost : ∀ e ∈ post, e.u = false → e.a ≠ t := fun e he heu h => hpost e he heu (by omega)
  have hsum : usedSum [d, b] = b.n + 1 := by simp [usedSum, hbu, hdu]
  have hused : b.n + 1 ≤ used := by
    have := I.sum
    rw [usedSum_append, usedSum_append, hsum] at this
    omega
  have husedm := I.used_le
  have hone : ∀ e ∈ [d, b], e.u = true → e = b := fun e he heu => by
    simp at he
    rcases he with rfl | rfl
    · rw [hdu] at heu; cases heu
    · rfl
  have hfr : ∀ k, b.a - 1 ≤ k → k < b.a + b.n + 1 → ¬ frA bs k := fun k h1 h2 ⟨e, he, heu, hk⟩ => by
    have := I.end_le e (hbs ▸ he)
    rcases I.span.sep e (hbs ▸ he) b (hbs ▸ hbm) with h | h | h
    · rw [h, hbu] at heu; cases heu
    · omega
    · omega
  have hbit := I.bit b (hbs ▸ hbm)
  have hhead := I.head b (hbs ▸ hbm)
  have htkx : ∀ e ∈ bs, e.u = true → tk e.a = true := fun e he heu => (I.taken _).2 ⟨e, hbs ▸ he, heu, rfl⟩
  have hlall := less_all hp hm hq (fun x => x = d.a) (fun e he heu => by
    simp at he
    rcases he with rfl | rfl
    · rfl
    · rw [hbu] at heu; cases heu
    ) (fun x hx => by
    rw [hx]; exact ⟨d, by simp, rfl⟩)
  have hdm : d ∈ bs := by rw [← hbs]; simp
  have hdend := I.end_le d (hbs ▸ hdm)
  have hbit1 : ws.getD (b.a - 1) 0 % 2 = 1 := hbit.2 ⟨d, hbs ▸ hdm, hdu, by omega⟩
  have htail := I.tail d (hbs ▸ hdm) hdu
  have hhas := has_at A I (b.a : Nat) (by omega) (by omega)
  have huse : usedAt bs (b.a : Nat) = true := (usedAt_iff _ _).2 ⟨b, hbm, hbu, rfl⟩
  obtain ⟨x, hx⟩ : ∃ x, b.a = x := ⟨_, rfl⟩
  obtain ⟨n, hn⟩ : ∃ n, b.n = n := ⟨_, rfl⟩
  obtain ⟨y, hy⟩ : ∃ y, x + n + 1 = y := ⟨_, rfl⟩
  obtain ⟨yy, hyy⟩ : ∃ yy, x + n = yy := ⟨_, rfl⟩
  obtain ⟨us, hus⟩ : ∃ us, used - (n + 1) = us := ⟨_, rfl⟩
  rw [hx, hn] at hend hfr
  rw [hn] at hused
  rw [hx] at hbit1
  rw [hx, hn] at hhead
  have hx1 : 1 ≤ x := hend.1
  have hn1 : 0 < n := hend.2.1
  have hm20 : m ≤ 1048576 := by omega
  have hxm : x + n ≤ m := by omega
  have e1 : IntKind.i64.wrap ((n : Int) + 1) = (n : Int) + 1 := IntWalk.i64_in _ ⟨by omega, by omega⟩
  have e2 : IntKind.i64.wrap ((used : Int) - ((n : Int) + 1)) = (us : Int) := by rw [IntWalk.i64_in _ ⟨by omega, by omega⟩]; omega
  have e3 : IntKind.i64.wrap ((x : Int) + n) = (yy : Int) := by rw [IntWalk.i64_in _ ⟨by omega, by omega⟩]; omega
  have e4 : IntKind.i64.wrap ((yy : Int) + 1) = (y : Int) := by rw [IntWalk.i64_in _ ⟨by omega, by omega⟩]; omega
  have ex1 : IntKind.i64.wrap ((x : Int) - 1) = ((x - 1 : Nat) : Int) := by rw [IntWalk.i64_in _ ⟨by omega, by omega⟩]; omega
  have hx64 : x < 64 * (m / 64 + 1) := by omega
  have hm64 : m / 64 + 1 ≤ 1048576 := by omega
  have hym : ¬ (y : Int) < m := by omega
  obtain ⟨dn, hdn⟩ : ∃ dn, d.n = dn := ⟨_, rfl⟩
  obtain ⟨da, hda⟩ : ∃ da, d.a = da := ⟨_, rfl⟩
  rw [hda, hdn] at hdend htail
  have hxd : x = da + dn + 1 := by omega
  rw [show da + dn - 1 = x - 2 by omega] at htail
  obtain ⟨n3, hn3⟩ : ∃ n3, n + dn + 1 = n3 := ⟨_, rfl⟩
  have ex2 : IntKind.i64.wrap ((x : Int) - 2) = ((x - 2 : Nat) : Int) := by rw [IntWalk.i64_in _ ⟨by omega, by omega⟩]; omega
  have e7 : IntKind.i64.wrap ((dn : Int) + 1) = (dn : Int) + 1 := IntWalk.i64_in _ ⟨by omega, by omega⟩
  have e8 : IntKind.i64.wrap ((x : Int) - ((dn : Int) + 1)) = (da : Int) := by rw [IntWalk.i64_in _ ⟨by omega, by omega⟩]; omega
  have e9 : IntKind.i64.wrap ((n : Int) + ((dn : Int) + 1)) = (n3 : Int) := by rw [IntWalk.i64_in _ ⟨by omega, by omega⟩]; omega
  have hsx : s = da := by omega
  have hlenF : t - s - 1 = n3 := by omega
  have hgoal : pre ++ [⟨d.a, zeros (b.n + d.n + 1), false, false⟩] ++ post = pre ++ [⟨s, zeros n3, false, false⟩] ++ post := by rw [show d.a = s by omega, show b.n + d.n + 1 = n3 by omega]
  rw [hgoal, hx]
  rw [hx] at hhas huse
  have hlall2 : ∀ z u, (¬ (z = da) ∧ frF bs z u) ↔ ∃ c ∈ pre ++ post, c.u = false ∧ c.a = z ∧ c.n = u := fun z u => by have h := hlall z u; rw [hda] at h; rw [hbs] at h; exact h
  have HS := Lib.hid hsx; have HLF := Lib.hid hlenF; have HLA := Lib.hid hlall2; have HP := Lib.hid hp; have HM := Lib.hid hm; have HQ := Lib.hid hq; have HONE := Lib.hid hone; have HSUM := Lib.hid hsum; have HPRE := Lib.hid hpre; have HPOST := Lib.hid hpost; have HBS := Lib.hid hbs; have HBM := Lib.hid hbm; have HBU := Lib.hid hbu; have HTWO := Lib.hid two; have HST := Lib.hid (show s + 2 ≤ t by omega)
  have HA := Lib.hid A; have HI := Lib.hid (show Inv ws tk mk used (L.map (·.2)) bs from hbs ▸ I); have HH := Lib.hid (show Calls Tryd.prog 33 #[.pointer (some ⟨p, 0, none⟩), .int .i64 (x : Nat)] w (fun e w' => e = .returned (.bool (usedAt bs (x : Nat))) ∧ w = w') from hbs ▸ hhas); have HUSE := Lib.hid huse; have HD := Lib.hid hhead; have HBIT := Lib.hid hbit1; have HFR := Lib.hid hfr; have HX := Lib.hid hx; have HN := Lib.hid hn; have HUS := Lib.hid hus; have HY := Lib.hid hy; have HYY := Lib.hid hyy; have HLEN := Lib.hid hlen
  have HDU := Lib.hid hdu; have HDM := Lib.hid hdm; have HDE := Lib.hid hdend; have HTL := Lib.hid htail; have HDN := Lib.hid hdn; have HDA := Lib.hid hda; have HXD := Lib.hid hxd; have HN3 := Lib.hid hn3
  clear A I hhas huse hhead hbit hbit1 hfr hx hn hus hy hyy hlen hsx hlenF hgoal hlall hlall2 hp hm hq hone hsum hpre hpost hbm hbu two hend hsm t1 ht hused husedm htkx hb1 hb2 hye hdu hdm hdend htail hdn hda hxd hn3 hd1 hd2 hbs
  have d1 := heap_cell HA.out.core.blk 1
  simp at d1
  go_enter Tryd.func10, Tryd.ntmps10
  go_wp2_with fail
  refine (absent_at p w).mono ?_
  rintro e w1 ⟨rfl, rfl⟩
  go_wp2_with fail
  refine HH.out.mono ?_
  rintro e w1 ⟨rfl, rfl⟩
  rw [HUSE.out]
  go_wp2_with fail
  refine (size_at HA.out.core x hx1 (by omega)).mono ?_
  rintro e w1 ⟨rfl, rfl⟩
  rw [HD.out]
  go_wp2_with fail
  refine (bunset_at w tb _ _ tk tbs HA.out.brt x hx64 hm64).mono ?_
  rintro e w1 ⟨rfl, ⟨tbs1, k1⟩, u1⟩
  have HA1 := Lib.hid (HA.out.turnT u1 k1)
  have U1 := Lib.hid (show Upd (Own SL p wb tb kb) w w1 from u1.mono (fun q _ hq => .inr (.inr (.inl hq))))
  clear u1 k1 d1
  have d2 := heap_cell HA1.out.core.blk 2
  simp at d2
  go_wp2_with fail
  refine (bunset_at w1 kb _ _ mk kbs HA1.out.brk x hx64 hm64).mono ?_
  rintro e w2 ⟨rfl, ⟨kbs2, k2⟩, u2⟩
  have HA2 := Lib.hid (HA1.out.turnK u2 k2)
  have U2 := Lib.hid (show Upd (Own SL p wb tb kb) w w2 from U1.out.trans' (u2.mono (fun q _ hq => .inr (.inr (.inr (.inl hq))))))
  clear u2 k2 d2
  have d3 := heap_cell HA2.out.core.blk 3
  have d30 := heap_cell HA2.out.core.blk 0
  have d31 := heap_cell HA2.out.core.blk 1
  simp at d3 d30 d31
  have f3 := heap_frozen HA2.out.core.blk 3
  have HA3 := Lib.hid (HA2.out.use us)
  have U3 := Lib.hid (show Upd (Own SL p wb tb kb) w (w2.setCell ⟨p, 3, none⟩ (.int .i64 (us : Int))) from U2.out.trans' ((upd_set _ _ _ _).mono (fun q _ hq => .inl hq)))
  have HOK3 := Lib.hid HI.out.lists
  have HL3 := Lib.hid (rfl : L.length = L.length)
  have HLO3 := Lib.hid (LowOnly.refl (frA bs) ws)
  have HFR3 := Lib.hid (Fresh.refl (Own SL p wb tb kb) w)
  have HZ := Lib.hid (show ws.getD (x - 1) 0 % 2 = 1 from HBIT.out)
  have cwz := HA3.out.core.word (x - 1) (by omega)
  have hz64 := HA3.out.core.w64 (x - 1)
  obtain ⟨z, hz⟩ : ∃ z, ws.getD (x - 1) 0 = z := ⟨_, rfl⟩
  rw [hz] at cwz hz64
  have hzb : z % 2 = 1 := by rw [← hz, HLO3.out.off _ (HFR.out _ (Nat.le_refl _) (by omega))]; exact HZ.out
  have hand : bits .and .u64 (z : Int) 1 = 1 := by rw [and_one z hz64, hzb]; rfl
  clear hz hzb
  have cwy := HA3.out.core.word (x - 2) (by omega)
  have hy264 := HA3.out.core.w64 (x - 2)
  obtain ⟨z2, hz2⟩ : ∃ z2, ws.getD (x - 2) 0 = z2 := ⟨_, rfl⟩
  rw [hz2] at cwy hy264
  have hz2b : z2 / 4294967296 = dn := by rw [← hz2, HLO3.out.up]; exact HTL.out
  have hsh : (z2 : Int) / 4294967296 = (dn : Int) := by omega
  have hdn20 : dn < 1048576 := by have := HDE.out; have := HLEN.out; omega
  have hx2m : x - 2 < m := by omega
  clear hz2 hz2b
  have hx1m : x - 1 < m := by omega
  go_wp2_with fail
  refine (delist_at HA3.out.core HOK3.out da dn ⟨d, HDM.out, HDU.out, HDA.out, HDN.out⟩ (by have := HI.out.L_le; rw [List.length_map] at this; have := (rfl : L.length = L.length); omega) HI.out.fr_lt).mono ?_
  rintro e w5 ⟨rfl, SL5, ws5, L5, T5, K5, C5, ok5, hL5, lo5, fr5, u5⟩
  have HA5 := Lib.hid (HA3.out.post C5 fr5 u5)
  have HOK5 := Lib.hid ok5; have HL5 := Lib.hid (hL5.trans (rfl : L.length = L.length)); have HLO5 := Lib.hid (HLO3.out.trans (lo_fr lo5))
  have HFR5 := Lib.hid (show Fresh (Own SL p wb tb kb) w (Own SL5 p wb tb kb) from HFR3.out.trans (own_fresh fr5) U3.out.size)
  have U5 := Lib.hid (show Upd (Own SL p wb tb kb) w w5 from U3.out.trans HFR3.out (u5.mono (fun q _ hq => hq.elim (fun h => .inr (.inl h)) (fun h => .inr (.inr (.inr (.inr h)))))))
  clear C5 ok5 hL5 lo5 fr5 u5
  have HEND := Lib.hid (free_end (F := less (frF bs) da) (t := t) (b := b) (s := s) (pre := pre) (mid := [d, b]) (post := post) (ws := ws) (tk := tk) (mk := mk) (used := used) (L0 := L.map (·.2)) (by rw [HN.out, HX.out, HUS.out]; exact HA5.out) (by rw [HBS.out]; exact HI.out) HTWO.out HP.out HM.out HQ.out HST.out (by simp) HBU.out HONE.out HSUM.out (by have h := HPRE.out; rw [HDA.out, ← HS.out] at h; exact h) HPOST.out (fun z u => (by unfold less; rw [← HLA.out z u])) HOK5.out (HL5.out.trans (by rw [List.length_map])) (by rw [HBS.out]; exact HLO5.out) n3 HLF.out)
  go_wp2_with fail
  rw [← HS.out]
  refine HEND.out.mono ?_
  rintro e w9 ⟨rfl, h9⟩
  have H9 := Lib.hid h9
  clear h9
  go_wp2
  go_ret
  exact ⟨rfl, ArPost.trans HFR5.out U5.out H9.out⟩
set_option maxRecDepth 100000 in
set_option maxHeartbeats 8000000 in
theorem free_pu {SL : Nat → Prop} {w : World} {p wb tb kb m : Nat} {mc : Caps} {lv : Value} {ws : List Nat} {L : List (Value × List (Ent Value))} {T K : Nat → Nat} {used : Nat} {tk mk : Nat → Bool} {tbs kbs : List Nat} {pre post : List Blk} {b c d : Blk}
    (A : Ar1 SL w p wb tb kb m mc lv ws L T K used tk mk tbs kbs) (I : Inv ws tk mk used (L.map (·.2)) (pre ++ [d, b] ++ post)) (hbu : b.u = true) (hdu : d.u = false) (hpost : ∀ c ∈ post, c.u = false → c.a ≠ b.a + b.n + 1) (hcm : c ∈ post) (hca : c.a = b.a + b.n + 1) (hcu : c.u = true) :
    Calls Tryd.prog 10 #[.pointer (some ⟨p, 0, none⟩), .int .i64 (b.a : Nat)] w fun e w' => e = .returned (.int .i64 0) ∧ ArPost (Own SL p wb tb kb) w p m (pre ++ [⟨d.a, zeros (b.n + d.n + 1), false, false⟩] ++ post) w' := by
  have hlen := A.core.len
  have hsm := I.small
  obtain ⟨bs, hbs⟩ : ∃ bs, pre ++ [d, b] ++ post = bs := ⟨_, rfl⟩
  have hbm : b ∈ bs := by rw [← hbs]; simp
  have hend := I.end_le b (hbs ▸ hbm)
  have two : 2 ≤ ws.length := by omega
  have hsp := I.span
  rw [show endOf ws.length = ws.length + 1 from if_pos two, Span.append] at hsp
  obtain ⟨t, hsp1, hq⟩ := hsp
  rw [Span.append] at hsp1
  obtain ⟨s, hp, hm⟩ := hsp1
  have hm2 := hm
  have t1 := hq.le
  obtain ⟨hd1, hd2, hb1, hb2, ht⟩ := hm2
  have hb1 : b.a = s + d.n + 1 := hb1
  have ht : s + d.n + 1 + b.n + 1 = t := ht
  have hpre : ∀ c ∈ pre, c.u = false → c.a + c.n + 1 ≠ d.a := fun c hc hcu e => I.adj c (by simp [hc]) d (by simp) hcu hdu e.symm
  have hpost : ∀ e ∈ post, e.u = false → e.a ≠ t := fun e he heu h => hpost e he heu (by omega)
  have hsum : usedSum [d, b] = b.n + 1 := by simp [usedSum, hbu, hdu]
  have hused : b.n + 1 ≤ used := by
    have := I.sum
    rw [usedSum_append, usedSum_append, hsum] at this
    omega
  have husedm := I.used_le
  have hone : ∀ e ∈ [d, b], e.u = true → e = b := fun e he heu => by
    simp at he
    rcases he with rfl | rfl
    · rw [hdu] at heu; cases heu
    · rfl
  have hfr : ∀ k, b.a - 1 ≤ k → k < b.a + b.n + 1 → ¬ frA bs k := fun k h1 h2 ⟨e, he, heu, hk⟩ => by
    have := I.end_le e (hbs ▸ he)
    rcases I.span.sep e (hbs ▸ he) b (hbs ▸ hbm) with h | h | h
    · rw [h, hbu] at heu; cases heu
    · omega
    · omega
  have hbit := I.bit b (hbs ▸ hbm)
  have hhead := I.head b (hbs ▸ hbm)
  have htkx : ∀ e ∈ bs, e.u = true → tk e.a = true := fun e he heu => (I.taken _).2 ⟨e, hbs ▸ he, heu, rfl⟩
  have hlall := less_all hp hm hq (fun x => x = d.a) (fun e he heu => by
    simp at he
    rcases he with rfl | rfl
    · rfl
    · rw [hbu] at heu; cases heu
    ) (fun x hx => by
    rw [hx]; exact ⟨d, by simp, rfl⟩)
  have hdm : d ∈ bs := by rw [← hbs]; simp
  have hdend := I.end_le d (hbs ▸ hdm)
  have hbit1 : ws.getD (b.a - 1) 0 % 2 = 1 := hbit.2 ⟨d, hbs ▸ hdm, hdu, by omega⟩
  have htail := I.tail d (hbs ▸ hdm) hdu
  have hcb : c ∈ bs := by rw [← hbs]; simp [hcm]
  have hcend := I.end_le c (hbs ▸ hcb)
  have htkc : tk c.a = true := htkx c hcb hcu
  have hhas := has_at A I (b.a : Nat) (by omega) (by omega)
  have huse : usedAt bs (b.a : Nat) = true := (usedAt_iff _ _).2 ⟨b, hbm, hbu, rfl⟩
  obtain ⟨x, hx⟩ : ∃ x, b.a = x := ⟨_, rfl⟩
  obtain ⟨n, hn⟩ : ∃ n, b.n = n := ⟨_, rfl⟩
  obtain ⟨y, hy⟩ : ∃ y, x + n + 1 = y := ⟨_, rfl⟩
  obtain ⟨yy, hyy⟩ : ∃ yy, x + n = yy := ⟨_, rfl⟩
  obtain ⟨us, hus⟩ : ∃ us, used - (n + 1) = us := ⟨_, rfl⟩
  rw [hx, hn] at hend hfr
  rw [hn] at hused
  rw [hx] at hbit1
  rw [hx, hn] at hhead
  have hx1 : 1 ≤ x := hend.1
  have hn1 : 0 < n := hend.2.1
  have hm20 : m ≤ 1048576 := by omega
  have hxm : x + n ≤ m := by omega
  have e1 : IntKind.i64.wrap ((n : Int) + 1) = (n : Int) + 1 := IntWalk.i64_in _ ⟨by omega, by omega⟩
  have e2 : IntKind.i64.wrap ((used : Int) - ((n : Int) + 1)) = (us : Int) := by rw [IntWalk.i64_in _ ⟨by omega, by omega⟩]; omega
  have e3 : IntKind.i64.wrap ((x : Int) + n) = (yy : Int) := by rw [IntWalk.i64_in _ ⟨by omega, by omega⟩]; omega
  have e4 : IntKind.i64.wrap ((yy : Int) + 1) = (y : Int) := by rw [IntWalk.i64_in _ ⟨by omega, by omega⟩]; omega
  have ex1 : IntKind.i64.wrap ((x : Int) - 1) = ((x - 1 : Nat) : Int) := by rw [IntWalk.i64_in _ ⟨by omega, by omega⟩]; omega
  have hx64 : x < 64 * (m / 64 + 1) := by omega
  have hm64 : m / 64 + 1 ≤ 1048576 := by omega
  have hcy : c.a = y := by omega
  rw [hcy] at htkc
  have hym : (y : Int) < m := by omega
  have hy64 : y < 64 * (m / 64 + 1) := by omega
  have hty : turned tk x false y = true := by unfold turned; rw [if_neg (by omega)]; exact htkc
  obtain ⟨dn, hdn⟩ : ∃ dn, d.n = dn := ⟨_, rfl⟩
  obtain ⟨da, hda⟩ : ∃ da, d.a = da := ⟨_, rfl⟩
  rw [hda, hdn] at hdend htail
  have hxd : x = da + dn + 1 := by omega
  rw [show da + dn - 1 = x - 2 by omega] at htail
  obtain ⟨n3, hn3⟩ : ∃ n3, n + dn + 1 = n3 := ⟨_, rfl⟩
  have ex2 : IntKind.i64.wrap ((x : Int) - 2) = ((x - 2 : Nat) : Int) := by rw [IntWalk.i64_in _ ⟨by omega, by omega⟩]; omega
  have e7 : IntKind.i64.wrap ((dn : Int) + 1) = (dn : Int) + 1 := IntWalk.i64_in _ ⟨by omega, by omega⟩
  have e8 : IntKind.i64.wrap ((x : Int) - ((dn : Int) + 1)) = (da : Int) := by rw [IntWalk.i64_in _ ⟨by omega, by omega⟩]; omega
  have e9 : IntKind.i64.wrap ((n : Int) + ((dn : Int) + 1)) = (n3 : Int) := by rw [IntWalk.i64_in _ ⟨by omega, by omega⟩]; omega
  have hsx : s = da := by omega
  have hlenF : t - s - 1 = n3 := by omega
  have hgoal : pre ++ [⟨d.a, zeros (b.n + d.n + 1), false, false⟩] ++ post = pre ++ [⟨s, zeros n3, false, false⟩] ++ post := by rw [show d.a = s by omega, show b.n + d.n + 1 = n3 by omega]
  rw [hgoal, hx]
  rw [hx] at hhas huse
  have hlall2 : ∀ z u, (¬ (z = da) ∧ frF bs z u) ↔ ∃ c ∈ pre ++ post, c.u = false ∧ c.a = z ∧ c.n = u := fun z u => by have h := hlall z u; rw [hda] at h; rw [hbs] at h; exact h
  have HS := Lib.hid hsx; have HLF := Lib.hid hlenF; have HLA := Lib.hid hlall2; have HP := Lib.hid hp; have HM := Lib.hid hm; have HQ := Lib.hid hq; have HONE := Lib.hid hone; have HSUM := Lib.hid hsum; have HPRE := Lib.hid hpre; have HPOST := Lib.hid hpost; have HBS := Lib.hid hbs; have HBM := Lib.hid hbm; have HBU := Lib.hid hbu; have HTWO := Lib.hid two; have HST := Lib.hid (show s + 2 ≤ t by omega)
  have HA := Lib.hid A; have HI := Lib.hid (show Inv ws tk mk used (L.map (·.2)) bs from hbs ▸ I); have HH := Lib.hid (show Calls Tryd.prog 33 #[.pointer (some ⟨p, 0, none⟩), .int .i64 (x : Nat)] w (fun e w' => e = .returned (.bool (usedAt bs (x : Nat))) ∧ w = w') from hbs ▸ hhas); have HUSE := Lib.hid huse; have HD := Lib.hid hhead; have HBIT := Lib.hid hbit1; have HFR := Lib.hid hfr; have HX := Lib.hid hx; have HN := Lib.hid hn; have HUS := Lib.hid hus; have HY := Lib.hid hy; have HYY := Lib.hid hyy; have HLEN := Lib.hid hlen
  have HTY := Lib.hid hty
  have HDU := Lib.hid hdu; have HDM := Lib.hid hdm; have HDE := Lib.hid hdend; have HTL := Lib.hid htail; have HDN := Lib.hid hdn; have HDA := Lib.hid hda; have HXD := Lib.hid hxd; have HN3 := Lib.hid hn3
  clear A I hhas huse hhead hbit hbit1 hfr hx hn hus hy hyy hlen hsx hlenF hgoal hlall hlall2 hp hm hq hone hsum hpre hpost hbm hbu two hend hsm t1 ht hused husedm htkx hb1 hb2 hcu hcm hcend hcb hcy hty htkc hca hdu hdm hdend htail hdn hda hxd hn3 hd1 hd2 hbs
  have d1 := heap_cell HA.out.core.blk 1
  simp at d1
  go_enter Tryd.func10, Tryd.ntmps10
  go_wp2_with fail
  refine (absent_at p w).mono ?_
  rintro e w1 ⟨rfl, rfl⟩
  go_wp2_with fail
  refine HH.out.mono ?_
  rintro e w1 ⟨rfl, rfl⟩
  rw [HUSE.out]
  go_wp2_with fail
  refine (size_at HA.out.core x hx1 (by omega)).mono ?_
  rintro e w1 ⟨rfl, rfl⟩
  rw [HD.out]
  go_wp2_with fail
  refine (bunset_at w tb _ _ tk tbs HA.out.brt x hx64 hm64).mono ?_
  rintro e w1 ⟨rfl, ⟨tbs1, k1⟩, u1⟩
  have HA1 := Lib.hid (HA.out.turnT u1 k1)
  have U1 := Lib.hid (show Upd (Own SL p wb tb kb) w w1 from u1.mono (fun q _ hq => .inr (.inr (.inl hq))))
  clear u1 k1 d1
  have d2 := heap_cell HA1.out.core.blk 2
  simp at d2
  go_wp2_with fail
  refine (bunset_at w1 kb _ _ mk kbs HA1.out.brk x hx64 hm64).mono ?_
  rintro e w2 ⟨rfl, ⟨kbs2, k2⟩, u2⟩
  have HA2 := Lib.hid (HA1.out.turnK u2 k2)
  have U2 := Lib.hid (show Upd (Own SL p wb tb kb) w w2 from U1.out.trans' (u2.mono (fun q _ hq => .inr (.inr (.inr (.inl hq))))))
  clear u2 k2 d2
  have d3 := heap_cell HA2.out.core.blk 3
  have d30 := heap_cell HA2.out.core.blk 0
  have d31 := heap_cell HA2.out.core.blk 1
  simp at d3 d30 d31
  have f3 := heap_frozen HA2.out.core.blk 3
  have HA3 := Lib.hid (HA2.out.use us)
  have U3 := Lib.hid (show Upd (Own SL p wb tb kb) w (w2.setCell ⟨p, 3, none⟩ (.int .i64 (us : Int))) from U2.out.trans' ((upd_set _ _ _ _).mono (fun q _ hq => .inl hq)))
  have HOK3 := Lib.hid HI.out.lists
  have HL3 := Lib.hid (rfl : L.length = L.length)
  have HLO3 := Lib.hid (LowOnly.refl (frA bs) ws)
  have HFR3 := Lib.hid (Fresh.refl (Own SL p wb tb kb) w)
  have HZ := Lib.hid (show ws.getD (x - 1) 0 % 2 = 1 from HBIT.out)
  have cwz := HA3.out.core.word (x - 1) (by omega)
  have hz64 := HA3.out.core.w64 (x - 1)
  obtain ⟨z, hz⟩ : ∃ z, ws.getD (x - 1) 0 = z := ⟨_, rfl⟩
  rw [hz] at cwz hz64
  have hzb : z % 2 = 1 := by rw [← hz, HLO3.out.off _ (HFR.out _ (Nat.le_refl _) (by omega))]; exact HZ.out
  have hand : bits .and .u64 (z : Int) 1 = 1 := by rw [and_one z hz64, hzb]; rfl
  clear hz hzb
  have cwy := HA3.out.core.word (x - 2) (by omega)
  have hy264 := HA3.out.core.w64 (x - 2)
  obtain ⟨z2, hz2⟩ : ∃ z2, ws.getD (x - 2) 0 = z2 := ⟨_, rfl⟩
  rw [hz2] at cwy hy264
  have hz2b : z2 / 4294967296 = dn := by rw [← hz2, HLO3.out.up]; exact HTL.out
  have hsh : (z2 : Int) / 4294967296 = (dn : Int) := by omega
  have hdn20 : dn < 1048576 := by have := HDE.out; have := HLEN.out; omega
  have hx2m : x - 2 < m := by omega
  clear hz2 hz2b
  have hx1m : x - 1 < m := by omega
  go_wp2_with fail
  refine (bhas_at _ tb _ _ (turned tk x false) tbs1 HA3.out.brt y hy64 hm64).mono ?_
  rintro e w3 ⟨rfl, rfl⟩
  rw [HTY.out]
  go_wp2_with fail
  refine (delist_at HA3.out.core HOK3.out da dn ⟨d, HDM.out, HDU.out, HDA.out, HDN.out⟩ (by have := HI.out.L_le; rw [List.length_map] at this; have := (rfl : L.length = L.length); omega) HI.out.fr_lt).mono ?_
  rintro e w5 ⟨rfl, SL5, ws5, L5, T5, K5, C5, ok5, hL5, lo5, fr5, u5⟩
  have HA5 := Lib.hid (HA3.out.post C5 fr5 u5)
  have HOK5 := Lib.hid ok5; have HL5 := Lib.hid (hL5.trans (rfl : L.length = L.length)); have HLO5 := Lib.hid (HLO3.out.trans (lo_fr lo5))
  have HFR5 := Lib.hid (show Fresh (Own SL p wb tb kb) w (Own SL5 p wb tb kb) from HFR3.out.trans (own_fresh fr5) U3.out.size)
  have U5 := Lib.hid (show Upd (Own SL p wb tb kb) w w5 from U3.out.trans HFR3.out (u5.mono (fun q _ hq => hq.elim (fun h => .inr (.inl h)) (fun h => .inr (.inr (.inr (.inr h)))))))
  clear C5 ok5 hL5 lo5 fr5 u5
  have HEND := Lib.hid (free_end (F := less (frF bs) da) (t := t) (b := b) (s := s) (pre := pre) (mid := [d, b]) (post := post) (ws := ws) (tk := tk) (mk := mk) (used := used) (L0 := L.map (·.2)) (by rw [HN.out, HX.out, HUS.out]; exact HA5.out) (by rw [HBS.out]; exact HI.out) HTWO.out HP.out HM.out HQ.out HST.out (by simp) HBU.out HONE.out HSUM.out (by have h := HPRE.out; rw [HDA.out, ← HS.out] at h; exact h) HPOST.out (fun z u => (by unfold less; rw [← HLA.out z u])) HOK5.out (HL5.out.trans (by rw [List.length_map])) (by rw [HBS.out]; exact HLO5.out) n3 HLF.out)
  go_wp2_with fail
  rw [← HS.out]
  refine HEND.out.mono ?_
  rintro e w9 ⟨rfl, h9⟩
  have H9 := Lib.hid h9
  clear h9
  go_wp2
  go_ret
  exact ⟨rfl, ArPost.trans HFR5.out U5.out H9.out⟩
end Go.Proofs.YtelohkppbmahnaaDoor
