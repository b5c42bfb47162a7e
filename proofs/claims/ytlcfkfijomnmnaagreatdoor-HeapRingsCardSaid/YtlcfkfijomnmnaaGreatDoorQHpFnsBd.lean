import Derived.Test.YtlcfkfijomnmnaaGreatDoorQObBitsBd
namespace Go.Proofs.YtlcfkfijomnmnaaGreatDoor
open Lib (hid)
section
open Go.RowKit
variable {R : Nat → Prop} {w0 w : World} {p m : Nat} {bs bs1 bs2 : List Blk}
set_option maxRecDepth 100000 in
set_option maxHeartbeats 2000000 in
theorem oget_r (A : ArR R w0 w p m bs) (pack kind : Int) (bo : Bool) (hk hn : Int) (k i n : Nat) (hmay : mayI k i n = true) (q : Int) (hg : getF bs q 0 = (headN k i n, 0)) (h1 : -9223372036854775808 ≤ q) (h2 : q < 9223372036854775808)
    (b pl : Nat) (hbb : bitsI pack kind = (b : Int)) (hb1 : 1 ≤ b) (hb2 : b ≤ 64) (hpl : pl = if (k : Int) = 1 then 64 / b else 1) (j : Nat) (hj : j < n)
    (wd sh v : Nat) (hwd : 1 + j / pl = wd) (hsh : j % pl * b = sh) (hsl : sh + b ≤ 64) (hv : getF bs q wd = (v, 0)) (hv64 : v < 18446744073709551616) :
    Calls Tryz.prog 35 #[.pointer (some ⟨p, 0, none⟩), .int .i64 q, storeV pack kind bo hk hn, .int .i64 (j : Nat)] w fun e w' => e = .returned (.tuple #[.int .u64 (itemOf v sh b : Nat), .int .i64 0]) ∧ Below w.heap.size w w' := by
  obtain ⟨W1, hW1⟩ : ∃ W1, W1 = w.alloc (.cells #[.int .i64 pack, .int .i64 kind, .bool bo, .int .i64 hk, .int .i64 hn] 37) := ⟨_, rfl⟩
  have hb1' : Below w.heap.size w W1 := by rw [hW1]; exact (Below.refl _ _).alloc (Nat.le_refl _) _
  have A1 := A.stay hb1'
  have hf := find_r A1 pack kind bo hk hn k i n hmay q hg h1 h2 b pl hbb hb1 hb2 hpl j hj
  rw [hwd, hsh] at hf
  obtain ⟨mk, hmk⟩ : ∃ mk, 2 ^ b - 1 = mk := ⟨_, rfl⟩
  have hm : ∀ w, Calls Tryz.prog 56 #[.int .i64 (b : Nat)] w fun e w' => e = .returned (.int .u64 (mk : Nat)) ∧ Below w.heap.size w w' := fun w => (mask_at b hb1 hb2 w).mono fun e w' ⟨he, hw⟩ => ⟨by rw [he, hmk], by rw [hw]; exact Below.refl _ _⟩
  obtain ⟨it, hit⟩ : ∃ it, itemOf v sh b = it := ⟨_, rfl⟩
  have hmkl : mk < 18446744073709551616 := by
    rw [← hmk]
    have := Nat.pow_le_pow_right (n := 2) (by decide) hb2
    have h64 : (2 : Nat) ^ 64 = 18446744073709551616 := by decide
    omega
  have eit : bits .and .u64 ((v : Int) / 2 ^ sh) (mk : Int) = (it : Int) := by
    have e : (v : Int) / 2 ^ sh = ((v / 2 ^ sh : Nat) : Int) := by rw [Int.natCast_ediv]; simp
    rw [e, bits_and64 _ _ (Nat.lt_of_le_of_lt (Nat.div_le_self _ _) hv64) hmkl, ← hmk, Nat.and_two_pow_sub_one_eq_mod, ← hit]
    rfl
  rw [hit]
  have t1 : ¬ (sh : Int) < 0 := by omega
  have t2 : (sh : Int) < 64 := by omega
  have t3 : sh < 64 := by omega
  have HF := hid hf; have HM := hid hm; have HA := hid A1; have HW := hid hW1; have HB1 := hid hb1'; have HV := hid hv; have HQ := hid (And.intro h1 h2)
  clear A A1 hf hm hW1 hb1' hv hmay hg h1 h2 hbb hb1 hb2 hpl hj hwd hsh hsl hmk hit hmkl hv64
  go_enter Tryz.func35, Tryz.ntmps35
  go_wp2_with fail
  rw [← HW.out]
  refine HF.out.mono ?_
  rintro e w1 ⟨rfl, hbw⟩
  unfold foundV
  have A1 := HA.out.stay hbw
  have BW1 := hid (HB1.out.trans (hbw.mono HB1.out.size))
  obtain ⟨t10, ht10⟩ : ∃ t10, w1.heap.size = t10 := ⟨_, rfl⟩
  obtain ⟨W2, hW2⟩ : ∃ W2, W2 = w1.alloc (.cells #[.int .i64 (wd : Nat), .int .i64 (sh : Nat)] 130) := ⟨_, rfl⟩
  have hb2' : Below w1.heap.size w1 W2 := by rw [hW2]; exact (Below.refl _ _).alloc (Nat.le_refl _) _
  have b10 := heap_alloc_at w1 (.cells #[.int .i64 (wd : Nat), .int .i64 (sh : Nat)] 130) (b := t10) ht10.symm
  rw [← hW2] at b10
  have d0 := heap_cell b10 0
  have d1 := heap_cell b10 1
  simp at d0 d1
  have g1 := Ext.cells (w0 := W2) d1
  have HA2 := hid (A1.stay hb2')
  have BW2 := hid (BW1.out.trans (hb2'.mono BW1.out.size))
  have HW2 := hid hW2; have HT10 := hid ht10
  clear hbw A1 hb2' b10 hW2 ht10
  go_wp2_with fail
  rw [← HW2.out, HT10.out]
  refine (Get_r HA2.out HV.out v rfl HQ.out.1 HQ.out.2).mono ?_
  rintro e w2 ⟨rfl, rfl⟩
  go_wp2
  refine wp_region_calm (by kernel_rfl) (by kernel_rfl) ?_
  repeat (go_big_quiet_step ((exact Ext.call _ (HM.out _))))
  refine wpQuiet_nil ?_
  rintro _ ⟨x0, rfl⟩
  clear g1 d0 d1
  have BX := hid (BW2.out.trans (x0.2.mono BW2.out.size))
  go_wp2
  go_ret2
  exact ⟨rfl, BX.out⟩
set_option maxRecDepth 100000 in
set_option maxHeartbeats 4000000 in
theorem oset_r (A : ArR R w0 w p m bs) (hR : ∀ b, R b → b < w.heap.size) (pack kind : Int) (bo : Bool) (hk hn : Int) (k i n : Nat) (hmay : mayI k i n = true) (q : Int) (hg : getF bs q 0 = (headN k i n, 0)) (h1 : -9223372036854775808 ≤ q) (h2 : q < 9223372036854775808)
    (b pl : Nat) (hbb : bitsI pack kind = (b : Int)) (hb1 : 1 ≤ b) (hb2 : b ≤ 64) (hpl : pl = if (k : Int) = 1 then 64 / b else 1) (j : Nat) (hj : j < n)
    (wd sh v : Nat) (hwd : 1 + j / pl = wd) (hsh : j % pl * b = sh) (hsl : sh + b ≤ 64) (hv : getF bs q wd = (v, 0)) (hv64 : v < 18446744073709551616) (x : Nat) (hx : x < 2 ^ b) (hs : setF bs q wd (newW v sh b x) = (0, bs2)) :
    Calls Tryz.prog 28 #[.pointer (some ⟨p, 0, none⟩), .int .i64 q, storeV pack kind bo hk hn, .int .i64 (j : Nat), .int .u64 (x : Nat)] w fun e w' => e = .returned (.int .i64 0) ∧ ArR R w0 w' p m bs2 ∧ Kept R w w' := by
  obtain ⟨W1, hW1⟩ : ∃ W1, W1 = w.alloc (.cells #[.int .i64 pack, .int .i64 kind, .bool bo, .int .i64 hk, .int .i64 hn] 37) := ⟨_, rfl⟩
  have hb1' : Below w.heap.size w W1 := by rw [hW1]; exact (Below.refl _ _).alloc (Nat.le_refl _) _
  have A1 := A.stay hb1'
  have hf := find_r A1 pack kind bo hk hn k i n hmay q hg h1 h2 b pl hbb hb1 hb2 hpl j hj
  rw [hwd, hsh] at hf
  have h64 : (2 : Nat) ^ 64 = 18446744073709551616 := by decide
  have hv64' : v < 2 ^ 64 := by omega
  have hyl := newW_lt v sh b x hv64' hsl hx
  obtain ⟨y, hy⟩ : ∃ y, newW v sh b x = y := ⟨_, rfl⟩
  rw [hy] at hs hyl
  obtain ⟨mk, hmk⟩ : ∃ mk, 2 ^ b - 1 = mk := ⟨_, rfl⟩
  have hm : ∀ w, Calls Tryz.prog 56 #[.int .i64 (b : Nat)] w fun e w' => e = .returned (.int .u64 (mk : Nat)) ∧ w = w' := fun w => (mask_at b hb1 hb2 w).mono fun e w' ⟨he, hw⟩ => ⟨by rw [he, hmk], hw⟩
  have hm2 : ∀ w, Calls Tryz.prog 56 #[.int .i64 (b : Nat)] w fun e w' => e = .returned (.int .u64 (mk : Nat)) ∧ Below w.heap.size w w' := fun w => (hm w).mono fun e w' ⟨he, hw⟩ => ⟨he, by rw [hw]; exact Below.refl _ _⟩
  have hpow : 2 ^ b * 2 ^ sh ≤ 2 ^ 64 := by rw [← Nat.pow_add]; exact Nat.pow_le_pow_right (by decide) (by omega)
  have hsp := Nat.two_pow_pos sh
  have hbp := Nat.two_pow_pos b
  obtain ⟨M, hM⟩ : ∃ M, mk * 2 ^ sh = M := ⟨_, rfl⟩
  obtain ⟨X, hX⟩ : ∃ X, x * 2 ^ sh = X := ⟨_, rfl⟩
  have hMl : M < 18446744073709551616 := by
    have : mk * 2 ^ sh < 2 ^ b * 2 ^ sh := Nat.mul_lt_mul_of_pos_right (by omega) hsp
    omega
  have hXl : X < 18446744073709551616 := by
    have : x * 2 ^ sh < 2 ^ b * 2 ^ sh := Nat.mul_lt_mul_of_pos_right hx hsp
    omega
  obtain ⟨r, hrl, hr, hrb⟩ := bits_andNot64 v M hv64 hMl
  have hre := andNot_eq v M r hv64' hrb
  have hyo : r ||| X = y := by rw [hre, ← hM, ← hX, ← hy, ← hmk]; rfl
  have f1 : IntKind.u64.wrap ((mk : Int) * 2 ^ sh) = (M : Int) := by
    have e : (mk : Int) * 2 ^ sh = (M : Int) := by rw [← hM]; simp
    rw [e]; exact wrap_u64_in (by omega) (by omega)
  have f2 : IntKind.u64.wrap ((x : Int) * 2 ^ sh) = (X : Int) := by
    have e : (x : Int) * 2 ^ sh = (X : Int) := by rw [← hX]; simp
    rw [e]; exact wrap_u64_in (by omega) (by omega)
  have f3 : bits .or .u64 (r : Int) (X : Int) = (y : Int) := by rw [bits_or64 _ _ hrl hXl, hyo]
  have t1 : ¬ (sh : Int) < 0 := by omega
  have t2 : (sh : Int) < 64 := by omega
  have t3 : sh < 64 := by omega
  have t4 : ¬ mk < x := by omega
  have t5 : ¬ (mk : Int) < x := by omega
  have t6 : decide (mk < x) = false := decide_eq_false t4
  have hmf : ∀ (fn : Fn) (first cap : Array Value) (w : World), (Instr.makeFunc fn first cap).run Tryz.prog w = .ok (.func fn first cap) w := fun _ _ _ _ => rfl
  have HF := hid hf; have HM := hid hm; have HM2 := hid hm2; have HA := hid A1; have HW := hid hW1; have HB1 := hid hb1'; have HV := hid hv; have HQ := hid (And.intro h1 h2); have HS := hid hs
  have HYL := hid (show y < 18446744073709551616 by omega); have HR := hid hR; have HHR := hid hr
  clear A A1 hf hm hm2 hW1 hb1' hv hmay hg h1 h2 hbb hb1 hb2 hpl hj hwd hsh hsl hmk hv64 hv64' hyl hy hpow hsp hbp hM hX hMl hXl hrl hrb hre hyo hs hR h64 hx hr
  go_enter Tryz.func28, Tryz.ntmps28
  go_wp2_with fail
  rw [← HW.out]
  refine HF.out.mono ?_
  rintro e w1 ⟨rfl, hbw⟩
  unfold foundV
  have A1 := HA.out.stay hbw
  have BW1 := hid (HB1.out.trans (hbw.mono HB1.out.size))
  obtain ⟨t11, ht11⟩ : ∃ t11, w1.heap.size = t11 := ⟨_, rfl⟩
  obtain ⟨W2, hW2⟩ : ∃ W2, W2 = w1.alloc (.cells #[.int .i64 (wd : Nat), .int .i64 (sh : Nat)] 130) := ⟨_, rfl⟩
  have hb2' : Below w1.heap.size w1 W2 := by rw [hW2]; exact (Below.refl _ _).alloc (Nat.le_refl _) _
  have b11 := heap_alloc_at w1 (.cells #[.int .i64 (wd : Nat), .int .i64 (sh : Nat)] 130) (b := t11) ht11.symm
  rw [← hW2] at b11
  have d0 := heap_cell b11 0
  have d1 := heap_cell b11 1
  simp at d0 d1
  have g0 := Ext.cells (w0 := W2) d0
  have g1 := Ext.cells (w0 := W2) d1
  have HA2 := hid (A1.stay hb2')
  have BW2 := hid (BW1.out.trans (hb2'.mono BW1.out.size))
  have HW2 := hid hW2; have HT11 := hid ht11
  clear hbw A1 hb2' b11 hW2 ht11
  go_wp2_with fail
  rw [← HW2.out, HT11.out]
  refine (HM.out _).mono ?_
  rintro e w2 ⟨rfl, rfl⟩
  go_wp2_with fail
  refine (Get_r HA2.out HV.out v rfl HQ.out.1 HQ.out.2).mono ?_
  rintro e w2 ⟨rfl, rfl⟩
  go_wp2
  have hr := HHR.out
  refine wp_region_calm_tail 16 (by kernel_rfl) (by kernel_rfl) ?_
  simp only [List.take_succ_cons, List.take_zero, List.drop_succ_cons, List.drop_zero]
  repeat (go_big_quiet_step ((exact Ext.call _ (HM2.out _))))
  refine wpQuiet_nil ?_
  intro w3 hb3
  have HA3 := hid (HA2.out.stay hb3)
  have BW3 := hid (BW2.out.trans (hb3.mono BW2.out.size))
  have HR3 := hid (fun b hb => Nat.lt_of_lt_of_le (HR.out b hb) BW3.out.size)
  clear g0 g1 d0 d1 hb3 hr
  go_wp2_with fail
  refine (Set_r HA3.out HR3.out HS.out y rfl HQ.out.1 HQ.out.2 HYL.out).mono ?_
  rintro e w4 ⟨rfl, A4, K4⟩
  have HA4 := hid A4
  have HK4 := hid ((Kept.of_below HR.out BW3.out).trans K4)
  clear A4 K4
  go_wp2
  go_ret
  exact ⟨rfl, HA4.out, HK4.out⟩
end
section
open Go.RowKit Go.Maps Go.WideMaps
variable {w0 w w' : World} {hb : Nat} {x : Sb} {hk hn : Int} {kn : Bool} {tn : Int} {m : Nat} {bs bs' : List Blk} {t p kb : Nat} {S R Sa T Z : Nat → Prop}
def NotA (Sa : Nat → Prop) (w : World) (b : Nat) : Prop := b < w.heap.size ∧ ¬ Sa b
theorem NotA.lt : ∀ b, NotA Sa w b → b < w.heap.size := fun _ h => h.1
theorem HpW.arR (h : HpW w0 hb x hk hn kn tn m bs t p kb S R Sa T w) : ArR (NotA Sa w) w0 w p m bs :=
  ⟨⟨Sa, h.ar, fun b q => ⟨(h.low b (.inr (.inr (.inr (.inr (.inr q)))))).1, (h.low b (.inr (.inr (.inr (.inr (.inr q)))))).2, fun k => k.2 q⟩⟩, h.be⟩
theorem post_of (hb : Below w0.heap.size w0 w) (A : ArR (NotA Sa w) w0 w' p m bs') (K : Kept (NotA Sa w) w w') : ArPost Sa w p m bs' w' := by
  obtain ⟨⟨S', a, hS⟩, hb'⟩ := A
  refine ⟨S', a, fun b q => ?_, ⟨hb'.os.trans hb.os.symm, hb'.tape.trans hb.tape.symm, hb'.output.trans hb.output.symm, K.size, fun k hk hn => K.blk k ⟨hk, hn⟩⟩⟩
  by_cases h1 : Sa b
  · exact .inl h1
  · by_cases h2 : b < w.heap.size
    · exact absurd ⟨h2, h1⟩ (hS b q).2.2
    · exact .inr (by omega)
theorem HpW.turn (h : HpW w0 hb x hk hn kn tn m bs t p kb S R Sa T w) (hd : ∀ b, Hs hb kb S R Sa T b → ¬ Z b) (hZ : ∀ b, Z b → b < w.heap.size) (hp : ArPost Sa w p m bs' w') : HpZ Z w0 hb x hk hn kn tn m bs' w' ∧ Kept Z w w' := by
  obtain ⟨Sa', h', f, u⟩ := h.arena hp
  refine ⟨⟨t, p, kb, S, R, Sa', T, h', fun b q z => ?_⟩, ⟨u.size, fun b z => u.block b (hZ b z) (fun q => hd b (.inr (.inr (.inr (.inr (.inr q))))) z)⟩⟩
  rcases q with q | q | q | q | q | q
  · exact hd b (.inl q) z
  · exact hd b (.inr (.inl q)) z
  · exact hd b (.inr (.inr (.inl q))) z
  · exact hd b (.inr (.inr (.inr (.inl q)))) z
  · exact hd b (.inr (.inr (.inr (.inr (.inl q))))) z
  · rcases f b q with q | q
    · exact hd b (.inr (.inr (.inr (.inr (.inr q))))) z
    · have := hZ b z
      omega
end
section
open Go.RowKit Go.Maps Go.WideMaps
variable {w0 w w' : World} {hb : Nat} {x : Sb} {hk hn : Int} {kn : Bool} {tn : Int} {m : Nat} {bs bs' : List Blk} {t p kb : Nat} {S R Sa T Z : Nat → Prop}
abbrev thing0 : Value := thingV 0 0 1
abbrev store0 (hk hn : Int) : Value := storeV 0 3 true hk hn
theorem HpZ.grow (h : HpZ Z w0 hb x hk hn kn tn m bs w) (b : Below w.heap.size w w') : HpZ (fun b => Z b ∨ (w.heap.size ≤ b ∧ b < w'.heap.size)) w0 hb x hk hn kn tn m bs w' := by
  obtain ⟨t, p, kb, S, R, Sa, T, h1, h2⟩ := h.ex
  refine ⟨t, p, kb, S, R, Sa, T, h1.below b, fun b k q => ?_⟩
  rcases q with q | q
  · exact h2 b k q
  · have := (h1.low b k).2
    omega
theorem made_h (h : HpZ Z w0 hb x hk hn kn tn m bs w) : Calls Tryz.prog 22 #[.pointer (some ⟨hb, 0, none⟩)] w fun e w' => e = .returned (.bool true) ∧ w = w' := by
  obtain ⟨t, p, kb, S, R, Sa, T, hw, hd⟩ := h.ex
  have k0 := heap_cell hw.box 0
  have k1 := heap_cell hw.box 1
  simp at k0 k1
  clear h hw hd
  go_enter Tryz.func22, Tryz.ntmps22
  go_wp2
  go_ret
  exact ⟨rfl, rfl⟩
set_option maxRecDepth 100000 in
set_option maxHeartbeats 4000000 in
theorem may_h (h : HpZ Z w0 hb x hk hn kn tn m bs w) (hx : TyOk x hk hn) (hZ : ∀ b, Z b → b < w.heap.size) :
    Calls Tryz.prog 23 #[.pointer (some ⟨hb, 0, none⟩), thing0] w fun e w' => e = .returned (.tuple #[storeV 0 0 false 0 0, .int .i64 0]) ∧ HpZ Z w0 hb x hk hn true tn m bs w' ∧ Kept Z w w' := by
  have H := hid h; have HX := hid hx; have HZ := hid hZ
  clear h hx hZ
  go_enter Tryz.func23, Tryz.ntmps23
  go_wp2_with fail
  obtain ⟨W1, hW1⟩ : ∃ W1, W1 = (w.alloc (.cells #[.int .i64 0, .int .i64 0, .int .i64 1] 54)).alloc (.cells #[.int .i64 0, .int .i64 0, .bool false, .int .i64 0, .int .i64 0] 37) := ⟨_, rfl⟩
  rw [← hW1]
  have b1 : Below w.heap.size w W1 := by rw [hW1]; exact ((Below.refl _ _).alloc (Nat.le_refl _) _).alloc (by simp) _
  have q0 : W1.heap[w.heap.size]? = some (.cells #[.int .i64 0, .int .i64 0, .int .i64 1] 54 (0, 0)) := by rw [hW1]; exact heap_alloc_keep (heap_alloc_at _ _ rfl) _
  have q1 : W1.heap[w.heap.size + 1]? = some (.cells #[.int .i64 0, .int .i64 0, .bool false, .int .i64 0, .int .i64 0] 37 (0, 0)) := by rw [hW1]; exact heap_alloc_at _ _ (by simp)
  have hz : ∀ b, (Z b ∨ (w.heap.size ≤ b ∧ b < W1.heap.size)) → b < W1.heap.size := grow_lt HZ.out b1
  have C := hid (layout_any (H.out.grow b1) HX.out hz)
  have HQ0 := hid q0; have HQ1 := hid q1; have HB1 := hid b1
  clear hW1 b1 q0 q1 hz
  refine C.out.mono ?_
  rintro e w2 ⟨g, c, rfl, hz2, hrow, hkp⟩
  have q0 := hkp.blk w.heap.size (.inr ⟨Nat.le_refl _, heap_lt HQ0.out⟩)
  have q1 := hkp.blk (w.heap.size + 1) (.inr ⟨Nat.le_succ _, heap_lt HQ1.out⟩)
  rw [HQ0.out] at q0; rw [HQ1.out] at q1
  have HZ2 := hid (hz2.less (Z' := Z) (fun b h => .inl h))
  have HK2 := hid ((Kept.of_below HZ.out HB1.out).trans (hkp.less (R' := Z) (fun b h => .inl h)))
  have d2 := heap_cell q0 2
  have s0 := heap_cell q1 0; have s1 := heap_cell q1 1; have s2 := heap_cell q1 2; have s3 := heap_cell q1 3; have s4 := heap_cell q1 4
  have z0 := heap_frozen q1 0; have z1 := heap_frozen q1 1; have z2 := heap_frozen q1 2; have z3 := heap_frozen q1 3; have z4 := heap_frozen q1 4
  simp at d2 s0 s1 s2 s3 s4
  have hl0 := heap_lt q0; have hl1 := heap_lt q1
  have HZ3 := hid hz2
  have HS0 := hid HB1.out.size
  have HL1 := hid (heap_lt HQ1.out)
  clear C hz2 hrow hkp q0 q1
  go_wp2
  obtain ⟨V, hV⟩ : ∃ V, V = ((((w2.setCell ⟨w.heap.size + 1, 0, none⟩ (.int .i64 0)).setCell ⟨w.heap.size + 1, 1, none⟩ (.int .i64 0)).setCell ⟨w.heap.size + 1, 2, none⟩ (.bool false)).setCell ⟨w.heap.size + 1, 3, none⟩ (.int .i64 0)).setCell ⟨w.heap.size + 1, 4, none⟩ (.int .i64 0) := ⟨_, rfl⟩
  rw [← hV]
  have u : Upd (fun b => b = w.heap.size + 1) w2 V := by rw [hV]; exact (((((Upd.refl (fun b => b = w.heap.size + 1) w2).setCell (p := ⟨w.heap.size + 1, 0, none⟩) (.inl rfl) _).setCell (p := ⟨w.heap.size + 1, 1, none⟩) (.inl rfl) _).setCell (p := ⟨w.heap.size + 1, 2, none⟩) (.inl rfl) _).setCell (p := ⟨w.heap.size + 1, 3, none⟩) (.inl rfl) _).setCell (p := ⟨w.heap.size + 1, 4, none⟩) (.inl rfl) _
  have r0 : V.cell? ⟨w.heap.size + 1, 0, none⟩ = some (.int .i64 0) := by rw [hV]; simp [go_sem, s0]
  have r1 : V.cell? ⟨w.heap.size + 1, 1, none⟩ = some (.int .i64 0) := by rw [hV]; simp [go_sem, s1]
  have r2 : V.cell? ⟨w.heap.size + 1, 2, none⟩ = some (.bool false) := by rw [hV]; simp [go_sem, s2]
  have r3 : V.cell? ⟨w.heap.size + 1, 3, none⟩ = some (.int .i64 0) := by rw [hV]; simp [go_sem, s3]
  have r4 : V.cell? ⟨w.heap.size + 1, 4, none⟩ = some (.int .i64 0) := by rw [hV]; simp [go_sem, s4]
  clear hV
  have bV : Below V.heap.size V (V.alloc (.cells #[.int .i64 2, .slice (some ⟨g, 0, none⟩) 1 c] 120)) := (Below.refl _ _).alloc (Nat.le_refl _) _
  have r0 := below_cell bV r0; have r1 := below_cell bV r1; have r2 := below_cell bV r2; have r3 := below_cell bV r3; have r4 := below_cell bV r4
  have hz4 := (HZ3.out.write u (fun b e => ⟨.inr ⟨by omega, by have := HL1.out; omega⟩, by have := H.out.be.size; omega⟩)).below bV
  refine bodyPost_ret (v := .tuple #[storeV 0 0 false 0 0, .int .i64 0]) (by simp [results, Tryz.results23, go_sem, r0, r1, r2, r3, r4]) rfl ⟨rfl, hz4.less (fun b q => .inl q), HK2.out.trans ⟨Nat.le_trans u.size bV.size, fun b z => ?_⟩⟩
  have h1 := HZ.out b z
  have h2 : w.heap.size ≤ w2.heap.size := HK2.out.size
  rw [bV.block b (by have := u.size; omega), u.block b (by omega) (fun e => by omega)]
structure LamAt (hk hn : Int) (w : World) (lb g c : Nat) : Prop where
  box : w.heap[lb]? = some (.cells #[.int .i64 2, .slice (some ⟨g, 0, none⟩) 1 c] 120 (0, 0))
  row : w.ownsRow 0 37 5 (.slice (some ⟨g, 0, none⟩) 1 c) 1 (stC hk hn)
set_option maxRecDepth 100000 in
set_option maxHeartbeats 4000000 in
theorem stores_h (h : HpZ Z w0 hb x hk hn kn tn m bs w) (hx : TyOk x hk hn) (hZ : ∀ b, Z b → b < w.heap.size) :
    Calls Tryz.prog 54 #[.pointer (some ⟨hb, 0, none⟩), thing0] w fun e w' => ∃ lb g c, e = .returned (.tuple #[.func (.func 101) #[] #[.pointer (some ⟨lb, 0, none⟩)], .int .i64 0]) ∧ LamAt hk hn w' lb g c ∧ HpZ Z w0 hb x hk hn true tn m bs w' ∧ Kept Z w w' := by
  have H := hid h; have HX := hid hx; have HZ := hid hZ
  have hmf : ∀ (fn : Fn) (first cap : Array Value) (w : World), (Instr.makeFunc fn first cap).run Tryz.prog w = .ok (.func fn first cap) w := fun _ _ _ _ => rfl
  clear h hx hZ
  go_enter Tryz.func54, Tryz.ntmps54
  go_wp2_with fail
  obtain ⟨W1, hW1⟩ : ∃ W1, W1 = w.alloc (.cells #[.int .i64 0, .int .i64 0, .int .i64 1] 54) := ⟨_, rfl⟩
  rw [← hW1]
  have b1 : Below w.heap.size w W1 := by rw [hW1]; exact (Below.refl _ _).alloc (Nat.le_refl _) _
  have q0 : W1.heap[w.heap.size]? = some (.cells #[.int .i64 0, .int .i64 0, .int .i64 1] 54 (0, 0)) := by rw [hW1]; exact heap_alloc_at _ _ rfl
  have C := hid (layout_any (H.out.grow b1) HX.out (grow_lt HZ.out b1))
  have HQ0 := hid q0; have HB1 := hid b1
  clear hW1 b1 q0
  refine C.out.mono ?_
  rintro e w2 ⟨g, c, rfl, hz2, hrow, hkp⟩
  have q0 := hkp.blk w.heap.size (.inr ⟨Nat.le_refl _, heap_lt HQ0.out⟩)
  rw [HQ0.out] at q0
  have HZ2 := hid (hz2.less (Z' := Z) (fun b h => .inl h))
  have HK2 := hid ((Kept.of_below HZ.out HB1.out).trans (hkp.less (R' := Z) (fun b h => .inl h)))
  have HR2 := hid hrow
  have d0 := heap_cell q0 0
  have d2 := heap_cell q0 2
  simp at d0 d2
  have hl0 := heap_lt q0
  clear C hz2 hrow hkp q0
  go_wp2
  go_ret2
  have b3 : Below w2.heap.size w2 (w2.alloc (.cells #[.int .i64 2, .slice (some ⟨g, 0, none⟩) 1 c] 120)) := (Below.refl _ _).alloc (Nat.le_refl _) _
  refine ⟨w2.heap.size, g, c, rfl, ⟨heap_alloc_at _ _ rfl, ownsRow_upd HR2.out (Upd.of_below (S := fun _ => False) b3) (fun _ _ h => h)⟩, HZ2.out.below b3, HK2.out.trans (Kept.of_below (fun b z => Nat.lt_of_lt_of_le (HZ.out b z) HK2.out.size) b3)⟩
set_option maxRecDepth 100000 in
set_option maxHeartbeats 4000000 in
theorem stores_b (h : HpZ Z w0 hb x hk hn true tn m bs w) :
    Calls Tryz.prog 54 #[.pointer (some ⟨hb, 0, none⟩), thing0] w fun e w' => ∃ lb g c, e = .returned (.tuple #[.func (.func 101) #[] #[.pointer (some ⟨lb, 0, none⟩)], .int .i64 0]) ∧ LamAt hk hn w' lb g c ∧ Below w.heap.size w w' := by
  have H := hid h
  have hmf : ∀ (fn : Fn) (first cap : Array Value) (w : World), (Instr.makeFunc fn first cap).run Tryz.prog w = .ok (.func fn first cap) w := fun _ _ _ _ => rfl
  clear h
  go_enter Tryz.func54, Tryz.ntmps54
  go_wp2_with fail
  obtain ⟨W1, hW1⟩ : ∃ W1, W1 = w.alloc (.cells #[.int .i64 0, .int .i64 0, .int .i64 1] 54) := ⟨_, rfl⟩
  rw [← hW1]
  have b1 : Below w.heap.size w W1 := by rw [hW1]; exact (Below.refl _ _).alloc (Nat.le_refl _) _
  have q0 : W1.heap[w.heap.size]? = some (.cells #[.int .i64 0, .int .i64 0, .int .i64 1] 54 (0, 0)) := by rw [hW1]; exact heap_alloc_at _ _ rfl
  have C := hid (layout_b (H.out.below b1))
  have HQ0 := hid q0; have HB1 := hid b1
  clear hW1 b1 q0
  refine C.out.mono ?_
  rintro e w2 ⟨g, c, rfl, hrow, hb2⟩
  have q0 := (Upd.of_below (S := fun _ => False) hb2).heap_some HQ0.out (fun h => h)
  have HB2 := hid (HB1.out.trans (hb2.mono HB1.out.size))
  have HR2 := hid hrow
  have d0 := heap_cell q0 0
  have d2 := heap_cell q0 2
  simp at d0 d2
  have hl0 := heap_lt q0
  clear C hrow hb2 q0
  go_wp2
  go_ret2
  have b3 : Below w2.heap.size w2 (w2.alloc (.cells #[.int .i64 2, .slice (some ⟨g, 0, none⟩) 1 c] 120)) := (Below.refl _ _).alloc (Nat.le_refl _) _
  exact ⟨w2.heap.size, g, c, rfl, ⟨heap_alloc_at _ _ rfl, ownsRow_upd HR2.out (Upd.of_below (S := fun _ => False) b3) (fun _ _ h => h)⟩, HB2.out.trans (b3.mono HB2.out.size)⟩
theorem of_h {lb g c : Nat} (h : LamAt hk hn w lb g c) :
    Calls Tryz.prog 101 #[.int .i64 0, .pointer (some ⟨lb, 0, none⟩)] w fun e w' => e = .returned (store0 hk hn) ∧ Below w.heap.size w w' := by
  have k1 := heap_cell h.box 1
  simp at k1
  have r0 := h.row.cells (g := g) rfl 0; have r1 := h.row.cells (g := g) rfl 1; have r2 := h.row.cells (g := g) rfl 2; have r3 := h.row.cells (g := g) rfl 3; have r4 := h.row.cells (g := g) rfl 4
  simp [stC, Addr.add] at r0 r1 r2 r3 r4
  have hl := heap_lt h.box
  have hg : g < w.heap.size := World.block_lt_of_cell? _ _ r0
  clear h
  go_enter Tryz.func101, Tryz.ntmps101
  go_wp2
  exact bodyPost_ret (v := store0 hk hn) (by simp [results, Tryz.results101, go_sem]) rfl ⟨rfl, (Below.refl _ _).alloc (Nat.le_refl _) _⟩
theorem isRef_h (w : World) :
    Calls Tryz.prog 64 #[store0 hk hn] w fun e w' => e = .returned (.bool true) ∧ Below w.heap.size w w' := by
  go_enter Tryz.func64, Tryz.ntmps64
  go_wp2
  go_ret
  exact ⟨rfl, (Below.refl _ _).alloc (Nat.le_refl _) _⟩
end
end Go.Proofs.YtlcfkfijomnmnaaGreatDoor
