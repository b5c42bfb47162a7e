import Derived.Test.YtpddbaijnjbfdaaGreatDoorQKdValsBd
namespace Go.Proofs.YtpddbaijnjbfdaaGreatDoor
open Lib (hid)
open Go.RowKit
structure Fits (s : Sb) : Prop where
  sups : ∀ h ∈ s.sups, B64 h.n
  ps : ∀ v ∈ s.ps, B64 v.n
  rs : ∀ v ∈ s.rs, B64 v.n
  fs : ∀ f ∈ s.fs, B64 f.v.n ∧ B64 f.p
  small : Small s
theorem headT_len (s : Sb) (h : Fits s) : (headT s).length ≤ 130000000 := by
  have h1 := valsT_len (w := [32, 40, 112, 97, 114, 97, 109]) s.ps h.ps
  have h2 := valsT_len (w := [32, 40, 114, 101, 115, 117, 108, 116]) s.rs h.rs
  have h3 := h.small.ps; have h4 := h.small.rs
  unfold headT
  split
  · simp only [List.length_append, List.length_cons, List.length_nil] at *; omega
  · split
    · decide
    · split <;> decide
set_option maxRecDepth 100000 in
set_option maxHeartbeats 16000000 in
theorem putComp_any (B : Bs) (l : List UInt8) (s : Sb) (hf : Fits s) (vp vr vf : Value) (sv : Value) (w : World) (hv : ∀ w', Wr B w w' → ValsAt w' vp s.ps ∧ ValsAt w' vr s.rs ∧ FlsAt w' vf s.fs) (hown : OwnB B w sv l) (hB : Fit B w) (hl : l.length ≤ 300000000) (ht : Tb B w) :
    Calls Tryz.prog 125 #[sv, .agg #[.int .i64 s.k, vp, vr, vf]] w (PutPost B w (l ++ compT s)) := by
  have hhl := headT_len s hf
  obtain ⟨ao, cap, rfl⟩ := hown.form
  obtain ⟨po, pc, rfl⟩ := RowAt.form (hv w (Wr.refl B w)).1
  obtain ⟨ro, rc, rfl⟩ := RowAt.form (hv w (Wr.refl B w)).2.1
  obtain ⟨fo, fc, rfl⟩ := RowAt.form (hv w (Wr.refl B w)).2.2
  have hhd : headT s = headT s := rfl
  obtain ⟨fin, sups, k, lp, lr, lf⟩ := s
  dsimp only at hv ⊢
  obtain ⟨np, hnp⟩ : ∃ n, lp.length = n := ⟨_, rfl⟩
  obtain ⟨nr, hnr⟩ : ∃ n, lr.length = n := ⟨_, rfl⟩
  obtain ⟨n, hn⟩ : ∃ n, lf.length = n := ⟨_, rfl⟩
  have hnl := hf.small.fs; have hpl := hf.small.ps; have hrl := hf.small.rs
  dsimp only at hnl hpl hrl
  rw [hnp, hnr, hn] at hv ⊢
  rw [hn] at hnl
  obtain ⟨W0, hW0⟩ : ∃ W0, w.alloc (.cells #[.int .i64 k, .slice po np pc, .slice ro nr rc, .slice fo n fc] 39) = W0 := ⟨_, rfl⟩
  have hwr : Wr B w W0 := by rw [← hW0]; exact Wr.new hB _
  have z0 : W0.heap[w.heap.size]? = some (.cells #[.int .i64 k, .slice po np pc, .slice ro nr rc, .slice fo n fc] 39 (0, 0)) := by rw [← hW0]; exact heap_alloc_at _ _ rfl
  have hO : OwnB B W0 (.slice ao l.length cap) l := by rw [← hW0]; exact hown.alloc _
  have HBX := hid (show ∀ i x, lf[i]? = some x → B64 x.v.n ∧ B64 x.p from fun i x h => hf.fs x (List.mem_of_getElem? h))
  have HWx := hid hW0; have HW0 := hid hwr; have Z0 := hid z0; have HO0 := hid hO; have HT0 := hid (ht.on hwr); have HT := hid ht
  have HV := hid hv; have HB := hid hB; have HL := hid hl; have HN := hid hn; have HNP := hid hnp; have HNR := hid hnr; have HNL := hid hnl; have HPL := hid hpl; have HRL := hid hrl; have HFT := hid hf; have HHL := hid hhl
  have HO0x := HO0; have HW0x := HW0
  rw [← HWx.out] at HO0x HW0x
  clear hv hown hB hl ht hn hnp hnr hnl hpl hrl hf hhl hhd hwr z0 hO hW0
  by_cases k1 : k = 1
  · subst k1
    have HOx := hid (show OwnB B (W0.drew) (.slice ao l.length cap) l from HO0.out.drew)
    have HWy := hid (show Wr B W0 (W0.drew) from (Wr.refl B W0).drew)
    have HFx := hid (HB.out.on (HW0.out.trans HWy.out))
    have HZx := hid (HWy.out.box Z0.out (by decide))
    go_enter Tryz.func125, Tryz.ntmps125
    go_wp2_with fail
    rw [HWx.out]
    have q1 := heap_cell Z0.out 1
    simp at q1
    go_region_held_law (fun w' => w'.cell? ⟨w.heap.size, 1, none⟩ = some (.slice po np pc)) (first | exact HK1.out | exact HK2.out | exact heap_cell HZx.out 1 | exact heap_cell Z0.out 1)
      (first
        | (refine step_ap_str rfl (.tmp 13) _ rfl rfl HOx.out ⟨#[40, 102, 117, 110, 99]⟩ rfl HFx.out (by have := HL.out; have e : (⟨#[40, 102, 117, 110, 99]⟩ : ByteArray).size = 5 := rfl; omega) ?_
           intro v1 w1 o1 r1
           have HO1 := hid (show OwnB B w1 v1 (l ++ [40, 102, 117, 110, 99]) from o1); have HV1 := hid (HWy.out.trans r1)
           have HZ1 := hid (r1.box HZx.out (by decide))
           have HK1 : Hid (w1.cell? ⟨w.heap.size, 1, none⟩ = some (.slice po np pc)) := hid (heap_cell HZ1.out 1)
           clear o1 r1)
        | (go_simp; go_at_call 137; refine (putVals_any B (l ++ [40, 102, 117, 110, 99]) ⟨#[32, 40, 112, 97, 114, 97, 109]⟩ (by decide) _ lp HPL.out HFT.out.ps _ _ (fun w' h => by have := (HV.out w' ((HW0.out.trans HV1.out).trans h)).1; exact this) HO1.out (HB.out.on (HW0.out.trans HV1.out)) (by rw [List.length_append]; have := HL.out; simp; omega) (HT0.out.on HV1.out)).mono ?_
           rintro e w2 ⟨v2, rfl, ho2, hb2⟩
           have HO2 := hid ho2; have HV2 := hid (HV1.out.trans hb2)
           have HZ2 := hid (hb2.box HZ1.out (by decide))
           have HK2 : Hid (w2.cell? ⟨w.heap.size, 1, none⟩ = some (.slice po np pc)) := hid (heap_cell HZ2.out 1)
           clear ho2 hb2))
    have q2 := heap_cell HZ2.out 2
    simp at q2
    have hl2 : (l ++ [40, 102, 117, 110, 99] ++ valsT [32, 40, 112, 97, 114, 97, 109] lp).length ≤ 400000000 := by
      have h1 := valsT_len (w := [32, 40, 112, 97, 114, 97, 109]) lp HFT.out.ps
      have := HL.out; have := HPL.out
      simp only [List.length_append, List.length_cons, List.length_nil] at *; omega
    have HL2 := hid hl2
    clear hl2 q1
    go_wp2_with fail
    refine (putVals_any B (l ++ [40, 102, 117, 110, 99] ++ valsT [32, 40, 112, 97, 114, 97, 109] lp) ⟨#[32, 40, 114, 101, 115, 117, 108, 116]⟩ (by decide) _ lr HRL.out HFT.out.rs _ _ (fun w' h => by have := (HV.out w' ((HW0.out.trans HV2.out).trans h)).2.1; exact this) HO2.out (HB.out.on (HW0.out.trans HV2.out)) HL2.out (HT0.out.on HV2.out)).mono ?_
    rintro e wt ⟨vt, rfl, hot, hbt⟩
    obtain ⟨Lt, hLt⟩ : ∃ LL, l ++ [40, 102, 117, 110, 99] ++ valsT [32, 40, 112, 97, 114, 97, 109] lp ++ valsT [32, 40, 114, 101, 115, 117, 108, 116] lr = LL := ⟨_, rfl⟩
    have hot : OwnB B wt vt Lt := by rw [← hLt]; exact hot
    obtain ⟨at', ct, rfl⟩ := hot.form
    have HEt := hid (show l ++ headT ⟨fin, sups, 1, lp, lr, lf⟩ = Lt by rw [← hLt]; unfold headT; simp)
    have hkt : Lt.length ≤ 440000000 := by rw [← HEt.out, List.length_append]; have := HHL.out; have := HL.out; omega
    have HKt := hid hkt
    obtain ⟨nt, hnt⟩ : ∃ nn, Lt.length = nn := ⟨_, rfl⟩
    rw [hnt] at hot ⊢
    have HOt := hid hot; have HVt := hid (HV2.out.trans hbt)
    clear hot hbt hLt hkt hnt q2
    have zt := HVt.out.box Z0.out (by decide)
    have qt := heap_cell zt 3
    simp at qt
    clear zt
    go_wp2_with fail
    go_loopw [0, 6, 33] (fun t0 _ t33 wr => ∃ (i : Nat) (L : List UInt8), t33 = .int .i64 (i : Nat) ∧ i ≤ n ∧ L = Lt ++ listT fieldT (lf.take i) ∧ OwnB B wr t0 L ∧ Wr B W0 wr) (fun _ _ t33 _ => n - (intOf t33).toNat)
    case atStart => exact ⟨0, _, rfl, Nat.zero_le _, by simp [listT], HOt.out, HVt.out⟩
    case round =>
      obtain ⟨i, L, rfl, hi, hL, ho, hw0⟩ := hrel
      have hw := HW0.out.trans hw0
      obtain ⟨a2, c2, rfl⟩ := ho.form
      have hlb : L.length ≤ 540000000 := by
        have h1 := listT_len (f := fieldT) (c := 70) (lf.take i) (fun v hv => fieldT_len v (HFT.out.fs v (List.mem_of_mem_take hv)).1 (HFT.out.fs v (List.mem_of_mem_take hv)).2)
        have h2 : (lf.take i).length ≤ i := List.length_take_le _ _
        have h3 : (lf.take i).length * 71 ≤ i * 71 := Nat.mul_le_mul_right _ h2
        have := HKt.out; have := HNL.out
        rw [hL, List.length_append]; omega
      obtain ⟨ln, hln⟩ : ∃ ln, L.length = ln := ⟨_, rfl⟩
      rw [hln] at ho hlb ⊢
      have HO := hid ho; have HW := hid hw; have HWz := hid hw0; have HLL := hid hL; have HLN := hid hln
      have HLB := hid (show L.length ≤ 540000000 by rw [hln]; exact hlb)
      clear ho hw hw0 hL hln hlb
      by_cases hlt : i < n
      · obtain ⟨x, hx⟩ : ∃ x, lf[i]? = some x := ⟨lf[i]'(by rw [HN.out]; exact hlt), by simp⟩
        have hvr := (HV.out wr HW.out).2.2
        rw [← HN.out] at hvr
        obtain ⟨xp, ⟨xk, xnl, xh, xn⟩, xm⟩ := x
        obtain ⟨b, off, rfl, hbl, p0, p1, p2, p3, p4, p5⟩ := fls_at hvr hx
        dsimp only at p0 p1 p2 p3 p4 p5
        have HX := hid hx; have HI := hid hlt
        have hlt' : (i : Int) < n := by omega
        have HI6 := hid (show (i : Int) < 1000000 by have := HNL.out; omega)
        have HOx := hid (show OwnB B (((wr.alloc (.cells #[.int .i64 xp, .int .i64 xk, .bool xnl, .int .i64 xh, .int .i64 xn, .bool xm] 115)).alloc (.cells #[.int .u8 32] 5)).drew) _ L from ((HO.out.alloc _).alloc _).drew)
        have HWx := hid (show Wr B w (((wr.alloc (.cells #[.int .i64 xp, .int .i64 xk, .bool xnl, .int .i64 xh, .int .i64 xn, .bool xm] 115)).alloc (.cells #[.int .u8 32] 5)).drew) from ((HW.out.alloc (HB.out.on HW.out) _).alloc ((HB.out.on HW.out).alloc _) _).drew)
        have HZx := hid (show (((wr.alloc (.cells #[.int .i64 xp, .int .i64 xk, .bool xnl, .int .i64 xh, .int .i64 xn, .bool xm] 115)).alloc (.cells #[.int .u8 32] 5)).drew).heap[wr.heap.size]? = some (.cells #[.int .i64 xp, .int .i64 xk, .bool xnl, .int .i64 xh, .int .i64 xn, .bool xm] 115 (0, 0)) from heap_alloc_keep (heap_alloc_at _ _ rfl) _)
        have HCx := hid (chr_cells (c := 32) (W := (((wr.alloc (.cells #[.int .i64 xp, .int .i64 xk, .bool xnl, .int .i64 xh, .int .i64 xn, .bool xm] 115)).alloc (.cells #[.int .u8 32] 5)).drew)) (q := wr.heap.size + 1) (heap_alloc_at (wr.alloc (.cells #[.int .i64 xp, .int .i64 xk, .bool xnl, .int .i64 xh, .int .i64 xn, .bool xm] 115)) (.cells #[.int .u8 32] 5) (by simp)))
        have HWq := hid (show Wr B W0 (((wr.alloc (.cells #[.int .i64 xp, .int .i64 xk, .bool xnl, .int .i64 xh, .int .i64 xn, .bool xm] 115)).alloc (.cells #[.int .u8 32] 5)).drew) from ((HWz.out.alloc (HB.out.on HW.out) _).alloc ((HB.out.on HW.out).alloc _) _).drew)
        have HWz1 := HWz
        clear hx hvr hbl hlt hi
        go_wp2_with fail
        go_region_held_law (fun w' => w'.cell? ⟨wr.heap.size, 0, none⟩ = some (.int .i64 xp) ∧ w'.cell? ⟨wr.heap.size, 1, none⟩ = some (.int .i64 xk) ∧ w'.cell? ⟨wr.heap.size, 2, none⟩ = some (.bool xnl) ∧ w'.cell? ⟨wr.heap.size, 3, none⟩ = some (.int .i64 xh) ∧ w'.cell? ⟨wr.heap.size, 4, none⟩ = some (.int .i64 xn) ∧ w'.cell? ⟨wr.heap.size, 5, none⟩ = some (.bool xm)) (first | exact HK1.out | exact HK2.out | simp)
          (first
            | (refine step_ap_row rfl (.tmp 37) (.tmp 38) rfl rfl HOx.out ⟨wr.heap.size + 1, 0, none⟩ 1 1 [32] rfl rfl HCx.out (HB.out.on HWx.out) (by have := HLB.out; simp; omega) ?_
               intro v1 w1 o1 r1
               have HO1 := hid o1; have HQ1 := hid (HWq.out.trans r1); have HV1 := hid (HWx.out.trans r1)
               have HZ1 := hid (r1.box HZx.out (by decide))
               have HK1 : Hid (w1.cell? ⟨wr.heap.size, 0, none⟩ = some (.int .i64 xp) ∧ w1.cell? ⟨wr.heap.size, 1, none⟩ = some (.int .i64 xk) ∧ w1.cell? ⟨wr.heap.size, 2, none⟩ = some (.bool xnl) ∧ w1.cell? ⟨wr.heap.size, 3, none⟩ = some (.int .i64 xh) ∧ w1.cell? ⟨wr.heap.size, 4, none⟩ = some (.int .i64 xn) ∧ w1.cell? ⟨wr.heap.size, 5, none⟩ = some (.bool xm)) := hid ⟨box1 HZ1.out 0 _ rfl, box1 HZ1.out 1 _ rfl, box1 HZ1.out 2 _ rfl, box1 HZ1.out 3 _ rfl, box1 HZ1.out 4 _ rfl, box1 HZ1.out 5 _ rfl⟩
               clear o1 r1)
            | (go_simp; go_at_call 138; refine (putField_any B (L ++ [32]) ⟨xp, ⟨xk, xnl, xh, xn⟩, xm⟩ (HBX.out i ⟨xp, ⟨xk, xnl, xh, xn⟩, xm⟩ HX.out).1 (HBX.out i ⟨xp, ⟨xk, xnl, xh, xn⟩, xm⟩ HX.out).2 _ _ HO1.out (HB.out.on HV1.out) (by rw [List.length_append]; have := HLB.out; simp; omega) (HT.out.on HV1.out)).mono ?_
               rintro e w2 ⟨v2, rfl, ho2, hb2⟩
               have HO2 := hid ho2; have HZ9 := hid (HQ1.out.trans hb2); have HW2 := hid (HV1.out.trans hb2)
               have HK2 : Hid (w2.cell? ⟨wr.heap.size, 0, none⟩ = some (.int .i64 xp) ∧ w2.cell? ⟨wr.heap.size, 1, none⟩ = some (.int .i64 xk) ∧ w2.cell? ⟨wr.heap.size, 2, none⟩ = some (.bool xnl) ∧ w2.cell? ⟨wr.heap.size, 3, none⟩ = some (.int .i64 xh) ∧ w2.cell? ⟨wr.heap.size, 4, none⟩ = some (.int .i64 xn) ∧ w2.cell? ⟨wr.heap.size, 5, none⟩ = some (.bool xm)) := (have HZ2 := hb2.box HZ1.out (by decide); hid ⟨box1 HZ2 0 _ rfl, box1 HZ2 1 _ rfl, box1 HZ2 2 _ rfl, box1 HZ2 3 _ rfl, box1 HZ2 4 _ rfl, box1 HZ2 5 _ rfl⟩)
               clear ho2 hb2))
        have hi6 := HI6.out
        go_wp2
        go_roundw
        case rel => exact ⟨i + 1, _, by go_num, HI.out, by rw [HLL.out, listT_snoc HX.out]; simp, HO2.out, HZ9.out⟩
        case measure => have := HI.out; simp [intOf]; omega
      · have hlt' : ¬ (i : Int) < n := by omega
        have HE := hid (show L = Lt ++ listT fieldT lf by rw [HLL.out, List.take_of_length_le (by rw [HN.out]; omega)])
        clear hlt hi
        have HCe4 := hid (chr_cells (c := 41) (heap_alloc_at wr (.cells #[.int .u8 41] 5) rfl))
        have HFe4 := hid ((HB.out.on HW.out).alloc (.cells #[.int .u8 41] 5)); have HOe4 := hid (HO.out.alloc (.cells #[.int .u8 41] 5)); have HWe4 := hid (HW.out.alloc (HB.out.on HW.out) (.cells #[.int .u8 41] 5))
        go_wp2_with (at_builtin; refine wpList_ap_row rfl _ _ rfl rfl HOe4.out ⟨wr.heap.size, 0, none⟩ 1 1 [41] rfl rfl HCe4.out HFe4.out ?c1 ?_)
        case c1 => have := HLB.out; simp; omega
        intro v4 w4 ho4 hv4
        have hr4 := HWe4.out.trans hv4
        obtain ⟨L4, hL4⟩ : ∃ LL, L ++ [41] = LL := ⟨_, rfl⟩
        have hb4 : L4.length ≤ 540000001 := by have := HLB.out; rw [← hL4, List.length_append]; simp; omega
        have ho4 : OwnB B w4 v4 L4 := by rw [← hL4]; exact ho4
        obtain ⟨a4, c4, rfl⟩ := ho4.form
        obtain ⟨n4, hn4⟩ : ∃ nn, L4.length = nn := ⟨_, rfl⟩
        rw [hn4] at ho4 hb4 ⊢
        have HO4 := hid ho4; have HW4 := hid hr4; have HV4 := hid hv4; have HE4 := hid hL4; have HN4 := hid hn4; have HK4 := hid hb4
        clear ho4 hr4 hv4 hL4 hn4 hb4
        go_wp2
        go_ret
        refine ⟨_, rfl, ?_, HW4.out⟩
        have := HO4.out
        rw [← HE4.out, HE.out, ← HEt.out] at this
        unfold compT
        simpa [List.append_assoc] using this
  by_cases k2 : k = 2
  · subst k2
    go_enter Tryz.func125, Tryz.ntmps125
    have HFx1 := hid (HB.out.on HW0x.out)
    go_wp2_with (at_builtin; refine wpList_ap_str rfl _ _ rfl rfl HO0x.out ⟨#[40, 115, 116, 114, 117, 99, 116]⟩ rfl HFx1.out ?c1 ?_)
    case c1 => have := HL.out; have e : (⟨#[40, 115, 116, 114, 117, 99, 116]⟩ : ByteArray).size = 7 := rfl; omega
    intro v1 w1 ho1 hv1
    have hr1 := HW0x.out.trans hv1
    obtain ⟨L1, hL1⟩ : ∃ LL, l ++ [40, 115, 116, 114, 117, 99, 116] = LL := ⟨_, rfl⟩
    have hb1 : L1.length ≤ 300000007 := by have := HL.out; rw [← hL1, List.length_append]; simp; omega
    have ho1 : OwnB B w1 v1 L1 := by rw [← hL1]; exact ho1
    obtain ⟨a1, c1, rfl⟩ := ho1.form
    obtain ⟨n1, hn1⟩ : ∃ nn, L1.length = nn := ⟨_, rfl⟩
    rw [hn1] at ho1 hb1 ⊢
    have HO1 := hid ho1; have HW1 := hid hr1; have HV1 := hid hv1; have HE1 := hid hL1; have HN1 := hid hn1; have HK1 := hid hb1
    clear ho1 hr1 hv1 hL1 hn1 hb1
    have hv1 := HV1.out
    rw [HWx.out] at hv1
    have HVt := hid hv1
    have HOt := HO1
    have HEt := hid (show l ++ headT ⟨fin, sups, 2, lp, lr, lf⟩ = L1 by rw [← HE1.out]; rfl)
    have HKt := hid (show L1.length ≤ 440000000 by have := HK1.out; have := HN1.out; omega)
    clear hv1
    have zt := HVt.out.box Z0.out (by decide)
    have qt := heap_cell zt 3
    simp at qt
    clear zt
    go_wp2_with fail
    go_loopw [0, 6, 33] (fun t0 _ t33 wr => ∃ (i : Nat) (L : List UInt8), t33 = .int .i64 (i : Nat) ∧ i ≤ n ∧ L = L1 ++ listT fieldT (lf.take i) ∧ OwnB B wr t0 L ∧ Wr B W0 wr) (fun _ _ t33 _ => n - (intOf t33).toNat)
    case atStart => exact ⟨0, _, rfl, Nat.zero_le _, by simp [listT], HOt.out, HVt.out⟩
    case round =>
      obtain ⟨i, L, rfl, hi, hL, ho, hw0⟩ := hrel
      have hw := HW0.out.trans hw0
      obtain ⟨a2, c2, rfl⟩ := ho.form
      have hlb : L.length ≤ 540000000 := by
        have h1 := listT_len (f := fieldT) (c := 70) (lf.take i) (fun v hv => fieldT_len v (HFT.out.fs v (List.mem_of_mem_take hv)).1 (HFT.out.fs v (List.mem_of_mem_take hv)).2)
        have h2 : (lf.take i).length ≤ i := List.length_take_le _ _
        have h3 : (lf.take i).length * 71 ≤ i * 71 := Nat.mul_le_mul_right _ h2
        have := HKt.out; have := HNL.out
        rw [hL, List.length_append]; omega
      obtain ⟨ln, hln⟩ : ∃ ln, L.length = ln := ⟨_, rfl⟩
      rw [hln] at ho hlb ⊢
      have HO := hid ho; have HW := hid hw; have HWz := hid hw0; have HLL := hid hL; have HLN := hid hln
      have HLB := hid (show L.length ≤ 540000000 by rw [hln]; exact hlb)
      clear ho hw hw0 hL hln hlb
      by_cases hlt : i < n
      · obtain ⟨x, hx⟩ : ∃ x, lf[i]? = some x := ⟨lf[i]'(by rw [HN.out]; exact hlt), by simp⟩
        have hvr := (HV.out wr HW.out).2.2
        rw [← HN.out] at hvr
        obtain ⟨xp, ⟨xk, xnl, xh, xn⟩, xm⟩ := x
        obtain ⟨b, off, rfl, hbl, p0, p1, p2, p3, p4, p5⟩ := fls_at hvr hx
        dsimp only at p0 p1 p2 p3 p4 p5
        have HX := hid hx; have HI := hid hlt
        have hlt' : (i : Int) < n := by omega
        have HI6 := hid (show (i : Int) < 1000000 by have := HNL.out; omega)
        have HOx := hid (show OwnB B (((wr.alloc (.cells #[.int .i64 xp, .int .i64 xk, .bool xnl, .int .i64 xh, .int .i64 xn, .bool xm] 115)).alloc (.cells #[.int .u8 32] 5)).drew) _ L from ((HO.out.alloc _).alloc _).drew)
        have HWx := hid (show Wr B w (((wr.alloc (.cells #[.int .i64 xp, .int .i64 xk, .bool xnl, .int .i64 xh, .int .i64 xn, .bool xm] 115)).alloc (.cells #[.int .u8 32] 5)).drew) from ((HW.out.alloc (HB.out.on HW.out) _).alloc ((HB.out.on HW.out).alloc _) _).drew)
        have HZx := hid (show (((wr.alloc (.cells #[.int .i64 xp, .int .i64 xk, .bool xnl, .int .i64 xh, .int .i64 xn, .bool xm] 115)).alloc (.cells #[.int .u8 32] 5)).drew).heap[wr.heap.size]? = some (.cells #[.int .i64 xp, .int .i64 xk, .bool xnl, .int .i64 xh, .int .i64 xn, .bool xm] 115 (0, 0)) from heap_alloc_keep (heap_alloc_at _ _ rfl) _)
        have HCx := hid (chr_cells (c := 32) (W := (((wr.alloc (.cells #[.int .i64 xp, .int .i64 xk, .bool xnl, .int .i64 xh, .int .i64 xn, .bool xm] 115)).alloc (.cells #[.int .u8 32] 5)).drew)) (q := wr.heap.size + 1) (heap_alloc_at (wr.alloc (.cells #[.int .i64 xp, .int .i64 xk, .bool xnl, .int .i64 xh, .int .i64 xn, .bool xm] 115)) (.cells #[.int .u8 32] 5) (by simp)))
        have HWq := hid (show Wr B W0 (((wr.alloc (.cells #[.int .i64 xp, .int .i64 xk, .bool xnl, .int .i64 xh, .int .i64 xn, .bool xm] 115)).alloc (.cells #[.int .u8 32] 5)).drew) from ((HWz.out.alloc (HB.out.on HW.out) _).alloc ((HB.out.on HW.out).alloc _) _).drew)
        have HWz1 := HWz
        clear hx hvr hbl hlt hi
        go_wp2_with fail
        go_region_held_law (fun w' => w'.cell? ⟨wr.heap.size, 0, none⟩ = some (.int .i64 xp) ∧ w'.cell? ⟨wr.heap.size, 1, none⟩ = some (.int .i64 xk) ∧ w'.cell? ⟨wr.heap.size, 2, none⟩ = some (.bool xnl) ∧ w'.cell? ⟨wr.heap.size, 3, none⟩ = some (.int .i64 xh) ∧ w'.cell? ⟨wr.heap.size, 4, none⟩ = some (.int .i64 xn) ∧ w'.cell? ⟨wr.heap.size, 5, none⟩ = some (.bool xm)) (first | exact HK1.out | exact HK2.out | simp)
          (first
            | (refine step_ap_row rfl (.tmp 37) (.tmp 38) rfl rfl HOx.out ⟨wr.heap.size + 1, 0, none⟩ 1 1 [32] rfl rfl HCx.out (HB.out.on HWx.out) (by have := HLB.out; simp; omega) ?_
               intro v1 w1 o1 r1
               have HO1 := hid o1; have HQ1 := hid (HWq.out.trans r1); have HV1 := hid (HWx.out.trans r1)
               have HZ1 := hid (r1.box HZx.out (by decide))
               have HK1 : Hid (w1.cell? ⟨wr.heap.size, 0, none⟩ = some (.int .i64 xp) ∧ w1.cell? ⟨wr.heap.size, 1, none⟩ = some (.int .i64 xk) ∧ w1.cell? ⟨wr.heap.size, 2, none⟩ = some (.bool xnl) ∧ w1.cell? ⟨wr.heap.size, 3, none⟩ = some (.int .i64 xh) ∧ w1.cell? ⟨wr.heap.size, 4, none⟩ = some (.int .i64 xn) ∧ w1.cell? ⟨wr.heap.size, 5, none⟩ = some (.bool xm)) := hid ⟨box1 HZ1.out 0 _ rfl, box1 HZ1.out 1 _ rfl, box1 HZ1.out 2 _ rfl, box1 HZ1.out 3 _ rfl, box1 HZ1.out 4 _ rfl, box1 HZ1.out 5 _ rfl⟩
               clear o1 r1)
            | (go_simp; go_at_call 138; refine (putField_any B (L ++ [32]) ⟨xp, ⟨xk, xnl, xh, xn⟩, xm⟩ (HBX.out i ⟨xp, ⟨xk, xnl, xh, xn⟩, xm⟩ HX.out).1 (HBX.out i ⟨xp, ⟨xk, xnl, xh, xn⟩, xm⟩ HX.out).2 _ _ HO1.out (HB.out.on HV1.out) (by rw [List.length_append]; have := HLB.out; simp; omega) (HT.out.on HV1.out)).mono ?_
               rintro e w2 ⟨v2, rfl, ho2, hb2⟩
               have HO2 := hid ho2; have HZ9 := hid (HQ1.out.trans hb2); have HW2 := hid (HV1.out.trans hb2)
               have HK2 : Hid (w2.cell? ⟨wr.heap.size, 0, none⟩ = some (.int .i64 xp) ∧ w2.cell? ⟨wr.heap.size, 1, none⟩ = some (.int .i64 xk) ∧ w2.cell? ⟨wr.heap.size, 2, none⟩ = some (.bool xnl) ∧ w2.cell? ⟨wr.heap.size, 3, none⟩ = some (.int .i64 xh) ∧ w2.cell? ⟨wr.heap.size, 4, none⟩ = some (.int .i64 xn) ∧ w2.cell? ⟨wr.heap.size, 5, none⟩ = some (.bool xm)) := (have HZ2 := hb2.box HZ1.out (by decide); hid ⟨box1 HZ2 0 _ rfl, box1 HZ2 1 _ rfl, box1 HZ2 2 _ rfl, box1 HZ2 3 _ rfl, box1 HZ2 4 _ rfl, box1 HZ2 5 _ rfl⟩)
               clear ho2 hb2))
        have hi6 := HI6.out
        go_wp2
        go_roundw
        case rel => exact ⟨i + 1, _, by go_num, HI.out, by rw [HLL.out, listT_snoc HX.out]; simp, HO2.out, HZ9.out⟩
        case measure => have := HI.out; simp [intOf]; omega
      · have hlt' : ¬ (i : Int) < n := by omega
        have HE := hid (show L = L1 ++ listT fieldT lf by rw [HLL.out, List.take_of_length_le (by rw [HN.out]; omega)])
        clear hlt hi
        have HCe4 := hid (chr_cells (c := 41) (heap_alloc_at wr (.cells #[.int .u8 41] 5) rfl))
        have HFe4 := hid ((HB.out.on HW.out).alloc (.cells #[.int .u8 41] 5)); have HOe4 := hid (HO.out.alloc (.cells #[.int .u8 41] 5)); have HWe4 := hid (HW.out.alloc (HB.out.on HW.out) (.cells #[.int .u8 41] 5))
        go_wp2_with (at_builtin; refine wpList_ap_row rfl _ _ rfl rfl HOe4.out ⟨wr.heap.size, 0, none⟩ 1 1 [41] rfl rfl HCe4.out HFe4.out ?c1 ?_)
        case c1 => have := HLB.out; simp; omega
        intro v4 w4 ho4 hv4
        have hr4 := HWe4.out.trans hv4
        obtain ⟨L4, hL4⟩ : ∃ LL, L ++ [41] = LL := ⟨_, rfl⟩
        have hb4 : L4.length ≤ 540000001 := by have := HLB.out; rw [← hL4, List.length_append]; simp; omega
        have ho4 : OwnB B w4 v4 L4 := by rw [← hL4]; exact ho4
        obtain ⟨a4, c4, rfl⟩ := ho4.form
        obtain ⟨n4, hn4⟩ : ∃ nn, L4.length = nn := ⟨_, rfl⟩
        rw [hn4] at ho4 hb4 ⊢
        have HO4 := hid ho4; have HW4 := hid hr4; have HV4 := hid hv4; have HE4 := hid hL4; have HN4 := hid hn4; have HK4 := hid hb4
        clear ho4 hr4 hv4 hL4 hn4 hb4
        go_wp2
        go_ret
        refine ⟨_, rfl, ?_, HW4.out⟩
        have := HO4.out
        rw [← HE4.out, HE.out, ← HEt.out] at this
        unfold compT
        simpa [List.append_assoc] using this
  by_cases k3 : k = 3
  · subst k3
    go_enter Tryz.func125, Tryz.ntmps125
    have HFx1 := hid (HB.out.on HW0x.out)
    go_wp2_with (at_builtin; refine wpList_ap_str rfl _ _ rfl rfl HO0x.out ⟨#[40, 97, 114, 114, 97, 121]⟩ rfl HFx1.out ?c1 ?_)
    case c1 => have := HL.out; have e : (⟨#[40, 97, 114, 114, 97, 121]⟩ : ByteArray).size = 6 := rfl; omega
    intro v1 w1 ho1 hv1
    have hr1 := HW0x.out.trans hv1
    obtain ⟨L1, hL1⟩ : ∃ LL, l ++ [40, 97, 114, 114, 97, 121] = LL := ⟨_, rfl⟩
    have hb1 : L1.length ≤ 300000006 := by have := HL.out; rw [← hL1, List.length_append]; simp; omega
    have ho1 : OwnB B w1 v1 L1 := by rw [← hL1]; exact ho1
    obtain ⟨a1, c1, rfl⟩ := ho1.form
    obtain ⟨n1, hn1⟩ : ∃ nn, L1.length = nn := ⟨_, rfl⟩
    rw [hn1] at ho1 hb1 ⊢
    have HO1 := hid ho1; have HW1 := hid hr1; have HV1 := hid hv1; have HE1 := hid hL1; have HN1 := hid hn1; have HK1 := hid hb1
    clear ho1 hr1 hv1 hL1 hn1 hb1
    have hv1 := HV1.out
    rw [HWx.out] at hv1
    have HVt := hid hv1
    have HOt := HO1
    have HEt := hid (show l ++ headT ⟨fin, sups, 3, lp, lr, lf⟩ = L1 by rw [← HE1.out]; rfl)
    have HKt := hid (show L1.length ≤ 440000000 by have := HK1.out; have := HN1.out; omega)
    clear hv1
    have zt := HVt.out.box Z0.out (by decide)
    have qt := heap_cell zt 3
    simp at qt
    clear zt
    go_wp2_with fail
    go_loopw [0, 6, 33] (fun t0 _ t33 wr => ∃ (i : Nat) (L : List UInt8), t33 = .int .i64 (i : Nat) ∧ i ≤ n ∧ L = L1 ++ listT fieldT (lf.take i) ∧ OwnB B wr t0 L ∧ Wr B W0 wr) (fun _ _ t33 _ => n - (intOf t33).toNat)
    case atStart => exact ⟨0, _, rfl, Nat.zero_le _, by simp [listT], HOt.out, HVt.out⟩
    case round =>
      obtain ⟨i, L, rfl, hi, hL, ho, hw0⟩ := hrel
      have hw := HW0.out.trans hw0
      obtain ⟨a2, c2, rfl⟩ := ho.form
      have hlb : L.length ≤ 540000000 := by
        have h1 := listT_len (f := fieldT) (c := 70) (lf.take i) (fun v hv => fieldT_len v (HFT.out.fs v (List.mem_of_mem_take hv)).1 (HFT.out.fs v (List.mem_of_mem_take hv)).2)
        have h2 : (lf.take i).length ≤ i := List.length_take_le _ _
        have h3 : (lf.take i).length * 71 ≤ i * 71 := Nat.mul_le_mul_right _ h2
        have := HKt.out; have := HNL.out
        rw [hL, List.length_append]; omega
      obtain ⟨ln, hln⟩ : ∃ ln, L.length = ln := ⟨_, rfl⟩
      rw [hln] at ho hlb ⊢
      have HO := hid ho; have HW := hid hw; have HWz := hid hw0; have HLL := hid hL; have HLN := hid hln
      have HLB := hid (show L.length ≤ 540000000 by rw [hln]; exact hlb)
      clear ho hw hw0 hL hln hlb
      by_cases hlt : i < n
      · obtain ⟨x, hx⟩ : ∃ x, lf[i]? = some x := ⟨lf[i]'(by rw [HN.out]; exact hlt), by simp⟩
        have hvr := (HV.out wr HW.out).2.2
        rw [← HN.out] at hvr
        obtain ⟨xp, ⟨xk, xnl, xh, xn⟩, xm⟩ := x
        obtain ⟨b, off, rfl, hbl, p0, p1, p2, p3, p4, p5⟩ := fls_at hvr hx
        dsimp only at p0 p1 p2 p3 p4 p5
        have HX := hid hx; have HI := hid hlt
        have hlt' : (i : Int) < n := by omega
        have HI6 := hid (show (i : Int) < 1000000 by have := HNL.out; omega)
        have HOx := hid (show OwnB B (((wr.alloc (.cells #[.int .i64 xp, .int .i64 xk, .bool xnl, .int .i64 xh, .int .i64 xn, .bool xm] 115)).alloc (.cells #[.int .u8 32] 5)).drew) _ L from ((HO.out.alloc _).alloc _).drew)
        have HWx := hid (show Wr B w (((wr.alloc (.cells #[.int .i64 xp, .int .i64 xk, .bool xnl, .int .i64 xh, .int .i64 xn, .bool xm] 115)).alloc (.cells #[.int .u8 32] 5)).drew) from ((HW.out.alloc (HB.out.on HW.out) _).alloc ((HB.out.on HW.out).alloc _) _).drew)
        have HZx := hid (show (((wr.alloc (.cells #[.int .i64 xp, .int .i64 xk, .bool xnl, .int .i64 xh, .int .i64 xn, .bool xm] 115)).alloc (.cells #[.int .u8 32] 5)).drew).heap[wr.heap.size]? = some (.cells #[.int .i64 xp, .int .i64 xk, .bool xnl, .int .i64 xh, .int .i64 xn, .bool xm] 115 (0, 0)) from heap_alloc_keep (heap_alloc_at _ _ rfl) _)
        have HCx := hid (chr_cells (c := 32) (W := (((wr.alloc (.cells #[.int .i64 xp, .int .i64 xk, .bool xnl, .int .i64 xh, .int .i64 xn, .bool xm] 115)).alloc (.cells #[.int .u8 32] 5)).drew)) (q := wr.heap.size + 1) (heap_alloc_at (wr.alloc (.cells #[.int .i64 xp, .int .i64 xk, .bool xnl, .int .i64 xh, .int .i64 xn, .bool xm] 115)) (.cells #[.int .u8 32] 5) (by simp)))
        have HWq := hid (show Wr B W0 (((wr.alloc (.cells #[.int .i64 xp, .int .i64 xk, .bool xnl, .int .i64 xh, .int .i64 xn, .bool xm] 115)).alloc (.cells #[.int .u8 32] 5)).drew) from ((HWz.out.alloc (HB.out.on HW.out) _).alloc ((HB.out.on HW.out).alloc _) _).drew)
        have HWz1 := HWz
        clear hx hvr hbl hlt hi
        go_wp2_with fail
        go_region_held_law (fun w' => w'.cell? ⟨wr.heap.size, 0, none⟩ = some (.int .i64 xp) ∧ w'.cell? ⟨wr.heap.size, 1, none⟩ = some (.int .i64 xk) ∧ w'.cell? ⟨wr.heap.size, 2, none⟩ = some (.bool xnl) ∧ w'.cell? ⟨wr.heap.size, 3, none⟩ = some (.int .i64 xh) ∧ w'.cell? ⟨wr.heap.size, 4, none⟩ = some (.int .i64 xn) ∧ w'.cell? ⟨wr.heap.size, 5, none⟩ = some (.bool xm)) (first | exact HK1.out | exact HK2.out | simp)
          (first
            | (refine step_ap_row rfl (.tmp 37) (.tmp 38) rfl rfl HOx.out ⟨wr.heap.size + 1, 0, none⟩ 1 1 [32] rfl rfl HCx.out (HB.out.on HWx.out) (by have := HLB.out; simp; omega) ?_
               intro v1 w1 o1 r1
               have HO1 := hid o1; have HQ1 := hid (HWq.out.trans r1); have HV1 := hid (HWx.out.trans r1)
               have HZ1 := hid (r1.box HZx.out (by decide))
               have HK1 : Hid (w1.cell? ⟨wr.heap.size, 0, none⟩ = some (.int .i64 xp) ∧ w1.cell? ⟨wr.heap.size, 1, none⟩ = some (.int .i64 xk) ∧ w1.cell? ⟨wr.heap.size, 2, none⟩ = some (.bool xnl) ∧ w1.cell? ⟨wr.heap.size, 3, none⟩ = some (.int .i64 xh) ∧ w1.cell? ⟨wr.heap.size, 4, none⟩ = some (.int .i64 xn) ∧ w1.cell? ⟨wr.heap.size, 5, none⟩ = some (.bool xm)) := hid ⟨box1 HZ1.out 0 _ rfl, box1 HZ1.out 1 _ rfl, box1 HZ1.out 2 _ rfl, box1 HZ1.out 3 _ rfl, box1 HZ1.out 4 _ rfl, box1 HZ1.out 5 _ rfl⟩
               clear o1 r1)
            | (go_simp; go_at_call 138; refine (putField_any B (L ++ [32]) ⟨xp, ⟨xk, xnl, xh, xn⟩, xm⟩ (HBX.out i ⟨xp, ⟨xk, xnl, xh, xn⟩, xm⟩ HX.out).1 (HBX.out i ⟨xp, ⟨xk, xnl, xh, xn⟩, xm⟩ HX.out).2 _ _ HO1.out (HB.out.on HV1.out) (by rw [List.length_append]; have := HLB.out; simp; omega) (HT.out.on HV1.out)).mono ?_
               rintro e w2 ⟨v2, rfl, ho2, hb2⟩
               have HO2 := hid ho2; have HZ9 := hid (HQ1.out.trans hb2); have HW2 := hid (HV1.out.trans hb2)
               have HK2 : Hid (w2.cell? ⟨wr.heap.size, 0, none⟩ = some (.int .i64 xp) ∧ w2.cell? ⟨wr.heap.size, 1, none⟩ = some (.int .i64 xk) ∧ w2.cell? ⟨wr.heap.size, 2, none⟩ = some (.bool xnl) ∧ w2.cell? ⟨wr.heap.size, 3, none⟩ = some (.int .i64 xh) ∧ w2.cell? ⟨wr.heap.size, 4, none⟩ = some (.int .i64 xn) ∧ w2.cell? ⟨wr.heap.size, 5, none⟩ = some (.bool xm)) := (have HZ2 := hb2.box HZ1.out (by decide); hid ⟨box1 HZ2 0 _ rfl, box1 HZ2 1 _ rfl, box1 HZ2 2 _ rfl, box1 HZ2 3 _ rfl, box1 HZ2 4 _ rfl, box1 HZ2 5 _ rfl⟩)
               clear ho2 hb2))
        have hi6 := HI6.out
        go_wp2
        go_roundw
        case rel => exact ⟨i + 1, _, by go_num, HI.out, by rw [HLL.out, listT_snoc HX.out]; simp, HO2.out, HZ9.out⟩
        case measure => have := HI.out; simp [intOf]; omega
      · have hlt' : ¬ (i : Int) < n := by omega
        have HE := hid (show L = L1 ++ listT fieldT lf by rw [HLL.out, List.take_of_length_le (by rw [HN.out]; omega)])
        clear hlt hi
        have HCe4 := hid (chr_cells (c := 41) (heap_alloc_at wr (.cells #[.int .u8 41] 5) rfl))
        have HFe4 := hid ((HB.out.on HW.out).alloc (.cells #[.int .u8 41] 5)); have HOe4 := hid (HO.out.alloc (.cells #[.int .u8 41] 5)); have HWe4 := hid (HW.out.alloc (HB.out.on HW.out) (.cells #[.int .u8 41] 5))
        go_wp2_with (at_builtin; refine wpList_ap_row rfl _ _ rfl rfl HOe4.out ⟨wr.heap.size, 0, none⟩ 1 1 [41] rfl rfl HCe4.out HFe4.out ?c1 ?_)
        case c1 => have := HLB.out; simp; omega
        intro v4 w4 ho4 hv4
        have hr4 := HWe4.out.trans hv4
        obtain ⟨L4, hL4⟩ : ∃ LL, L ++ [41] = LL := ⟨_, rfl⟩
        have hb4 : L4.length ≤ 540000001 := by have := HLB.out; rw [← hL4, List.length_append]; simp; omega
        have ho4 : OwnB B w4 v4 L4 := by rw [← hL4]; exact ho4
        obtain ⟨a4, c4, rfl⟩ := ho4.form
        obtain ⟨n4, hn4⟩ : ∃ nn, L4.length = nn := ⟨_, rfl⟩
        rw [hn4] at ho4 hb4 ⊢
        have HO4 := hid ho4; have HW4 := hid hr4; have HV4 := hid hv4; have HE4 := hid hL4; have HN4 := hid hn4; have HK4 := hid hb4
        clear ho4 hr4 hv4 hL4 hn4 hb4
        go_wp2
        go_ret
        refine ⟨_, rfl, ?_, HW4.out⟩
        have := HO4.out
        rw [← HE4.out, HE.out, ← HEt.out] at this
        unfold compT
        simpa [List.append_assoc] using this
  · go_enter Tryz.func125, Tryz.ntmps125
    have HFx1 := hid (HB.out.on HW0x.out)
    go_wp2_with (at_builtin; refine wpList_ap_str rfl _ _ rfl rfl HO0x.out ⟨#[40, 110, 111, 110, 101]⟩ rfl HFx1.out ?c1 ?_)
    case c1 => have := HL.out; have e : (⟨#[40, 110, 111, 110, 101]⟩ : ByteArray).size = 5 := rfl; omega
    intro v1 w1 ho1 hv1
    have hr1 := HW0x.out.trans hv1
    obtain ⟨L1, hL1⟩ : ∃ LL, l ++ [40, 110, 111, 110, 101] = LL := ⟨_, rfl⟩
    have hb1 : L1.length ≤ 300000005 := by have := HL.out; rw [← hL1, List.length_append]; simp; omega
    have ho1 : OwnB B w1 v1 L1 := by rw [← hL1]; exact ho1
    obtain ⟨a1, c1, rfl⟩ := ho1.form
    obtain ⟨n1, hn1⟩ : ∃ nn, L1.length = nn := ⟨_, rfl⟩
    rw [hn1] at ho1 hb1 ⊢
    have HO1 := hid ho1; have HW1 := hid hr1; have HV1 := hid hv1; have HE1 := hid hL1; have HN1 := hid hn1; have HK1 := hid hb1
    clear ho1 hr1 hv1 hL1 hn1 hb1
    have hv1 := HV1.out
    rw [HWx.out] at hv1
    have HVt := hid hv1
    have HOt := HO1
    have HEt := hid (show l ++ headT ⟨fin, sups, k, lp, lr, lf⟩ = L1 by rw [← HE1.out]; unfold headT; rw [if_neg k1, if_neg k2, if_neg k3])
    have HKt := hid (show L1.length ≤ 440000000 by have := HK1.out; have := HN1.out; omega)
    clear hv1
    have zt := HVt.out.box Z0.out (by decide)
    have qt := heap_cell zt 3
    simp at qt
    clear zt
    go_wp2_with fail
    go_loopw [0, 6, 33] (fun t0 _ t33 wr => ∃ (i : Nat) (L : List UInt8), t33 = .int .i64 (i : Nat) ∧ i ≤ n ∧ L = L1 ++ listT fieldT (lf.take i) ∧ OwnB B wr t0 L ∧ Wr B W0 wr) (fun _ _ t33 _ => n - (intOf t33).toNat)
    case atStart => exact ⟨0, _, rfl, Nat.zero_le _, by simp [listT], HOt.out, HVt.out⟩
    case round =>
      obtain ⟨i, L, rfl, hi, hL, ho, hw0⟩ := hrel
      have hw := HW0.out.trans hw0
      obtain ⟨a2, c2, rfl⟩ := ho.form
      have hlb : L.length ≤ 540000000 := by
        have h1 := listT_len (f := fieldT) (c := 70) (lf.take i) (fun v hv => fieldT_len v (HFT.out.fs v (List.mem_of_mem_take hv)).1 (HFT.out.fs v (List.mem_of_mem_take hv)).2)
        have h2 : (lf.take i).length ≤ i := List.length_take_le _ _
        have h3 : (lf.take i).length * 71 ≤ i * 71 := Nat.mul_le_mul_right _ h2
        have := HKt.out; have := HNL.out
        rw [hL, List.length_append]; omega
      obtain ⟨ln, hln⟩ : ∃ ln, L.length = ln := ⟨_, rfl⟩
      rw [hln] at ho hlb ⊢
      have HO := hid ho; have HW := hid hw; have HWz := hid hw0; have HLL := hid hL; have HLN := hid hln
      have HLB := hid (show L.length ≤ 540000000 by rw [hln]; exact hlb)
      clear ho hw hw0 hL hln hlb
      by_cases hlt : i < n
      · obtain ⟨x, hx⟩ : ∃ x, lf[i]? = some x := ⟨lf[i]'(by rw [HN.out]; exact hlt), by simp⟩
        have hvr := (HV.out wr HW.out).2.2
        rw [← HN.out] at hvr
        obtain ⟨xp, ⟨xk, xnl, xh, xn⟩, xm⟩ := x
        obtain ⟨b, off, rfl, hbl, p0, p1, p2, p3, p4, p5⟩ := fls_at hvr hx
        dsimp only at p0 p1 p2 p3 p4 p5
        have HX := hid hx; have HI := hid hlt
        have hlt' : (i : Int) < n := by omega
        have HI6 := hid (show (i : Int) < 1000000 by have := HNL.out; omega)
        have HOx := hid (show OwnB B (((wr.alloc (.cells #[.int .i64 xp, .int .i64 xk, .bool xnl, .int .i64 xh, .int .i64 xn, .bool xm] 115)).alloc (.cells #[.int .u8 32] 5)).drew) _ L from ((HO.out.alloc _).alloc _).drew)
        have HWx := hid (show Wr B w (((wr.alloc (.cells #[.int .i64 xp, .int .i64 xk, .bool xnl, .int .i64 xh, .int .i64 xn, .bool xm] 115)).alloc (.cells #[.int .u8 32] 5)).drew) from ((HW.out.alloc (HB.out.on HW.out) _).alloc ((HB.out.on HW.out).alloc _) _).drew)
        have HZx := hid (show (((wr.alloc (.cells #[.int .i64 xp, .int .i64 xk, .bool xnl, .int .i64 xh, .int .i64 xn, .bool xm] 115)).alloc (.cells #[.int .u8 32] 5)).drew).heap[wr.heap.size]? = some (.cells #[.int .i64 xp, .int .i64 xk, .bool xnl, .int .i64 xh, .int .i64 xn, .bool xm] 115 (0, 0)) from heap_alloc_keep (heap_alloc_at _ _ rfl) _)
        have HCx := hid (chr_cells (c := 32) (W := (((wr.alloc (.cells #[.int .i64 xp, .int .i64 xk, .bool xnl, .int .i64 xh, .int .i64 xn, .bool xm] 115)).alloc (.cells #[.int .u8 32] 5)).drew)) (q := wr.heap.size + 1) (heap_alloc_at (wr.alloc (.cells #[.int .i64 xp, .int .i64 xk, .bool xnl, .int .i64 xh, .int .i64 xn, .bool xm] 115)) (.cells #[.int .u8 32] 5) (by simp)))
        have HWq := hid (show Wr B W0 (((wr.alloc (.cells #[.int .i64 xp, .int .i64 xk, .bool xnl, .int .i64 xh, .int .i64 xn, .bool xm] 115)).alloc (.cells #[.int .u8 32] 5)).drew) from ((HWz.out.alloc (HB.out.on HW.out) _).alloc ((HB.out.on HW.out).alloc _) _).drew)
        have HWz1 := HWz
        clear hx hvr hbl hlt hi
        go_wp2_with fail
        go_region_held_law (fun w' => w'.cell? ⟨wr.heap.size, 0, none⟩ = some (.int .i64 xp) ∧ w'.cell? ⟨wr.heap.size, 1, none⟩ = some (.int .i64 xk) ∧ w'.cell? ⟨wr.heap.size, 2, none⟩ = some (.bool xnl) ∧ w'.cell? ⟨wr.heap.size, 3, none⟩ = some (.int .i64 xh) ∧ w'.cell? ⟨wr.heap.size, 4, none⟩ = some (.int .i64 xn) ∧ w'.cell? ⟨wr.heap.size, 5, none⟩ = some (.bool xm)) (first | exact HK1.out | exact HK2.out | simp)
          (first
            | (refine step_ap_row rfl (.tmp 37) (.tmp 38) rfl rfl HOx.out ⟨wr.heap.size + 1, 0, none⟩ 1 1 [32] rfl rfl HCx.out (HB.out.on HWx.out) (by have := HLB.out; simp; omega) ?_
               intro v1 w1 o1 r1
               have HO1 := hid o1; have HQ1 := hid (HWq.out.trans r1); have HV1 := hid (HWx.out.trans r1)
               have HZ1 := hid (r1.box HZx.out (by decide))
               have HK1 : Hid (w1.cell? ⟨wr.heap.size, 0, none⟩ = some (.int .i64 xp) ∧ w1.cell? ⟨wr.heap.size, 1, none⟩ = some (.int .i64 xk) ∧ w1.cell? ⟨wr.heap.size, 2, none⟩ = some (.bool xnl) ∧ w1.cell? ⟨wr.heap.size, 3, none⟩ = some (.int .i64 xh) ∧ w1.cell? ⟨wr.heap.size, 4, none⟩ = some (.int .i64 xn) ∧ w1.cell? ⟨wr.heap.size, 5, none⟩ = some (.bool xm)) := hid ⟨box1 HZ1.out 0 _ rfl, box1 HZ1.out 1 _ rfl, box1 HZ1.out 2 _ rfl, box1 HZ1.out 3 _ rfl, box1 HZ1.out 4 _ rfl, box1 HZ1.out 5 _ rfl⟩
               clear o1 r1)
            | (go_simp; go_at_call 138; refine (putField_any B (L ++ [32]) ⟨xp, ⟨xk, xnl, xh, xn⟩, xm⟩ (HBX.out i ⟨xp, ⟨xk, xnl, xh, xn⟩, xm⟩ HX.out).1 (HBX.out i ⟨xp, ⟨xk, xnl, xh, xn⟩, xm⟩ HX.out).2 _ _ HO1.out (HB.out.on HV1.out) (by rw [List.length_append]; have := HLB.out; simp; omega) (HT.out.on HV1.out)).mono ?_
               rintro e w2 ⟨v2, rfl, ho2, hb2⟩
               have HO2 := hid ho2; have HZ9 := hid (HQ1.out.trans hb2); have HW2 := hid (HV1.out.trans hb2)
               have HK2 : Hid (w2.cell? ⟨wr.heap.size, 0, none⟩ = some (.int .i64 xp) ∧ w2.cell? ⟨wr.heap.size, 1, none⟩ = some (.int .i64 xk) ∧ w2.cell? ⟨wr.heap.size, 2, none⟩ = some (.bool xnl) ∧ w2.cell? ⟨wr.heap.size, 3, none⟩ = some (.int .i64 xh) ∧ w2.cell? ⟨wr.heap.size, 4, none⟩ = some (.int .i64 xn) ∧ w2.cell? ⟨wr.heap.size, 5, none⟩ = some (.bool xm)) := (have HZ2 := hb2.box HZ1.out (by decide); hid ⟨box1 HZ2 0 _ rfl, box1 HZ2 1 _ rfl, box1 HZ2 2 _ rfl, box1 HZ2 3 _ rfl, box1 HZ2 4 _ rfl, box1 HZ2 5 _ rfl⟩)
               clear ho2 hb2))
        have hi6 := HI6.out
        go_wp2
        go_roundw
        case rel => exact ⟨i + 1, _, by go_num, HI.out, by rw [HLL.out, listT_snoc HX.out]; simp, HO2.out, HZ9.out⟩
        case measure => have := HI.out; simp [intOf]; omega
      · have hlt' : ¬ (i : Int) < n := by omega
        have HE := hid (show L = L1 ++ listT fieldT lf by rw [HLL.out, List.take_of_length_le (by rw [HN.out]; omega)])
        clear hlt hi
        have HCe4 := hid (chr_cells (c := 41) (heap_alloc_at wr (.cells #[.int .u8 41] 5) rfl))
        have HFe4 := hid ((HB.out.on HW.out).alloc (.cells #[.int .u8 41] 5)); have HOe4 := hid (HO.out.alloc (.cells #[.int .u8 41] 5)); have HWe4 := hid (HW.out.alloc (HB.out.on HW.out) (.cells #[.int .u8 41] 5))
        go_wp2_with (at_builtin; refine wpList_ap_row rfl _ _ rfl rfl HOe4.out ⟨wr.heap.size, 0, none⟩ 1 1 [41] rfl rfl HCe4.out HFe4.out ?c1 ?_)
        case c1 => have := HLB.out; simp; omega
        intro v4 w4 ho4 hv4
        have hr4 := HWe4.out.trans hv4
        obtain ⟨L4, hL4⟩ : ∃ LL, L ++ [41] = LL := ⟨_, rfl⟩
        have hb4 : L4.length ≤ 540000001 := by have := HLB.out; rw [← hL4, List.length_append]; simp; omega
        have ho4 : OwnB B w4 v4 L4 := by rw [← hL4]; exact ho4
        obtain ⟨a4, c4, rfl⟩ := ho4.form
        obtain ⟨n4, hn4⟩ : ∃ nn, L4.length = nn := ⟨_, rfl⟩
        rw [hn4] at ho4 hb4 ⊢
        have HO4 := hid ho4; have HW4 := hid hr4; have HV4 := hid hv4; have HE4 := hid hL4; have HN4 := hid hn4; have HK4 := hid hb4
        clear ho4 hr4 hv4 hL4 hn4 hb4
        go_wp2
        go_ret
        refine ⟨_, rfl, ?_, HW4.out⟩
        have := HO4.out
        rw [← HE4.out, HE.out, ← HEt.out] at this
        unfold compT
        simpa [List.append_assoc] using this
end Go.Proofs.YtpddbaijnjbfdaaGreatDoor
