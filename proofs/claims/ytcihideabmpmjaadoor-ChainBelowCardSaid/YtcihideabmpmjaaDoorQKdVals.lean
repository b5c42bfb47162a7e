/- package kind: the writing of lists. -/
import Derived.Test.YtcihideabmpmjaaDoorQKdField
namespace Go.Proofs.YtcihideabmpmjaaDoor
open Go.RowKit

theorem listT_snoc {α : Type} {f : α → List UInt8} {l : List α} {i : Nat} {x : α} (h : l[i]? = some x) : listT f (l.take (i + 1)) = listT f (l.take i) ++ (32 :: f x) := by
  have hlt := (List.getElem?_eq_some_iff.1 h).1
  have hx : l[i] = x := (List.getElem?_eq_some_iff.1 h).2
  rw [List.take_succ_eq_append_getElem hlt, hx]
  unfold listT
  simp
theorem listT_len {α : Type} {f : α → List UInt8} {c : Nat} : ∀ (l : List α), (∀ x ∈ l, (f x).length ≤ c) → (listT f l).length ≤ l.length * (c + 1)
  | [], _ => by simp [listT]
  | x :: l, h => by
    have ih := listT_len l (fun y hy => h y (by simp [hy]))
    have hx := h x (by simp)
    unfold listT at ih ⊢
    rw [List.flatMap_cons, List.length_append, List.length_cons, List.length_cons, Nat.add_mul]
    omega
theorem valsT_len {w : List UInt8} (l : List Vl) (h : ∀ v ∈ l, B64 v.n) : (valsT w l).length ≤ w.length + l.length * 61 + 1 := by
  unfold valsT
  split
  · simp
  · have := listT_len (f := valT) (c := 60) l (fun v hv => valT_len v (h v hv))
    simp; omega
set_option maxRecDepth 100000 in
set_option maxHeartbeats 8000000 in
theorem putVals_any (B : Bs) (l : List UInt8) (s : ByteArray) (hs : s.size ≤ 100) (vv : Value) (vl : List Vl) (hvl : vl.length ≤ 1000000) (hx : ∀ v ∈ vl, B64 v.n) (sv : Value) (w : World) (hv : ∀ w', Wr B w w' → ValsAt w' vv vl) (hown : OwnB B w sv l) (hB : Fit B w) (hl : l.length ≤ 400000000) (ht : Tb B w) :
    Calls Tryd.prog 74 #[sv, .string s, vv] w (PutPost B w (l ++ valsT s.data.toList vl)) := by
  obtain ⟨ao, cap, rfl⟩ := hown.form
  obtain ⟨vo, vcap, rfl⟩ := RowAt.form (hv w (Wr.refl B w))
  obtain ⟨n, hn⟩ : ∃ n, vl.length = n := ⟨_, rfl⟩
  have HBX := Lib.hid (show ∀ i x, vl[i]? = some x → B64 x.n from fun i x h => hx x (List.mem_of_getElem? h))
  have HV := Lib.hid hv; have HO0 := Lib.hid hown; have HB := Lib.hid hB; have HL := Lib.hid hl; have HT := Lib.hid ht; have HS := Lib.hid hs; have HN := Lib.hid hn; have HNL := Lib.hid hvl; have HXX := Lib.hid hx
  rw [hn] at HNL ⊢
  have hn6 : (n : Int) ≤ 1000000 := by omega
  clear hx hv hown hB hl ht hs hn hvl
  unfold valsT
  by_cases h0 : n = 0
  · subst h0
    have e : vl = [] := List.eq_nil_of_length_eq_zero HN.out
    rw [if_pos e, List.append_nil]
    clear e
    go_enter Tryd.func74, Tryd.ntmps74
    go_wp2
    go_ret
    exact ⟨_, rfl, HO0.out, Wr.refl _ _⟩
  have e : vl ≠ [] := fun e => h0 (by rw [← HN.out, e]; rfl)
  rw [if_neg e]
  have h0' : ((n : Int) == 0) = false := by simpa using h0
  clear e
  go_enter Tryd.func74, Tryd.ntmps74
  go_wp2_with (at_builtin; refine wpList_ap_str rfl _ _ rfl rfl HO0.out s rfl HB.out ?c1 ?_)
  case c1 => have := HL.out; have := HS.out; omega
  intro v1 w1 ho1 hr1
  obtain ⟨a1, c1, rfl⟩ := ho1.form
  obtain ⟨n1, hn1⟩ : ∃ n1, (l ++ s.data.toList).length = n1 := ⟨_, rfl⟩
  rw [hn1] at ho1 ⊢
  have HO1 := Lib.hid ho1; have HR1 := Lib.hid hr1
  clear ho1 hr1 hn1
  go_wp2_with fail
  go_loopw [0, 8, 18] (fun t0 _ t18 wr => ∃ (i : Nat) (L : List UInt8), t18 = .int .i64 (i : Nat) ∧ i ≤ n ∧ L = l ++ s.data.toList ++ listT valT (vl.take i) ∧ OwnB B wr t0 L ∧ Wr B w wr) (fun _ _ t18 _ => n - (intOf t18).toNat)
  case atStart => exact ⟨0, _, rfl, Nat.zero_le _, by simp [listT], HO1.out, HR1.out⟩
  case round =>
    obtain ⟨i, L, rfl, hi, hL, ho, hw⟩ := hrel
    obtain ⟨a2, c2, rfl⟩ := ho.form
    have hlb : L.length ≤ 480000000 := by
      have h1 := listT_len (f := valT) (c := 60) (vl.take i) (fun v hv => valT_len v (HXX.out v (List.mem_of_mem_take hv)))
      have h2 : (vl.take i).length ≤ i := List.length_take_le _ _
      have h3 : (vl.take i).length * 61 ≤ i * 61 := Nat.mul_le_mul_right _ h2
      have := HL.out; have := HS.out; have := HNL.out
      have e1 : s.data.toList.length = s.size := rfl
      rw [hL, List.length_append, List.length_append]; omega
    obtain ⟨ln, hln⟩ : ∃ ln, L.length = ln := ⟨_, rfl⟩
    rw [hln] at ho hlb ⊢
    have HO := Lib.hid ho; have HW := Lib.hid hw; have HLL := Lib.hid hL; have HLN := Lib.hid hln
    have HLB := Lib.hid (show L.length ≤ 480000000 by rw [hln]; exact hlb)
    clear ho hw hL hln hlb h0'
    by_cases hlt : i < n
    · obtain ⟨x, hx⟩ : ∃ x, vl[i]? = some x := ⟨vl[i]'(by rw [HN.out]; exact hlt), by simp⟩
      have hvr := HV.out wr HW.out
      obtain ⟨xk, xnl, xh, xn⟩ := x
      obtain ⟨b, off, rfl, hbl, p0, p1, p2, p3⟩ := vals_at hvr hx
      dsimp only at p0 p1 p2 p3
      have HX := Lib.hid hx; have HI := Lib.hid hlt
      have hlt' : (i : Int) < n := by omega
      have HI6 := Lib.hid (show (i : Int) < 1000000 by omega)
      have HOx := Lib.hid (show OwnB B (((wr.alloc (.cells #[.int .i64 xk, .bool xnl, .int .i64 xh, .int .i64 xn] 74)).alloc (.cells #[.int .u8 32] 5)).drew) _ L from ((HO.out.alloc _).alloc _).drew)
      have HWx := Lib.hid (show Wr B w (((wr.alloc (.cells #[.int .i64 xk, .bool xnl, .int .i64 xh, .int .i64 xn] 74)).alloc (.cells #[.int .u8 32] 5)).drew) from ((HW.out.alloc (HB.out.on HW.out) _).alloc ((HB.out.on HW.out).alloc _) _).drew)
      have HZx := Lib.hid (show (((wr.alloc (.cells #[.int .i64 xk, .bool xnl, .int .i64 xh, .int .i64 xn] 74)).alloc (.cells #[.int .u8 32] 5)).drew).heap[wr.heap.size]? = some (.cells #[.int .i64 xk, .bool xnl, .int .i64 xh, .int .i64 xn] 74 (0, 0)) from heap_alloc_keep (heap_alloc_at _ _ rfl) _)
      have HCx := Lib.hid (chr_cells (c := 32) (W := (((wr.alloc (.cells #[.int .i64 xk, .bool xnl, .int .i64 xh, .int .i64 xn] 74)).alloc (.cells #[.int .u8 32] 5)).drew)) (q := wr.heap.size + 1) (heap_alloc_at (wr.alloc (.cells #[.int .i64 xk, .bool xnl, .int .i64 xh, .int .i64 xn] 74)) (.cells #[.int .u8 32] 5) (by simp)))
      clear hx hvr hbl hlt hi h0 hn6
      go_wp2_with fail
      go_region_held_law (fun w' => w'.cell? ⟨wr.heap.size, 0, none⟩ = some (.int .i64 xk) ∧ w'.cell? ⟨wr.heap.size, 1, none⟩ = some (.bool xnl) ∧ w'.cell? ⟨wr.heap.size, 2, none⟩ = some (.int .i64 xh) ∧ w'.cell? ⟨wr.heap.size, 3, none⟩ = some (.int .i64 xn)) (first | exact HK1.out | exact HK2.out | simp)
        (first
          | (refine step_ap_row rfl (.tmp 22) (.tmp 23) rfl rfl HOx.out ⟨wr.heap.size + 1, 0, none⟩ 1 1 [32] rfl rfl HCx.out (HB.out.on HWx.out) (by have := HLB.out; simp; omega) ?_
             intro v1 w1 o1 r1
             have HO1 := Lib.hid o1; have HV1 := Lib.hid (HWx.out.trans r1)
             have HZ1 := Lib.hid (r1.box HZx.out (by decide))
             have HK1 : Hid (w1.cell? ⟨wr.heap.size, 0, none⟩ = some (.int .i64 xk) ∧ w1.cell? ⟨wr.heap.size, 1, none⟩ = some (.bool xnl) ∧ w1.cell? ⟨wr.heap.size, 2, none⟩ = some (.int .i64 xh) ∧ w1.cell? ⟨wr.heap.size, 3, none⟩ = some (.int .i64 xn)) := Lib.hid ⟨box1 HZ1.out 0 _ rfl, box1 HZ1.out 1 _ rfl, box1 HZ1.out 2 _ rfl, box1 HZ1.out 3 _ rfl⟩
             clear o1 r1)
          | (go_simp; go_at_call 78; refine (putVal_any B (L ++ [32]) ⟨xk, xnl, xh, xn⟩ (HBX.out i ⟨xk, xnl, xh, xn⟩ HX.out) _ _ HO1.out (HB.out.on HV1.out) (by rw [List.length_append]; have := HLB.out; simp; omega) (HT.out.on HV1.out)).mono ?_
             rintro e w2 ⟨v2, rfl, ho2, hb2⟩
             have HO2 := Lib.hid ho2; have HW2 := Lib.hid (HV1.out.trans hb2)
             have HK2 : Hid (w2.cell? ⟨wr.heap.size, 0, none⟩ = some (.int .i64 xk) ∧ w2.cell? ⟨wr.heap.size, 1, none⟩ = some (.bool xnl) ∧ w2.cell? ⟨wr.heap.size, 2, none⟩ = some (.int .i64 xh) ∧ w2.cell? ⟨wr.heap.size, 3, none⟩ = some (.int .i64 xn)) := (have HZ2 := hb2.box HZ1.out (by decide); Lib.hid ⟨box1 HZ2 0 _ rfl, box1 HZ2 1 _ rfl, box1 HZ2 2 _ rfl, box1 HZ2 3 _ rfl⟩)
             clear ho2 hb2))
      have hi6 := HI6.out
      go_wp2
      go_roundw
      case rel => exact ⟨i + 1, _, by go_num, HI.out, by rw [HLL.out, listT_snoc HX.out]; simp, HO2.out, HW2.out⟩
      case measure => have := HI.out; simp [intOf]; omega
    · have hlt' : ¬ (i : Int) < n := by omega
      have HE := Lib.hid (show L = l ++ s.data.toList ++ listT valT vl by rw [HLL.out, List.take_of_length_le (by rw [HN.out]; omega)])
      clear hlt hi h0
      have HCe4 := Lib.hid (chr_cells (c := 41) (heap_alloc_at wr (.cells #[.int .u8 41] 5) rfl))
      have HFe4 := Lib.hid ((HB.out.on HW.out).alloc (.cells #[.int .u8 41] 5)); have HOe4 := Lib.hid (HO.out.alloc (.cells #[.int .u8 41] 5)); have HWe4 := Lib.hid (HW.out.alloc (HB.out.on HW.out) (.cells #[.int .u8 41] 5))
      go_wp2_with (at_builtin; refine wpList_ap_row rfl _ _ rfl rfl HOe4.out ⟨wr.heap.size, 0, none⟩ 1 1 [41] rfl rfl HCe4.out HFe4.out ?c1 ?_)
      case c1 => have := HLB.out; simp; omega
      intro v4 w4 ho4 hv4
      have hr4 := HWe4.out.trans hv4
      obtain ⟨L4, hL4⟩ : ∃ LL, L ++ [41] = LL := ⟨_, rfl⟩
      have hb4 : L4.length ≤ 480000001 := by have := HLB.out; rw [← hL4, List.length_append]; simp; omega
      have ho4 : OwnB B w4 v4 L4 := by rw [← hL4]; exact ho4
      obtain ⟨a4, c4, rfl⟩ := ho4.form
      obtain ⟨n4, hn4⟩ : ∃ nn, L4.length = nn := ⟨_, rfl⟩
      rw [hn4] at ho4 hb4 ⊢
      have HO4 := Lib.hid ho4; have HW4 := Lib.hid hr4; have HV4 := Lib.hid hv4; have HE4 := Lib.hid hL4; have HN4 := Lib.hid hn4; have HK4 := Lib.hid hb4
      clear ho4 hr4 hv4 hL4 hn4 hb4
      go_wp2
      go_ret
      refine ⟨_, rfl, ?_, HW4.out⟩
      have := HO4.out
      rw [← HE4.out, HE.out] at this
      simpa [List.append_assoc] using this
end Go.Proofs.YtcihideabmpmjaaDoor
