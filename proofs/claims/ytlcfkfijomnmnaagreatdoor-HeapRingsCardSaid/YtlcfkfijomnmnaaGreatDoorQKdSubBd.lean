import Derived.Test.YtlcfkfijomnmnaaGreatDoorQKdValBd
namespace Go.Proofs.YtlcfkfijomnmnaaGreatDoor
open Lib (hid)
section
open Go.RowKit
theorem valT_len (v : Vl) (hn : B64 v.n) : (valT v).length ≤ 60 := by
  have := heapT_len ⟨v.h, v.n⟩ hn
  unfold valT
  split
  · decide
  · split
    · decide
    · split
      · split <;> simp <;> omega
      · split <;> decide
theorem storeT_len (f : Fl) (h1 : B64 f.v.n) (h2 : B64 f.p) : (storeT f).length ≤ 60 := by
  have := Lib.itoa_length_le f.p h2.1 h2.2
  unfold storeT
  split
  · exact valT_len _ h1
  · simp; omega
theorem fieldT_len (f : Fl) (h1 : B64 f.v.n) (h2 : B64 f.p) : (fieldT f).length ≤ 70 := by
  have := storeT_len f h1 h2
  unfold fieldT
  split
  · simp; omega
  · omega
theorem box1 {w : World} {b : Nat} {cs : Array Value} {t : TypeId} {fr : Nat × Nat} (h : w.heap[b]? = some (.cells cs t fr)) (j : Nat) (u : Value) (hu : cs[j]? = some u) : w.cell? ⟨b, j, none⟩ = some u := by rw [heap_cell h, hu]
set_option maxRecDepth 100000 in
set_option maxHeartbeats 4000000 in
theorem putField_pack (B : Bs) (l : List UInt8) (p k : Int) (nl : Bool) (h n : Int) (hp : p ≠ 0) (hn : B64 p) (sv : Value) (w : World) (hown : OwnB B w sv l) (hB : Fit B w) (hl : l.length ≤ 700000000) (ht : Tb B w) :
    Calls Tryz.prog 164 #[sv, .agg #[.int .i64 p, .int .i64 k, .bool nl, .int .i64 h, .int .i64 n, .bool false]] w (PutPost B w (l ++ (105 :: Lib.itoa p))) := by
  obtain ⟨ao, cap, rfl⟩ := hown.form
  have hp' : (p != 0) = true := by simpa using hp
  have HOx := hid (show OwnB B (((w.alloc (.cells #[.int .i64 p, .int .i64 k, .bool nl, .int .i64 h, .int .i64 n, .bool false] 39)).alloc (.cells #[.int .u8 105] 5)).drew) (.slice ao l.length cap) l from ((hown.alloc _).alloc _).drew)
  have HWx := hid (show Wr B w (((w.alloc (.cells #[.int .i64 p, .int .i64 k, .bool nl, .int .i64 h, .int .i64 n, .bool false] 39)).alloc (.cells #[.int .u8 105] 5)).drew) from ((Wr.new hB _).alloc (hB.alloc _) _).drew)
  have HZx := hid (show (((w.alloc (.cells #[.int .i64 p, .int .i64 k, .bool nl, .int .i64 h, .int .i64 n, .bool false] 39)).alloc (.cells #[.int .u8 105] 5)).drew).heap[w.heap.size]? = some (.cells #[.int .i64 p, .int .i64 k, .bool nl, .int .i64 h, .int .i64 n, .bool false] 39 (0, 0)) from heap_alloc_keep (heap_alloc_at _ _ rfl) _)
  have HCx := hid (chr_cells (c := 105) (W := ((w.alloc (.cells #[.int .i64 p, .int .i64 k, .bool nl, .int .i64 h, .int .i64 n, .bool false] 39)).alloc (.cells #[.int .u8 105] 5)).drew) (q := w.heap.size + 1) (heap_alloc_at (w.alloc (.cells #[.int .i64 p, .int .i64 k, .bool nl, .int .i64 h, .int .i64 n, .bool false] 39)) (.cells #[.int .u8 105] 5) (by simp)))
  have HT := hid ht; have HNN := hid hn; have HL := hid hl; have HB := hid hB
  clear hn hown ht hl hB hp
  go_enter Tryz.func164, Tryz.ntmps164
  go_wp2_with fail
  go_region_held_law (fun w' => w'.cell? ⟨w.heap.size, 0, none⟩ = some (.int .i64 p)) (first | exact HK1.out | exact HK2.out | simp)
    (first
      | (refine step_ap_row rfl (.tmp 18) (.tmp 19) rfl rfl HOx.out ⟨w.heap.size + 1, 0, none⟩ 1 1 [105] rfl rfl HCx.out (HB.out.on HWx.out) (by have := HL.out; simp; omega) ?_
         intro v1 w1 o1 r1
         have HO1 := hid o1; have HV1 := hid (HWx.out.trans r1)
         have HZ1 := hid (r1.box HZx.out (by decide))
         have HK1 : Hid (w1.cell? ⟨w.heap.size, 0, none⟩ = some (.int .i64 p)) := hid (box1 HZ1.out 0 _ rfl)
         clear o1 r1)
      | (go_simp; go_at_call 162; refine (appendInt_b B (l ++ [105]) p HNN.out _ _ HO1.out (HB.out.on HV1.out) (by rw [List.length_append]; have := HL.out; simp; omega) (HT.out.on HV1.out)).mono ?_
         rintro e w2 ⟨v2, rfl, ho2, hb2⟩
         have HO2 := hid ho2; have HV2 := hid (HV1.out.trans hb2)
         have HK2 : Hid (w2.cell? ⟨w.heap.size, 0, none⟩ = some (.int .i64 p)) := hid (box1 (hb2.box HZ1.out (by decide)) 0 _ rfl)
         clear ho2 hb2))
  go_wp2
  go_ret
  exact ⟨_, rfl, by have := HO2.out; simpa [List.append_assoc] using this, HV2.out⟩
set_option maxRecDepth 100000 in
theorem putField_val (B : Bs) (l : List UInt8) (k : Int) (nl : Bool) (h n : Int) (hn : B64 n) (sv : Value) (w : World) (hown : OwnB B w sv l) (hB : Fit B w) (hl : l.length ≤ 700000000) (ht : Tb B w) :
    Calls Tryz.prog 164 #[sv, .agg #[.int .i64 0, .int .i64 k, .bool nl, .int .i64 h, .int .i64 n, .bool false]] w (PutPost B w (l ++ valT ⟨k, nl, h, n⟩)) := by
  obtain ⟨ao, cap, rfl⟩ := hown.form
  have HO := hid (hown.alloc (.cells #[.int .i64 0, .int .i64 k, .bool nl, .int .i64 h, .int .i64 n, .bool false] 39)); have HW := hid (Wr.new hB (.cells #[.int .i64 0, .int .i64 k, .bool nl, .int .i64 h, .int .i64 n, .bool false] 39)); have HF := hid (hB.alloc (.cells #[.int .i64 0, .int .i64 k, .bool nl, .int .i64 h, .int .i64 n, .bool false] 39))
  have HT := hid (ht.on HW.out); have HNN := hid hn; have HL := hid hl
  clear hn hown ht hl hB
  go_enter Tryz.func164, Tryz.ntmps164
  go_wp2_with fail
  refine (putVal_any B l ⟨k, nl, h, n⟩ HNN.out _ _ HO.out HF.out (by have := HL.out; omega) HT.out).mono ?_
  rintro e w2 ⟨v2, rfl, ho2, hb2⟩
  have HO2 := hid ho2; have HV2 := hid (HW.out.trans hb2)
  clear ho2 hb2
  go_wp2
  go_ret
  exact ⟨_, rfl, HO2.out, HV2.out⟩
theorem putField_im (B : Bs) (l : List UInt8) (f : Fl) (hm : f.m = false) (h1 : B64 f.v.n) (h2 : B64 f.p) (sv : Value) (w : World) (hown : OwnB B w sv l) (hB : Fit B w) (hl : l.length ≤ 700000000) (ht : Tb B w) :
    Calls Tryz.prog 164 #[sv, .agg (cellsF f).toArray] w (PutPost B w (l ++ storeT f)) := by
  obtain ⟨p, ⟨k, nl, h, n⟩, m⟩ := f
  dsimp only at hm h1 h2
  subst hm
  unfold storeT
  by_cases hp : p = 0
  · subst hp; exact putField_val B l k nl h n h1 sv w hown hB hl ht
  · rw [if_neg hp]; exact putField_pack B l p k nl h n hp h2 sv w hown hB hl ht
set_option maxRecDepth 100000 in
set_option maxHeartbeats 8000000 in
theorem putField_mut (B : Bs) (l : List UInt8) (p k : Int) (nl : Bool) (h n : Int) (h1 : B64 n) (h2 : B64 p) (sv : Value) (w : World) (hown : OwnB B w sv l) (hB : Fit B w) (hl : l.length ≤ 600000000) (ht : Tb B w) :
    Calls Tryz.prog 164 #[sv, .agg #[.int .i64 p, .int .i64 k, .bool nl, .int .i64 h, .int .i64 n, .bool true]] w (PutPost B w (l ++ ([40, 109, 117, 116, 32] ++ storeT ⟨p, ⟨k, nl, h, n⟩, false⟩ ++ [41]))) := by
  obtain ⟨ao, cap, rfl⟩ := hown.form
  -- the worlds at the region: without, and with the last byte's block
  have HOa := hid (show OwnB B ((w.alloc (.cells #[.int .i64 p, .int .i64 k, .bool nl, .int .i64 h, .int .i64 n, .bool false] 39)).drew) (.slice ao l.length cap) l from (hown.alloc _).drew)
  have HWa := hid (show Wr B w ((w.alloc (.cells #[.int .i64 p, .int .i64 k, .bool nl, .int .i64 h, .int .i64 n, .bool false] 39)).drew) from (Wr.new hB _).drew)
  have HZa := hid (show ((w.alloc (.cells #[.int .i64 p, .int .i64 k, .bool nl, .int .i64 h, .int .i64 n, .bool false] 39)).drew).heap[w.heap.size]? = some (.cells #[.int .i64 p, .int .i64 k, .bool nl, .int .i64 h, .int .i64 n, .bool false] 39 (0, 0)) from heap_alloc_at _ _ rfl)
  have HOb := hid (show OwnB (B.add (w.heap.size + 1)) (((w.alloc (.cells #[.int .i64 p, .int .i64 k, .bool nl, .int .i64 h, .int .i64 n, .bool false] 39)).alloc (.cells #[.int .u8 41] 5)).drew) (.slice ao l.length cap) l from ((((hown.alloc (.cells #[.int .i64 p, .int .i64 k, .bool nl, .int .i64 h, .int .i64 n, .bool false] 39)).add ((hown.alloc (.cells #[.int .i64 p, .int .i64 k, .bool nl, .int .i64 h, .int .i64 n, .bool false] 39)).lt (by simp))).alloc _).drew))
  have HWb := hid (show Wr B w (((w.alloc (.cells #[.int .i64 p, .int .i64 k, .bool nl, .int .i64 h, .int .i64 n, .bool false] 39)).alloc (.cells #[.int .u8 41] 5)).drew) from ((Wr.new hB _).alloc (hB.alloc _) _).drew)
  have HFb := hid (show Fit (B.add (w.heap.size + 1)) (((w.alloc (.cells #[.int .i64 p, .int .i64 k, .bool nl, .int .i64 h, .int .i64 n, .bool false] 39)).alloc (.cells #[.int .u8 41] 5)).drew) from (hB.on HWb.out).add (by simp))
  have HZb := hid (show (((w.alloc (.cells #[.int .i64 p, .int .i64 k, .bool nl, .int .i64 h, .int .i64 n, .bool false] 39)).alloc (.cells #[.int .u8 41] 5)).drew).heap[w.heap.size]? = some (.cells #[.int .i64 p, .int .i64 k, .bool nl, .int .i64 h, .int .i64 n, .bool false] 39 (0, 0)) from heap_alloc_keep (heap_alloc_at _ _ rfl) _)
  have HCb := hid (show (((w.alloc (.cells #[.int .i64 p, .int .i64 k, .bool nl, .int .i64 h, .int .i64 n, .bool false] 39)).alloc (.cells #[.int .u8 41] 5)).drew).heap[w.heap.size + 1]? = some (.cells #[.int .u8 41] 5 (0, 0)) from heap_alloc_at (w.alloc (.cells #[.int .i64 p, .int .i64 k, .bool nl, .int .i64 h, .int .i64 n, .bool false] 39)) (.cells #[.int .u8 41] 5) (by simp))
  have HT := hid ht; have HN1 := hid h1; have HN2 := hid h2; have HL := hid hl; have HB := hid hB
  have HL5 := hid (storeT_len ⟨p, ⟨k, nl, h, n⟩, false⟩ h1 h2)
  clear h1 h2 hown ht hl hB
  go_enter Tryz.func164, Tryz.ntmps164
  go_wp2_with fail
  go_region_held_law (fun w' => w'.cell? ⟨w.heap.size, 0, none⟩ = some (.int .i64 p) ∧ w'.cell? ⟨w.heap.size, 1, none⟩ = some (.int .i64 k) ∧ w'.cell? ⟨w.heap.size, 2, none⟩ = some (.bool nl) ∧ w'.cell? ⟨w.heap.size, 3, none⟩ = some (.int .i64 h) ∧ w'.cell? ⟨w.heap.size, 4, none⟩ = some (.int .i64 n) ∧ w'.cell? ⟨w.heap.size, 5, none⟩ = some (.bool false)) (first | exact HK3.out | exact HK4.out | exact HK2.out | exact HKc.out | exact HK1.out | simp)
    (first
      | (refine step_ap_str rfl (.tmp 8) _ rfl rfl HOb.out ⟨#[40, 109, 117, 116, 32]⟩ rfl HFb.out (by have := HL.out; have e : (⟨#[40, 109, 117, 116, 32]⟩ : ByteArray).size = 5 := rfl; omega) ?_
         intro v1 w1 o1 r1
         have HO1 := hid (show OwnB (B.add (w.heap.size + 1)) w1 v1 (l ++ [40, 109, 117, 116, 32]) from o1); have HF1 := hid (HFb.out.on r1); have HV1 := hid (HWb.out.trans r1.less)
         have HZ1 := hid (r1.box HZb.out (by decide)); have HC1 := hid ((r1.prot _ (.inr rfl)).trans HCb.out)
         have HK1 : Hid (w1.cell? ⟨w.heap.size, 0, none⟩ = some (.int .i64 p) ∧ w1.cell? ⟨w.heap.size, 1, none⟩ = some (.int .i64 k) ∧ w1.cell? ⟨w.heap.size, 2, none⟩ = some (.bool nl) ∧ w1.cell? ⟨w.heap.size, 3, none⟩ = some (.int .i64 h) ∧ w1.cell? ⟨w.heap.size, 4, none⟩ = some (.int .i64 n) ∧ w1.cell? ⟨w.heap.size, 5, none⟩ = some (.bool false)) := hid ⟨box1 HZ1.out 0 _ rfl, box1 HZ1.out 1 _ rfl, box1 HZ1.out 2 _ rfl, box1 HZ1.out 3 _ rfl, box1 HZ1.out 4 _ rfl, box1 HZ1.out 5 _ rfl⟩
         clear o1 r1)
      | (refine step_ap_str rfl (.tmp 8) _ rfl rfl HOa.out ⟨#[40, 109, 117, 116, 32]⟩ rfl (HB.out.on HWa.out) (by have := HL.out; have e : (⟨#[40, 109, 117, 116, 32]⟩ : ByteArray).size = 5 := rfl; omega) ?_
         intro v1 w1 o1 r1
         have HP1 := hid (show OwnB B w1 v1 (l ++ [40, 109, 117, 116, 32]) from o1); have HV1 := hid (HWa.out.trans r1)
         have HZ1 := hid (r1.box HZa.out (by decide))
         have HOc := hid (((HP1.out.add (HP1.out.lt (Nat.le_refl _))).alloc (.cells #[.int .u8 41] 5)))
         have HFc := hid (((HB.out.on HV1.out).alloc (.cells #[.int .u8 41] 5)).add (c := w1.heap.size) (by simp))
         have HCc := hid (heap_alloc_at w1 (.cells #[.int .u8 41] 5) rfl)
         have HZc := hid (heap_alloc_keep HZ1.out (.cells #[.int .u8 41] 5))
         have HKc : Hid ((w1.alloc (.cells #[.int .u8 41] 5)).cell? ⟨w.heap.size, 0, none⟩ = some (.int .i64 p) ∧ (w1.alloc (.cells #[.int .u8 41] 5)).cell? ⟨w.heap.size, 1, none⟩ = some (.int .i64 k) ∧ (w1.alloc (.cells #[.int .u8 41] 5)).cell? ⟨w.heap.size, 2, none⟩ = some (.bool nl) ∧ (w1.alloc (.cells #[.int .u8 41] 5)).cell? ⟨w.heap.size, 3, none⟩ = some (.int .i64 h) ∧ (w1.alloc (.cells #[.int .u8 41] 5)).cell? ⟨w.heap.size, 4, none⟩ = some (.int .i64 n) ∧ (w1.alloc (.cells #[.int .u8 41] 5)).cell? ⟨w.heap.size, 5, none⟩ = some (.bool false)) := hid ⟨box1 HZc.out 0 _ rfl, box1 HZc.out 1 _ rfl, box1 HZc.out 2 _ rfl, box1 HZc.out 3 _ rfl, box1 HZc.out 4 _ rfl, box1 HZc.out 5 _ rfl⟩
         have HVc := hid (HV1.out.alloc (HB.out.on HV1.out) (.cells #[.int .u8 41] 5))
         have HK1 : Hid (w1.cell? ⟨w.heap.size, 0, none⟩ = some (.int .i64 p) ∧ w1.cell? ⟨w.heap.size, 1, none⟩ = some (.int .i64 k) ∧ w1.cell? ⟨w.heap.size, 2, none⟩ = some (.bool nl) ∧ w1.cell? ⟨w.heap.size, 3, none⟩ = some (.int .i64 h) ∧ w1.cell? ⟨w.heap.size, 4, none⟩ = some (.int .i64 n) ∧ w1.cell? ⟨w.heap.size, 5, none⟩ = some (.bool false)) := hid ⟨box1 HZ1.out 0 _ rfl, box1 HZ1.out 1 _ rfl, box1 HZ1.out 2 _ rfl, box1 HZ1.out 3 _ rfl, box1 HZ1.out 4 _ rfl, box1 HZ1.out 5 _ rfl⟩
         clear o1 r1)
      | (go_simp; go_at_call 164; refine (putField_im (B.add (w.heap.size + 1)) (l ++ [40, 109, 117, 116, 32]) ⟨p, ⟨k, nl, h, n⟩, false⟩ rfl HN1.out HN2.out _ _ HO1.out HF1.out (by rw [List.length_append]; have := HL.out; simp; omega) (HT.out.on HV1.out)).mono ?_
         rintro e w2 ⟨v2, rfl, o2, r2⟩
         have HO2 := hid o2.less; have HV2 := hid (HV1.out.trans r2.less)
         have HC2 := hid (chr_cells (c := 41) ((r2.prot _ (.inr rfl)).trans HC1.out))
         have HK2 : Hid (w2.cell? ⟨w.heap.size, 0, none⟩ = some (.int .i64 p) ∧ w2.cell? ⟨w.heap.size, 1, none⟩ = some (.int .i64 k) ∧ w2.cell? ⟨w.heap.size, 2, none⟩ = some (.bool nl) ∧ w2.cell? ⟨w.heap.size, 3, none⟩ = some (.int .i64 h) ∧ w2.cell? ⟨w.heap.size, 4, none⟩ = some (.int .i64 n) ∧ w2.cell? ⟨w.heap.size, 5, none⟩ = some (.bool false)) := (have HZ2 := r2.box HZ1.out (by decide); hid ⟨box1 HZ2 0 _ rfl, box1 HZ2 1 _ rfl, box1 HZ2 2 _ rfl, box1 HZ2 3 _ rfl, box1 HZ2 4 _ rfl, box1 HZ2 5 _ rfl⟩)
         have HZ2 := hid (r2.box HZ1.out (by decide))
         clear o2 r2)
      | (go_simp; go_at_call 164; refine (putField_im (B.add w1.heap.size) (l ++ [40, 109, 117, 116, 32]) ⟨p, ⟨k, nl, h, n⟩, false⟩ rfl HN1.out HN2.out _ _ HOc.out HFc.out (by rw [List.length_append]; have := HL.out; simp; omega) (HT.out.on HVc.out)).mono ?_
         rintro e w2 ⟨v2, rfl, o2, r2⟩
         have HO2 := hid o2.less; have HV2 := hid (HVc.out.trans r2.less)
         have HC2 := hid (chr_cells (c := 41) ((r2.prot _ (.inr rfl)).trans HCc.out))
         have HK2 : Hid (w2.cell? ⟨w.heap.size, 0, none⟩ = some (.int .i64 p) ∧ w2.cell? ⟨w.heap.size, 1, none⟩ = some (.int .i64 k) ∧ w2.cell? ⟨w.heap.size, 2, none⟩ = some (.bool nl) ∧ w2.cell? ⟨w.heap.size, 3, none⟩ = some (.int .i64 h) ∧ w2.cell? ⟨w.heap.size, 4, none⟩ = some (.int .i64 n) ∧ w2.cell? ⟨w.heap.size, 5, none⟩ = some (.bool false)) := (have HZ2 := r2.box HZc.out (by decide); hid ⟨box1 HZ2 0 _ rfl, box1 HZ2 1 _ rfl, box1 HZ2 2 _ rfl, box1 HZ2 3 _ rfl, box1 HZ2 4 _ rfl, box1 HZ2 5 _ rfl⟩)
         have HZ2 := hid (r2.box HZc.out (by decide))
         clear o2 r2)
      | (go_simp; go_at_call 164; refine (putField_im B (l ++ [40, 109, 117, 116, 32]) ⟨p, ⟨k, nl, h, n⟩, false⟩ rfl HN1.out HN2.out _ _ HP1.out (HB.out.on HV1.out) (by rw [List.length_append]; have := HL.out; simp; omega) (HT.out.on HV1.out)).mono ?_
         rintro e w2 ⟨v2, rfl, o2, r2⟩
         have HV0 := hid (HV1.out.trans r2)
         have HO2 := hid (o2.alloc (.cells #[.int .u8 41] 5)); have HV2 := hid (HV0.out.alloc (HB.out.on HV0.out) (.cells #[.int .u8 41] 5))
         have HC2 := hid (chr_cells (c := 41) (heap_alloc_at w2 (.cells #[.int .u8 41] 5) rfl))
         have HK2 : Hid (w2.cell? ⟨w.heap.size, 0, none⟩ = some (.int .i64 p) ∧ w2.cell? ⟨w.heap.size, 1, none⟩ = some (.int .i64 k) ∧ w2.cell? ⟨w.heap.size, 2, none⟩ = some (.bool nl) ∧ w2.cell? ⟨w.heap.size, 3, none⟩ = some (.int .i64 h) ∧ w2.cell? ⟨w.heap.size, 4, none⟩ = some (.int .i64 n) ∧ w2.cell? ⟨w.heap.size, 5, none⟩ = some (.bool false)) := (have HZ2 := r2.box HZ1.out (by decide); hid ⟨box1 HZ2 0 _ rfl, box1 HZ2 1 _ rfl, box1 HZ2 2 _ rfl, box1 HZ2 3 _ rfl, box1 HZ2 4 _ rfl, box1 HZ2 5 _ rfl⟩)
         have HZ2 := hid (heap_alloc_keep (r2.box HZ1.out (by decide)) (.cells #[.int .u8 41] 5))
         have HK4 : Hid ((w2.alloc (.cells #[.int .u8 41] 5)).cell? ⟨w.heap.size, 0, none⟩ = some (.int .i64 p) ∧ (w2.alloc (.cells #[.int .u8 41] 5)).cell? ⟨w.heap.size, 1, none⟩ = some (.int .i64 k) ∧ (w2.alloc (.cells #[.int .u8 41] 5)).cell? ⟨w.heap.size, 2, none⟩ = some (.bool nl) ∧ (w2.alloc (.cells #[.int .u8 41] 5)).cell? ⟨w.heap.size, 3, none⟩ = some (.int .i64 h) ∧ (w2.alloc (.cells #[.int .u8 41] 5)).cell? ⟨w.heap.size, 4, none⟩ = some (.int .i64 n) ∧ (w2.alloc (.cells #[.int .u8 41] 5)).cell? ⟨w.heap.size, 5, none⟩ = some (.bool false)) := hid ⟨box1 HZ2.out 0 _ rfl, box1 HZ2.out 1 _ rfl, box1 HZ2.out 2 _ rfl, box1 HZ2.out 3 _ rfl, box1 HZ2.out 4 _ rfl, box1 HZ2.out 5 _ rfl⟩
         clear o2 r2)
      | (refine step_ap_row rfl (.tmp 11) (.tmp 12) rfl rfl HO2.out _ 1 1 [41] rfl rfl HC2.out (HB.out.on HV2.out) (by have := HL.out; have := HL5.out; simp only [List.length_append, List.length_cons, List.length_nil]; omega) ?_
         intro v3 w3 o3 r3
         have HO3 := hid o3; have HV3 := hid (HV2.out.trans r3)
         have HK3 : Hid (w3.cell? ⟨w.heap.size, 0, none⟩ = some (.int .i64 p) ∧ w3.cell? ⟨w.heap.size, 1, none⟩ = some (.int .i64 k) ∧ w3.cell? ⟨w.heap.size, 2, none⟩ = some (.bool nl) ∧ w3.cell? ⟨w.heap.size, 3, none⟩ = some (.int .i64 h) ∧ w3.cell? ⟨w.heap.size, 4, none⟩ = some (.int .i64 n) ∧ w3.cell? ⟨w.heap.size, 5, none⟩ = some (.bool false)) := (have HZ3 := r3.box HZ2.out (by decide); hid ⟨box1 HZ3 0 _ rfl, box1 HZ3 1 _ rfl, box1 HZ3 2 _ rfl, box1 HZ3 3 _ rfl, box1 HZ3 4 _ rfl, box1 HZ3 5 _ rfl⟩)
         clear o3 r3))
  all_goals go_wp2
  all_goals go_ret
  all_goals exact ⟨_, rfl, by have := HO3.out; simpa [List.append_assoc] using this, HV3.out⟩
theorem putField_any (B : Bs) (l : List UInt8) (f : Fl) (h1 : B64 f.v.n) (h2 : B64 f.p) (sv : Value) (w : World) (hown : OwnB B w sv l) (hB : Fit B w) (hl : l.length ≤ 600000000) (ht : Tb B w) :
    Calls Tryz.prog 164 #[sv, .agg (cellsF f).toArray] w (PutPost B w (l ++ fieldT f)) := by
  unfold fieldT
  by_cases hm : f.m = true
  · obtain ⟨p, ⟨k, nl, h, n⟩, m⟩ := f
    dsimp only at hm h1 h2
    subst hm
    exact putField_mut B l p k nl h n h1 h2 sv w hown hB hl ht
  · rw [if_neg hm]; exact putField_im B l f (by simpa using hm) h1 h2 sv w hown hB (by omega) ht
end
section
open Go.RowKit
theorem listT_snoc {α : Type} {f : α → List UInt8} {l : List α} {i : Nat} {x : α} (h : l[i]? = some x) : listT f (l.take (i + 1)) = listT f (l.take i) ++ (32 :: f x) := by
  have hlt := (List.getElem?_eq_some_iff.1 h).1
  have hx : l[i] = x := (List.getElem?_eq_some_iff.1 h).2
  rw [List.take_succ_eq_append_getElem hlt, hx]
  unfold listT
  simp
theorem listT_len {α : Type} {f : α → List UInt8} {c : Nat} : ∀ (l : List α), (∀ x ∈ l, (f x).length ≤ c) → (listT f l).length ≤ l.length * (c + 1)
  | [], _ => by simp [listT]
  | x :: l, h => by
    have ih := listT_len l (fun y hy => h y (by simp [hy]))
    have hx := h x (by simp)
    unfold listT at ih ⊢
    rw [List.flatMap_cons, List.length_append, List.length_cons, List.length_cons, Nat.add_mul]
    omega
theorem valsT_len {w : List UInt8} (l : List Vl) (h : ∀ v ∈ l, B64 v.n) : (valsT w l).length ≤ w.length + l.length * 61 + 1 := by
  unfold valsT
  split
  · simp
  · have := listT_len (f := valT) (c := 60) l (fun v hv => valT_len v (h v hv))
    simp; omega
set_option maxRecDepth 100000 in
set_option maxHeartbeats 8000000 in
theorem putVals_any (B : Bs) (l : List UInt8) (s : ByteArray) (hs : s.size ≤ 100) (vv : Value) (vl : List Vl) (hvl : vl.length ≤ 1000000) (hx : ∀ v ∈ vl, B64 v.n) (sv : Value) (w : World) (hv : ∀ w', Wr B w w' → ValsAt w' vv vl) (hown : OwnB B w sv l) (hB : Fit B w) (hl : l.length ≤ 400000000) (ht : Tb B w) :
    Calls Tryz.prog 163 #[sv, .string s, vv] w (PutPost B w (l ++ valsT s.data.toList vl)) := by
  obtain ⟨ao, cap, rfl⟩ := hown.form
  obtain ⟨vo, vcap, rfl⟩ := RowAt.form (hv w (Wr.refl B w))
  obtain ⟨n, hn⟩ : ∃ n, vl.length = n := ⟨_, rfl⟩
  have HBX := hid (show ∀ i x, vl[i]? = some x → B64 x.n from fun i x h => hx x (List.mem_of_getElem? h))
  have HV := hid hv; have HO0 := hid hown; have HB := hid hB; have HL := hid hl; have HT := hid ht; have HS := hid hs; have HN := hid hn; have HNL := hid hvl; have HXX := hid hx
  rw [hn] at HNL ⊢
  have hn6 : (n : Int) ≤ 1000000 := by omega
  clear hx hv hown hB hl ht hs hn hvl
  unfold valsT
  by_cases h0 : n = 0
  · subst h0
    have e : vl = [] := List.eq_nil_of_length_eq_zero HN.out
    rw [if_pos e, List.append_nil]
    clear e
    go_enter Tryz.func163, Tryz.ntmps163
    go_wp2
    go_ret
    exact ⟨_, rfl, HO0.out, Wr.refl _ _⟩
  have e : vl ≠ [] := fun e => h0 (by rw [← HN.out, e]; rfl)
  rw [if_neg e]
  have h0' : ((n : Int) == 0) = false := by simpa using h0
  clear e
  go_enter Tryz.func163, Tryz.ntmps163
  go_wp2_with (at_builtin; refine wpList_ap_str rfl _ _ rfl rfl HO0.out s rfl HB.out ?c1 ?_)
  case c1 => have := HL.out; have := HS.out; omega
  intro v1 w1 ho1 hr1
  obtain ⟨a1, c1, rfl⟩ := ho1.form
  obtain ⟨n1, hn1⟩ : ∃ n1, (l ++ s.data.toList).length = n1 := ⟨_, rfl⟩
  rw [hn1] at ho1 ⊢
  have HO1 := hid ho1; have HR1 := hid hr1
  clear ho1 hr1 hn1
  go_wp2_with fail
  go_loopw [0, 8, 18] (fun t0 _ t18 wr => ∃ (i : Nat) (L : List UInt8), t18 = .int .i64 (i : Nat) ∧ i ≤ n ∧ L = l ++ s.data.toList ++ listT valT (vl.take i) ∧ OwnB B wr t0 L ∧ Wr B w wr) (fun _ _ t18 _ => n - (intOf t18).toNat)
  case atStart => exact ⟨0, _, rfl, Nat.zero_le _, by simp [listT], HO1.out, HR1.out⟩
  case round =>
    obtain ⟨i, L, rfl, hi, hL, ho, hw⟩ := hrel
    obtain ⟨a2, c2, rfl⟩ := ho.form
    have hlb : L.length ≤ 480000000 := by
      have h1 := listT_len (f := valT) (c := 60) (vl.take i) (fun v hv => valT_len v (HXX.out v (List.mem_of_mem_take hv)))
      have h2 : (vl.take i).length ≤ i := List.length_take_le _ _
      have h3 : (vl.take i).length * 61 ≤ i * 61 := Nat.mul_le_mul_right _ h2
      have := HL.out; have := HS.out; have := HNL.out
      have e1 : s.data.toList.length = s.size := rfl
      rw [hL, List.length_append, List.length_append]; omega
    obtain ⟨ln, hln⟩ : ∃ ln, L.length = ln := ⟨_, rfl⟩
    rw [hln] at ho hlb ⊢
    have HO := hid ho; have HW := hid hw; have HLL := hid hL; have HLN := hid hln
    have HLB := hid (show L.length ≤ 480000000 by rw [hln]; exact hlb)
    clear ho hw hL hln hlb h0'
    by_cases hlt : i < n
    · obtain ⟨x, hx⟩ : ∃ x, vl[i]? = some x := ⟨vl[i]'(by rw [HN.out]; exact hlt), by simp⟩
      have hvr := HV.out wr HW.out
      obtain ⟨xk, xnl, xh, xn⟩ := x
      obtain ⟨b, off, rfl, hbl, p0, p1, p2, p3⟩ := vals_at hvr hx
      dsimp only at p0 p1 p2 p3
      have HX := hid hx; have HI := hid hlt
      have hlt' : (i : Int) < n := by omega
      have HI6 := hid (show (i : Int) < 1000000 by omega)
      have HOx := hid (show OwnB B (((wr.alloc (.cells #[.int .i64 xk, .bool xnl, .int .i64 xh, .int .i64 xn] 35)).alloc (.cells #[.int .u8 32] 5)).drew) _ L from ((HO.out.alloc _).alloc _).drew)
      have HWx := hid (show Wr B w (((wr.alloc (.cells #[.int .i64 xk, .bool xnl, .int .i64 xh, .int .i64 xn] 35)).alloc (.cells #[.int .u8 32] 5)).drew) from ((HW.out.alloc (HB.out.on HW.out) _).alloc ((HB.out.on HW.out).alloc _) _).drew)
      have HZx := hid (show (((wr.alloc (.cells #[.int .i64 xk, .bool xnl, .int .i64 xh, .int .i64 xn] 35)).alloc (.cells #[.int .u8 32] 5)).drew).heap[wr.heap.size]? = some (.cells #[.int .i64 xk, .bool xnl, .int .i64 xh, .int .i64 xn] 35 (0, 0)) from heap_alloc_keep (heap_alloc_at _ _ rfl) _)
      have HCx := hid (chr_cells (c := 32) (W := (((wr.alloc (.cells #[.int .i64 xk, .bool xnl, .int .i64 xh, .int .i64 xn] 35)).alloc (.cells #[.int .u8 32] 5)).drew)) (q := wr.heap.size + 1) (heap_alloc_at (wr.alloc (.cells #[.int .i64 xk, .bool xnl, .int .i64 xh, .int .i64 xn] 35)) (.cells #[.int .u8 32] 5) (by simp)))
      clear hx hvr hbl hlt hi h0 hn6
      go_wp2_with fail
      go_region_held_law (fun w' => w'.cell? ⟨wr.heap.size, 0, none⟩ = some (.int .i64 xk) ∧ w'.cell? ⟨wr.heap.size, 1, none⟩ = some (.bool xnl) ∧ w'.cell? ⟨wr.heap.size, 2, none⟩ = some (.int .i64 xh) ∧ w'.cell? ⟨wr.heap.size, 3, none⟩ = some (.int .i64 xn)) (first | exact HK1.out | exact HK2.out | simp)
        (first
          | (refine step_ap_row rfl (.tmp 22) (.tmp 23) rfl rfl HOx.out ⟨wr.heap.size + 1, 0, none⟩ 1 1 [32] rfl rfl HCx.out (HB.out.on HWx.out) (by have := HLB.out; simp; omega) ?_
             intro v1 w1 o1 r1
             have HO1 := hid o1; have HV1 := hid (HWx.out.trans r1)
             have HZ1 := hid (r1.box HZx.out (by decide))
             have HK1 : Hid (w1.cell? ⟨wr.heap.size, 0, none⟩ = some (.int .i64 xk) ∧ w1.cell? ⟨wr.heap.size, 1, none⟩ = some (.bool xnl) ∧ w1.cell? ⟨wr.heap.size, 2, none⟩ = some (.int .i64 xh) ∧ w1.cell? ⟨wr.heap.size, 3, none⟩ = some (.int .i64 xn)) := hid ⟨box1 HZ1.out 0 _ rfl, box1 HZ1.out 1 _ rfl, box1 HZ1.out 2 _ rfl, box1 HZ1.out 3 _ rfl⟩
             clear o1 r1)
          | (go_simp; go_at_call 173; refine (putVal_any B (L ++ [32]) ⟨xk, xnl, xh, xn⟩ (HBX.out i ⟨xk, xnl, xh, xn⟩ HX.out) _ _ HO1.out (HB.out.on HV1.out) (by rw [List.length_append]; have := HLB.out; simp; omega) (HT.out.on HV1.out)).mono ?_
             rintro e w2 ⟨v2, rfl, ho2, hb2⟩
             have HO2 := hid ho2; have HW2 := hid (HV1.out.trans hb2)
             have HK2 : Hid (w2.cell? ⟨wr.heap.size, 0, none⟩ = some (.int .i64 xk) ∧ w2.cell? ⟨wr.heap.size, 1, none⟩ = some (.bool xnl) ∧ w2.cell? ⟨wr.heap.size, 2, none⟩ = some (.int .i64 xh) ∧ w2.cell? ⟨wr.heap.size, 3, none⟩ = some (.int .i64 xn)) := (have HZ2 := hb2.box HZ1.out (by decide); hid ⟨box1 HZ2 0 _ rfl, box1 HZ2 1 _ rfl, box1 HZ2 2 _ rfl, box1 HZ2 3 _ rfl⟩)
             clear ho2 hb2))
      have hi6 := HI6.out
      go_wp2
      go_roundw
      case rel => exact ⟨i + 1, _, by go_num, HI.out, by rw [HLL.out, listT_snoc HX.out]; simp, HO2.out, HW2.out⟩
      case measure => have := HI.out; simp [intOf]; omega
    · have hlt' : ¬ (i : Int) < n := by omega
      have HE := hid (show L = l ++ s.data.toList ++ listT valT vl by rw [HLL.out, List.take_of_length_le (by rw [HN.out]; omega)])
      clear hlt hi h0
      have HCe4 := hid (chr_cells (c := 41) (heap_alloc_at wr (.cells #[.int .u8 41] 5) rfl))
      have HFe4 := hid ((HB.out.on HW.out).alloc (.cells #[.int .u8 41] 5)); have HOe4 := hid (HO.out.alloc (.cells #[.int .u8 41] 5)); have HWe4 := hid (HW.out.alloc (HB.out.on HW.out) (.cells #[.int .u8 41] 5))
      go_wp2_with (at_builtin; refine wpList_ap_row rfl _ _ rfl rfl HOe4.out ⟨wr.heap.size, 0, none⟩ 1 1 [41] rfl rfl HCe4.out HFe4.out ?c1 ?_)
      case c1 => have := HLB.out; simp; omega
      intro v4 w4 ho4 hv4
      have hr4 := HWe4.out.trans hv4
      obtain ⟨L4, hL4⟩ : ∃ LL, L ++ [41] = LL := ⟨_, rfl⟩
      have hb4 : L4.length ≤ 480000001 := by have := HLB.out; rw [← hL4, List.length_append]; simp; omega
      have ho4 : OwnB B w4 v4 L4 := by rw [← hL4]; exact ho4
      obtain ⟨a4, c4, rfl⟩ := ho4.form
      obtain ⟨n4, hn4⟩ : ∃ nn, L4.length = nn := ⟨_, rfl⟩
      rw [hn4] at ho4 hb4 ⊢
      have HO4 := hid ho4; have HW4 := hid hr4; have HV4 := hid hv4; have HE4 := hid hL4; have HN4 := hid hn4; have HK4 := hid hb4
      clear ho4 hr4 hv4 hL4 hn4 hb4
      go_wp2
      go_ret
      refine ⟨_, rfl, ?_, HW4.out⟩
      have := HO4.out
      rw [← HE4.out, HE.out] at this
      simpa [List.append_assoc] using this
end
section
open Go.RowKit
def givenB (h : Hp) : Bool := decide (1 ≤ h.k) && decide (h.k ≤ 12) && decide (h.n = 0)
def indexedB (h : Hp) : Bool := decide (h.k = 13) && decide (0 ≤ h.n) && decide (h.n ≤ 4294967295)
def plainV (v : Vl) : Bool := if v.k = 1 ∨ v.k = 2 then decide (v = ⟨v.k, false, 0, 0⟩) else if v.k = 3 then givenB ⟨v.h, v.n⟩ || indexedB ⟨v.h, v.n⟩ else false
def plainF (f : Fl) : Bool := if f.p = 0 then plainV f.v else if f.p = 8 ∨ f.p = 16 then decide (f.v = ⟨1, false, 0, 0⟩) else false
def plainS (s : Sb) : Bool := s.sups.all indexedB && s.ps.all plainV && s.rs.all plainV && s.fs.all plainF && (if s.k = 1 then decide (s.fs.length = 0) else if s.k = 2 then decide (s.ps.length + s.rs.length = 0) else if s.k = 3 then decide (s.ps.length + s.rs.length = 0) && decide (s.fs.length = 1) else false)
theorem given_any (k n : Int) (w : World) : Calls Tryz.prog 132 #[.agg #[.int .i64 k, .int .i64 n]] w fun e w' => e = .returned (.bool (givenB ⟨k, n⟩)) ∧ Below w.heap.size w w' := by
  unfold givenB
  go_enter Tryz.func132, Tryz.ntmps132
  go_wp2
  all_goals
    go_ret
    exact ⟨retb (by first | (simp_all; done) | (simp_all; omega) | (rw [Bool.eq_iff_iff]; simp_all; done) | (rw [Bool.eq_iff_iff]; simp_all; omega)), (Below.refl _ _).alloc (Nat.le_refl _) _⟩
theorem indexed_any (k n : Int) (w : World) : Calls Tryz.prog 107 #[.agg #[.int .i64 k, .int .i64 n]] w fun e w' => e = .returned (.bool (indexedB ⟨k, n⟩)) ∧ Below w.heap.size w w' := by
  unfold indexedB
  go_enter Tryz.func107, Tryz.ntmps107
  go_wp2
  all_goals
    go_ret
    exact ⟨retb (by first | (simp_all; done) | (simp_all; omega) | (rw [Bool.eq_iff_iff]; simp_all; done) | (rw [Bool.eq_iff_iff]; simp_all; omega)), (Below.refl _ _).alloc (Nat.le_refl _) _⟩
set_option maxHeartbeats 1000000 in
theorem plainVal_any (v : Vl) (w : World) : Calls Tryz.prog 109 #[.agg (cellsV v).toArray] w fun e w' => e = .returned (.bool (plainV v)) ∧ Below w.heap.size w w' := by
  obtain ⟨k, nl, h, n⟩ := v
  simp only [cellsV]
  obtain ⟨b1, hb1⟩ : ∃ b, givenB ⟨h, n⟩ = b := ⟨_, rfl⟩
  obtain ⟨b2, hb2⟩ : ∃ b, indexedB ⟨h, n⟩ = b := ⟨_, rfl⟩
  have H1 := hid hb1; have H2 := hid hb2
  clear hb1 hb2
  by_cases h1 : k = 1
  · subst h1
    go_enter Tryz.func109, Tryz.ntmps109
    go_wp2
    all_goals
      go_ret
      exact ⟨retb (by simp_all [plainV]), (Below.refl _ _).alloc (Nat.le_refl _) _⟩
  by_cases h2 : k = 2
  · subst h2
    go_enter Tryz.func109, Tryz.ntmps109
    go_wp2
    all_goals
      go_ret
      exact ⟨retb (by simp_all [plainV]), (Below.refl _ _).alloc (Nat.le_refl _) _⟩
  by_cases h3 : k = 3
  · subst h3
    cases b1
    · go_enter Tryz.func109, Tryz.ntmps109
      go_wp2_with fail
      refine (given_any h n _).mono ?_
      rintro e w1 ⟨rfl, hb1⟩
      rw [H1.out]
      obtain ⟨hc, _⟩ : (∀ b o, b < w.heap.size + 1 → w1.cell? ⟨b, o, none⟩ = (w.alloc (.cells #[.int .i64 3, .bool nl, .int .i64 h, .int .i64 n] 35)).cell? ⟨b, o, none⟩) ∧ True := ⟨fun b o hlt => hb1.cell (p := ⟨b, o, none⟩) (by simpa using hlt), trivial⟩
      go_wp2_with fail
      refine (indexed_any h n _).mono ?_
      rintro e w2 ⟨rfl, hb2⟩
      rw [H2.out]
      go_wp2
      go_ret
      exact ⟨retb (by have := H1.out; have := H2.out; simp_all [plainV]), ((Below.refl _ _).alloc (Nat.le_refl _) _).trans ((hb1.trans (hb2.mono hb1.size)).mono (by simp))⟩
    · go_enter Tryz.func109, Tryz.ntmps109
      go_wp2_with fail
      refine (given_any h n _).mono ?_
      rintro e w1 ⟨rfl, hb1⟩
      rw [H1.out]
      go_wp2
      go_ret
      exact ⟨retb (by have := H1.out; simp_all [plainV]), ((Below.refl _ _).alloc (Nat.le_refl _) _).trans (hb1.mono (by simp))⟩
  · go_enter Tryz.func109, Tryz.ntmps109
    go_wp2
    go_ret
    exact ⟨retb (by simp_all [plainV]), (Below.refl _ _).alloc (Nat.le_refl _) _⟩
set_option maxHeartbeats 1000000 in
theorem plainField_any (f : Fl) (w : World) : Calls Tryz.prog 111 #[.agg (cellsF f).toArray] w fun e w' => e = .returned (.bool (plainF f)) ∧ Below w.heap.size w w' := by
  obtain ⟨p, ⟨k, nl, h, n⟩, m⟩ := f
  simp only [cellsF]
  by_cases h0 : p = 0
  · subst h0
    obtain ⟨b, hb⟩ : ∃ b, plainV ⟨k, nl, h, n⟩ = b := ⟨_, rfl⟩
    have hr : plainF ⟨0, ⟨k, nl, h, n⟩, m⟩ = b := by simp [plainF, hb]
    rw [hr]
    have HB := hid hb
    clear hr hb
    go_enter Tryz.func111, Tryz.ntmps111
    go_wp2_with fail
    refine (plainVal_any ⟨k, nl, h, n⟩ _).mono ?_
    rintro e w1 ⟨rfl, hb1⟩
    rw [HB.out]
    go_wp2
    go_ret
    exact ⟨rfl, ((Below.refl _ _).alloc (Nat.le_refl _) _).trans (hb1.mono (by simp))⟩
  by_cases h1 : p = 8
  · subst h1
    go_enter Tryz.func111, Tryz.ntmps111
    go_wp2
    all_goals
      go_ret
      exact ⟨retb (by simp_all [plainF]), (Below.refl _ _).alloc (Nat.le_refl _) _⟩
  by_cases h2 : p = 16
  · subst h2
    go_enter Tryz.func111, Tryz.ntmps111
    go_wp2
    all_goals
      go_ret
      exact ⟨retb (by simp_all [plainF]), (Below.refl _ _).alloc (Nat.le_refl _) _⟩
  · go_enter Tryz.func111, Tryz.ntmps111
    go_wp2
    go_ret
    exact ⟨retb (by simp_all [plainF]), (Below.refl _ _).alloc (Nat.le_refl _) _⟩
theorem take_all {α : Type} {l : List α} {p : α → Bool} {i : Nat} {x : α} (hx : l[i]? = some x) : (l.take (i + 1)).all p = ((l.take i).all p && p x) := by
  have hlt := (List.getElem?_eq_some_iff.1 hx).1
  rw [List.take_succ_eq_append_getElem hlt, List.all_append]
  have : l[i] = x := (List.getElem?_eq_some_iff.1 hx).2
  simp [this]
theorem all_not {α : Type} {l : List α} {p : α → Bool} {i : Nat} {x : α} (hx : l[i]? = some x) (h : p x = false) : l.all p = false := by
  rw [List.all_eq_false]
  exact ⟨x, List.mem_of_getElem? hx, by simp [h]⟩
set_option maxRecDepth 100000 in
set_option maxHeartbeats 1000000 in
theorem allH_any (F : FuncId) (hE : ∀ args w, (callFunc F args).run Tryz.prog w = .ok (.enter F args) w) (p : Hp → Bool) (hF : ∀ (x : Hp) (w : World), Calls Tryz.prog F #[.agg (cellsH x).toArray] w fun e w' => e = .returned (.bool (p x)) ∧ Below w.heap.size w w')
    (v : Value) (l : List Hp) (w : World) (hv : HpsAt w v l) (hl : l.length ≤ 1000000) : Calls Tryz.prog 106 #[v, .func (.func F) #[] #[]] w fun e w' => e = .returned (.bool (l.all p)) ∧ Below w.heap.size w w' := by
  obtain ⟨ao, cap, rfl⟩ := RowAt.form hv
  obtain ⟨n, hn⟩ : ∃ n, l.length = n := ⟨_, rfl⟩
  have HV := hid hv; have HN := hid hn; have HF := hid hF
  rw [hn] at hl ⊢
  clear hv hn hF
  go_enter Tryz.func106, Tryz.ntmps106
  go_wp2
  go_loopw [6, 9] (fun _ t9 wr => ∃ i : Nat, t9 = .int .i64 (i : Nat) ∧ i ≤ n ∧ (l.take i).all p = true ∧ Below w.heap.size w wr) (fun _ t9 _ => n - (intOf t9).toNat)
  case atStart => exact ⟨0, rfl, Nat.zero_le _, rfl, Below.refl _ _⟩
  case round =>
    obtain ⟨i, rfl, hi, htk, hb⟩ := hrel
    have HT := hid htk; have HB := hid hb
    clear htk hb
    by_cases hlt : i < n
    · obtain ⟨x, hx⟩ : ∃ x, l[i]? = some x := ⟨l[i]'(by rw [HN.out]; exact hlt), by simp⟩
      have hvr : HpsAt wr (.slice ao l.length cap) l := RowAt.below HV.out HB.out (Nat.le_refl _)
      obtain ⟨b, off, rfl, hbl, p0, p1⟩ := hps_at hvr hx
      have HX := hid hx
      obtain ⟨r, hr⟩ : ∃ r, p x = r := ⟨_, rfl⟩
      have HR := hid hr
      have hlt' : (i : Int) < n := by omega
      have hi6 : (i : Int) < 1000000 := by omega
      have HI := hid hlt
      clear hx hr hvr hbl hl hi hlt
      go_wp2_with fail
      refine (HF.out x _).mono ?_
      rintro e w1 ⟨rfl, hb1⟩
      rw [HR.out]
      have HB1 := hid ((HB.out.alloc HB.out.size _).trans (hb1.mono (by have := HB.out.size; simp; omega)))
      clear hb1
      cases r
      · go_wp2
        go_ret
        exact ⟨retb (all_not HX.out HR.out).symm, HB1.out⟩
      · go_wp2
        go_roundw
        case rel => exact ⟨i + 1, by go_num, HI.out, by rw [take_all HX.out, HT.out, HR.out]; rfl, HB1.out⟩
        case measure => have := HI.out; simp [intOf]; omega
    · have hlt' : ¬ (i : Int) < n := by omega
      have h0 := HT.out
      have HA := hid (show l.all p = true by rw [List.take_of_length_le (by rw [HN.out]; omega)] at h0; exact h0)
      clear h0
      go_wp2
      go_ret
      exact ⟨retb HA.out.symm, HB.out⟩
set_option maxRecDepth 100000 in
set_option maxHeartbeats 1000000 in
theorem allV_any (F : FuncId) (hE : ∀ args w, (callFunc F args).run Tryz.prog w = .ok (.enter F args) w) (p : Vl → Bool) (hF : ∀ (x : Vl) (w : World), Calls Tryz.prog F #[.agg (cellsV x).toArray] w fun e w' => e = .returned (.bool (p x)) ∧ Below w.heap.size w w')
    (v : Value) (l : List Vl) (w : World) (hv : ValsAt w v l) (hl : l.length ≤ 1000000) : Calls Tryz.prog 108 #[v, .func (.func F) #[] #[]] w fun e w' => e = .returned (.bool (l.all p)) ∧ Below w.heap.size w w' := by
  obtain ⟨ao, cap, rfl⟩ := RowAt.form hv
  obtain ⟨n, hn⟩ : ∃ n, l.length = n := ⟨_, rfl⟩
  have HV := hid hv; have HN := hid hn; have HF := hid hF
  rw [hn] at hl ⊢
  clear hv hn hF
  go_enter Tryz.func108, Tryz.ntmps108
  go_wp2
  go_loopw [6, 9] (fun _ t9 wr => ∃ i : Nat, t9 = .int .i64 (i : Nat) ∧ i ≤ n ∧ (l.take i).all p = true ∧ Below w.heap.size w wr) (fun _ t9 _ => n - (intOf t9).toNat)
  case atStart => exact ⟨0, rfl, Nat.zero_le _, rfl, Below.refl _ _⟩
  case round =>
    obtain ⟨i, rfl, hi, htk, hb⟩ := hrel
    have HT := hid htk; have HB := hid hb
    clear htk hb
    by_cases hlt : i < n
    · obtain ⟨x, hx⟩ : ∃ x, l[i]? = some x := ⟨l[i]'(by rw [HN.out]; exact hlt), by simp⟩
      have hvr : ValsAt wr (.slice ao l.length cap) l := RowAt.below HV.out HB.out (Nat.le_refl _)
      obtain ⟨b, off, rfl, hbl, p0, p1, p2, p3⟩ := vals_at hvr hx
      have HX := hid hx
      obtain ⟨r, hr⟩ : ∃ r, p x = r := ⟨_, rfl⟩
      have HR := hid hr
      have hlt' : (i : Int) < n := by omega
      have hi6 : (i : Int) < 1000000 := by omega
      have HI := hid hlt
      clear hx hr hvr hbl hl hi hlt
      go_wp2_with fail
      refine (HF.out x _).mono ?_
      rintro e w1 ⟨rfl, hb1⟩
      rw [HR.out]
      have HB1 := hid ((HB.out.alloc HB.out.size _).trans (hb1.mono (by have := HB.out.size; simp; omega)))
      clear hb1
      cases r
      · go_wp2
        go_ret
        exact ⟨retb (all_not HX.out HR.out).symm, HB1.out⟩
      · go_wp2
        go_roundw
        case rel => exact ⟨i + 1, by go_num, HI.out, by rw [take_all HX.out, HT.out, HR.out]; rfl, HB1.out⟩
        case measure => have := HI.out; simp [intOf]; omega
    · have hlt' : ¬ (i : Int) < n := by omega
      have h0 := HT.out
      have HA := hid (show l.all p = true by rw [List.take_of_length_le (by rw [HN.out]; omega)] at h0; exact h0)
      clear h0
      go_wp2
      go_ret
      exact ⟨retb HA.out.symm, HB.out⟩
set_option maxRecDepth 100000 in
set_option maxHeartbeats 1000000 in
theorem allF_any (F : FuncId) (hE : ∀ args w, (callFunc F args).run Tryz.prog w = .ok (.enter F args) w) (p : Fl → Bool) (hF : ∀ (x : Fl) (w : World), Calls Tryz.prog F #[.agg (cellsF x).toArray] w fun e w' => e = .returned (.bool (p x)) ∧ Below w.heap.size w w')
    (v : Value) (l : List Fl) (w : World) (hv : FlsAt w v l) (hl : l.length ≤ 1000000) : Calls Tryz.prog 110 #[v, .func (.func F) #[] #[]] w fun e w' => e = .returned (.bool (l.all p)) ∧ Below w.heap.size w w' := by
  obtain ⟨ao, cap, rfl⟩ := RowAt.form hv
  obtain ⟨n, hn⟩ : ∃ n, l.length = n := ⟨_, rfl⟩
  have HV := hid hv; have HN := hid hn; have HF := hid hF
  rw [hn] at hl ⊢
  clear hv hn hF
  go_enter Tryz.func110, Tryz.ntmps110
  go_wp2
  go_loopw [6, 9] (fun _ t9 wr => ∃ i : Nat, t9 = .int .i64 (i : Nat) ∧ i ≤ n ∧ (l.take i).all p = true ∧ Below w.heap.size w wr) (fun _ t9 _ => n - (intOf t9).toNat)
  case atStart => exact ⟨0, rfl, Nat.zero_le _, rfl, Below.refl _ _⟩
  case round =>
    obtain ⟨i, rfl, hi, htk, hb⟩ := hrel
    have HT := hid htk; have HB := hid hb
    clear htk hb
    by_cases hlt : i < n
    · obtain ⟨x, hx⟩ : ∃ x, l[i]? = some x := ⟨l[i]'(by rw [HN.out]; exact hlt), by simp⟩
      have hvr : FlsAt wr (.slice ao l.length cap) l := RowAt.below HV.out HB.out (Nat.le_refl _)
      obtain ⟨b, off, rfl, hbl, p0, p1, p2, p3, p4, p5⟩ := fls_at hvr hx
      have HX := hid hx
      obtain ⟨r, hr⟩ : ∃ r, p x = r := ⟨_, rfl⟩
      have HR := hid hr
      have hlt' : (i : Int) < n := by omega
      have hi6 : (i : Int) < 1000000 := by omega
      have HI := hid hlt
      clear hx hr hvr hbl hl hi hlt
      go_wp2_with fail
      refine (HF.out x _).mono ?_
      rintro e w1 ⟨rfl, hb1⟩
      rw [HR.out]
      have HB1 := hid ((HB.out.alloc HB.out.size _).trans (hb1.mono (by have := HB.out.size; simp; omega)))
      clear hb1
      cases r
      · go_wp2
        go_ret
        exact ⟨retb (all_not HX.out HR.out).symm, HB1.out⟩
      · go_wp2
        go_roundw
        case rel => exact ⟨i + 1, by go_num, HI.out, by rw [take_all HX.out, HT.out, HR.out]; rfl, HB1.out⟩
        case measure => have := HI.out; simp [intOf]; omega
    · have hlt' : ¬ (i : Int) < n := by omega
      have h0 := HT.out
      have HA := hid (show l.all p = true by rw [List.take_of_length_le (by rw [HN.out]; omega)] at h0; exact h0)
      clear h0
      go_wp2
      go_ret
      exact ⟨retb HA.out.symm, HB.out⟩
end
section
open Go.RowKit
theorem indexed_h (x : Hp) (w : World) : Calls Tryz.prog 107 #[.agg (cellsH x).toArray] w fun e w' => e = .returned (.bool (indexedB x)) ∧ Below w.heap.size w w' := indexed_any x.k x.n w
theorem enters_indexed : ∀ args w, (callFunc 107 args).run Tryz.prog w = .ok (.enter 107 args) w := fun _ _ => by kernel_rfl
theorem enters_plainVal : ∀ args w, (callFunc 109 args).run Tryz.prog w = .ok (.enter 109 args) w := fun _ _ => by kernel_rfl
theorem enters_plainField : ∀ args w, (callFunc 111 args).run Tryz.prog w = .ok (.enter 111 args) w := fun _ _ => by kernel_rfl
structure Small (s : Sb) : Prop where
  sups : s.sups.length ≤ 1000000
  ps : s.ps.length ≤ 1000000
  rs : s.rs.length ≤ 1000000
  fs : s.fs.length ≤ 1000000
def midS (s : Sb) : Bool := s.ps.all plainV && s.rs.all plainV && s.fs.all plainF
def endS (k : Int) (np nr nf : Nat) : Bool := if k = 1 then decide (nf = 0) else if k = 2 then decide (np + nr = 0) else if k = 3 then decide (np + nr = 0) && decide (nf = 1) else false
theorem plainS_eq (s : Sb) : plainS s = (s.sups.all indexedB && midS s && endS s.k s.ps.length s.rs.length s.fs.length) := by
  unfold plainS midS endS
  simp only [Bool.and_assoc]
set_option maxRecDepth 100000 in
set_option maxHeartbeats 4000000 in
theorem plainSub_any (cs : List Value) (s : Sb) (w : World) (hs : SubAt w cs s) (hm : Small s) : Calls Tryz.prog 68 #[.agg cs.toArray] w fun e w' => e = .returned (.bool (plainS s)) ∧ Below w.heap.size w w' := by
  have HM := hid hm
  obtain ⟨vs, vp, vr, vf, rfl, h1, h2, h3, h4⟩ := hs.ex
  obtain ⟨ps, pc, rfl⟩ := RowAt.form h2
  obtain ⟨rs, rc, rfl⟩ := RowAt.form h3
  obtain ⟨fs, fc, rfl⟩ := RowAt.form h4
  obtain ⟨fin, sups, k, lp, lr, lf⟩ := s
  dsimp only at h1 h2 h3 h4 ⊢
  obtain ⟨np, hnp⟩ : ∃ n, lp.length = n := ⟨_, rfl⟩
  obtain ⟨nr, hnr⟩ : ∃ n, lr.length = n := ⟨_, rfl⟩
  obtain ⟨nf, hnf⟩ : ∃ n, lf.length = n := ⟨_, rfl⟩
  have H1 := hid h1; have H2 := hid h2; have H3 := hid h3; have H4 := hid h4
  rw [hnp] at H2; rw [hnr] at H3; rw [hnf] at H4
  have hM1 := hm.ps; have hM2 := hm.rs; have hM3 := hm.fs
  dsimp only at hM1 hM2 hM3
  rw [hnp] at hM1; rw [hnr] at hM2; rw [hnf] at hM3
  rw [plainS_eq]
  dsimp only
  obtain ⟨b0, hb0⟩ : ∃ b, sups.all indexedB = b := ⟨_, rfl⟩
  obtain ⟨b1, hb1⟩ : ∃ b, lp.all plainV = b := ⟨_, rfl⟩
  obtain ⟨b2, hb2⟩ : ∃ b, lr.all plainV = b := ⟨_, rfl⟩
  obtain ⟨b3, hb3⟩ : ∃ b, lf.all plainF = b := ⟨_, rfl⟩
  rw [hnp, hnr, hnf, hb0, show midS ⟨fin, sups, k, lp, lr, lf⟩ = (b1 && b2 && b3) by unfold midS; rw [hb1, hb2, hb3]]
  have A0 := hid hb0; have A1 := hid hb1; have A2 := hid hb2; have A3 := hid hb3
  obtain ⟨W0, hW⟩ : ∃ W0 : World, W0 = ((w.alloc (.cells #[.bool fin, vs, .int .i64 k, .slice ps np pc, .slice rs nr rc, .slice fs nf fc] 46)).alloc (.cells #[.int .i64 k, .slice ps np pc, .slice rs nr rc, .slice fs nf fc] 43)) := ⟨_, rfl⟩
  have hB : Below w.heap.size w W0 := by rw [hW]; exact (((Below.refl _ _).alloc (by simp) _).alloc (by simp) _)
  have b0_0 : ∀ x : Ext W0, x.val.cell? ⟨w.heap.size, 0, none⟩ = some (.bool fin) := Ext.cells (by rw [hW]; exact heap_cell (heap_alloc_keep (heap_alloc_at _ _ (by simp)) _) 0)
  have b0_1 : ∀ x : Ext W0, x.val.cell? ⟨w.heap.size, 1, none⟩ = some (vs) := Ext.cells (by rw [hW]; exact heap_cell (heap_alloc_keep (heap_alloc_at _ _ (by simp)) _) 1)
  have b0_2 : ∀ x : Ext W0, x.val.cell? ⟨w.heap.size, 2, none⟩ = some (.int .i64 k) := Ext.cells (by rw [hW]; exact heap_cell (heap_alloc_keep (heap_alloc_at _ _ (by simp)) _) 2)
  have b0_3 : ∀ x : Ext W0, x.val.cell? ⟨w.heap.size, 3, none⟩ = some (.slice ps np pc) := Ext.cells (by rw [hW]; exact heap_cell (heap_alloc_keep (heap_alloc_at _ _ (by simp)) _) 3)
  have b0_4 : ∀ x : Ext W0, x.val.cell? ⟨w.heap.size, 4, none⟩ = some (.slice rs nr rc) := Ext.cells (by rw [hW]; exact heap_cell (heap_alloc_keep (heap_alloc_at _ _ (by simp)) _) 4)
  have b0_5 : ∀ x : Ext W0, x.val.cell? ⟨w.heap.size, 5, none⟩ = some (.slice fs nf fc) := Ext.cells (by rw [hW]; exact heap_cell (heap_alloc_keep (heap_alloc_at _ _ (by simp)) _) 5)
  have b1_0 : ∀ x : Ext W0, x.val.cell? ⟨w.heap.size + 1, 0, none⟩ = some (.int .i64 k) := Ext.cells (by rw [hW]; exact heap_cell (heap_alloc_at _ _ (by simp)) 0)
  have b1_1 : ∀ x : Ext W0, x.val.cell? ⟨w.heap.size + 1, 1, none⟩ = some (.slice ps np pc) := Ext.cells (by rw [hW]; exact heap_cell (heap_alloc_at _ _ (by simp)) 1)
  have b1_2 : ∀ x : Ext W0, x.val.cell? ⟨w.heap.size + 1, 2, none⟩ = some (.slice rs nr rc) := Ext.cells (by rw [hW]; exact heap_cell (heap_alloc_at _ _ (by simp)) 2)
  have b1_3 : ∀ x : Ext W0, x.val.cell? ⟨w.heap.size + 1, 3, none⟩ = some (.slice fs nf fc) := Ext.cells (by rw [hW]; exact heap_cell (heap_alloc_at _ _ (by simp)) 3)
  have HW := hid hW; have HB := hid hB
  clear hW hB
  have R1 := hid (RowAt.below h1 HB.out (Nat.le_refl _)); have R2 := hid (RowAt.below H2.out HB.out (Nat.le_refl _)); have R3 := hid (RowAt.below H3.out HB.out (Nat.le_refl _)); have R4 := hid (RowAt.below H4.out HB.out (Nat.le_refl _))
  have hs0 : (np : Int) ≤ 1000000 := by omega
  have hs1 : (nr : Int) ≤ 1000000 := by omega
  clear h1 h2 h3 h4 hs hm hnp hnr hnf hb0 hb1 hb2 hb3 hM1 hM2 hM3 H1 H2 H3 H4
  go_enter Tryz.func68, Tryz.ntmps68
  go_wp2_with fail
  rw [← HW.out]
  refine (Ext.call0 (allH_any _ enters_indexed indexedB indexed_h _ sups _ R1.out HM.out.sups)).mono ?_
  rintro e _ ⟨rfl, x1, rfl⟩
  rw [A0.out]
  cases b0
  · go_wp2
    go_ret
    exact ⟨retb (by simp), HB.out.trans (x1.2.mono HB.out.size)⟩
  go_wp2_with fail
  refine (Ext.call x1 (allV_any _ enters_plainVal plainV plainVal_any _ lp _ (RowAt.ext R2.out x1) HM.out.ps)).mono ?_
  rintro e _ ⟨rfl, x2, rfl⟩
  rw [A1.out]
  cases b1
  · go_wp2
    go_ret
    exact ⟨retb (by simp), HB.out.trans (x2.2.mono HB.out.size)⟩
  go_wp2_with fail
  refine (Ext.call x2 (allV_any _ enters_plainVal plainV plainVal_any _ lr _ (RowAt.ext R3.out x2) HM.out.rs)).mono ?_
  rintro e _ ⟨rfl, x3, rfl⟩
  rw [A2.out]
  cases b2
  · go_wp2
    go_ret
    exact ⟨retb (by simp), HB.out.trans (x3.2.mono HB.out.size)⟩
  go_wp2_with fail
  refine (Ext.call x3 (allF_any _ enters_plainField plainF plainField_any _ lf _ (RowAt.ext R4.out x3) HM.out.fs)).mono ?_
  rintro e _ ⟨rfl, x4, rfl⟩
  rw [A3.out]
  cases b3
  · go_wp2
    go_ret
    exact ⟨retb (by simp), HB.out.trans (x4.2.mono HB.out.size)⟩
  by_cases k1 : k = 1
  · subst k1
    go_wp2
    all_goals
      go_ret
      exact ⟨retb (by first | (simp_all [endS]; done) | (simp_all [endS]; omega) | (rw [Bool.eq_iff_iff]; simp_all [endS]; done) | (rw [Bool.eq_iff_iff]; simp_all [endS]; omega)), HB.out.trans (x4.2.mono HB.out.size)⟩
  by_cases k2 : k = 2
  · subst k2
    go_wp2
    all_goals
      go_ret
      exact ⟨retb (by first | (simp_all [endS]; done) | (simp_all [endS]; omega) | (rw [Bool.eq_iff_iff]; simp_all [endS]; done) | (rw [Bool.eq_iff_iff]; simp_all [endS]; omega)), HB.out.trans (x4.2.mono HB.out.size)⟩
  by_cases k3 : k = 3
  · subst k3
    go_wp2
    all_goals
      go_ret
      exact ⟨retb (by first | (simp_all [endS]; done) | (simp_all [endS]; omega) | (rw [Bool.eq_iff_iff]; simp_all [endS]; done) | (rw [Bool.eq_iff_iff]; simp_all [endS]; omega)), HB.out.trans (x4.2.mono HB.out.size)⟩
  · go_wp2
    all_goals
      go_ret
      exact ⟨retb (by first | (simp_all [endS]; done) | (simp_all [endS]; omega) | (rw [Bool.eq_iff_iff]; simp_all [endS]; done) | (rw [Bool.eq_iff_iff]; simp_all [endS]; omega)), HB.out.trans (x4.2.mono HB.out.size)⟩
end
end Go.Proofs.YtlcfkfijomnmnaaGreatDoor
