/- package kind: the writing of a field. -/
import Derived.Test.YtkgmfbfpmlnfcaaGreatDoorQKdValP
namespace Go.Proofs.YtkgmfbfpmlnfcaaGreatDoor
open Go.RowKit

theorem valT_len (v : Vl) (hn : B64 v.n) : (valT v).length ≤ 60 := by
  have := heapT_len ⟨v.h, v.n⟩ hn
  unfold valT
  split
  · decide
  · split
    · decide
    · split
      · split <;> simp <;> omega
      · split <;> decide
theorem storeT_len (f : Fl) (h1 : B64 f.v.n) (h2 : B64 f.p) : (storeT f).length ≤ 60 := by
  have := Lib.itoa_length_le f.p h2.1 h2.2
  unfold storeT
  split
  · exact valT_len _ h1
  · simp; omega
theorem fieldT_len (f : Fl) (h1 : B64 f.v.n) (h2 : B64 f.p) : (fieldT f).length ≤ 70 := by
  have := storeT_len f h1 h2
  unfold fieldT
  split
  · simp; omega
  · omega
theorem box1 {w : World} {b : Nat} {cs : Array Value} {t : TypeId} {fr : Nat × Nat} (h : w.heap[b]? = some (.cells cs t fr)) (j : Nat) (u : Value) (hu : cs[j]? = some u) : w.cell? ⟨b, j, none⟩ = some u := by rw [heap_cell h, hu]
set_option maxRecDepth 100000 in
set_option maxHeartbeats 4000000 in
theorem putField_pack (B : Bs) (l : List UInt8) (p k : Int) (nl : Bool) (h n : Int) (hp : p ≠ 0) (hn : B64 p) (sv : Value) (w : World) (hown : OwnB B w sv l) (hB : Fit B w) (hl : l.length ≤ 700000000) (ht : Tb B w) :
    Calls Tryz.prog 88 #[sv, .agg #[.int .i64 p, .int .i64 k, .bool nl, .int .i64 h, .int .i64 n, .bool false]] w (PutPost B w (l ++ (105 :: Lib.itoa p))) := by
  obtain ⟨ao, cap, rfl⟩ := hown.form
  have hp' : (p != 0) = true := by simpa using hp
  have HOx := Lib.hid (show OwnB B (((w.alloc (.cells #[.int .i64 p, .int .i64 k, .bool nl, .int .i64 h, .int .i64 n, .bool false] 93)).alloc (.cells #[.int .u8 105] 5)).drew) (.slice ao l.length cap) l from ((hown.alloc _).alloc _).drew)
  have HWx := Lib.hid (show Wr B w (((w.alloc (.cells #[.int .i64 p, .int .i64 k, .bool nl, .int .i64 h, .int .i64 n, .bool false] 93)).alloc (.cells #[.int .u8 105] 5)).drew) from ((Wr.new hB _).alloc (hB.alloc _) _).drew)
  have HZx := Lib.hid (show (((w.alloc (.cells #[.int .i64 p, .int .i64 k, .bool nl, .int .i64 h, .int .i64 n, .bool false] 93)).alloc (.cells #[.int .u8 105] 5)).drew).heap[w.heap.size]? = some (.cells #[.int .i64 p, .int .i64 k, .bool nl, .int .i64 h, .int .i64 n, .bool false] 93 (0, 0)) from heap_alloc_keep (heap_alloc_at _ _ rfl) _)
  have HCx := Lib.hid (chr_cells (c := 105) (W := ((w.alloc (.cells #[.int .i64 p, .int .i64 k, .bool nl, .int .i64 h, .int .i64 n, .bool false] 93)).alloc (.cells #[.int .u8 105] 5)).drew) (q := w.heap.size + 1) (heap_alloc_at (w.alloc (.cells #[.int .i64 p, .int .i64 k, .bool nl, .int .i64 h, .int .i64 n, .bool false] 93)) (.cells #[.int .u8 105] 5) (by simp)))
  have HT := Lib.hid ht; have HNN := Lib.hid hn; have HL := Lib.hid hl; have HB := Lib.hid hB
  clear hn hown ht hl hB hp
  go_enter Tryz.func88, Tryz.ntmps88
  go_wp2_with fail
  go_region_held_law (fun w' => w'.cell? ⟨w.heap.size, 0, none⟩ = some (.int .i64 p)) (first | exact HK1.out | exact HK2.out | simp)
    (first
      | (refine step_ap_row rfl (.tmp 18) (.tmp 19) rfl rfl HOx.out ⟨w.heap.size + 1, 0, none⟩ 1 1 [105] rfl rfl HCx.out (HB.out.on HWx.out) (by have := HL.out; simp; omega) ?_
         intro v1 w1 o1 r1
         have HO1 := Lib.hid o1; have HV1 := Lib.hid (HWx.out.trans r1)
         have HZ1 := Lib.hid (r1.box HZx.out (by decide))
         have HK1 : Hid (w1.cell? ⟨w.heap.size, 0, none⟩ = some (.int .i64 p)) := Lib.hid (box1 HZ1.out 0 _ rfl)
         clear o1 r1)
      | (go_simp; go_at_call 86; refine (appendInt_b B (l ++ [105]) p HNN.out _ _ HO1.out (HB.out.on HV1.out) (by rw [List.length_append]; have := HL.out; simp; omega) (HT.out.on HV1.out)).mono ?_
         rintro e w2 ⟨v2, rfl, ho2, hb2⟩
         have HO2 := Lib.hid ho2; have HV2 := Lib.hid (HV1.out.trans hb2)
         have HK2 : Hid (w2.cell? ⟨w.heap.size, 0, none⟩ = some (.int .i64 p)) := Lib.hid (box1 (hb2.box HZ1.out (by decide)) 0 _ rfl)
         clear ho2 hb2))
  go_wp2
  go_ret
  exact ⟨_, rfl, by have := HO2.out; simpa [List.append_assoc] using this, HV2.out⟩
set_option maxRecDepth 100000 in
theorem putField_val (B : Bs) (l : List UInt8) (k : Int) (nl : Bool) (h n : Int) (hn : B64 n) (sv : Value) (w : World) (hown : OwnB B w sv l) (hB : Fit B w) (hl : l.length ≤ 700000000) (ht : Tb B w) :
    Calls Tryz.prog 88 #[sv, .agg #[.int .i64 0, .int .i64 k, .bool nl, .int .i64 h, .int .i64 n, .bool false]] w (PutPost B w (l ++ valT ⟨k, nl, h, n⟩)) := by
  obtain ⟨ao, cap, rfl⟩ := hown.form
  have HO := Lib.hid (hown.alloc (.cells #[.int .i64 0, .int .i64 k, .bool nl, .int .i64 h, .int .i64 n, .bool false] 93)); have HW := Lib.hid (Wr.new hB (.cells #[.int .i64 0, .int .i64 k, .bool nl, .int .i64 h, .int .i64 n, .bool false] 93)); have HF := Lib.hid (hB.alloc (.cells #[.int .i64 0, .int .i64 k, .bool nl, .int .i64 h, .int .i64 n, .bool false] 93))
  have HT := Lib.hid (ht.on HW.out); have HNN := Lib.hid hn; have HL := Lib.hid hl
  clear hn hown ht hl hB
  go_enter Tryz.func88, Tryz.ntmps88
  go_wp2_with fail
  refine (putVal_any B l ⟨k, nl, h, n⟩ HNN.out _ _ HO.out HF.out (by have := HL.out; omega) HT.out).mono ?_
  rintro e w2 ⟨v2, rfl, ho2, hb2⟩
  have HO2 := Lib.hid ho2; have HV2 := Lib.hid (HW.out.trans hb2)
  clear ho2 hb2
  go_wp2
  go_ret
  exact ⟨_, rfl, HO2.out, HV2.out⟩
theorem putField_im (B : Bs) (l : List UInt8) (f : Fl) (hm : f.m = false) (h1 : B64 f.v.n) (h2 : B64 f.p) (sv : Value) (w : World) (hown : OwnB B w sv l) (hB : Fit B w) (hl : l.length ≤ 700000000) (ht : Tb B w) :
    Calls Tryz.prog 88 #[sv, .agg (cellsF f).toArray] w (PutPost B w (l ++ storeT f)) := by
  obtain ⟨p, ⟨k, nl, h, n⟩, m⟩ := f
  dsimp only at hm h1 h2
  subst hm
  unfold storeT
  by_cases hp : p = 0
  · subst hp; exact putField_val B l k nl h n h1 sv w hown hB hl ht
  · rw [if_neg hp]; exact putField_pack B l p k nl h n hp h2 sv w hown hB hl ht
set_option maxRecDepth 100000 in
set_option maxHeartbeats 8000000 in
theorem putField_mut (B : Bs) (l : List UInt8) (p k : Int) (nl : Bool) (h n : Int) (h1 : B64 n) (h2 : B64 p) (sv : Value) (w : World) (hown : OwnB B w sv l) (hB : Fit B w) (hl : l.length ≤ 600000000) (ht : Tb B w) :
    Calls Tryz.prog 88 #[sv, .agg #[.int .i64 p, .int .i64 k, .bool nl, .int .i64 h, .int .i64 n, .bool true]] w (PutPost B w (l ++ ([40, 109, 117, 116, 32] ++ storeT ⟨p, ⟨k, nl, h, n⟩, false⟩ ++ [41]))) := by
  obtain ⟨ao, cap, rfl⟩ := hown.form
  -- the worlds at the region: without, and with the last byte's block
  have HOa := Lib.hid (show OwnB B ((w.alloc (.cells #[.int .i64 p, .int .i64 k, .bool nl, .int .i64 h, .int .i64 n, .bool false] 93)).drew) (.slice ao l.length cap) l from (hown.alloc _).drew)
  have HWa := Lib.hid (show Wr B w ((w.alloc (.cells #[.int .i64 p, .int .i64 k, .bool nl, .int .i64 h, .int .i64 n, .bool false] 93)).drew) from (Wr.new hB _).drew)
  have HZa := Lib.hid (show ((w.alloc (.cells #[.int .i64 p, .int .i64 k, .bool nl, .int .i64 h, .int .i64 n, .bool false] 93)).drew).heap[w.heap.size]? = some (.cells #[.int .i64 p, .int .i64 k, .bool nl, .int .i64 h, .int .i64 n, .bool false] 93 (0, 0)) from heap_alloc_at _ _ rfl)
  have HOb := Lib.hid (show OwnB (B.add (w.heap.size + 1)) (((w.alloc (.cells #[.int .i64 p, .int .i64 k, .bool nl, .int .i64 h, .int .i64 n, .bool false] 93)).alloc (.cells #[.int .u8 41] 5)).drew) (.slice ao l.length cap) l from ((((hown.alloc (.cells #[.int .i64 p, .int .i64 k, .bool nl, .int .i64 h, .int .i64 n, .bool false] 93)).add ((hown.alloc (.cells #[.int .i64 p, .int .i64 k, .bool nl, .int .i64 h, .int .i64 n, .bool false] 93)).lt (by simp))).alloc _).drew))
  have HWb := Lib.hid (show Wr B w (((w.alloc (.cells #[.int .i64 p, .int .i64 k, .bool nl, .int .i64 h, .int .i64 n, .bool false] 93)).alloc (.cells #[.int .u8 41] 5)).drew) from ((Wr.new hB _).alloc (hB.alloc _) _).drew)
  have HFb := Lib.hid (show Fit (B.add (w.heap.size + 1)) (((w.alloc (.cells #[.int .i64 p, .int .i64 k, .bool nl, .int .i64 h, .int .i64 n, .bool false] 93)).alloc (.cells #[.int .u8 41] 5)).drew) from (hB.on HWb.out).add (by simp))
  have HZb := Lib.hid (show (((w.alloc (.cells #[.int .i64 p, .int .i64 k, .bool nl, .int .i64 h, .int .i64 n, .bool false] 93)).alloc (.cells #[.int .u8 41] 5)).drew).heap[w.heap.size]? = some (.cells #[.int .i64 p, .int .i64 k, .bool nl, .int .i64 h, .int .i64 n, .bool false] 93 (0, 0)) from heap_alloc_keep (heap_alloc_at _ _ rfl) _)
  have HCb := Lib.hid (show (((w.alloc (.cells #[.int .i64 p, .int .i64 k, .bool nl, .int .i64 h, .int .i64 n, .bool false] 93)).alloc (.cells #[.int .u8 41] 5)).drew).heap[w.heap.size + 1]? = some (.cells #[.int .u8 41] 5 (0, 0)) from heap_alloc_at (w.alloc (.cells #[.int .i64 p, .int .i64 k, .bool nl, .int .i64 h, .int .i64 n, .bool false] 93)) (.cells #[.int .u8 41] 5) (by simp))
  have HT := Lib.hid ht; have HN1 := Lib.hid h1; have HN2 := Lib.hid h2; have HL := Lib.hid hl; have HB := Lib.hid hB
  have HL5 := Lib.hid (storeT_len ⟨p, ⟨k, nl, h, n⟩, false⟩ h1 h2)
  clear h1 h2 hown ht hl hB
  go_enter Tryz.func88, Tryz.ntmps88
  go_wp2_with fail
  go_region_held_law (fun w' => w'.cell? ⟨w.heap.size, 0, none⟩ = some (.int .i64 p) ∧ w'.cell? ⟨w.heap.size, 1, none⟩ = some (.int .i64 k) ∧ w'.cell? ⟨w.heap.size, 2, none⟩ = some (.bool nl) ∧ w'.cell? ⟨w.heap.size, 3, none⟩ = some (.int .i64 h) ∧ w'.cell? ⟨w.heap.size, 4, none⟩ = some (.int .i64 n) ∧ w'.cell? ⟨w.heap.size, 5, none⟩ = some (.bool false)) (first | exact HK3.out | exact HK4.out | exact HK2.out | exact HKc.out | exact HK1.out | simp)
    (first
      | (refine step_ap_str rfl (.tmp 8) _ rfl rfl HOb.out ⟨#[40, 109, 117, 116, 32]⟩ rfl HFb.out (by have := HL.out; have e : (⟨#[40, 109, 117, 116, 32]⟩ : ByteArray).size = 5 := rfl; omega) ?_
         intro v1 w1 o1 r1
         have HO1 := Lib.hid (show OwnB (B.add (w.heap.size + 1)) w1 v1 (l ++ [40, 109, 117, 116, 32]) from o1); have HF1 := Lib.hid (HFb.out.on r1); have HV1 := Lib.hid (HWb.out.trans r1.less)
         have HZ1 := Lib.hid (r1.box HZb.out (by decide)); have HC1 := Lib.hid ((r1.prot _ (.inr rfl)).trans HCb.out)
         have HK1 : Hid (w1.cell? ⟨w.heap.size, 0, none⟩ = some (.int .i64 p) ∧ w1.cell? ⟨w.heap.size, 1, none⟩ = some (.int .i64 k) ∧ w1.cell? ⟨w.heap.size, 2, none⟩ = some (.bool nl) ∧ w1.cell? ⟨w.heap.size, 3, none⟩ = some (.int .i64 h) ∧ w1.cell? ⟨w.heap.size, 4, none⟩ = some (.int .i64 n) ∧ w1.cell? ⟨w.heap.size, 5, none⟩ = some (.bool false)) := Lib.hid ⟨box1 HZ1.out 0 _ rfl, box1 HZ1.out 1 _ rfl, box1 HZ1.out 2 _ rfl, box1 HZ1.out 3 _ rfl, box1 HZ1.out 4 _ rfl, box1 HZ1.out 5 _ rfl⟩
         clear o1 r1)
      | (refine step_ap_str rfl (.tmp 8) _ rfl rfl HOa.out ⟨#[40, 109, 117, 116, 32]⟩ rfl (HB.out.on HWa.out) (by have := HL.out; have e : (⟨#[40, 109, 117, 116, 32]⟩ : ByteArray).size = 5 := rfl; omega) ?_
         intro v1 w1 o1 r1
         have HP1 := Lib.hid (show OwnB B w1 v1 (l ++ [40, 109, 117, 116, 32]) from o1); have HV1 := Lib.hid (HWa.out.trans r1)
         have HZ1 := Lib.hid (r1.box HZa.out (by decide))
         have HOc := Lib.hid (((HP1.out.add (HP1.out.lt (Nat.le_refl _))).alloc (.cells #[.int .u8 41] 5)))
         have HFc := Lib.hid (((HB.out.on HV1.out).alloc (.cells #[.int .u8 41] 5)).add (c := w1.heap.size) (by simp))
         have HCc := Lib.hid (heap_alloc_at w1 (.cells #[.int .u8 41] 5) rfl)
         have HZc := Lib.hid (heap_alloc_keep HZ1.out (.cells #[.int .u8 41] 5))
         have HKc : Hid ((w1.alloc (.cells #[.int .u8 41] 5)).cell? ⟨w.heap.size, 0, none⟩ = some (.int .i64 p) ∧ (w1.alloc (.cells #[.int .u8 41] 5)).cell? ⟨w.heap.size, 1, none⟩ = some (.int .i64 k) ∧ (w1.alloc (.cells #[.int .u8 41] 5)).cell? ⟨w.heap.size, 2, none⟩ = some (.bool nl) ∧ (w1.alloc (.cells #[.int .u8 41] 5)).cell? ⟨w.heap.size, 3, none⟩ = some (.int .i64 h) ∧ (w1.alloc (.cells #[.int .u8 41] 5)).cell? ⟨w.heap.size, 4, none⟩ = some (.int .i64 n) ∧ (w1.alloc (.cells #[.int .u8 41] 5)).cell? ⟨w.heap.size, 5, none⟩ = some (.bool false)) := Lib.hid ⟨box1 HZc.out 0 _ rfl, box1 HZc.out 1 _ rfl, box1 HZc.out 2 _ rfl, box1 HZc.out 3 _ rfl, box1 HZc.out 4 _ rfl, box1 HZc.out 5 _ rfl⟩
         have HVc := Lib.hid (HV1.out.alloc (HB.out.on HV1.out) (.cells #[.int .u8 41] 5))
         have HK1 : Hid (w1.cell? ⟨w.heap.size, 0, none⟩ = some (.int .i64 p) ∧ w1.cell? ⟨w.heap.size, 1, none⟩ = some (.int .i64 k) ∧ w1.cell? ⟨w.heap.size, 2, none⟩ = some (.bool nl) ∧ w1.cell? ⟨w.heap.size, 3, none⟩ = some (.int .i64 h) ∧ w1.cell? ⟨w.heap.size, 4, none⟩ = some (.int .i64 n) ∧ w1.cell? ⟨w.heap.size, 5, none⟩ = some (.bool false)) := Lib.hid ⟨box1 HZ1.out 0 _ rfl, box1 HZ1.out 1 _ rfl, box1 HZ1.out 2 _ rfl, box1 HZ1.out 3 _ rfl, box1 HZ1.out 4 _ rfl, box1 HZ1.out 5 _ rfl⟩
         clear o1 r1)
      | (go_simp; go_at_call 88; refine (putField_im (B.add (w.heap.size + 1)) (l ++ [40, 109, 117, 116, 32]) ⟨p, ⟨k, nl, h, n⟩, false⟩ rfl HN1.out HN2.out _ _ HO1.out HF1.out (by rw [List.length_append]; have := HL.out; simp; omega) (HT.out.on HV1.out)).mono ?_
         rintro e w2 ⟨v2, rfl, o2, r2⟩
         have HO2 := Lib.hid o2.less; have HV2 := Lib.hid (HV1.out.trans r2.less)
         have HC2 := Lib.hid (chr_cells (c := 41) ((r2.prot _ (.inr rfl)).trans HC1.out))
         have HK2 : Hid (w2.cell? ⟨w.heap.size, 0, none⟩ = some (.int .i64 p) ∧ w2.cell? ⟨w.heap.size, 1, none⟩ = some (.int .i64 k) ∧ w2.cell? ⟨w.heap.size, 2, none⟩ = some (.bool nl) ∧ w2.cell? ⟨w.heap.size, 3, none⟩ = some (.int .i64 h) ∧ w2.cell? ⟨w.heap.size, 4, none⟩ = some (.int .i64 n) ∧ w2.cell? ⟨w.heap.size, 5, none⟩ = some (.bool false)) := (have HZ2 := r2.box HZ1.out (by decide); Lib.hid ⟨box1 HZ2 0 _ rfl, box1 HZ2 1 _ rfl, box1 HZ2 2 _ rfl, box1 HZ2 3 _ rfl, box1 HZ2 4 _ rfl, box1 HZ2 5 _ rfl⟩)
         have HZ2 := Lib.hid (r2.box HZ1.out (by decide))
         clear o2 r2)
      | (go_simp; go_at_call 88; refine (putField_im (B.add w1.heap.size) (l ++ [40, 109, 117, 116, 32]) ⟨p, ⟨k, nl, h, n⟩, false⟩ rfl HN1.out HN2.out _ _ HOc.out HFc.out (by rw [List.length_append]; have := HL.out; simp; omega) (HT.out.on HVc.out)).mono ?_
         rintro e w2 ⟨v2, rfl, o2, r2⟩
         have HO2 := Lib.hid o2.less; have HV2 := Lib.hid (HVc.out.trans r2.less)
         have HC2 := Lib.hid (chr_cells (c := 41) ((r2.prot _ (.inr rfl)).trans HCc.out))
         have HK2 : Hid (w2.cell? ⟨w.heap.size, 0, none⟩ = some (.int .i64 p) ∧ w2.cell? ⟨w.heap.size, 1, none⟩ = some (.int .i64 k) ∧ w2.cell? ⟨w.heap.size, 2, none⟩ = some (.bool nl) ∧ w2.cell? ⟨w.heap.size, 3, none⟩ = some (.int .i64 h) ∧ w2.cell? ⟨w.heap.size, 4, none⟩ = some (.int .i64 n) ∧ w2.cell? ⟨w.heap.size, 5, none⟩ = some (.bool false)) := (have HZ2 := r2.box HZc.out (by decide); Lib.hid ⟨box1 HZ2 0 _ rfl, box1 HZ2 1 _ rfl, box1 HZ2 2 _ rfl, box1 HZ2 3 _ rfl, box1 HZ2 4 _ rfl, box1 HZ2 5 _ rfl⟩)
         have HZ2 := Lib.hid (r2.box HZc.out (by decide))
         clear o2 r2)
      | (go_simp; go_at_call 88; refine (putField_im B (l ++ [40, 109, 117, 116, 32]) ⟨p, ⟨k, nl, h, n⟩, false⟩ rfl HN1.out HN2.out _ _ HP1.out (HB.out.on HV1.out) (by rw [List.length_append]; have := HL.out; simp; omega) (HT.out.on HV1.out)).mono ?_
         rintro e w2 ⟨v2, rfl, o2, r2⟩
         have HV0 := Lib.hid (HV1.out.trans r2)
         have HO2 := Lib.hid (o2.alloc (.cells #[.int .u8 41] 5)); have HV2 := Lib.hid (HV0.out.alloc (HB.out.on HV0.out) (.cells #[.int .u8 41] 5))
         have HC2 := Lib.hid (chr_cells (c := 41) (heap_alloc_at w2 (.cells #[.int .u8 41] 5) rfl))
         have HK2 : Hid (w2.cell? ⟨w.heap.size, 0, none⟩ = some (.int .i64 p) ∧ w2.cell? ⟨w.heap.size, 1, none⟩ = some (.int .i64 k) ∧ w2.cell? ⟨w.heap.size, 2, none⟩ = some (.bool nl) ∧ w2.cell? ⟨w.heap.size, 3, none⟩ = some (.int .i64 h) ∧ w2.cell? ⟨w.heap.size, 4, none⟩ = some (.int .i64 n) ∧ w2.cell? ⟨w.heap.size, 5, none⟩ = some (.bool false)) := (have HZ2 := r2.box HZ1.out (by decide); Lib.hid ⟨box1 HZ2 0 _ rfl, box1 HZ2 1 _ rfl, box1 HZ2 2 _ rfl, box1 HZ2 3 _ rfl, box1 HZ2 4 _ rfl, box1 HZ2 5 _ rfl⟩)
         have HZ2 := Lib.hid (heap_alloc_keep (r2.box HZ1.out (by decide)) (.cells #[.int .u8 41] 5))
         have HK4 : Hid ((w2.alloc (.cells #[.int .u8 41] 5)).cell? ⟨w.heap.size, 0, none⟩ = some (.int .i64 p) ∧ (w2.alloc (.cells #[.int .u8 41] 5)).cell? ⟨w.heap.size, 1, none⟩ = some (.int .i64 k) ∧ (w2.alloc (.cells #[.int .u8 41] 5)).cell? ⟨w.heap.size, 2, none⟩ = some (.bool nl) ∧ (w2.alloc (.cells #[.int .u8 41] 5)).cell? ⟨w.heap.size, 3, none⟩ = some (.int .i64 h) ∧ (w2.alloc (.cells #[.int .u8 41] 5)).cell? ⟨w.heap.size, 4, none⟩ = some (.int .i64 n) ∧ (w2.alloc (.cells #[.int .u8 41] 5)).cell? ⟨w.heap.size, 5, none⟩ = some (.bool false)) := Lib.hid ⟨box1 HZ2.out 0 _ rfl, box1 HZ2.out 1 _ rfl, box1 HZ2.out 2 _ rfl, box1 HZ2.out 3 _ rfl, box1 HZ2.out 4 _ rfl, box1 HZ2.out 5 _ rfl⟩
         clear o2 r2)
      | (refine step_ap_row rfl (.tmp 11) (.tmp 12) rfl rfl HO2.out _ 1 1 [41] rfl rfl HC2.out (HB.out.on HV2.out) (by have := HL.out; have := HL5.out; simp only [List.length_append, List.length_cons, List.length_nil]; omega) ?_
         intro v3 w3 o3 r3
         have HO3 := Lib.hid o3; have HV3 := Lib.hid (HV2.out.trans r3)
         have HK3 : Hid (w3.cell? ⟨w.heap.size, 0, none⟩ = some (.int .i64 p) ∧ w3.cell? ⟨w.heap.size, 1, none⟩ = some (.int .i64 k) ∧ w3.cell? ⟨w.heap.size, 2, none⟩ = some (.bool nl) ∧ w3.cell? ⟨w.heap.size, 3, none⟩ = some (.int .i64 h) ∧ w3.cell? ⟨w.heap.size, 4, none⟩ = some (.int .i64 n) ∧ w3.cell? ⟨w.heap.size, 5, none⟩ = some (.bool false)) := (have HZ3 := r3.box HZ2.out (by decide); Lib.hid ⟨box1 HZ3 0 _ rfl, box1 HZ3 1 _ rfl, box1 HZ3 2 _ rfl, box1 HZ3 3 _ rfl, box1 HZ3 4 _ rfl, box1 HZ3 5 _ rfl⟩)
         clear o3 r3))
  all_goals go_wp2
  all_goals go_ret
  all_goals exact ⟨_, rfl, by have := HO3.out; simpa [List.append_assoc] using this, HV3.out⟩
theorem putField_any (B : Bs) (l : List UInt8) (f : Fl) (h1 : B64 f.v.n) (h2 : B64 f.p) (sv : Value) (w : World) (hown : OwnB B w sv l) (hB : Fit B w) (hl : l.length ≤ 600000000) (ht : Tb B w) :
    Calls Tryz.prog 88 #[sv, .agg (cellsF f).toArray] w (PutPost B w (l ++ fieldT f)) := by
  unfold fieldT
  by_cases hm : f.m = true
  · obtain ⟨p, ⟨k, nl, h, n⟩, m⟩ := f
    dsimp only at hm h1 h2
    subst hm
    exact putField_mut B l p k nl h n h1 h2 sv w hown hB hl ht
  · rw [if_neg hm]; exact putField_im B l f (by simpa using hm) h1 h2 sv w hown hB (by omega) ht
end Go.Proofs.YtkgmfbfpmlnfcaaGreatDoor

/- package kind: the writing of lists. -/
namespace Go.Proofs.YtkgmfbfpmlnfcaaGreatDoor
open Go.RowKit

theorem listT_snoc {α : Type} {f : α → List UInt8} {l : List α} {i : Nat} {x : α} (h : l[i]? = some x) : listT f (l.take (i + 1)) = listT f (l.take i) ++ (32 :: f x) := by
  have hlt := (List.getElem?_eq_some_iff.1 h).1
  have hx : l[i] = x := (List.getElem?_eq_some_iff.1 h).2
  rw [List.take_succ_eq_append_getElem hlt, hx]
  unfold listT
  simp
theorem listT_len {α : Type} {f : α → List UInt8} {c : Nat} : ∀ (l : List α), (∀ x ∈ l, (f x).length ≤ c) → (listT f l).length ≤ l.length * (c + 1)
  | [], _ => by simp [listT]
  | x :: l, h => by
    have ih := listT_len l (fun y hy => h y (by simp [hy]))
    have hx := h x (by simp)
    unfold listT at ih ⊢
    rw [List.flatMap_cons, List.length_append, List.length_cons, List.length_cons, Nat.add_mul]
    omega
theorem valsT_len {w : List UInt8} (l : List Vl) (h : ∀ v ∈ l, B64 v.n) : (valsT w l).length ≤ w.length + l.length * 61 + 1 := by
  unfold valsT
  split
  · simp
  · have := listT_len (f := valT) (c := 60) l (fun v hv => valT_len v (h v hv))
    simp; omega
set_option maxRecDepth 100000 in
set_option maxHeartbeats 8000000 in
theorem putVals_any (B : Bs) (l : List UInt8) (s : ByteArray) (hs : s.size ≤ 100) (vv : Value) (vl : List Vl) (hvl : vl.length ≤ 1000000) (hx : ∀ v ∈ vl, B64 v.n) (sv : Value) (w : World) (hv : ∀ w', Wr B w w' → ValsAt w' vv vl) (hown : OwnB B w sv l) (hB : Fit B w) (hl : l.length ≤ 400000000) (ht : Tb B w) :
    Calls Tryz.prog 87 #[sv, .string s, vv] w (PutPost B w (l ++ valsT s.data.toList vl)) := by
  obtain ⟨ao, cap, rfl⟩ := hown.form
  obtain ⟨vo, vcap, rfl⟩ := RowAt.form (hv w (Wr.refl B w))
  obtain ⟨n, hn⟩ : ∃ n, vl.length = n := ⟨_, rfl⟩
  have HBX := Lib.hid (show ∀ i x, vl[i]? = some x → B64 x.n from fun i x h => hx x (List.mem_of_getElem? h))
  have HV := Lib.hid hv; have HO0 := Lib.hid hown; have HB := Lib.hid hB; have HL := Lib.hid hl; have HT := Lib.hid ht; have HS := Lib.hid hs; have HN := Lib.hid hn; have HNL := Lib.hid hvl; have HXX := Lib.hid hx
  rw [hn] at HNL ⊢
  have hn6 : (n : Int) ≤ 1000000 := by omega
  clear hx hv hown hB hl ht hs hn hvl
  unfold valsT
  by_cases h0 : n = 0
  · subst h0
    have e : vl = [] := List.eq_nil_of_length_eq_zero HN.out
    rw [if_pos e, List.append_nil]
    clear e
    go_enter Tryz.func87, Tryz.ntmps87
    go_wp2
    go_ret
    exact ⟨_, rfl, HO0.out, Wr.refl _ _⟩
  have e : vl ≠ [] := fun e => h0 (by rw [← HN.out, e]; rfl)
  rw [if_neg e]
  have h0' : ((n : Int) == 0) = false := by simpa using h0
  clear e
  go_enter Tryz.func87, Tryz.ntmps87
  go_wp2_with (at_builtin; refine wpList_ap_str rfl _ _ rfl rfl HO0.out s rfl HB.out ?c1 ?_)
  case c1 => have := HL.out; have := HS.out; omega
  intro v1 w1 ho1 hr1
  obtain ⟨a1, c1, rfl⟩ := ho1.form
  obtain ⟨n1, hn1⟩ : ∃ n1, (l ++ s.data.toList).length = n1 := ⟨_, rfl⟩
  rw [hn1] at ho1 ⊢
  have HO1 := Lib.hid ho1; have HR1 := Lib.hid hr1
  clear ho1 hr1 hn1
  go_wp2_with fail
  go_loopw [0, 8, 18] (fun t0 _ t18 wr => ∃ (i : Nat) (L : List UInt8), t18 = .int .i64 (i : Nat) ∧ i ≤ n ∧ L = l ++ s.data.toList ++ listT valT (vl.take i) ∧ OwnB B wr t0 L ∧ Wr B w wr) (fun _ _ t18 _ => n - (intOf t18).toNat)
  case atStart => exact ⟨0, _, rfl, Nat.zero_le _, by simp [listT], HO1.out, HR1.out⟩
  case round =>
    obtain ⟨i, L, rfl, hi, hL, ho, hw⟩ := hrel
    obtain ⟨a2, c2, rfl⟩ := ho.form
    have hlb : L.length ≤ 480000000 := by
      have h1 := listT_len (f := valT) (c := 60) (vl.take i) (fun v hv => valT_len v (HXX.out v (List.mem_of_mem_take hv)))
      have h2 : (vl.take i).length ≤ i := List.length_take_le _ _
      have h3 : (vl.take i).length * 61 ≤ i * 61 := Nat.mul_le_mul_right _ h2
      have := HL.out; have := HS.out; have := HNL.out
      have e1 : s.data.toList.length = s.size := rfl
      rw [hL, List.length_append, List.length_append]; omega
    obtain ⟨ln, hln⟩ : ∃ ln, L.length = ln := ⟨_, rfl⟩
    rw [hln] at ho hlb ⊢
    have HO := Lib.hid ho; have HW := Lib.hid hw; have HLL := Lib.hid hL; have HLN := Lib.hid hln
    have HLB := Lib.hid (show L.length ≤ 480000000 by rw [hln]; exact hlb)
    clear ho hw hL hln hlb h0'
    by_cases hlt : i < n
    · obtain ⟨x, hx⟩ : ∃ x, vl[i]? = some x := ⟨vl[i]'(by rw [HN.out]; exact hlt), by simp⟩
      have hvr := HV.out wr HW.out
      obtain ⟨xk, xnl, xh, xn⟩ := x
      obtain ⟨b, off, rfl, hbl, p0, p1, p2, p3⟩ := vals_at hvr hx
      dsimp only at p0 p1 p2 p3
      have HX := Lib.hid hx; have HI := Lib.hid hlt
      have hlt' : (i : Int) < n := by omega
      have HI6 := Lib.hid (show (i : Int) < 1000000 by omega)
      have HOx := Lib.hid (show OwnB B (((wr.alloc (.cells #[.int .i64 xk, .bool xnl, .int .i64 xh, .int .i64 xn] 89)).alloc (.cells #[.int .u8 32] 5)).drew) _ L from ((HO.out.alloc _).alloc _).drew)
      have HWx := Lib.hid (show Wr B w (((wr.alloc (.cells #[.int .i64 xk, .bool xnl, .int .i64 xh, .int .i64 xn] 89)).alloc (.cells #[.int .u8 32] 5)).drew) from ((HW.out.alloc (HB.out.on HW.out) _).alloc ((HB.out.on HW.out).alloc _) _).drew)
      have HZx := Lib.hid (show (((wr.alloc (.cells #[.int .i64 xk, .bool xnl, .int .i64 xh, .int .i64 xn] 89)).alloc (.cells #[.int .u8 32] 5)).drew).heap[wr.heap.size]? = some (.cells #[.int .i64 xk, .bool xnl, .int .i64 xh, .int .i64 xn] 89 (0, 0)) from heap_alloc_keep (heap_alloc_at _ _ rfl) _)
      have HCx := Lib.hid (chr_cells (c := 32) (W := (((wr.alloc (.cells #[.int .i64 xk, .bool xnl, .int .i64 xh, .int .i64 xn] 89)).alloc (.cells #[.int .u8 32] 5)).drew)) (q := wr.heap.size + 1) (heap_alloc_at (wr.alloc (.cells #[.int .i64 xk, .bool xnl, .int .i64 xh, .int .i64 xn] 89)) (.cells #[.int .u8 32] 5) (by simp)))
      clear hx hvr hbl hlt hi h0 hn6
      go_wp2_with fail
      go_region_held_law (fun w' => w'.cell? ⟨wr.heap.size, 0, none⟩ = some (.int .i64 xk) ∧ w'.cell? ⟨wr.heap.size, 1, none⟩ = some (.bool xnl) ∧ w'.cell? ⟨wr.heap.size, 2, none⟩ = some (.int .i64 xh) ∧ w'.cell? ⟨wr.heap.size, 3, none⟩ = some (.int .i64 xn)) (first | exact HK1.out | exact HK2.out | simp)
        (first
          | (refine step_ap_row rfl (.tmp 22) (.tmp 23) rfl rfl HOx.out ⟨wr.heap.size + 1, 0, none⟩ 1 1 [32] rfl rfl HCx.out (HB.out.on HWx.out) (by have := HLB.out; simp; omega) ?_
             intro v1 w1 o1 r1
             have HO1 := Lib.hid o1; have HV1 := Lib.hid (HWx.out.trans r1)
             have HZ1 := Lib.hid (r1.box HZx.out (by decide))
             have HK1 : Hid (w1.cell? ⟨wr.heap.size, 0, none⟩ = some (.int .i64 xk) ∧ w1.cell? ⟨wr.heap.size, 1, none⟩ = some (.bool xnl) ∧ w1.cell? ⟨wr.heap.size, 2, none⟩ = some (.int .i64 xh) ∧ w1.cell? ⟨wr.heap.size, 3, none⟩ = some (.int .i64 xn)) := Lib.hid ⟨box1 HZ1.out 0 _ rfl, box1 HZ1.out 1 _ rfl, box1 HZ1.out 2 _ rfl, box1 HZ1.out 3 _ rfl⟩
             clear o1 r1)
          | (go_simp; go_at_call 91; refine (putVal_any B (L ++ [32]) ⟨xk, xnl, xh, xn⟩ (HBX.out i ⟨xk, xnl, xh, xn⟩ HX.out) _ _ HO1.out (HB.out.on HV1.out) (by rw [List.length_append]; have := HLB.out; simp; omega) (HT.out.on HV1.out)).mono ?_
             rintro e w2 ⟨v2, rfl, ho2, hb2⟩
             have HO2 := Lib.hid ho2; have HW2 := Lib.hid (HV1.out.trans hb2)
             have HK2 : Hid (w2.cell? ⟨wr.heap.size, 0, none⟩ = some (.int .i64 xk) ∧ w2.cell? ⟨wr.heap.size, 1, none⟩ = some (.bool xnl) ∧ w2.cell? ⟨wr.heap.size, 2, none⟩ = some (.int .i64 xh) ∧ w2.cell? ⟨wr.heap.size, 3, none⟩ = some (.int .i64 xn)) := (have HZ2 := hb2.box HZ1.out (by decide); Lib.hid ⟨box1 HZ2 0 _ rfl, box1 HZ2 1 _ rfl, box1 HZ2 2 _ rfl, box1 HZ2 3 _ rfl⟩)
             clear ho2 hb2))
      have hi6 := HI6.out
      go_wp2
      go_roundw
      case rel => exact ⟨i + 1, _, by go_num, HI.out, by rw [HLL.out, listT_snoc HX.out]; simp, HO2.out, HW2.out⟩
      case measure => have := HI.out; simp [intOf]; omega
    · have hlt' : ¬ (i : Int) < n := by omega
      have HE := Lib.hid (show L = l ++ s.data.toList ++ listT valT vl by rw [HLL.out, List.take_of_length_le (by rw [HN.out]; omega)])
      clear hlt hi h0
      have HCe4 := Lib.hid (chr_cells (c := 41) (heap_alloc_at wr (.cells #[.int .u8 41] 5) rfl))
      have HFe4 := Lib.hid ((HB.out.on HW.out).alloc (.cells #[.int .u8 41] 5)); have HOe4 := Lib.hid (HO.out.alloc (.cells #[.int .u8 41] 5)); have HWe4 := Lib.hid (HW.out.alloc (HB.out.on HW.out) (.cells #[.int .u8 41] 5))
      go_wp2_with (at_builtin; refine wpList_ap_row rfl _ _ rfl rfl HOe4.out ⟨wr.heap.size, 0, none⟩ 1 1 [41] rfl rfl HCe4.out HFe4.out ?c1 ?_)
      case c1 => have := HLB.out; simp; omega
      intro v4 w4 ho4 hv4
      have hr4 := HWe4.out.trans hv4
      obtain ⟨L4, hL4⟩ : ∃ LL, L ++ [41] = LL := ⟨_, rfl⟩
      have hb4 : L4.length ≤ 480000001 := by have := HLB.out; rw [← hL4, List.length_append]; simp; omega
      have ho4 : OwnB B w4 v4 L4 := by rw [← hL4]; exact ho4
      obtain ⟨a4, c4, rfl⟩ := ho4.form
      obtain ⟨n4, hn4⟩ : ∃ nn, L4.length = nn := ⟨_, rfl⟩
      rw [hn4] at ho4 hb4 ⊢
      have HO4 := Lib.hid ho4; have HW4 := Lib.hid hr4; have HV4 := Lib.hid hv4; have HE4 := Lib.hid hL4; have HN4 := Lib.hid hn4; have HK4 := Lib.hid hb4
      clear ho4 hr4 hv4 hL4 hn4 hb4
      go_wp2
      go_ret
      refine ⟨_, rfl, ?_, HW4.out⟩
      have := HO4.out
      rw [← HE4.out, HE.out] at this
      simpa [List.append_assoc] using this
end Go.Proofs.YtkgmfbfpmlnfcaaGreatDoor
