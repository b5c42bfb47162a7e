/- package kind: the writing of a heap type that has a number. -/
import Derived.Test.YtcihideabmpmjaaDoorQKdInt
namespace Go.Proofs.YtcihideabmpmjaaDoor
open Go.RowKit

set_option maxRecDepth 100000 in
theorem putHeap_idx (B : Bs) (l : List UInt8) (n : Int) (hn : B64 n) (sv : Value) (w : World) (hown : OwnB B w sv l) (hB : Fit B w) (hl : l.length ≤ 880000000) (ht : Tb B w) :
    Calls Tryd.prog 66 #[sv, .agg #[.int .i64 13, .int .i64 n]] w (PutPost B w (l ++ Lib.itoa n)) := by
  obtain ⟨ao, cap, rfl⟩ := hown.form
  obtain ⟨W0, hW0⟩ : ∃ W0, ((w.alloc (.cells #[.slice ao l.length cap] 116)).alloc (.cells #[.int .i64 13, .int .i64 n] 52)).alloc (.cells #[.slice none 0 0] 116) = W0 := ⟨_, rfl⟩
  have hwr : Wr B w W0 := by rw [← hW0]; exact ((Wr.new hB _).alloc (hB.alloc _) _).alloc ((hB.alloc _).alloc _) _
  have z2 : W0.heap[w.heap.size + 1 + 1]? = some (.cells #[.slice none 0 0] 116 (0, 0)) := by rw [← hW0]; exact heap_alloc_at _ _ (by simp)
  have hO : OwnB B W0 (.slice ao l.length cap) l := by rw [← hW0]; exact ((hown.alloc _).alloc _).alloc _
  have HW := Lib.hid hW0; have HR := Lib.hid hwr; have HZ := Lib.hid z2; have HO := Lib.hid hO; have HT := Lib.hid (ht.on hwr)
  have HN := Lib.hid hn; have HL := Lib.hid hl; have HB := Lib.hid hB
  clear hn hown ht hl hB hwr z2 hO hW0
  go_enter Tryd.func66, Tryd.ntmps66
  go_wp2_with fail
  rw [HW.out]
  refine (appendInt_b B l n HN.out _ _ HO.out (HB.out.on HR.out) (by have := HL.out; omega) HT.out).mono ?_
  rintro e w1 ⟨v, rfl, ho, hb⟩
  obtain ⟨ao1, cap1, rfl⟩ := ho.form
  obtain ⟨n1, hn1⟩ : ∃ n1, (l ++ Lib.itoa n).length = n1 := ⟨_, rfl⟩
  rw [hn1] at ho ⊢
  have HN1 := Lib.hid hn1
  clear hn1
  have z3 := hb.box HZ.out (by decide)
  have c1 := heap_cell z3 0
  have f1 := heap_frozen z3 0
  simp at c1
  have HO1 := Lib.hid ho; have HB1 := Lib.hid hb; have HZ3 := Lib.hid z3
  clear ho hb z3
  go_wp2
  have z4 := heap_set_at HZ3.out 0 (.slice ao1 n1 cap1)
  have c2 := heap_cell z4 0
  simp at c2
  refine bodyPost_ret (v := .slice ao1 n1 cap1) (by simp [results, Tryd.results66, go_sem, c2]) rfl ⟨_, rfl, HO1.out.setBox HZ3.out (by decide) _ _, (HR.out.trans HB1.out).setNew HB.out (by simp; omega) _⟩
set_option maxRecDepth 100000 in
theorem putHeap_rec (B : Bs) (l : List UInt8) (n : Int) (hn : B64 n) (sv : Value) (w : World) (hown : OwnB B w sv l) (hB : Fit B w) (hl : l.length ≤ 880000000) (ht : Tb B w) :
    Calls Tryd.prog 66 #[sv, .agg #[.int .i64 14, .int .i64 n]] w (PutPost B w (l ++ ([114, 101, 99, 46] ++ Lib.itoa n))) := by
  obtain ⟨ao, cap, rfl⟩ := hown.form
  obtain ⟨W0, hW0⟩ : ∃ W0, ((w.alloc (.cells #[.slice ao l.length cap] 116)).alloc (.cells #[.int .i64 14, .int .i64 n] 52)).alloc (.cells #[.slice none 0 0] 116) = W0 := ⟨_, rfl⟩
  have hwr : Wr B w W0 := by rw [← hW0]; exact ((Wr.new hB _).alloc (hB.alloc _) _).alloc ((hB.alloc _).alloc _) _
  have z0 : W0.heap[w.heap.size]? = some (.cells #[.slice ao l.length cap] 116 (0, 0)) := by rw [← hW0]; exact heap_alloc_keep (heap_alloc_keep (heap_alloc_at _ _ rfl) _) _
  have z1 : W0.heap[w.heap.size + 1]? = some (.cells #[.int .i64 14, .int .i64 n] 52 (0, 0)) := by rw [← hW0]; exact heap_alloc_keep (heap_alloc_at _ _ (by simp)) _
  have z2 : W0.heap[w.heap.size + 1 + 1]? = some (.cells #[.slice none 0 0] 116 (0, 0)) := by rw [← hW0]; exact heap_alloc_at _ _ (by simp)
  have hO : OwnB B W0 (.slice ao l.length cap) l := by rw [← hW0]; exact ((hown.alloc _).alloc _).alloc _
  have HW := Lib.hid hW0; have HR := Lib.hid hwr; have Z0 := Lib.hid z0; have Z1 := Lib.hid z1; have Z2 := Lib.hid z2; have HO := Lib.hid hO; have HT := Lib.hid (ht.on hwr)
  have HN := Lib.hid hn; have HL := Lib.hid hl; have HB := Lib.hid hB
  clear hn hown ht hl hB hwr z0 z1 z2 hO hW0
  go_enter Tryd.func66, Tryd.ntmps66
  have HOx := HO
  rw [← HW.out] at HOx
  have HFx := Lib.hid (HB.out.on HR.out)
  rw [← HW.out] at HFx
  go_wp2_with (at_builtin; refine wpList_ap_str rfl _ _ rfl rfl HOx.out ⟨#[114, 101, 99, 46]⟩ rfl HFx.out ?c1 ?_)
  case c1 => have := HL.out; have e : (⟨#[114, 101, 99, 46]⟩ : ByteArray).size = 4 := rfl; omega
  intro v1 w1 ho1 hr1
  rw [HW.out] at hr1
  obtain ⟨ao1, cap1, rfl⟩ := ho1.form
  obtain ⟨n1, hn1⟩ : ∃ n1, (l ++ [114, 101, 99, 46]).length = n1 := ⟨_, rfl⟩
  rw [hn1] at ho1 ⊢
  have hn2 : (l ++ [114, 101, 99, 46]).length ≤ 890000000 := by have := HL.out; rw [List.length_append]; simp; omega
  have y0 := hr1.box Z0.out (by decide)
  have y1 := hr1.box Z1.out (by decide)
  have y2 := hr1.box Z2.out (by decide)
  have x0 := heap_set_at y0 0 (.slice ao1 n1 cap1)
  have x1 := heap_set_off y1 (a := ⟨w.heap.size, 0, none⟩) (by simp) (.slice ao1 n1 cap1)
  have x2 := heap_set_off y2 (a := ⟨w.heap.size, 0, none⟩) (by simp; omega) (.slice ao1 n1 cap1)
  have ho2 := ho1.setBox y0 (by decide) 0 (.slice ao1 n1 cap1)
  have hr2 := (HR.out.trans hr1).setNew HB.out (p := ⟨w.heap.size, 0, none⟩) (Nat.le_refl _) (.slice ao1 n1 cap1)
  have HO2 := Lib.hid ho2; have HR2 := Lib.hid hr2; have HN1 := Lib.hid hn1; have HN2 := Lib.hid hn2; have X2 := Lib.hid x2
  have HT2 := Lib.hid (Lib.TabBelow.on HT.out ((hr1.below).setCell (p := ⟨w.heap.size, 0, none⟩) HB.out.le (.slice ao1 n1 cap1)))
  have q0 := heap_cell y0 0
  have f0 := heap_frozen y0 0
  have q1 := heap_cell x1 1
  simp at q0 q1
  clear ho1 hr1 hn1 hn2 y0 y1 y2 x0 x1 x2 ho2 hr2
  go_wp2_with fail
  refine (appendInt_b B (l ++ [114, 101, 99, 46]) n HN.out _ _ HO2.out (HB.out.on HR2.out) HN2.out HT2.out).mono ?_
  rintro e w2 ⟨v, rfl, ho, hb⟩
  obtain ⟨ao2, cap2, rfl⟩ := ho.form
  obtain ⟨n2, hn2⟩ : ∃ n2, (l ++ [114, 101, 99, 46] ++ Lib.itoa n).length = n2 := ⟨_, rfl⟩
  rw [hn2] at ho ⊢
  have z3 := hb.box X2.out (by decide)
  have c1 := heap_cell z3 0
  have f1 := heap_frozen z3 0
  simp at c1
  have HO3 := Lib.hid ho; have HB3 := Lib.hid hb; have HZ3 := Lib.hid z3; have HN3 := Lib.hid hn2
  clear ho hb z3 hn2 q0 q1 f0
  go_wp2
  have z4 := heap_set_at HZ3.out 0 (.slice ao2 n2 cap2)
  have c2 := heap_cell z4 0
  simp at c2
  have ho := HO3.out.setBox HZ3.out (by decide) 0 (.slice ao2 n2 cap2)
  rw [List.append_assoc] at ho
  refine bodyPost_ret (v := .slice ao2 n2 cap2) (by simp [results, Tryd.results66, go_sem, c2]) rfl ⟨_, rfl, ho, (HR2.out.trans HB3.out).setNew HB.out (by simp; omega) _⟩
set_option maxRecDepth 100000 in
theorem putHeap_def (B : Bs) (l : List UInt8) (n : Int) (hn : B64 n) (sv : Value) (w : World) (hown : OwnB B w sv l) (hB : Fit B w) (hl : l.length ≤ 880000000) (ht : Tb B w) :
    Calls Tryd.prog 66 #[sv, .agg #[.int .i64 15, .int .i64 n]] w (PutPost B w (l ++ ([100, 101, 102, 46] ++ Lib.itoa n))) := by
  obtain ⟨ao, cap, rfl⟩ := hown.form
  obtain ⟨W0, hW0⟩ : ∃ W0, ((w.alloc (.cells #[.slice ao l.length cap] 116)).alloc (.cells #[.int .i64 15, .int .i64 n] 52)).alloc (.cells #[.slice none 0 0] 116) = W0 := ⟨_, rfl⟩
  have hwr : Wr B w W0 := by rw [← hW0]; exact ((Wr.new hB _).alloc (hB.alloc _) _).alloc ((hB.alloc _).alloc _) _
  have z0 : W0.heap[w.heap.size]? = some (.cells #[.slice ao l.length cap] 116 (0, 0)) := by rw [← hW0]; exact heap_alloc_keep (heap_alloc_keep (heap_alloc_at _ _ rfl) _) _
  have z1 : W0.heap[w.heap.size + 1]? = some (.cells #[.int .i64 15, .int .i64 n] 52 (0, 0)) := by rw [← hW0]; exact heap_alloc_keep (heap_alloc_at _ _ (by simp)) _
  have z2 : W0.heap[w.heap.size + 1 + 1]? = some (.cells #[.slice none 0 0] 116 (0, 0)) := by rw [← hW0]; exact heap_alloc_at _ _ (by simp)
  have hO : OwnB B W0 (.slice ao l.length cap) l := by rw [← hW0]; exact ((hown.alloc _).alloc _).alloc _
  have HW := Lib.hid hW0; have HR := Lib.hid hwr; have Z0 := Lib.hid z0; have Z1 := Lib.hid z1; have Z2 := Lib.hid z2; have HO := Lib.hid hO; have HT := Lib.hid (ht.on hwr)
  have HN := Lib.hid hn; have HL := Lib.hid hl; have HB := Lib.hid hB
  clear hn hown ht hl hB hwr z0 z1 z2 hO hW0
  go_enter Tryd.func66, Tryd.ntmps66
  have HOx := HO
  rw [← HW.out] at HOx
  have HFx := Lib.hid (HB.out.on HR.out)
  rw [← HW.out] at HFx
  go_wp2_with (at_builtin; refine wpList_ap_str rfl _ _ rfl rfl HOx.out ⟨#[100, 101, 102, 46]⟩ rfl HFx.out ?c1 ?_)
  case c1 => have := HL.out; have e : (⟨#[100, 101, 102, 46]⟩ : ByteArray).size = 4 := rfl; omega
  intro v1 w1 ho1 hr1
  rw [HW.out] at hr1
  obtain ⟨ao1, cap1, rfl⟩ := ho1.form
  obtain ⟨n1, hn1⟩ : ∃ n1, (l ++ [100, 101, 102, 46]).length = n1 := ⟨_, rfl⟩
  rw [hn1] at ho1 ⊢
  have hn2 : (l ++ [100, 101, 102, 46]).length ≤ 890000000 := by have := HL.out; rw [List.length_append]; simp; omega
  have y0 := hr1.box Z0.out (by decide)
  have y1 := hr1.box Z1.out (by decide)
  have y2 := hr1.box Z2.out (by decide)
  have x0 := heap_set_at y0 0 (.slice ao1 n1 cap1)
  have x1 := heap_set_off y1 (a := ⟨w.heap.size, 0, none⟩) (by simp) (.slice ao1 n1 cap1)
  have x2 := heap_set_off y2 (a := ⟨w.heap.size, 0, none⟩) (by simp; omega) (.slice ao1 n1 cap1)
  have ho2 := ho1.setBox y0 (by decide) 0 (.slice ao1 n1 cap1)
  have hr2 := (HR.out.trans hr1).setNew HB.out (p := ⟨w.heap.size, 0, none⟩) (Nat.le_refl _) (.slice ao1 n1 cap1)
  have HO2 := Lib.hid ho2; have HR2 := Lib.hid hr2; have HN1 := Lib.hid hn1; have HN2 := Lib.hid hn2; have X2 := Lib.hid x2
  have HT2 := Lib.hid (Lib.TabBelow.on HT.out ((hr1.below).setCell (p := ⟨w.heap.size, 0, none⟩) HB.out.le (.slice ao1 n1 cap1)))
  have q0 := heap_cell y0 0
  have f0 := heap_frozen y0 0
  have q1 := heap_cell x1 1
  simp at q0 q1
  clear ho1 hr1 hn1 hn2 y0 y1 y2 x0 x1 x2 ho2 hr2
  go_wp2_with fail
  refine (appendInt_b B (l ++ [100, 101, 102, 46]) n HN.out _ _ HO2.out (HB.out.on HR2.out) HN2.out HT2.out).mono ?_
  rintro e w2 ⟨v, rfl, ho, hb⟩
  obtain ⟨ao2, cap2, rfl⟩ := ho.form
  obtain ⟨n2, hn2⟩ : ∃ n2, (l ++ [100, 101, 102, 46] ++ Lib.itoa n).length = n2 := ⟨_, rfl⟩
  rw [hn2] at ho ⊢
  have z3 := hb.box X2.out (by decide)
  have c1 := heap_cell z3 0
  have f1 := heap_frozen z3 0
  simp at c1
  have HO3 := Lib.hid ho; have HB3 := Lib.hid hb; have HZ3 := Lib.hid z3; have HN3 := Lib.hid hn2
  clear ho hb z3 hn2 q0 q1 f0
  go_wp2
  have z4 := heap_set_at HZ3.out 0 (.slice ao2 n2 cap2)
  have c2 := heap_cell z4 0
  simp at c2
  have ho := HO3.out.setBox HZ3.out (by decide) 0 (.slice ao2 n2 cap2)
  rw [List.append_assoc] at ho
  refine bodyPost_ret (v := .slice ao2 n2 cap2) (by simp [results, Tryd.results66, go_sem, c2]) rfl ⟨_, rfl, ho, (HR2.out.trans HB3.out).setNew HB.out (by simp; omega) _⟩
end Go.Proofs.YtcihideabmpmjaaDoor
