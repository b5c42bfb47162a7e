import Derived.Test.YtpddbaijnjbfdaaGreatDoorQKdIntBd
namespace Go.Proofs.YtpddbaijnjbfdaaGreatDoor
open Lib (hid)
section
open Go.RowKit
set_option maxRecDepth 100000 in
theorem putHeap_idx (B : Bs) (l : List UInt8) (n : Int) (hn : B64 n) (sv : Value) (w : World) (hown : OwnB B w sv l) (hB : Fit B w) (hl : l.length ≤ 880000000) (ht : Tb B w) :
    Calls Tryz.prog 124 #[sv, .agg #[.int .i64 13, .int .i64 n]] w (PutPost B w (l ++ Lib.itoa n)) := by
  obtain ⟨ao, cap, rfl⟩ := hown.form
  obtain ⟨W0, hW0⟩ : ∃ W0, ((w.alloc (.cells #[.slice ao l.length cap] 124)).alloc (.cells #[.int .i64 13, .int .i64 n] 75)).alloc (.cells #[.slice none 0 0] 124) = W0 := ⟨_, rfl⟩
  have hwr : Wr B w W0 := by rw [← hW0]; exact ((Wr.new hB _).alloc (hB.alloc _) _).alloc ((hB.alloc _).alloc _) _
  have z2 : W0.heap[w.heap.size + 1 + 1]? = some (.cells #[.slice none 0 0] 124 (0, 0)) := by rw [← hW0]; exact heap_alloc_at _ _ (by simp)
  have hO : OwnB B W0 (.slice ao l.length cap) l := by rw [← hW0]; exact ((hown.alloc _).alloc _).alloc _
  have HW := hid hW0; have HR := hid hwr; have HZ := hid z2; have HO := hid hO; have HT := hid (ht.on hwr)
  have HN := hid hn; have HL := hid hl; have HB := hid hB
  clear hn hown ht hl hB hwr z2 hO hW0
  go_enter Tryz.func124, Tryz.ntmps124
  go_wp2_with fail
  rw [HW.out]
  refine (appendInt_b B l n HN.out _ _ HO.out (HB.out.on HR.out) (by have := HL.out; omega) HT.out).mono ?_
  rintro e w1 ⟨v, rfl, ho, hb⟩
  obtain ⟨ao1, cap1, rfl⟩ := ho.form
  obtain ⟨n1, hn1⟩ : ∃ n1, (l ++ Lib.itoa n).length = n1 := ⟨_, rfl⟩
  rw [hn1] at ho ⊢
  have HN1 := hid hn1
  clear hn1
  have z3 := hb.box HZ.out (by decide)
  have c1 := heap_cell z3 0
  have f1 := heap_frozen z3 0
  simp at c1
  have HO1 := hid ho; have HB1 := hid hb; have HZ3 := hid z3
  clear ho hb z3
  go_wp2
  have z4 := heap_set_at HZ3.out 0 (.slice ao1 n1 cap1)
  have c2 := heap_cell z4 0
  simp at c2
  refine bodyPost_ret (v := .slice ao1 n1 cap1) (by simp [results, Tryz.results124, go_sem, c2]) rfl ⟨_, rfl, HO1.out.setBox HZ3.out (by decide) _ _, (HR.out.trans HB1.out).setNew HB.out (by simp; omega) _⟩
set_option maxRecDepth 100000 in
theorem putHeap_rec (B : Bs) (l : List UInt8) (n : Int) (hn : B64 n) (sv : Value) (w : World) (hown : OwnB B w sv l) (hB : Fit B w) (hl : l.length ≤ 880000000) (ht : Tb B w) :
    Calls Tryz.prog 124 #[sv, .agg #[.int .i64 14, .int .i64 n]] w (PutPost B w (l ++ ([114, 101, 99, 46] ++ Lib.itoa n))) := by
  obtain ⟨ao, cap, rfl⟩ := hown.form
  obtain ⟨W0, hW0⟩ : ∃ W0, ((w.alloc (.cells #[.slice ao l.length cap] 124)).alloc (.cells #[.int .i64 14, .int .i64 n] 75)).alloc (.cells #[.slice none 0 0] 124) = W0 := ⟨_, rfl⟩
  have hwr : Wr B w W0 := by rw [← hW0]; exact ((Wr.new hB _).alloc (hB.alloc _) _).alloc ((hB.alloc _).alloc _) _
  have z0 : W0.heap[w.heap.size]? = some (.cells #[.slice ao l.length cap] 124 (0, 0)) := by rw [← hW0]; exact heap_alloc_keep (heap_alloc_keep (heap_alloc_at _ _ rfl) _) _
  have z1 : W0.heap[w.heap.size + 1]? = some (.cells #[.int .i64 14, .int .i64 n] 75 (0, 0)) := by rw [← hW0]; exact heap_alloc_keep (heap_alloc_at _ _ (by simp)) _
  have z2 : W0.heap[w.heap.size + 1 + 1]? = some (.cells #[.slice none 0 0] 124 (0, 0)) := by rw [← hW0]; exact heap_alloc_at _ _ (by simp)
  have hO : OwnB B W0 (.slice ao l.length cap) l := by rw [← hW0]; exact ((hown.alloc _).alloc _).alloc _
  have HW := hid hW0; have HR := hid hwr; have Z0 := hid z0; have Z1 := hid z1; have Z2 := hid z2; have HO := hid hO; have HT := hid (ht.on hwr)
  have HN := hid hn; have HL := hid hl; have HB := hid hB
  clear hn hown ht hl hB hwr z0 z1 z2 hO hW0
  go_enter Tryz.func124, Tryz.ntmps124
  have HOx := HO
  rw [← HW.out] at HOx
  have HFx := hid (HB.out.on HR.out)
  rw [← HW.out] at HFx
  go_wp2_with (at_builtin; refine wpList_ap_str rfl _ _ rfl rfl HOx.out ⟨#[114, 101, 99, 46]⟩ rfl HFx.out ?c1 ?_)
  case c1 => have := HL.out; have e : (⟨#[114, 101, 99, 46]⟩ : ByteArray).size = 4 := rfl; omega
  intro v1 w1 ho1 hr1
  rw [HW.out] at hr1
  obtain ⟨ao1, cap1, rfl⟩ := ho1.form
  obtain ⟨n1, hn1⟩ : ∃ n1, (l ++ [114, 101, 99, 46]).length = n1 := ⟨_, rfl⟩
  rw [hn1] at ho1 ⊢
  have hn2 : (l ++ [114, 101, 99, 46]).length ≤ 890000000 := by have := HL.out; rw [List.length_append]; simp; omega
  have y0 := hr1.box Z0.out (by decide)
  have y1 := hr1.box Z1.out (by decide)
  have y2 := hr1.box Z2.out (by decide)
  have x0 := heap_set_at y0 0 (.slice ao1 n1 cap1)
  have x1 := heap_set_off y1 (a := ⟨w.heap.size, 0, none⟩) (by simp) (.slice ao1 n1 cap1)
  have x2 := heap_set_off y2 (a := ⟨w.heap.size, 0, none⟩) (by simp; omega) (.slice ao1 n1 cap1)
  have ho2 := ho1.setBox y0 (by decide) 0 (.slice ao1 n1 cap1)
  have hr2 := (HR.out.trans hr1).setNew HB.out (p := ⟨w.heap.size, 0, none⟩) (Nat.le_refl _) (.slice ao1 n1 cap1)
  have HO2 := hid ho2; have HR2 := hid hr2; have HN1 := hid hn1; have HN2 := hid hn2; have X2 := hid x2
  have HT2 := hid (Lib.TabBelow.on HT.out ((hr1.below).setCell (p := ⟨w.heap.size, 0, none⟩) HB.out.le (.slice ao1 n1 cap1)))
  have q0 := heap_cell y0 0
  have f0 := heap_frozen y0 0
  have q1 := heap_cell x1 1
  simp at q0 q1
  clear ho1 hr1 hn1 hn2 y0 y1 y2 x0 x1 x2 ho2 hr2
  go_wp2_with fail
  refine (appendInt_b B (l ++ [114, 101, 99, 46]) n HN.out _ _ HO2.out (HB.out.on HR2.out) HN2.out HT2.out).mono ?_
  rintro e w2 ⟨v, rfl, ho, hb⟩
  obtain ⟨ao2, cap2, rfl⟩ := ho.form
  obtain ⟨n2, hn2⟩ : ∃ n2, (l ++ [114, 101, 99, 46] ++ Lib.itoa n).length = n2 := ⟨_, rfl⟩
  rw [hn2] at ho ⊢
  have z3 := hb.box X2.out (by decide)
  have c1 := heap_cell z3 0
  have f1 := heap_frozen z3 0
  simp at c1
  have HO3 := hid ho; have HB3 := hid hb; have HZ3 := hid z3; have HN3 := hid hn2
  clear ho hb z3 hn2 q0 q1 f0
  go_wp2
  have z4 := heap_set_at HZ3.out 0 (.slice ao2 n2 cap2)
  have c2 := heap_cell z4 0
  simp at c2
  have ho := HO3.out.setBox HZ3.out (by decide) 0 (.slice ao2 n2 cap2)
  rw [List.append_assoc] at ho
  refine bodyPost_ret (v := .slice ao2 n2 cap2) (by simp [results, Tryz.results124, go_sem, c2]) rfl ⟨_, rfl, ho, (HR2.out.trans HB3.out).setNew HB.out (by simp; omega) _⟩
set_option maxRecDepth 100000 in
theorem putHeap_def (B : Bs) (l : List UInt8) (n : Int) (hn : B64 n) (sv : Value) (w : World) (hown : OwnB B w sv l) (hB : Fit B w) (hl : l.length ≤ 880000000) (ht : Tb B w) :
    Calls Tryz.prog 124 #[sv, .agg #[.int .i64 15, .int .i64 n]] w (PutPost B w (l ++ ([100, 101, 102, 46] ++ Lib.itoa n))) := by
  obtain ⟨ao, cap, rfl⟩ := hown.form
  obtain ⟨W0, hW0⟩ : ∃ W0, ((w.alloc (.cells #[.slice ao l.length cap] 124)).alloc (.cells #[.int .i64 15, .int .i64 n] 75)).alloc (.cells #[.slice none 0 0] 124) = W0 := ⟨_, rfl⟩
  have hwr : Wr B w W0 := by rw [← hW0]; exact ((Wr.new hB _).alloc (hB.alloc _) _).alloc ((hB.alloc _).alloc _) _
  have z0 : W0.heap[w.heap.size]? = some (.cells #[.slice ao l.length cap] 124 (0, 0)) := by rw [← hW0]; exact heap_alloc_keep (heap_alloc_keep (heap_alloc_at _ _ rfl) _) _
  have z1 : W0.heap[w.heap.size + 1]? = some (.cells #[.int .i64 15, .int .i64 n] 75 (0, 0)) := by rw [← hW0]; exact heap_alloc_keep (heap_alloc_at _ _ (by simp)) _
  have z2 : W0.heap[w.heap.size + 1 + 1]? = some (.cells #[.slice none 0 0] 124 (0, 0)) := by rw [← hW0]; exact heap_alloc_at _ _ (by simp)
  have hO : OwnB B W0 (.slice ao l.length cap) l := by rw [← hW0]; exact ((hown.alloc _).alloc _).alloc _
  have HW := hid hW0; have HR := hid hwr; have Z0 := hid z0; have Z1 := hid z1; have Z2 := hid z2; have HO := hid hO; have HT := hid (ht.on hwr)
  have HN := hid hn; have HL := hid hl; have HB := hid hB
  clear hn hown ht hl hB hwr z0 z1 z2 hO hW0
  go_enter Tryz.func124, Tryz.ntmps124
  have HOx := HO
  rw [← HW.out] at HOx
  have HFx := hid (HB.out.on HR.out)
  rw [← HW.out] at HFx
  go_wp2_with (at_builtin; refine wpList_ap_str rfl _ _ rfl rfl HOx.out ⟨#[100, 101, 102, 46]⟩ rfl HFx.out ?c1 ?_)
  case c1 => have := HL.out; have e : (⟨#[100, 101, 102, 46]⟩ : ByteArray).size = 4 := rfl; omega
  intro v1 w1 ho1 hr1
  rw [HW.out] at hr1
  obtain ⟨ao1, cap1, rfl⟩ := ho1.form
  obtain ⟨n1, hn1⟩ : ∃ n1, (l ++ [100, 101, 102, 46]).length = n1 := ⟨_, rfl⟩
  rw [hn1] at ho1 ⊢
  have hn2 : (l ++ [100, 101, 102, 46]).length ≤ 890000000 := by have := HL.out; rw [List.length_append]; simp; omega
  have y0 := hr1.box Z0.out (by decide)
  have y1 := hr1.box Z1.out (by decide)
  have y2 := hr1.box Z2.out (by decide)
  have x0 := heap_set_at y0 0 (.slice ao1 n1 cap1)
  have x1 := heap_set_off y1 (a := ⟨w.heap.size, 0, none⟩) (by simp) (.slice ao1 n1 cap1)
  have x2 := heap_set_off y2 (a := ⟨w.heap.size, 0, none⟩) (by simp; omega) (.slice ao1 n1 cap1)
  have ho2 := ho1.setBox y0 (by decide) 0 (.slice ao1 n1 cap1)
  have hr2 := (HR.out.trans hr1).setNew HB.out (p := ⟨w.heap.size, 0, none⟩) (Nat.le_refl _) (.slice ao1 n1 cap1)
  have HO2 := hid ho2; have HR2 := hid hr2; have HN1 := hid hn1; have HN2 := hid hn2; have X2 := hid x2
  have HT2 := hid (Lib.TabBelow.on HT.out ((hr1.below).setCell (p := ⟨w.heap.size, 0, none⟩) HB.out.le (.slice ao1 n1 cap1)))
  have q0 := heap_cell y0 0
  have f0 := heap_frozen y0 0
  have q1 := heap_cell x1 1
  simp at q0 q1
  clear ho1 hr1 hn1 hn2 y0 y1 y2 x0 x1 x2 ho2 hr2
  go_wp2_with fail
  refine (appendInt_b B (l ++ [100, 101, 102, 46]) n HN.out _ _ HO2.out (HB.out.on HR2.out) HN2.out HT2.out).mono ?_
  rintro e w2 ⟨v, rfl, ho, hb⟩
  obtain ⟨ao2, cap2, rfl⟩ := ho.form
  obtain ⟨n2, hn2⟩ : ∃ n2, (l ++ [100, 101, 102, 46] ++ Lib.itoa n).length = n2 := ⟨_, rfl⟩
  rw [hn2] at ho ⊢
  have z3 := hb.box X2.out (by decide)
  have c1 := heap_cell z3 0
  have f1 := heap_frozen z3 0
  simp at c1
  have HO3 := hid ho; have HB3 := hid hb; have HZ3 := hid z3; have HN3 := hid hn2
  clear ho hb z3 hn2 q0 q1 f0
  go_wp2
  have z4 := heap_set_at HZ3.out 0 (.slice ao2 n2 cap2)
  have c2 := heap_cell z4 0
  simp at c2
  have ho := HO3.out.setBox HZ3.out (by decide) 0 (.slice ao2 n2 cap2)
  rw [List.append_assoc] at ho
  refine bodyPost_ret (v := .slice ao2 n2 cap2) (by simp [results, Tryz.results124, go_sem, c2]) rfl ⟨_, rfl, ho, (HR2.out.trans HB3.out).setNew HB.out (by simp; omega) _⟩
end
section
open Go.RowKit Go.Shelf
attribute [local go_sem] Oper.semAt_some
def pieces (c : UInt8) : List UInt8 → List (List UInt8)
  | [] => [[]]
  | b :: l => if b == c then [] :: pieces c l else match pieces c l with
    | p :: ps => (b :: p) :: ps
    | [] => [[b]]
theorem pieces_none (c : UInt8) : ∀ l, Lib.indexByte l c = -1 → pieces c l = [l]
  | [], _ => rfl
  | b :: l, h => by
    unfold Lib.indexByte at h
    split at h
    · cases h
    · rename_i hb
      split at h
      · rename_i h1
        have ih := pieces_none c l (by simpa using h1)
        unfold pieces
        rw [if_neg hb, ih]
      · rename_i h1
        have := Lib.indexByte_ge l c
        simp at h1
        omega
theorem pieces_some (c : UInt8) : ∀ (l : List UInt8) (i : Nat), Lib.indexByte l c = i → i < l.length ∧ pieces c l = l.take i :: pieces c (l.drop (i + 1))
  | [], i, h => by unfold Lib.indexByte at h; omega
  | b :: l, i, h => by
    unfold Lib.indexByte at h
    split at h
    · rename_i hb
      obtain rfl : i = 0 := by omega
      refine ⟨by simp, ?_⟩
      rw [pieces, if_pos hb]
      simp
    · rename_i hb
      split at h
      · omega
      · rename_i h1
        have hge := Lib.indexByte_ge l c
        obtain ⟨j, hj⟩ : ∃ j : Nat, Lib.indexByte l c = j := ⟨(Lib.indexByte l c).toNat, by simp at h1; omega⟩
        obtain rfl : i = j + 1 := by omega
        obtain ⟨hl, hp⟩ := pieces_some c l j hj
        refine ⟨by simp; omega, ?_⟩
        rw [pieces, if_neg hb, hp]
        simp
theorem splitSeq_any (s sep : ByteArray) (w : World) :
    Calls Tryz.prog 135 #[.string s, .string sep] w fun e w' => e = .returned (.func (.func 149) #[] #[.pointer (some ⟨w.heap.size + 1, 0, none⟩), .pointer (some ⟨w.heap.size, 0, none⟩), .pointer (some ⟨w.heap.size + 2, 0, none⟩)]) ∧
      ∃ S : ByteArray, Hid (S = s) ∧ w' = ((w.alloc (.cells #[.string S] 9)).alloc (.cells #[.string sep] 9)).alloc (.cells #[.int .i64 0] 3) := by
  go_enter Tryz.func135, Tryz.ntmps135
  go_wp2
  go_ret
  exact ⟨rfl, s, hid rfl, rfl⟩
structure Capt (b : Nat) (c : UInt8) (r : ByteArray) (W : World) : Prop where
  txt : W.cell? ⟨b, 0, none⟩ = some (.string r)
  free : W.frozen? ⟨b, 0, none⟩ = false
  sep : W.cell? ⟨b + 1, 0, none⟩ = some (.string ⟨#[c]⟩)
  sav : W.cell? ⟨b + 2, 0, none⟩ = some (.int .i64 0)
def lenAt (b : Nat) (W : World) : Nat := match W.cell? ⟨b, 0, none⟩ with
  | some (.string s) => s.size
  | _ => 0
theorem Capt.set {b : Nat} {c : UInt8} {r r' : ByteArray} {W : World} (h : Capt b c r W) : Capt b c r' (W.setCell ⟨b, 0, none⟩ (.string r')) := by
  refine ⟨World.cell?_setCell_same' _ _ _ (by rw [h.txt]; rfl), by rw [World.frozen?_setCell]; exact h.free, ?_, ?_⟩
  · rw [World.cell?_setCell_other]
    · exact h.sep
    · intro e; have := congrArg Addr.block e; simp at this
  · rw [World.cell?_setCell_other]
    · exact h.sav
    · intro e; have := congrArg Addr.block e; simp at this
theorem lenAt_of {b : Nat} {c : UInt8} {r : ByteArray} {W : World} (h : Capt b c r W) : lenAt b W = r.size := by
  unfold lenAt; rw [h.txt]
set_option maxHeartbeats 1000000 in
theorem splitSeq_iter (n b : Nat) (hn : 1 ≤ n) (c : UInt8) (s : ByteArray) (hs : s.size ≤ 9223372036854775807) (w : World) (hb : b + 2 < w.heap.size) (hc : Capt b c s w) (Kp : World → World → Prop) (I : List ByteArray → World → Prop) (Ix : Code → List ByteArray → World → Prop)
    (hKp : ∀ W W' r, Kp W W' → Capt b c r W → Capt b c r W') (hI : ∀ pre W r, I pre W → I pre (W.setCell ⟨b, 0, none⟩ (.string r))) :
    IterAt Fence.wide n Tryz.prog 149 #[.pointer (some ⟨b + 1, 0, none⟩), .pointer (some ⟨b, 0, none⟩), .pointer (some ⟨b + 2, 0, none⟩)] (fun x : ByteArray => #[.string x]) w Kp I Ix
      (fun xs => xs.map (·.data.toList) = pieces c s.data.toList) (fun pre => pre.map (·.data.toList) <+: pieces c s.data.toList) (fun pre x => (pre ++ [x]).map (·.data.toList) <+: pieces c s.data.toList) := by
  intro l L L' W1 hL hL' hbel hY h0 hL0
  have hc1 : Capt b c s W1 := ⟨by rw [hbel.cell (by simp; omega)]; exact hc.txt, by rw [hbel.frozen (by simp; omega)]; exact hc.free, by rw [hbel.cell (by simp; omega)]; exact hc.sep, by rw [hbel.cell (by simp; omega)]; exact hc.sav⟩
  clear hbel hc hb
  refine callsIn_of_wp Tryz.func149 rfl trivial ?_ rfl
  simp only [Tryz.ntmps149, List.size_toArray, List.length_cons, List.length_nil, Nat.reduceAdd, Nat.reduceSub, Array.replicate_succ, Array.replicate_zero, List.push_toArray, List.append_toArray, List.nil_append, List.cons_append]
  have q1 := hc1.sep
  gi_wp2
  gi_loopw [7, 8] (fun _ _ wr => ∃ (pre : List ByteArray) (r : ByteArray), pre.map (·.data.toList) ++ pieces c r.data.toList = pieces c s.data.toList ∧ r.size ≤ s.size ∧ Capt b c r wr ∧ I pre wr ∧ L wr) (fun _ _ wr => lenAt b wr)
  case atStart => exact ⟨[], s, rfl, Nat.le_refl _, hc1, h0, hL0⟩
  case round =>
    obtain ⟨pre, r, hp, hrs, hcr, hi, hl⟩ := hrel
    have k0 := hcr.txt
    have k1 := hcr.sep
    have k2 := hcr.sav
    have k3 := hcr.free
    rcases Int.lt_or_le (Lib.indexByte r.data.toList c) 0 with hneg | hpos
    · have hm1 : Lib.indexByte r.data.toList c = -1 := by have := Lib.indexByte_ge r.data.toList c; omega
      have hps := pieces_none c _ hm1
      have HP := hid hps
      have HM := hid hm1
      clear hps hm1 hneg
      obtain ⟨fn, tmps, assign, body, hy, hR⟩ := hY pre r wr hi hl ⟨[], by rw [← hp, HP.out]; simp⟩
      try dsimp only at hy
      gi_wp2_with (refine ⟨trivial, ?_⟩; gi_at_call 151; refine (callsIn_wide.2 (Tryz.strings_Index_one _ c _)).mono ?_; rintro e w' ⟨rfl, rfl⟩; rw [HM.out])
      refine hR.mono ?_
      rintro e W' (⟨rfl, hJ', hk, hl'⟩ | ⟨rfl, c', hx, hl'⟩)
      · gi_wp2
        go_end0
        exact ⟨⟨_, rfl⟩, .inl ⟨pre ++ [r], by rw [← hp, HP.out]; simp, hJ', hl'⟩⟩
      · gi_wp2
        go_end0
        exact ⟨⟨_, rfl⟩, .inr ⟨pre ++ [r], c', by rw [← hp, HP.out]; simp, hx, hl'⟩⟩
    · obtain ⟨i, hi'⟩ : ∃ i : Nat, Lib.indexByte r.data.toList c = i := ⟨(Lib.indexByte r.data.toList c).toNat, by omega⟩
      obtain ⟨hlt, hps⟩ := pieces_some c _ i hi'
      have HP := hid hps
      have HM := hid hi'
      clear hps hi' hpos
      have hsz : i < r.size := by rw [Array.length_toList] at hlt; exact hlt
      clear hlt
      obtain ⟨fn, tmps, assign, body, hy, hR⟩ := hY pre (r.extract 0 i) wr hi hl ⟨pieces c (r.data.toList.drop (i + 1)), by rw [← hp, HP.out, List.map_append, List.map_singleton, show (r.extract 0 i).data.toList = r.data.toList.take i by rw [Lib.extract_data]; simp]; simp⟩
      try dsimp only at hy
      gi_wp2_with (refine ⟨trivial, ?_⟩; gi_at_call 151; refine (callsIn_wide.2 (Tryz.strings_Index_one _ c _)).mono ?_; rintro e w' ⟨rfl, rfl⟩; rw [HM.out])
      refine hR.mono ?_
      have hx : (r.extract 0 i).data.toList = r.data.toList.take i := by rw [Lib.extract_data]; simp
      have HX := hid hx
      clear hx hY
      rintro e W' (⟨rfl, hJ', hk, hl'⟩ | ⟨rfl, c', hx, hl'⟩)
      · have hcr' := hKp _ _ _ hk hcr
        have m0 := hcr'.txt
        have m1 := hcr'.sep
        have m2 := hcr'.sav
        have m3 := hcr'.free
        have HS := hid hcr'
        clear hcr'
        gi_wp2
        go_roundw
        case rel => exact ⟨pre ++ [r.extract 0 i], r.extract (i + 1) r.size, by rw [← hp, HP.out, List.map_append, List.map_singleton, HX.out, Lib.extract_to_end]; simp, by rw [ByteArray.size_extract]; omega, HS.out.set, hI _ _ _ hJ', hL _ _ (KeepsOthers.setCell _ _ _) hl'⟩
        case measure =>
          have e1 := HS.out.set (r' := r.extract (i + 1) r.size)
          have e2 := lenAt_of e1
          have e3 := lenAt_of hcr
          rw [e2, e3, ByteArray.size_extract]
          omega
      · gi_wp2
        refine bodyPost_ret (results_none rfl _ _ _) rfl ?_
        exact ⟨⟨_, rfl⟩, .inr ⟨pre ++ [r.extract 0 i], c', ⟨pieces c (r.data.toList.drop (i + 1)), by rw [← hp, HP.out, List.map_append, List.map_singleton, HX.out]; simp⟩, hx, hl'⟩⟩
end
section
open Go.RowKit Go.Shelf
attribute [local go_sem] Oper.semAt_some
def wordsS : ByteArray := ⟨#[97, 110, 121, 32, 101, 113, 32, 105, 51, 49, 32, 115, 116, 114, 117, 99, 116, 32, 97, 114, 114, 97, 121, 32, 110, 111, 110, 101, 32, 102, 117, 110, 99, 32, 110, 111, 102, 117, 110, 99, 32, 101, 120, 116, 101, 114, 110, 32, 110, 111, 101, 120, 116, 101, 114, 110, 32, 101, 120, 110, 32, 110, 111, 101, 120, 110]⟩
theorem pieces_words : pieces 32 wordsS.data.toList = words := by decide +kernel
theorem wordT_at : ∀ j : Nat, j < 12 → wordT (1 + (j : Int)) = words.getD j [] := by
  have h : ∀ j : Fin 12, wordT (1 + (j.val : Int)) = words.getD j.val [] := by decide
  exact fun j hj => h ⟨j, hj⟩
theorem wordT_none {k : Int} (h : ∀ j : Nat, j < 12 → k ≠ 1 + j) : wordT k = [122, 101, 114, 111] := by
  have h0 := h 0 (by omega); have h1 := h 1 (by omega); have h2 := h 2 (by omega); have h3 := h 3 (by omega); have h4 := h 4 (by omega); have h5 := h 5 (by omega)
  have h6 := h 6 (by omega); have h7 := h 7 (by omega); have h8 := h 8 (by omega); have h9 := h 9 (by omega); have h10 := h 10 (by omega); have h11 := h 11 (by omega)
  unfold wordT
  rw [if_neg (by omega), if_neg (by omega), if_neg (by omega), if_neg (by omega), if_neg (by omega), if_neg (by omega), if_neg (by omega), if_neg (by omega), if_neg (by omega), if_neg (by omega), if_neg (by omega), if_neg (by omega)]
theorem cell_putObj {W : World} {l : Nat} {o : Obj} (o' : Obj) {a : Addr} {v : Value} (h : W.heap[l]? = some o) (ho : o.isCells = false) (hc : W.cell? a = some v) : (W.putObj l o').cell? a = some v :=
  cell_kept hc (grownBy_putObj' W l o') (fun r e => by cases e; exact ⟨_, h, ho⟩)
theorem frozen_putObj {W : World} {l : Nat} {o : Obj} (o' : Obj) {a : Addr} {v : Value} (h : W.heap[l]? = some o) (ho : o.isCells = false) (hc : W.cell? a = some v) (hf : W.frozen? a = false) : (W.putObj l o').frozen? a = false :=
  (frozen_kept hc (grownBy_putObj' W l o') (fun r e => by cases e; exact ⟨_, h, ho⟩)).trans hf
theorem Capt.putObj {b : Nat} {c : UInt8} {r : ByteArray} {W : World} {l : Nat} {o : Obj} (o' : Obj) (h : W.heap[l]? = some o) (ho : o.isCells = false) (hc : Capt b c r W) : Capt b c r (W.putObj l o') :=
  ⟨cell_putObj o' h ho hc.txt, frozen_putObj o' h ho hc.txt hc.free, cell_putObj o' h ho hc.sep, cell_putObj o' h ho hc.sav⟩
theorem putObj_below {W : World} {l : Nat} (o' : Obj) {B : Nat} (hl : B ≤ l) (hB : B ≤ W.heap.size) : Below B W (W.putObj l o') := (Below.refl _ _).grown (grownBy_putObj' W l o') hB (fun k e => by cases e; exact hl)
theorem heap_putObj {W : World} {l b : Nat} {o : Obj} (o' : Obj) (h : W.heap[l]? = some o) (ho : o.isCells = false) {cs : Array Value} {t : TypeId} {fr : Nat × Nat} (hb : W.heap[b]? = some (.cells cs t fr)) : (W.putObj l o').heap[b]? = some (.cells cs t fr) := by
  rw [World.putObj_heap_other]
  · exact hb
  · intro e
    subst e
    rw [h] at hb
    cases hb
    cases ho
theorem OwnB.putObj {B : Bs} {W : World} {l : Nat} {o : Obj} (o' : Obj) (h : W.heap[l]? = some o) (ho : o.isCells = false) {v : Value} {bs : List UInt8} (hv : OwnB B W v bs) : OwnB B (W.putObj l o') v bs := by
  obtain ⟨⟨h1, (h2 | ⟨g, cap, cur, rfl, hg, hr, h3⟩)⟩, hne⟩ := hv
  · exact ⟨⟨h1, .inl h2⟩, hne⟩
  · exact ⟨⟨h1, .inr ⟨g, cap, cur, rfl, hg, heap_putObj o' h ho hr, h3⟩⟩, hne⟩
theorem prefix_last {pre : List (List UInt8)} {y : List UInt8} {L : List (List UInt8)} (h : pre ++ [y] <+: L) : pre.length < L.length ∧ y = L.getD pre.length [] := by
  obtain ⟨r, rfl⟩ := h
  refine ⟨by simp, ?_⟩
  rw [List.getD_eq_getElem?_getD]; simp
theorem words_small : ∀ j : Nat, (words.getD j []).length ≤ 8 := by
  intro j
  by_cases hj : j < 12
  · have : ∀ j : Fin 12, (words.getD j.val []).length ≤ 8 := by decide
    exact this ⟨j, hj⟩
  · rw [List.getD_eq_getElem?_getD, List.getElem?_eq_none (by show 12 ≤ j; omega)]; simp
structure WI (B : Bs) (w : World) (Z : Nat) (ao : Option Addr) (ln cap : Nat) (l : List UInt8) (k n : Int) (pre : List ByteArray) (W : World) : Prop where
  b0 : W.heap[Z]? = some (.cells #[.slice ao ln cap] 124 (0, 0))
  b1 : W.heap[Z + 1]? = some (.cells #[.int .i64 k, .int .i64 n] 75 (0, 0))
  b2 : W.heap[Z + 2]? = some (.cells #[.slice none 0 0] 124 (0, 0))
  b3 : W.heap[Z + 3]? = some (.cells #[.int .i64 (1 + pre.length)] 73 (0, 0))
  b4 : ∃ cs, W.heap[Z + 4]? = some (.cells cs 9 (0, 0))
  no : ∀ j : Nat, j < pre.length → k ≠ 1 + j
  own : OwnB B W (.slice ao ln cap) l
  wr : Wr B w W
def WX (B : Bs) (w : World) (Z : Nat) (l : List UInt8) (k : Int) (c : Code) (pre : List ByteArray) (W : World) : Prop :=
  c = .ret ∧ (∃ pre' nm v, pre = pre' ++ [nm] ∧ k = 1 + pre'.length ∧ W.heap[Z + 2]? = some (.cells #[v] 124 (0, 0)) ∧ OwnB B W v (l ++ nm.data.toList)) ∧ Wr B w W
section
variable {B : Bs} {w : World} {Z : Nat} {ao : Option Addr} {ln cap : Nat} {l : List UInt8} {k n : Int} {pre : List ByteArray} {W : World}
theorem WI.putObj {p : Nat} {o : Obj} (o' : Obj) (hB : Fit B w) (hl : w.heap.size ≤ p) (h : W.heap[p]? = some o) (ho : o.isCells = false) (hi : WI B w Z ao ln cap l k n pre W) : WI B w Z ao ln cap l k n pre (W.putObj p o') :=
  ⟨heap_putObj o' h ho hi.b0, heap_putObj o' h ho hi.b1, heap_putObj o' h ho hi.b2, heap_putObj o' h ho hi.b3, (by obtain ⟨cs, hc⟩ := hi.b4; exact ⟨cs, heap_putObj o' h ho hc⟩), hi.no, hi.own.putObj o' h ho, hi.wr.next hB (putObj_below o' hl hi.wr.size)⟩
theorem WX.putObj {c : Code} {p : Nat} {o : Obj} (o' : Obj) (hB : Fit B w) (hl : w.heap.size ≤ p) (h : W.heap[p]? = some o) (ho : o.isCells = false) (hi : WX B w Z l k c pre W) : WX B w Z l k c pre (W.putObj p o') := by
  obtain ⟨i1, ⟨pre', nm, v, i2, i3, i4, i5⟩, i6⟩ := hi
  exact ⟨i1, ⟨pre', nm, v, i2, i3, heap_putObj o' h ho i4, i5.putObj o' h ho⟩, i6.next hB (putObj_below o' hl i6.size)⟩
theorem WI.set (v : Value) (hB : Fit B w) (hZ : w.heap.size ≤ Z) (hi : WI B w Z ao ln cap l k n pre W) : WI B w Z ao ln cap l k n pre (W.setCell ⟨Z + 4, 0, none⟩ v) := by
  obtain ⟨cs, hc⟩ := hi.b4
  exact ⟨heap_set_off hi.b0 (by simp) v, heap_set_off hi.b1 (by simp) v, heap_set_off hi.b2 (by simp) v, heap_set_off hi.b3 (by simp) v, ⟨_, heap_set_at hc 0 v⟩, hi.no, hi.own.setBox hc (by decide) 0 v, hi.wr.setNew hB (by simp; omega) v⟩
theorem WI.alloc2 (o o' : Obj) (hB : Fit B w) (hi : WI B w Z ao ln cap l k n pre W) : WI B w Z ao ln cap l k n pre ((W.alloc o).alloc o') :=
  ⟨heap_alloc_keep (heap_alloc_keep hi.b0 _) _, heap_alloc_keep (heap_alloc_keep hi.b1 _) _, heap_alloc_keep (heap_alloc_keep hi.b2 _) _, heap_alloc_keep (heap_alloc_keep hi.b3 _) _, (by obtain ⟨cs, hc⟩ := hi.b4; exact ⟨cs, heap_alloc_keep (heap_alloc_keep hc _) _⟩), hi.no, (hi.own.alloc _).alloc _, (hi.wr.alloc (hB.on hi.wr) _).alloc ((hB.on hi.wr).alloc _) _⟩
end
set_option maxRecDepth 100000 in
set_option maxHeartbeats 4000000 in
theorem putHeap_word (B : Bs) (l : List UInt8) (k n : Int) (h13 : (k == 13) = false) (h14 : (k == 14) = false) (h15 : (k == 15) = false) (ao : Option Addr) (ln cap : Nat) (hln : l.length = ln) (w : World) (hown : OwnB B w (.slice ao ln cap) l) (hB : Fit B w) (hl : ln ≤ 880000000) :
    Calls Tryz.prog 124 #[.slice ao ln cap, .agg #[.int .i64 k, .int .i64 n]] w (PutPost B w (l ++ wordT k)) := by
  have HLN := hid hln; have HOW := hid hown; have HL := hid hl; have HB := hid hB
  clear hln hown hl hB
  refine (callsIn_wide (n := 6)).1 ?_
  refine callsIn_of_wp_marks Tryz.func124 rfl trivial ?_ rfl
  simp only [Tryz.ntmps124, List.size_toArray, List.length_cons, List.length_nil, Nat.reduceAdd, Nat.reduceSub, Array.replicate_succ, Array.replicate_zero, List.push_toArray, List.append_toArray, List.nil_append, List.cons_append]
  gi_wp2_with (refine ⟨trivial, ?_⟩; gi_at_call 135; refine (callsIn_wide.2 (splitSeq_any wordsS ⟨#[32]⟩ _)).mono ?_; rintro e w2 ⟨rfl, S, hS, rfl⟩)
  obtain ⟨Z, hZ⟩ : ∃ Z, Z = w.heap.size := ⟨_, rfl⟩
  obtain ⟨wl, hwl⟩ : ∃ wl, wl = (((((((w.alloc (.cells #[.slice ao ln cap] 124)).alloc (.cells #[.int .i64 k, .int .i64 n] 75)).alloc (.cells #[.slice none 0 0] 124)).alloc (.cells #[.int .i64 1] 73)).alloc (.cells #[.string S] 9)).alloc (.cells #[.string ⟨#[32]⟩] 9)).alloc (.cells #[.int .i64 0] 3)) := ⟨_, rfl⟩
  have g4 : wl.heap[Z + 4]? = some (.cells #[.string S] 9 (0, 0)) := by rw [hwl, hZ]; exact heap_alloc_keep (heap_alloc_keep (heap_alloc_at _ _ (by simp)) _) _
  have hI0 : WI B w Z ao ln cap l k n [] wl := by
    refine ⟨?_, ?_, ?_, ?_, ⟨_, g4⟩, fun j hj => by simp at hj, ?_, ?_⟩
    · rw [hwl, hZ]; exact heap_alloc_keep (heap_alloc_keep (heap_alloc_keep (heap_alloc_keep (heap_alloc_keep (heap_alloc_keep (heap_alloc_at _ _ rfl) _) _) _) _) _) _
    · rw [hwl, hZ]; exact heap_alloc_keep (heap_alloc_keep (heap_alloc_keep (heap_alloc_keep (heap_alloc_keep (heap_alloc_at _ _ (by simp)) _) _) _) _) _
    · rw [hwl, hZ]; exact heap_alloc_keep (heap_alloc_keep (heap_alloc_keep (heap_alloc_keep (heap_alloc_at _ _ (by simp)) _) _) _) _
    · rw [hwl, hZ]; exact heap_alloc_keep (heap_alloc_keep (heap_alloc_keep (heap_alloc_at _ _ (by simp)) _) _) _
    · rw [hwl]; exact ((((((HOW.out.alloc _).alloc _).alloc _).alloc _).alloc _).alloc _).alloc _
    · have f0 := HB.out
      have f1 := f0.alloc (.cells #[.slice ao ln cap] 124)
      have f2 := f1.alloc (.cells #[.int .i64 k, .int .i64 n] 75)
      have f3 := f2.alloc (.cells #[.slice none 0 0] 124)
      have f4 := f3.alloc (.cells #[.int .i64 1] 73)
      have f5 := f4.alloc (.cells #[.string S] 9)
      have f6 := f5.alloc (.cells #[.string ⟨#[32]⟩] 9)
      rw [hwl]; exact ((((((Wr.new f0 _).alloc f1 _).alloc f2 _).alloc f3 _).alloc f4 _).alloc f5 _).alloc f6 _
  have g5 : wl.heap[Z + 5]? = some (.cells #[.string ⟨#[32]⟩] 9 (0, 0)) := by rw [hwl, hZ]; exact heap_alloc_keep (heap_alloc_at _ _ (by simp)) _
  have g6 : wl.heap[Z + 6]? = some (.cells #[.int .i64 0] 3 (0, 0)) := by rw [hwl, hZ]; exact heap_alloc_at _ _ (by simp)
  have hC0 : Capt (Z + 4) 32 S wl := ⟨by rw [heap_cell g4]; rfl, heap_frozen g4 0, by rw [heap_cell g5]; rfl, by rw [heap_cell g6]; rfl⟩
  have hSz : S.size ≤ 9223372036854775807 := by rw [hS.out]; decide
  have hsz : wl.heap.size = Z + 7 := by rw [hwl, hZ]; simp
  have HZ := hid hZ
  simp only [← hZ, Nat.add_assoc, Nat.reduceAdd]
  rw [← hwl]
  have hBw := HB.out
  have hZw : w.heap.size ≤ Z := by omega
  clear hZ hwl g4 g5 g6
  refine wpIn_range_at (F := Fence.wide) (n := 6) rfl (by omega) (gf := 149) (lb := #[.pointer (some ⟨Z + 5, 0, none⟩), .pointer (some ⟨Z + 4, 0, none⟩), .pointer (some ⟨Z + 6, 0, none⟩)]) rfl trivial (enters_of Tryz.func149 (by kernel_rfl) rfl)
    (encs := fun x : ByteArray => #[.string x]) (fun _ => rfl) (fun W W' => ∀ r, Capt (Z + 4) 32 r W → Capt (Z + 4) 32 r W') (WI B w Z ao ln cap l k n) (WX B w Z l k)
    (fun h k r hr => k r (h r hr)) (fun W p o o' hl h ho r hr => hr.putObj o' h ho)
    (fun pre W p o o' hl h ho hi => hi.putObj o' hBw (by omega) h ho) (fun c pre W p o o' hl h ho hi => hi.putObj o' hBw (by omega) h ho)
    (fun o o' => hI0.alloc2 o o' hBw) (fun x => { tmps := #[.slice ao ln cap, .agg #[.int .i64 k, .int .i64 n], .pointer (some ⟨Z, 0, none⟩), .pointer (some ⟨Z + 1, 0, none⟩), .pointer (some ⟨Z + 2, 0, none⟩), .pointer (some ⟨Z + 3, 0, none⟩), .string x, .pointer (some ⟨Z + 1, 0, none⟩), .int .i64 k, .func (.func 149) #[] #[.pointer (some ⟨Z + 5, 0, none⟩), .pointer (some ⟨Z + 4, 0, none⟩), .pointer (some ⟨Z + 6, 0, none⟩)], .string x, undef, undef, undef, undef, undef, undef, undef, undef, undef, undef, undef, .bool false, .bool false, .bool false, .bool false, undef, undef, .bool false, .bool false, undef, undef, undef, undef, undef, undef], defers := [] })
    (splitSeq_iter 5 (Z + 4) (by omega) 32 S hSz wl (by omega) hC0 _ _ _ (fun W W' r h k => h r k) (fun pre W r hi => hi.set _ hBw hZw)) ?assign ?body ?done ?stop
  case assign =>
    clear hI0 hC0 hsz
    intro p x W K hK
    gi_wp2
    exact hK
  case body =>
    rintro p pre x W hi hlen
    rw [hS.out, pieces_words, List.map_append, List.map_singleton] at hlen
    obtain ⟨hl2, hx⟩ := prefix_last hlen
    rw [List.length_map] at hl2 hx
    have hxs : x.size ≤ 8 := by
      have := words_small pre.length
      rw [← hx] at this
      simpa using this
    have c3 := heap_cell hi.b3 0
    have f3 := heap_frozen hi.b3 0
    have c0 := heap_cell hi.b0 0
    have c2 := heap_cell hi.b2 0
    have f2 := heap_frozen hi.b2 0
    have c1 := heap_cell hi.b1 0
    simp at c0 c1 c2 c3
    have HI := hid hi; have HX := hid hx; have HXS := hid hxs
    have hl3 : (pre.length : Int) < 12 := by have : words.length = 12 := rfl; omega
    clear hlen hi hI0 hC0 hsz hx hxs hl2
    by_cases hk : (1 : Int) + pre.length = k
    · have hk' : ((1 + (pre.length : Int)) == k) = true := by simpa using hk
      have HK := hid hk
      clear hk
      gi_wp2_with (gi_at_builtin; refine wpListIn_ap_str rfl _ _ rfl rfl HI.out.own x rfl (HB.out.on HI.out.wr) ?d1 ?_)
      case d1 => have := HXS.out; have := HL.out; have := HLN.out; omega
      intro v1 w1 ho1 hrW hko
      have y2 := hrW.box HI.out.b2 (by decide)
      obtain ⟨ao1, cap1, rfl⟩ := ho1.form
      obtain ⟨n1, hn1⟩ : ∃ n1, (l ++ x.data.toList).length = n1 := ⟨_, rfl⟩
      rw [hn1] at ho1 ⊢
      have c2' := heap_cell y2 0
      have f2' := heap_frozen y2 0
      simp at c2'
      have HO1 := hid ho1; have HR := hid hrW; have Y2 := hid y2; have HKO := hid hko
      clear hko ho1 hrW y2 hn1 c2 f2 c0 c1 c3 f3
      gi_wp2
      exact ⟨HKO.out.trans (KeepsOthers.setCell _ _ _), rfl, ⟨pre, x, _, rfl, HK.out.symm, heap_set_at Y2.out 0 _, HO1.out.setBox Y2.out (by decide) 0 _⟩, (HI.out.wr.trans HR.out).setNew HB.out (by simp; omega) _⟩
    · have hk' : ((1 + (pre.length : Int)) == k) = false := by simpa using hk
      have HK := hid hk
      clear hk
      gi_wp2
      refine ⟨KeepsOthers.setCell _ _ _, fun r hr => ?_, ?_⟩
      · refine ⟨?_, by rw [World.frozen?_setCell]; exact hr.free, ?_, ?_⟩
        · rw [World.cell?_setCell_other]
          · exact hr.txt
          · intro e; have := congrArg Addr.block e; simp at this
        · rw [World.cell?_setCell_other]
          · exact hr.sep
          · intro e; have := congrArg Addr.block e; simp at this
        · rw [World.cell?_setCell_other]
          · exact hr.sav
          · intro e; have := congrArg Addr.block e; simp at this
      · have hi := HI.out
        have e3 := heap_set_at hi.b3 0 (.int .i64 (1 + (pre.length : Int) + 1))
        refine ⟨heap_set_off hi.b0 (by simp) _, heap_set_off hi.b1 (by simp) _, heap_set_off hi.b2 (by simp) _, ?_, ?_, ?_, hi.own.setBox hi.b3 (by decide) 0 _, hi.wr.setNew HB.out (by simp; omega) _⟩
        · rw [show (1 : Int) + ((pre ++ [x]).length : Nat) = 1 + (pre.length : Int) + 1 by simp; omega]
          exact e3
        · obtain ⟨cs, hc⟩ := hi.b4
          exact ⟨cs, heap_set_off hc (by simp) _⟩
        · intro j hj
          simp at hj
          by_cases hjl : j < pre.length
          · exact hi.no j hjl
          · obtain rfl : j = pre.length := by omega
            exact fun e => HK.out e.symm
  case done =>
    clear hI0 hC0
    rintro D xs W hxs hi hK hle
    have c0 := heap_cell hi.b0 0
    have c2 := heap_cell hi.b2 0
    have f2 := heap_frozen hi.b2 0
    simp at c0 c2
    have HI := hid hi; have HXS := hid hxs; have HKD := hid hK
    clear hi hxs hK
    gi_wp2_with (gi_at_builtin; refine wpListIn_ap_str rfl _ _ rfl rfl HI.out.own ⟨#[122, 101, 114, 111]⟩ rfl (HB.out.on HI.out.wr) ?d1 ?_)
    case d1 => have := HL.out; have := HLN.out; have e : (⟨#[122, 101, 114, 111]⟩ : ByteArray).size = 4 := rfl; omega
    intro v1 w1 ho1 hrW hko
    have y2 := hrW.box HI.out.b2 (by decide)
    obtain ⟨ao1, cap1, rfl⟩ := ho1.form
    obtain ⟨n1, hn1⟩ : ∃ n1, (l ++ (⟨#[122, 101, 114, 111]⟩ : ByteArray).data.toList).length = n1 := ⟨_, rfl⟩
    rw [hn1] at ho1 ⊢
    have c2' := heap_cell y2 0
    have f2' := heap_frozen y2 0
    simp at c2'
    have hKD1 := hko.same D _ HKD.out rfl
    have HO1 := hid ho1; have HR := hid hrW; have Y2 := hid y2; have HKD1 := hid hKD1
    clear hko ho1 hrW y2 hn1 c2 f2 c0 hKD1
    gi_wp2
    have hK2 := (KeepsOthers.setCell w1 ⟨Z + 2, 0, none⟩ (.slice ao1 n1 cap1)).same D _ HKD1.out rfl
    refine ⟨by simp, .inl ⟨_, _, rfl, run_takeDeferred hK2, ?_⟩⟩
    have z4 := heap_set_at Y2.out 0 (.slice ao1 n1 cap1)
    have z5 := heap_putObj (.deferred none) hK2 rfl z4
    have c5 := heap_cell z5 0
    simp at c5
    refine ⟨.slice ao1 n1 cap1, by simp [results, Tryz.results124, go_sem, c5], _, rfl, ?_, ?_⟩
    · rw [wordT_none (fun j hj => HI.out.no j (by
        have h1 := congrArg List.length HXS.out
        rw [hS.out, pieces_words, List.length_map] at h1
        have : words.length = 12 := rfl
        omega))]
      exact (HO1.out.setBox Y2.out (by decide) 0 _).putObj _ hK2 rfl
    · have h1 := (HI.out.wr.trans HR.out).setNew HB.out (p := ⟨Z + 2, 0, none⟩) (by simp; omega) (.slice ao1 n1 cap1)
      exact h1.next HB.out (putObj_below _ (by omega) h1.size)
  case stop =>
    clear hI0 hC0
    rintro D c pre W hpre ⟨rfl, ⟨pre', nm, v, rfl, hk, hb2, ho⟩, hwr⟩ hK hle
    rw [hS.out, pieces_words, List.map_append, List.map_singleton] at hpre
    obtain ⟨hl2, hx⟩ := prefix_last hpre
    rw [List.length_map] at hl2 hx
    have HK := hid hk; have HX := hid hx; have HL2 := hid hl2
    clear hk hpre hx hl2
    gi_wp2
    refine ⟨by simp, .inl ⟨_, _, rfl, run_takeDeferred hK, ?_⟩⟩
    have z5 := heap_putObj (.deferred none) hK rfl hb2
    have c5 := heap_cell z5 0
    simp at c5
    refine ⟨v, by simp [results, Tryz.results124, go_sem, c5], v, rfl, ?_, hwr.next HB.out (putObj_below _ (by omega) hwr.size)⟩
    have hl2 : pre'.length < 12 := HL2.out
    rw [HK.out, wordT_at _ hl2, ← HX.out]
    exact ho.putObj _ hK rfl
end
end Go.Proofs.YtpddbaijnjbfdaaGreatDoor
