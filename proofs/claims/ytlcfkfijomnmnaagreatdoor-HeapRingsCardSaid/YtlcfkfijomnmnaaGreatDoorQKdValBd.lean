import Derived.Test.YtlcfkfijomnmnaaGreatDoorQSplitGBd
namespace Go.Proofs.YtlcfkfijomnmnaaGreatDoor
open Lib (hid)
section
open Go.RowKit Go.Shelf
attribute [local go_sem] Oper.semAt_some
def wordsS : ByteArray := ⟨#[97, 110, 121, 32, 101, 113, 32, 105, 51, 49, 32, 115, 116, 114, 117, 99, 116, 32, 97, 114, 114, 97, 121, 32, 110, 111, 110, 101, 32, 102, 117, 110, 99, 32, 110, 111, 102, 117, 110, 99, 32, 101, 120, 116, 101, 114, 110, 32, 110, 111, 101, 120, 116, 101, 114, 110, 32, 101, 120, 110, 32, 110, 111, 101, 120, 110]⟩
theorem pieces_words : pieces 32 wordsS.data.toList = words := by decide +kernel
theorem wordT_at : ∀ j : Nat, j < 12 → wordT (1 + (j : Int)) = words.getD j [] := by
  have h : ∀ j : Fin 12, wordT (1 + (j.val : Int)) = words.getD j.val [] := by decide
  exact fun j hj => h ⟨j, hj⟩
theorem wordT_none {k : Int} (h : ∀ j : Nat, j < 12 → k ≠ 1 + j) : wordT k = [122, 101, 114, 111] := by
  have h0 := h 0 (by omega); have h1 := h 1 (by omega); have h2 := h 2 (by omega); have h3 := h 3 (by omega); have h4 := h 4 (by omega); have h5 := h 5 (by omega)
  have h6 := h 6 (by omega); have h7 := h 7 (by omega); have h8 := h 8 (by omega); have h9 := h 9 (by omega); have h10 := h 10 (by omega); have h11 := h 11 (by omega)
  unfold wordT
  rw [if_neg (by omega), if_neg (by omega), if_neg (by omega), if_neg (by omega), if_neg (by omega), if_neg (by omega), if_neg (by omega), if_neg (by omega), if_neg (by omega), if_neg (by omega), if_neg (by omega), if_neg (by omega)]
theorem cell_putObj {W : World} {l : Nat} {o : Obj} (o' : Obj) {a : Addr} {v : Value} (h : W.heap[l]? = some o) (ho : o.isCells = false) (hc : W.cell? a = some v) : (W.putObj l o').cell? a = some v :=
  cell_kept hc (grownBy_putObj' W l o') (fun r e => by cases e; exact ⟨_, h, ho⟩)
theorem frozen_putObj {W : World} {l : Nat} {o : Obj} (o' : Obj) {a : Addr} {v : Value} (h : W.heap[l]? = some o) (ho : o.isCells = false) (hc : W.cell? a = some v) (hf : W.frozen? a = false) : (W.putObj l o').frozen? a = false :=
  (frozen_kept hc (grownBy_putObj' W l o') (fun r e => by cases e; exact ⟨_, h, ho⟩)).trans hf
theorem Capt.putObj {b : Nat} {c : UInt8} {r : ByteArray} {W : World} {l : Nat} {o : Obj} (o' : Obj) (h : W.heap[l]? = some o) (ho : o.isCells = false) (hc : Capt b c r W) : Capt b c r (W.putObj l o') :=
  ⟨cell_putObj o' h ho hc.txt, frozen_putObj o' h ho hc.txt hc.free, cell_putObj o' h ho hc.sep, cell_putObj o' h ho hc.sav⟩
theorem putObj_below {W : World} {l : Nat} (o' : Obj) {B : Nat} (hl : B ≤ l) (hB : B ≤ W.heap.size) : Below B W (W.putObj l o') := (Below.refl _ _).grown (grownBy_putObj' W l o') hB (fun k e => by cases e; exact hl)
theorem heap_putObj {W : World} {l b : Nat} {o : Obj} (o' : Obj) (h : W.heap[l]? = some o) (ho : o.isCells = false) {cs : Array Value} {t : TypeId} {fr : Nat × Nat} (hb : W.heap[b]? = some (.cells cs t fr)) : (W.putObj l o').heap[b]? = some (.cells cs t fr) := by
  rw [World.putObj_heap_other]
  · exact hb
  · intro e
    subst e
    rw [h] at hb
    cases hb
    cases ho
theorem OwnB.putObj {B : Bs} {W : World} {l : Nat} {o : Obj} (o' : Obj) (h : W.heap[l]? = some o) (ho : o.isCells = false) {v : Value} {bs : List UInt8} (hv : OwnB B W v bs) : OwnB B (W.putObj l o') v bs := by
  obtain ⟨⟨h1, (h2 | ⟨g, cap, cur, rfl, hg, hr, h3⟩)⟩, hne⟩ := hv
  · exact ⟨⟨h1, .inl h2⟩, hne⟩
  · exact ⟨⟨h1, .inr ⟨g, cap, cur, rfl, hg, heap_putObj o' h ho hr, h3⟩⟩, hne⟩
theorem prefix_last {pre : List (List UInt8)} {y : List UInt8} {L : List (List UInt8)} (h : pre ++ [y] <+: L) : pre.length < L.length ∧ y = L.getD pre.length [] := by
  obtain ⟨r, rfl⟩ := h
  refine ⟨by simp, ?_⟩
  rw [List.getD_eq_getElem?_getD]; simp
theorem words_small : ∀ j : Nat, (words.getD j []).length ≤ 8 := by
  intro j
  by_cases hj : j < 12
  · have : ∀ j : Fin 12, (words.getD j.val []).length ≤ 8 := by decide
    exact this ⟨j, hj⟩
  · rw [List.getD_eq_getElem?_getD, List.getElem?_eq_none (by show 12 ≤ j; omega)]; simp
structure WI (B : Bs) (w : World) (Z : Nat) (ao : Option Addr) (ln cap : Nat) (l : List UInt8) (k n : Int) (pre : List ByteArray) (W : World) : Prop where
  b0 : W.heap[Z]? = some (.cells #[.slice ao ln cap] 197 (0, 0))
  b1 : W.heap[Z + 1]? = some (.cells #[.int .i64 k, .int .i64 n] 33 (0, 0))
  b2 : W.heap[Z + 2]? = some (.cells #[.slice none 0 0] 197 (0, 0))
  b3 : W.heap[Z + 3]? = some (.cells #[.int .i64 (1 + pre.length)] 31 (0, 0))
  b4 : ∃ cs, W.heap[Z + 4]? = some (.cells cs 9 (0, 0))
  no : ∀ j : Nat, j < pre.length → k ≠ 1 + j
  own : OwnB B W (.slice ao ln cap) l
  wr : Wr B w W
def WX (B : Bs) (w : World) (Z : Nat) (l : List UInt8) (k : Int) (c : Code) (pre : List ByteArray) (W : World) : Prop :=
  c = .ret ∧ (∃ pre' nm v, pre = pre' ++ [nm] ∧ k = 1 + pre'.length ∧ W.heap[Z + 2]? = some (.cells #[v] 197 (0, 0)) ∧ OwnB B W v (l ++ nm.data.toList)) ∧ Wr B w W
section
variable {B : Bs} {w : World} {Z : Nat} {ao : Option Addr} {ln cap : Nat} {l : List UInt8} {k n : Int} {pre : List ByteArray} {W : World}
theorem WI.putObj {p : Nat} {o : Obj} (o' : Obj) (hB : Fit B w) (hl : w.heap.size ≤ p) (h : W.heap[p]? = some o) (ho : o.isCells = false) (hi : WI B w Z ao ln cap l k n pre W) : WI B w Z ao ln cap l k n pre (W.putObj p o') :=
  ⟨heap_putObj o' h ho hi.b0, heap_putObj o' h ho hi.b1, heap_putObj o' h ho hi.b2, heap_putObj o' h ho hi.b3, (by obtain ⟨cs, hc⟩ := hi.b4; exact ⟨cs, heap_putObj o' h ho hc⟩), hi.no, hi.own.putObj o' h ho, hi.wr.next hB (putObj_below o' hl hi.wr.size)⟩
theorem WX.putObj {c : Code} {p : Nat} {o : Obj} (o' : Obj) (hB : Fit B w) (hl : w.heap.size ≤ p) (h : W.heap[p]? = some o) (ho : o.isCells = false) (hi : WX B w Z l k c pre W) : WX B w Z l k c pre (W.putObj p o') := by
  obtain ⟨i1, ⟨pre', nm, v, i2, i3, i4, i5⟩, i6⟩ := hi
  exact ⟨i1, ⟨pre', nm, v, i2, i3, heap_putObj o' h ho i4, i5.putObj o' h ho⟩, i6.next hB (putObj_below o' hl i6.size)⟩
theorem WI.set (v : Value) (hB : Fit B w) (hZ : w.heap.size ≤ Z) (hi : WI B w Z ao ln cap l k n pre W) : WI B w Z ao ln cap l k n pre (W.setCell ⟨Z + 4, 0, none⟩ v) := by
  obtain ⟨cs, hc⟩ := hi.b4
  exact ⟨heap_set_off hi.b0 (by simp) v, heap_set_off hi.b1 (by simp) v, heap_set_off hi.b2 (by simp) v, heap_set_off hi.b3 (by simp) v, ⟨_, heap_set_at hc 0 v⟩, hi.no, hi.own.setBox hc (by decide) 0 v, hi.wr.setNew hB (by simp; omega) v⟩
theorem WI.alloc2 (o o' : Obj) (hB : Fit B w) (hi : WI B w Z ao ln cap l k n pre W) : WI B w Z ao ln cap l k n pre ((W.alloc o).alloc o') :=
  ⟨heap_alloc_keep (heap_alloc_keep hi.b0 _) _, heap_alloc_keep (heap_alloc_keep hi.b1 _) _, heap_alloc_keep (heap_alloc_keep hi.b2 _) _, heap_alloc_keep (heap_alloc_keep hi.b3 _) _, (by obtain ⟨cs, hc⟩ := hi.b4; exact ⟨cs, heap_alloc_keep (heap_alloc_keep hc _) _⟩), hi.no, (hi.own.alloc _).alloc _, (hi.wr.alloc (hB.on hi.wr) _).alloc ((hB.on hi.wr).alloc _) _⟩
end
set_option maxRecDepth 100000 in
set_option maxHeartbeats 4000000 in
theorem putHeap_word (B : Bs) (l : List UInt8) (k n : Int) (h13 : (k == 13) = false) (h14 : (k == 14) = false) (h15 : (k == 15) = false) (ao : Option Addr) (ln cap : Nat) (hln : l.length = ln) (w : World) (hown : OwnB B w (.slice ao ln cap) l) (hB : Fit B w) (hl : ln ≤ 880000000) :
    Calls Tryz.prog 150 #[.slice ao ln cap, .agg #[.int .i64 k, .int .i64 n]] w (PutPost B w (l ++ wordT k)) := by
  have HLN := hid hln; have HOW := hid hown; have HL := hid hl; have HB := hid hB
  clear hln hown hl hB
  refine (callsIn_wide (n := 6)).1 ?_
  refine callsIn_of_wp_marks Tryz.func150 rfl trivial ?_ rfl
  simp only [Tryz.ntmps150, List.size_toArray, List.length_cons, List.length_nil, Nat.reduceAdd, Nat.reduceSub, Array.replicate_succ, Array.replicate_zero, List.push_toArray, List.append_toArray, List.nil_append, List.cons_append]
  gi_wp2_with (refine ⟨trivial, ?_⟩; gi_at_call 161; refine (callsIn_wide.2 (splitSeq_any wordsS ⟨#[32]⟩ _)).mono ?_; rintro e w2 ⟨rfl, S, hS, rfl⟩)
  obtain ⟨Z, hZ⟩ : ∃ Z, Z = w.heap.size := ⟨_, rfl⟩
  obtain ⟨wl, hwl⟩ : ∃ wl, wl = (((((((w.alloc (.cells #[.slice ao ln cap] 197)).alloc (.cells #[.int .i64 k, .int .i64 n] 33)).alloc (.cells #[.slice none 0 0] 197)).alloc (.cells #[.int .i64 1] 31)).alloc (.cells #[.string S] 9)).alloc (.cells #[.string ⟨#[32]⟩] 9)).alloc (.cells #[.int .i64 0] 3)) := ⟨_, rfl⟩
  have g4 : wl.heap[Z + 4]? = some (.cells #[.string S] 9 (0, 0)) := by rw [hwl, hZ]; exact heap_alloc_keep (heap_alloc_keep (heap_alloc_at _ _ (by simp)) _) _
  have hI0 : WI B w Z ao ln cap l k n [] wl := by
    refine ⟨?_, ?_, ?_, ?_, ⟨_, g4⟩, fun j hj => by simp at hj, ?_, ?_⟩
    · rw [hwl, hZ]; exact heap_alloc_keep (heap_alloc_keep (heap_alloc_keep (heap_alloc_keep (heap_alloc_keep (heap_alloc_keep (heap_alloc_at _ _ rfl) _) _) _) _) _) _
    · rw [hwl, hZ]; exact heap_alloc_keep (heap_alloc_keep (heap_alloc_keep (heap_alloc_keep (heap_alloc_keep (heap_alloc_at _ _ (by simp)) _) _) _) _) _
    · rw [hwl, hZ]; exact heap_alloc_keep (heap_alloc_keep (heap_alloc_keep (heap_alloc_keep (heap_alloc_at _ _ (by simp)) _) _) _) _
    · rw [hwl, hZ]; exact heap_alloc_keep (heap_alloc_keep (heap_alloc_keep (heap_alloc_at _ _ (by simp)) _) _) _
    · rw [hwl]; exact ((((((HOW.out.alloc _).alloc _).alloc _).alloc _).alloc _).alloc _).alloc _
    · have f0 := HB.out
      have f1 := f0.alloc (.cells #[.slice ao ln cap] 197)
      have f2 := f1.alloc (.cells #[.int .i64 k, .int .i64 n] 33)
      have f3 := f2.alloc (.cells #[.slice none 0 0] 197)
      have f4 := f3.alloc (.cells #[.int .i64 1] 31)
      have f5 := f4.alloc (.cells #[.string S] 9)
      have f6 := f5.alloc (.cells #[.string ⟨#[32]⟩] 9)
      rw [hwl]; exact ((((((Wr.new f0 _).alloc f1 _).alloc f2 _).alloc f3 _).alloc f4 _).alloc f5 _).alloc f6 _
  have g5 : wl.heap[Z + 5]? = some (.cells #[.string ⟨#[32]⟩] 9 (0, 0)) := by rw [hwl, hZ]; exact heap_alloc_keep (heap_alloc_at _ _ (by simp)) _
  have g6 : wl.heap[Z + 6]? = some (.cells #[.int .i64 0] 3 (0, 0)) := by rw [hwl, hZ]; exact heap_alloc_at _ _ (by simp)
  have hC0 : Capt (Z + 4) 32 S wl := ⟨by rw [heap_cell g4]; rfl, heap_frozen g4 0, by rw [heap_cell g5]; rfl, by rw [heap_cell g6]; rfl⟩
  have hSz : S.size ≤ 9223372036854775807 := by rw [hS.out]; decide
  have hsz : wl.heap.size = Z + 7 := by rw [hwl, hZ]; simp
  have HZ := hid hZ
  simp only [← hZ, Nat.add_assoc, Nat.reduceAdd]
  rw [← hwl]
  have hBw := HB.out
  have hZw : w.heap.size ≤ Z := by omega
  clear hZ hwl g4 g5 g6
  refine wpIn_range_at (F := Fence.wide) (n := 6) rfl (by omega) (gf := 176) (lb := #[.pointer (some ⟨Z + 5, 0, none⟩), .pointer (some ⟨Z + 4, 0, none⟩), .pointer (some ⟨Z + 6, 0, none⟩)]) rfl trivial (enters_of Tryz.func176 (by kernel_rfl) rfl)
    (encs := fun x : ByteArray => #[.string x]) (fun _ => rfl) (fun W W' => ∀ r, Capt (Z + 4) 32 r W → Capt (Z + 4) 32 r W') (WI B w Z ao ln cap l k n) (WX B w Z l k)
    (fun h k r hr => k r (h r hr)) (fun W p o o' hl h ho r hr => hr.putObj o' h ho)
    (fun pre W p o o' hl h ho hi => hi.putObj o' hBw (by omega) h ho) (fun c pre W p o o' hl h ho hi => hi.putObj o' hBw (by omega) h ho)
    (fun o o' => hI0.alloc2 o o' hBw) (fun x => { tmps := #[.slice ao ln cap, .agg #[.int .i64 k, .int .i64 n], .pointer (some ⟨Z, 0, none⟩), .pointer (some ⟨Z + 1, 0, none⟩), .pointer (some ⟨Z + 2, 0, none⟩), .pointer (some ⟨Z + 3, 0, none⟩), .string x, .pointer (some ⟨Z + 1, 0, none⟩), .int .i64 k, .func (.func 176) #[] #[.pointer (some ⟨Z + 5, 0, none⟩), .pointer (some ⟨Z + 4, 0, none⟩), .pointer (some ⟨Z + 6, 0, none⟩)], .string x, undef, undef, undef, undef, undef, undef, undef, undef, undef, undef, undef, .bool false, .bool false, .bool false, .bool false, undef, undef, .bool false, .bool false, undef, undef, undef, undef, undef, undef], defers := [] })
    (splitSeq_iter 5 (Z + 4) (by omega) 32 S hSz wl (by omega) hC0 _ _ _ (fun W W' r h k => h r k) (fun pre W r hi => hi.set _ hBw hZw)) ?assign ?body ?done ?stop
  case assign =>
    clear hI0 hC0 hsz
    intro p x W K hK
    gi_wp2
    exact hK
  case body =>
    rintro p pre x W hi hlen
    rw [hS.out, pieces_words, List.map_append, List.map_singleton] at hlen
    obtain ⟨hl2, hx⟩ := prefix_last hlen
    rw [List.length_map] at hl2 hx
    have hxs : x.size ≤ 8 := by
      have := words_small pre.length
      rw [← hx] at this
      simpa using this
    have c3 := heap_cell hi.b3 0
    have f3 := heap_frozen hi.b3 0
    have c0 := heap_cell hi.b0 0
    have c2 := heap_cell hi.b2 0
    have f2 := heap_frozen hi.b2 0
    have c1 := heap_cell hi.b1 0
    simp at c0 c1 c2 c3
    have HI := hid hi; have HX := hid hx; have HXS := hid hxs
    have hl3 : (pre.length : Int) < 12 := by have : words.length = 12 := rfl; omega
    clear hlen hi hI0 hC0 hsz hx hxs hl2
    by_cases hk : (1 : Int) + pre.length = k
    · have hk' : ((1 + (pre.length : Int)) == k) = true := by simpa using hk
      have HK := hid hk
      clear hk
      gi_wp2_with (gi_at_builtin; refine wpListIn_ap_str rfl _ _ rfl rfl HI.out.own x rfl (HB.out.on HI.out.wr) ?d1 ?_)
      case d1 => have := HXS.out; have := HL.out; have := HLN.out; omega
      intro v1 w1 ho1 hrW hko
      have y2 := hrW.box HI.out.b2 (by decide)
      obtain ⟨ao1, cap1, rfl⟩ := ho1.form
      obtain ⟨n1, hn1⟩ : ∃ n1, (l ++ x.data.toList).length = n1 := ⟨_, rfl⟩
      rw [hn1] at ho1 ⊢
      have c2' := heap_cell y2 0
      have f2' := heap_frozen y2 0
      simp at c2'
      have HO1 := hid ho1; have HR := hid hrW; have Y2 := hid y2; have HKO := hid hko
      clear hko ho1 hrW y2 hn1 c2 f2 c0 c1 c3 f3
      gi_wp2
      exact ⟨HKO.out.trans (KeepsOthers.setCell _ _ _), rfl, ⟨pre, x, _, rfl, HK.out.symm, heap_set_at Y2.out 0 _, HO1.out.setBox Y2.out (by decide) 0 _⟩, (HI.out.wr.trans HR.out).setNew HB.out (by simp; omega) _⟩
    · have hk' : ((1 + (pre.length : Int)) == k) = false := by simpa using hk
      have HK := hid hk
      clear hk
      gi_wp2
      refine ⟨KeepsOthers.setCell _ _ _, fun r hr => ?_, ?_⟩
      · refine ⟨?_, by rw [World.frozen?_setCell]; exact hr.free, ?_, ?_⟩
        · rw [World.cell?_setCell_other]
          · exact hr.txt
          · intro e; have := congrArg Addr.block e; simp at this
        · rw [World.cell?_setCell_other]
          · exact hr.sep
          · intro e; have := congrArg Addr.block e; simp at this
        · rw [World.cell?_setCell_other]
          · exact hr.sav
          · intro e; have := congrArg Addr.block e; simp at this
      · have hi := HI.out
        have e3 := heap_set_at hi.b3 0 (.int .i64 (1 + (pre.length : Int) + 1))
        refine ⟨heap_set_off hi.b0 (by simp) _, heap_set_off hi.b1 (by simp) _, heap_set_off hi.b2 (by simp) _, ?_, ?_, ?_, hi.own.setBox hi.b3 (by decide) 0 _, hi.wr.setNew HB.out (by simp; omega) _⟩
        · rw [show (1 : Int) + ((pre ++ [x]).length : Nat) = 1 + (pre.length : Int) + 1 by simp; omega]
          exact e3
        · obtain ⟨cs, hc⟩ := hi.b4
          exact ⟨cs, heap_set_off hc (by simp) _⟩
        · intro j hj
          simp at hj
          by_cases hjl : j < pre.length
          · exact hi.no j hjl
          · obtain rfl : j = pre.length := by omega
            exact fun e => HK.out e.symm
  case done =>
    clear hI0 hC0
    rintro D xs W hxs hi hK hle
    have c0 := heap_cell hi.b0 0
    have c2 := heap_cell hi.b2 0
    have f2 := heap_frozen hi.b2 0
    simp at c0 c2
    have HI := hid hi; have HXS := hid hxs; have HKD := hid hK
    clear hi hxs hK
    gi_wp2_with (gi_at_builtin; refine wpListIn_ap_str rfl _ _ rfl rfl HI.out.own ⟨#[122, 101, 114, 111]⟩ rfl (HB.out.on HI.out.wr) ?d1 ?_)
    case d1 => have := HL.out; have := HLN.out; have e : (⟨#[122, 101, 114, 111]⟩ : ByteArray).size = 4 := rfl; omega
    intro v1 w1 ho1 hrW hko
    have y2 := hrW.box HI.out.b2 (by decide)
    obtain ⟨ao1, cap1, rfl⟩ := ho1.form
    obtain ⟨n1, hn1⟩ : ∃ n1, (l ++ (⟨#[122, 101, 114, 111]⟩ : ByteArray).data.toList).length = n1 := ⟨_, rfl⟩
    rw [hn1] at ho1 ⊢
    have c2' := heap_cell y2 0
    have f2' := heap_frozen y2 0
    simp at c2'
    have hKD1 := hko.same D _ HKD.out rfl
    have HO1 := hid ho1; have HR := hid hrW; have Y2 := hid y2; have HKD1 := hid hKD1
    clear hko ho1 hrW y2 hn1 c2 f2 c0 hKD1
    gi_wp2
    have hK2 := (KeepsOthers.setCell w1 ⟨Z + 2, 0, none⟩ (.slice ao1 n1 cap1)).same D _ HKD1.out rfl
    refine ⟨by simp, .inl ⟨_, _, rfl, run_takeDeferred hK2, ?_⟩⟩
    have z4 := heap_set_at Y2.out 0 (.slice ao1 n1 cap1)
    have z5 := heap_putObj (.deferred none) hK2 rfl z4
    have c5 := heap_cell z5 0
    simp at c5
    refine ⟨.slice ao1 n1 cap1, by simp [results, Tryz.results150, go_sem, c5], _, rfl, ?_, ?_⟩
    · rw [wordT_none (fun j hj => HI.out.no j (by
        have h1 := congrArg List.length HXS.out
        rw [hS.out, pieces_words, List.length_map] at h1
        have : words.length = 12 := rfl
        omega))]
      exact (HO1.out.setBox Y2.out (by decide) 0 _).putObj _ hK2 rfl
    · have h1 := (HI.out.wr.trans HR.out).setNew HB.out (p := ⟨Z + 2, 0, none⟩) (by simp; omega) (.slice ao1 n1 cap1)
      exact h1.next HB.out (putObj_below _ (by omega) h1.size)
  case stop =>
    clear hI0 hC0
    rintro D c pre W hpre ⟨rfl, ⟨pre', nm, v, rfl, hk, hb2, ho⟩, hwr⟩ hK hle
    rw [hS.out, pieces_words, List.map_append, List.map_singleton] at hpre
    obtain ⟨hl2, hx⟩ := prefix_last hpre
    rw [List.length_map] at hl2 hx
    have HK := hid hk; have HX := hid hx; have HL2 := hid hl2
    clear hk hpre hx hl2
    gi_wp2
    refine ⟨by simp, .inl ⟨_, _, rfl, run_takeDeferred hK, ?_⟩⟩
    have z5 := heap_putObj (.deferred none) hK rfl hb2
    have c5 := heap_cell z5 0
    simp at c5
    refine ⟨v, by simp [results, Tryz.results150, go_sem, c5], v, rfl, ?_, hwr.next HB.out (putObj_below _ (by omega) hwr.size)⟩
    have hl2 : pre'.length < 12 := HL2.out
    rw [HK.out, wordT_at _ hl2, ← HX.out]
    exact ho.putObj _ hK rfl
end
section
open Go.RowKit
theorem heapT_len (h : Hp) (hn : B64 h.n) : (heapT h).length ≤ 40 := by
  have hi : (Lib.itoa h.n).length ≤ 21 := Lib.itoa_length_le h.n hn.1 hn.2
  have hw : (wordT h.k).length ≤ 8 := by
    by_cases hk : ∃ j : Nat, j < 12 ∧ h.k = 1 + j
    · obtain ⟨j, hj, e⟩ := hk
      rw [e, wordT_at j hj]; exact words_small j
    · rw [wordT_none (fun j hj e => hk ⟨j, hj, e⟩)]; decide
  unfold heapT
  repeat' split
  · omega
  · simp; omega
  · simp; omega
  · omega
theorem putHeap_any (B : Bs) (l : List UInt8) (h : Hp) (hn : B64 h.n) (sv : Value) (w : World) (hown : OwnB B w sv l) (hB : Fit B w) (hl : l.length ≤ 880000000) (ht : Tb B w) :
    Calls Tryz.prog 150 #[sv, .agg #[.int .i64 h.k, .int .i64 h.n]] w (PutPost B w (l ++ heapT h)) := by
  obtain ⟨k, n⟩ := h
  unfold heapT
  dsimp only at hn ⊢
  by_cases h1 : k = 13
  · subst h1; exact putHeap_idx B l n hn sv w hown hB (by omega) ht
  by_cases h2 : k = 14
  · subst h2; exact putHeap_rec B l n hn sv w hown hB hl ht
  by_cases h3 : k = 15
  · subst h3; exact putHeap_def B l n hn sv w hown hB hl ht
  · rw [if_neg h1, if_neg h2, if_neg h3]
    obtain ⟨ao, cap, rfl⟩ := hown.form
    exact putHeap_word B l k n (by simpa using h1) (by simpa using h2) (by simpa using h3) ao l.length cap rfl w hown hB hl
set_option maxRecDepth 100000 in
set_option maxHeartbeats 4000000 in
theorem putVal_any (B : Bs) (l : List UInt8) (v : Vl) (hn : B64 v.n) (sv : Value) (w : World) (hown : OwnB B w sv l) (hB : Fit B w) (hl : l.length ≤ 800000000) (ht : Tb B w) :
    Calls Tryz.prog 173 #[sv, .agg (cellsV v).toArray] w (PutPost B w (l ++ valT v)) := by
  obtain ⟨k, nl, h, n⟩ := v
  simp only [cellsV]
  obtain ⟨ao, cap, rfl⟩ := hown.form
  obtain ⟨W0, hW0⟩ : ∃ W0, w.alloc (.cells #[.int .i64 k, .bool nl, .int .i64 h, .int .i64 n] 35) = W0 := ⟨_, rfl⟩
  have hwr : Wr B w W0 := by rw [← hW0]; exact Wr.new hB _
  have z0 : W0.heap[w.heap.size]? = some (.cells #[.int .i64 k, .bool nl, .int .i64 h, .int .i64 n] 35 (0, 0)) := by rw [← hW0]; exact heap_alloc_at _ _ rfl
  have hO : OwnB B W0 (.slice ao l.length cap) l := by rw [← hW0]; exact hown.alloc _
  have HWx := hid hW0; have HW0 := hid hwr; have Z0 := hid z0; have HO0 := hid hO; have HT := hid (ht.on hwr)
  have HNN := hid hn; have HL := hid hl; have HB := hid hB
  have HO0x := HO0; have HW0x := HW0
  rw [← HWx.out] at HO0x HW0x
  clear hn hown ht hl hB hwr z0 hO hW0
  by_cases h1 : k = 1
  · subst h1; show Calls _ _ _ _ (PutPost B w (l ++ [105, 51, 50]))
    go_enter Tryz.func173, Tryz.ntmps173
    have HFx1 := hid (HB.out.on HW0x.out)
    go_wp2_with (at_builtin; refine wpList_ap_str rfl _ _ rfl rfl HO0x.out ⟨#[105, 51, 50]⟩ rfl HFx1.out ?c1 ?_)
    case c1 => have := HL.out; have e : (⟨#[105, 51, 50]⟩ : ByteArray).size = 3 := rfl; omega
    intro v1 w1 ho1 hv1
    have hr1 := HW0x.out.trans hv1
    obtain ⟨L1, hL1⟩ : ∃ L, l ++ [105, 51, 50] = L := ⟨_, rfl⟩
    have hb1 : L1.length ≤ 800000003 := by have := HL.out; rw [← hL1, List.length_append]; simp; omega
    have ho1 : OwnB B w1 v1 L1 := by rw [← hL1]; exact ho1
    obtain ⟨a1, c1, rfl⟩ := ho1.form
    obtain ⟨n1, hn1⟩ : ∃ n, L1.length = n := ⟨_, rfl⟩
    rw [hn1] at ho1 hb1 ⊢
    have HO1 := hid ho1; have HW1 := hid hr1; have HV1 := hid hv1; have HE1 := hid hL1; have HN1 := hid hn1; have HK1 := hid hb1
    clear ho1 hr1 hv1 hL1 hn1 hb1
    go_wp2
    go_ret
    exact ⟨_, rfl, by rw [HE1.out]; exact HO1.out, HW1.out⟩
  by_cases h2 : k = 2
  · subst h2; show Calls _ _ _ _ (PutPost B w (l ++ [105, 54, 52]))
    go_enter Tryz.func173, Tryz.ntmps173
    have HFx1 := hid (HB.out.on HW0x.out)
    go_wp2_with (at_builtin; refine wpList_ap_str rfl _ _ rfl rfl HO0x.out ⟨#[105, 54, 52]⟩ rfl HFx1.out ?c1 ?_)
    case c1 => have := HL.out; have e : (⟨#[105, 54, 52]⟩ : ByteArray).size = 3 := rfl; omega
    intro v1 w1 ho1 hv1
    have hr1 := HW0x.out.trans hv1
    obtain ⟨L1, hL1⟩ : ∃ L, l ++ [105, 54, 52] = L := ⟨_, rfl⟩
    have hb1 : L1.length ≤ 800000003 := by have := HL.out; rw [← hL1, List.length_append]; simp; omega
    have ho1 : OwnB B w1 v1 L1 := by rw [← hL1]; exact ho1
    obtain ⟨a1, c1, rfl⟩ := ho1.form
    obtain ⟨n1, hn1⟩ : ∃ n, L1.length = n := ⟨_, rfl⟩
    rw [hn1] at ho1 hb1 ⊢
    have HO1 := hid ho1; have HW1 := hid hr1; have HV1 := hid hv1; have HE1 := hid hL1; have HN1 := hid hn1; have HK1 := hid hb1
    clear ho1 hr1 hv1 hL1 hn1 hb1
    go_wp2
    go_ret
    exact ⟨_, rfl, by rw [HE1.out]; exact HO1.out, HW1.out⟩
  by_cases h3 : k = 3
  · subst h3
    show Calls _ _ _ _ (PutPost B w (l ++ ([40, 114, 101, 102, 32] ++ (if nl then [110, 117, 108, 108, 32] else []) ++ heapT ⟨h, n⟩ ++ [41])))
    have HL5 := hid (heapT_len ⟨h, n⟩ HNN.out)
    cases nl
    · go_enter Tryz.func173, Tryz.ntmps173
      have HFx1 := hid (HB.out.on HW0x.out)
      go_wp2_with (at_builtin; refine wpList_ap_str rfl _ _ rfl rfl HO0x.out ⟨#[40, 114, 101, 102, 32]⟩ rfl HFx1.out ?c1 ?_)
      case c1 => have := HL.out; have e : (⟨#[40, 114, 101, 102, 32]⟩ : ByteArray).size = 5 := rfl; omega
      intro v1 w1 ho1 hv1
      have hr1 := HW0x.out.trans hv1
      obtain ⟨L1, hL1⟩ : ∃ L, l ++ [40, 114, 101, 102, 32] = L := ⟨_, rfl⟩
      have hb1 : L1.length ≤ 800000005 := by have := HL.out; rw [← hL1, List.length_append]; simp; omega
      have ho1 : OwnB B w1 v1 L1 := by rw [← hL1]; exact ho1
      obtain ⟨a1, c1, rfl⟩ := ho1.form
      obtain ⟨n1, hn1⟩ : ∃ n, L1.length = n := ⟨_, rfl⟩
      rw [hn1] at ho1 hb1 ⊢
      have HO1 := hid ho1; have HW1 := hid hr1; have HV1 := hid hv1; have HE1 := hid hL1; have HN1 := hid hn1; have HK1 := hid hb1
      clear ho1 hr1 hv1 hL1 hn1 hb1
      have hv1 := HV1.out
      rw [HWx.out] at hv1
      have y0 := hv1.box Z0.out (by decide)
      have HT1 := hid (HT.out.on hv1)
      have HU1 := hid hv1
      have q1 := heap_cell y0 1
      have q2 := heap_cell y0 2
      have q3 := heap_cell y0 3
      simp at q1 q2 q3
      clear hv1 y0
      go_wp2_with fail
      refine (putHeap_any B L1 ⟨h, n⟩ HNN.out _ _ HO1.out (HB.out.on HW1.out) (by have := HK1.out; have := HN1.out; omega) HT1.out).mono ?_
      rintro e w3 ⟨v3, rfl, ho3, hb3⟩
      obtain ⟨L3, hL3⟩ : ∃ L3, L1 ++ heapT ⟨h, n⟩ = L3 := ⟨_, rfl⟩
      have hl3 : L3.length ≤ 800000060 := by have := HK1.out; have := HN1.out; have := HL5.out; rw [← hL3, List.length_append]; omega
      rw [hL3] at ho3
      obtain ⟨a3, c3, rfl⟩ := ho3.form
      obtain ⟨n3, hn3⟩ : ∃ n3, L3.length = n3 := ⟨_, rfl⟩
      rw [hn3] at ho3 ⊢
      have HO3 := hid ho3; have HW3 := hid (HW1.out.trans hb3); have HN3 := hid hn3; have HE3 := hid hL3; have HK3 := hid hl3
      clear ho3 hb3 hn3 hL3 hl3 q1 q2 q3
      have HCe4 := hid (chr_cells (c := 41) (heap_alloc_at w3 (.cells #[.int .u8 41] 5) rfl))
      have HFe4 := hid ((HB.out.on HW3.out).alloc (.cells #[.int .u8 41] 5)); have HOe4 := hid (HO3.out.alloc (.cells #[.int .u8 41] 5)); have HWe4 := hid (HW3.out.alloc (HB.out.on HW3.out) (.cells #[.int .u8 41] 5))
      go_wp2_with (at_builtin; refine wpList_ap_row rfl _ _ rfl rfl HOe4.out ⟨w3.heap.size, 0, none⟩ 1 1 [41] rfl rfl HCe4.out HFe4.out ?c1 ?_)
      case c1 => have := HK3.out; have := HN3.out; simp; omega
      intro v4 w4 ho4 hv4
      have hr4 := HWe4.out.trans hv4
      obtain ⟨L4, hL4⟩ : ∃ L, L3 ++ [41] = L := ⟨_, rfl⟩
      have hb4 : L4.length ≤ 800000061 := by have := HK3.out; have := HN3.out; rw [← hL4, List.length_append]; simp; omega
      have ho4 : OwnB B w4 v4 L4 := by rw [← hL4]; exact ho4
      obtain ⟨a4, c4, rfl⟩ := ho4.form
      obtain ⟨n4, hn4⟩ : ∃ n, L4.length = n := ⟨_, rfl⟩
      rw [hn4] at ho4 hb4 ⊢
      have HO4 := hid ho4; have HW4 := hid hr4; have HV4 := hid hv4; have HE4 := hid hL4; have HN4 := hid hn4; have HK4 := hid hb4
      clear ho4 hr4 hv4 hL4 hn4 hb4
      go_wp2
      go_ret
      refine ⟨_, rfl, ?_, HW4.out⟩
      have := HO4.out
      rw [← HE4.out, ← HE3.out, ← HE1.out] at this
      simpa [List.append_assoc] using this
    · go_enter Tryz.func173, Tryz.ntmps173
      have HFx1 := hid (HB.out.on HW0x.out)
      go_wp2_with (at_builtin; refine wpList_ap_str rfl _ _ rfl rfl HO0x.out ⟨#[40, 114, 101, 102, 32]⟩ rfl HFx1.out ?c1 ?_)
      case c1 => have := HL.out; have e : (⟨#[40, 114, 101, 102, 32]⟩ : ByteArray).size = 5 := rfl; omega
      intro v1 w1 ho1 hv1
      have hr1 := HW0x.out.trans hv1
      obtain ⟨L1, hL1⟩ : ∃ L, l ++ [40, 114, 101, 102, 32] = L := ⟨_, rfl⟩
      have hb1 : L1.length ≤ 800000005 := by have := HL.out; rw [← hL1, List.length_append]; simp; omega
      have ho1 : OwnB B w1 v1 L1 := by rw [← hL1]; exact ho1
      obtain ⟨a1, c1, rfl⟩ := ho1.form
      obtain ⟨n1, hn1⟩ : ∃ n, L1.length = n := ⟨_, rfl⟩
      rw [hn1] at ho1 hb1 ⊢
      have HO1 := hid ho1; have HW1 := hid hr1; have HV1 := hid hv1; have HE1 := hid hL1; have HN1 := hid hn1; have HK1 := hid hb1
      clear ho1 hr1 hv1 hL1 hn1 hb1
      have hv1 := HV1.out
      rw [HWx.out] at hv1
      have y0 := hv1.box Z0.out (by decide)
      have HT1 := hid (HT.out.on hv1)
      have HU1 := hid hv1
      have q1 := heap_cell y0 1
      have q2 := heap_cell y0 2
      have q3 := heap_cell y0 3
      simp at q1 q2 q3
      clear hv1 y0
      have HFx2 := hid (HB.out.on HW1.out)
      go_wp2_with (at_builtin; refine wpList_ap_str rfl _ _ rfl rfl HO1.out ⟨#[110, 117, 108, 108, 32]⟩ rfl HFx2.out ?c1 ?_)
      case c1 => have := HK1.out; have := HN1.out; have e : (⟨#[110, 117, 108, 108, 32]⟩ : ByteArray).size = 5 := rfl; omega
      intro v2 w2 ho2 hv2
      have hr2 := HW1.out.trans hv2
      obtain ⟨L2, hL2⟩ : ∃ L, L1 ++ [110, 117, 108, 108, 32] = L := ⟨_, rfl⟩
      have hb2 : L2.length ≤ 800000010 := by have := HK1.out; have := HN1.out; rw [← hL2, List.length_append]; simp; omega
      have ho2 : OwnB B w2 v2 L2 := by rw [← hL2]; exact ho2
      obtain ⟨a2, c2, rfl⟩ := ho2.form
      obtain ⟨n2, hn2⟩ : ∃ n, L2.length = n := ⟨_, rfl⟩
      rw [hn2] at ho2 hb2 ⊢
      have HO2 := hid ho2; have HW2 := hid hr2; have HV2 := hid hv2; have HE2 := hid hL2; have HN2 := hid hn2; have HK2 := hid hb2
      clear ho2 hr2 hv2 hL2 hn2 hb2
      clear q1 q2 q3
      have hv2 := HU1.out.trans HV2.out
      have y0 := hv2.box Z0.out (by decide)
      have HT2 := hid (HT.out.on hv2)
      have q2 := heap_cell y0 2
      have q3 := heap_cell y0 3
      simp at q2 q3
      clear hv2 y0
      go_wp2_with fail
      refine (putHeap_any B L2 ⟨h, n⟩ HNN.out _ _ HO2.out (HB.out.on HW2.out) (by have := HK2.out; have := HN2.out; omega) HT2.out).mono ?_
      rintro e w3 ⟨v3, rfl, ho3, hb3⟩
      obtain ⟨L3, hL3⟩ : ∃ L3, L2 ++ heapT ⟨h, n⟩ = L3 := ⟨_, rfl⟩
      have hl3 : L3.length ≤ 800000060 := by have := HK2.out; have := HN2.out; have := HL5.out; rw [← hL3, List.length_append]; omega
      rw [hL3] at ho3
      obtain ⟨a3, c3, rfl⟩ := ho3.form
      obtain ⟨n3, hn3⟩ : ∃ n3, L3.length = n3 := ⟨_, rfl⟩
      rw [hn3] at ho3 ⊢
      have HO3 := hid ho3; have HW3 := hid (HW2.out.trans hb3); have HN3 := hid hn3; have HE3 := hid hL3; have HK3 := hid hl3
      clear ho3 hb3 hn3 hL3 hl3 q2 q3
      have HCe4 := hid (chr_cells (c := 41) (heap_alloc_at w3 (.cells #[.int .u8 41] 5) rfl))
      have HFe4 := hid ((HB.out.on HW3.out).alloc (.cells #[.int .u8 41] 5)); have HOe4 := hid (HO3.out.alloc (.cells #[.int .u8 41] 5)); have HWe4 := hid (HW3.out.alloc (HB.out.on HW3.out) (.cells #[.int .u8 41] 5))
      go_wp2_with (at_builtin; refine wpList_ap_row rfl _ _ rfl rfl HOe4.out ⟨w3.heap.size, 0, none⟩ 1 1 [41] rfl rfl HCe4.out HFe4.out ?c1 ?_)
      case c1 => have := HK3.out; have := HN3.out; simp; omega
      intro v4 w4 ho4 hv4
      have hr4 := HWe4.out.trans hv4
      obtain ⟨L4, hL4⟩ : ∃ L, L3 ++ [41] = L := ⟨_, rfl⟩
      have hb4 : L4.length ≤ 800000061 := by have := HK3.out; have := HN3.out; rw [← hL4, List.length_append]; simp; omega
      have ho4 : OwnB B w4 v4 L4 := by rw [← hL4]; exact ho4
      obtain ⟨a4, c4, rfl⟩ := ho4.form
      obtain ⟨n4, hn4⟩ : ∃ n, L4.length = n := ⟨_, rfl⟩
      rw [hn4] at ho4 hb4 ⊢
      have HO4 := hid ho4; have HW4 := hid hr4; have HV4 := hid hv4; have HE4 := hid hL4; have HN4 := hid hn4; have HK4 := hid hb4
      clear ho4 hr4 hv4 hL4 hn4 hb4
      go_wp2
      go_ret
      refine ⟨_, rfl, ?_, HW4.out⟩
      have := HO4.out
      rw [← HE4.out, ← HE3.out, ← HE2.out, ← HE1.out] at this
      simpa [List.append_assoc] using this
  by_cases h4 : k = 4
  · subst h4; show Calls _ _ _ _ (PutPost B w (l ++ [98, 111, 116]))
    go_enter Tryz.func173, Tryz.ntmps173
    have HFx1 := hid (HB.out.on HW0x.out)
    go_wp2_with (at_builtin; refine wpList_ap_str rfl _ _ rfl rfl HO0x.out ⟨#[98, 111, 116]⟩ rfl HFx1.out ?c1 ?_)
    case c1 => have := HL.out; have e : (⟨#[98, 111, 116]⟩ : ByteArray).size = 3 := rfl; omega
    intro v1 w1 ho1 hv1
    have hr1 := HW0x.out.trans hv1
    obtain ⟨L1, hL1⟩ : ∃ L, l ++ [98, 111, 116] = L := ⟨_, rfl⟩
    have hb1 : L1.length ≤ 800000003 := by have := HL.out; rw [← hL1, List.length_append]; simp; omega
    have ho1 : OwnB B w1 v1 L1 := by rw [← hL1]; exact ho1
    obtain ⟨a1, c1, rfl⟩ := ho1.form
    obtain ⟨n1, hn1⟩ : ∃ n, L1.length = n := ⟨_, rfl⟩
    rw [hn1] at ho1 hb1 ⊢
    have HO1 := hid ho1; have HW1 := hid hr1; have HV1 := hid hv1; have HE1 := hid hL1; have HN1 := hid hn1; have HK1 := hid hb1
    clear ho1 hr1 hv1 hL1 hn1 hb1
    go_wp2
    go_ret
    exact ⟨_, rfl, by rw [HE1.out]; exact HO1.out, HW1.out⟩
  have e0 : valT ⟨k, nl, h, n⟩ = [110, 111, 110, 101] := by unfold valT; rw [if_neg h1, if_neg h2, if_neg h3, if_neg h4]
  rw [e0]
  clear e0
  go_enter Tryz.func173, Tryz.ntmps173
  have HFx1 := hid (HB.out.on HW0x.out)
  go_wp2_with (at_builtin; refine wpList_ap_str rfl _ _ rfl rfl HO0x.out ⟨#[110, 111, 110, 101]⟩ rfl HFx1.out ?c1 ?_)
  case c1 => have := HL.out; have e : (⟨#[110, 111, 110, 101]⟩ : ByteArray).size = 4 := rfl; omega
  intro v1 w1 ho1 hv1
  have hr1 := HW0x.out.trans hv1
  obtain ⟨L1, hL1⟩ : ∃ L, l ++ [110, 111, 110, 101] = L := ⟨_, rfl⟩
  have hb1 : L1.length ≤ 800000004 := by have := HL.out; rw [← hL1, List.length_append]; simp; omega
  have ho1 : OwnB B w1 v1 L1 := by rw [← hL1]; exact ho1
  obtain ⟨a1, c1, rfl⟩ := ho1.form
  obtain ⟨n1, hn1⟩ : ∃ n, L1.length = n := ⟨_, rfl⟩
  rw [hn1] at ho1 hb1 ⊢
  have HO1 := hid ho1; have HW1 := hid hr1; have HV1 := hid hv1; have HE1 := hid hL1; have HN1 := hid hn1; have HK1 := hid hb1
  clear ho1 hr1 hv1 hL1 hn1 hb1
  go_wp2
  go_ret
  exact ⟨_, rfl, by rw [HE1.out]; exact HO1.out, HW1.out⟩
end
end Go.Proofs.YtlcfkfijomnmnaaGreatDoor
