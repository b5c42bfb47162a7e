/- package kind: the iterator that Heaps hands back; slices.Collect of it. -/
import Derived.Test.YtcihideabmpmjaaDoorQRangeBP
import Derived.Test.YtcihideabmpmjaaDoorQKdWord
namespace Go.Proofs.YtcihideabmpmjaaDoor
open Go.RowKit Go.Shelf
attribute [local go_sem] Oper.semAt_some

/-- The gathered row, as the iterator reads it. -/
structure Gathered (p : Nat) (v : Value) (l : List Hp) (W : World) : Prop where
  box : W.heap[p]? = some (.cells #[v] 34 (0, 0))
  row : HpsAt W v l
theorem Gathered.alloc {p : Nat} {v : Value} {l : List Hp} {W : World} (h : Gathered p v l W) (o : Obj) : Gathered p v l (W.alloc o) :=
  ⟨heap_alloc_keep h.box _, RowAt.keep h.row fun _ _ hc => cell_alloc hc _⟩
set_option maxRecDepth 100000 in
set_option maxHeartbeats 4000000 in
theorem heaps_iter (n p : Nat) (hn : 1 ≤ n) (v : Value) (l : List Hp) (hl : l.length ≤ 1000000) (w : World) (Kp : World → World → Prop) (I : List Hp → World → Prop) (Ix : Code → List Hp → World → Prop)
    (hG : ∀ pre W, I pre W → Gathered p v l W) (hI : ∀ pre W x, I pre W → I pre (W.alloc (.cells (cellsH x).toArray 52))) :
    IterAt Fence.wide n Tryd.prog 70 #[.pointer (some ⟨p, 0, none⟩)] (fun x : Hp => #[.agg (cellsH x).toArray]) w Kp I Ix
      (fun xs => xs = l) (fun pre => pre <+: l) (fun pre x => pre ++ [x] <+: l) := by
  intro lp L L' W1 hL hL' hbel hY h0 hL0
  have hg := hG _ _ h0
  clear hbel
  obtain ⟨ao, ca, rfl⟩ := RowAt.form hg.row
  have c0 := heap_cell hg.box 0
  simp at c0
  have HG := Lib.hid hg; have HLL := Lib.hid hl
  clear hg hl
  refine callsIn_of_wp Tryd.func70 rfl trivial ?_ rfl
  simp only [Tryd.ntmps70, List.size_toArray, List.length_cons, List.length_nil, Nat.reduceAdd, Nat.reduceSub, Array.replicate_succ, Array.replicate_zero, List.push_toArray, List.append_toArray, List.nil_append, List.cons_append]
  gi_wp2
  gi_loopw [7] (fun t7 wr => ∃ i : Nat, t7 = .int .i64 i ∧ i ≤ l.length ∧ Gathered p (.slice ao l.length ca) l wr ∧ I (l.take i) wr ∧ L wr) (fun t7 _ => l.length - (intOf t7).toNat)
  case atStart => exact ⟨0, rfl, Nat.zero_le _, HG.out, h0, hL0⟩
  case round =>
    obtain ⟨i, rfl, hi, hgr, hI0, hl⟩ := hrel
    by_cases hlt : i < l.length
    · obtain ⟨x, hx⟩ : ∃ x, l[i]? = some x := ⟨l[i], by simp [hlt]⟩
      obtain ⟨b1, o1, e1, hb1, p0, p1⟩ := hps_at hgr.row hx
      subst e1
      have htk : l.take (i + 1) = l.take i ++ [x] := by rw [List.take_add_one, hx]; rfl
      have hpre : l.take i ++ [x] <+: l := by rw [← htk]; exact List.take_prefix _ _
      have hlt' : (i : Int) < l.length := by omega
      have hi6 : (i : Int) < 1000000 := by have := HLL.out; omega
      have HX := Lib.hid htk; have HPR := Lib.hid hpre; have HGR := Lib.hid hgr; have HI := Lib.hid hI0; have HLT := Lib.hid hlt
      obtain ⟨fn, tmps, assign, body, hy, hR⟩ := hY (l.take i) x (wr.alloc (.cells (cellsH x).toArray 52)) (hI _ _ _ hI0) (hL _ _ (KeepsOthers.alloc _ _) hl) hpre
      rw [show (cellsH x).toArray = #[.int .i64 x.k, .int .i64 x.n] from rfl] at hy hR
      clear htk hpre hgr hI0 hx hlt hi
      try dsimp only at hy
      gi_wp2
      refine hR.mono ?_
      rintro e W' (⟨rfl, hJ', hk, hl'⟩ | ⟨rfl, c', hx, hl'⟩)
      · have hgr' := hG _ _ hJ'
        have HG2 := Lib.hid hgr'
        clear hgr' hy hR hY
        gi_wp2
        go_roundw
        case rel => exact ⟨i + 1, by go_num, HLT.out, HG2.out, by rw [HX.out]; exact hJ', hl'⟩
        case measure => have := HLT.out; simp [intOf]; omega
      · clear hy hR hY
        gi_wp2
        refine bodyPost_ret (results_none rfl _ _ _) rfl ?_
        exact ⟨⟨_, rfl⟩, .inr ⟨_, c', HPR.out, hx, hl'⟩⟩
    · obtain rfl : i = l.length := by omega
      have hlt' : ¬ (l.length : Int) < l.length := by omega
      clear hY
      rw [List.take_length] at hI0
      gi_wp2
      first | go_end0 | refine bodyPost_ret (results_none rfl _ _ _) rfl ?_
      exact ⟨⟨_, rfl⟩, .inl ⟨hI0, hl⟩⟩
/-- Between two rounds of AppendSeq: the box Z holds what was gathered so far. -/
structure ColI (w : World) (Z : Nat) (pre : List Hp) (W : World) : Prop where
  ex : ∃ v, W.heap[Z]? = some (.cells #[v] 34 (0, 0)) ∧ W.ownsRow Z 52 2 v pre.length (flatH pre) ∧ v.ownBlock ≠ some Z
  be : Below w.heap.size w W
theorem ColI.alloc {w : World} {Z : Nat} {pre : List Hp} {W : World} (h : ColI w Z pre W) (o : Obj) : ColI w Z pre (W.alloc o) := by
  obtain ⟨⟨v, h1, h2, h3⟩, hb⟩ := h
  exact ⟨⟨v, heap_alloc_keep h1 _, h2.alloc _, h3⟩, hb.alloc hb.size _⟩
theorem ownsRow_putObj {W : World} {p : Nat} {o : Obj} (o' : Obj) (h : W.heap[p]? = some o) (ho : o.isCells = false) {B : Nat} {e : TypeId} {size : Nat} {v : Value} {n : Nat} {xs : List Value} (hv : W.ownsRow B e size v n xs) : (W.putObj p o').ownsRow B e size v n xs := by
  obtain ⟨h1, (h2 | ⟨g, cap, cur, rfl, hg, hr, h3⟩)⟩ := hv
  · exact ⟨h1, .inl h2⟩
  · exact ⟨h1, .inr ⟨g, cap, cur, rfl, hg, heap_putObj o' h ho hr, h3⟩⟩
theorem ColI.putObj {w : World} {Z : Nat} {pre : List Hp} {W : World} {p : Nat} {o : Obj} (o' : Obj) (hl : w.heap.size ≤ p) (h : W.heap[p]? = some o) (ho : o.isCells = false) (hi : ColI w Z pre W) : ColI w Z pre (W.putObj p o') := by
  obtain ⟨⟨v, h1, h2, h3⟩, hb⟩ := hi
  exact ⟨⟨v, heap_putObj o' h ho h1, ownsRow_putObj o' h ho h2, h3⟩, hb.trans (putObj_below o' hl hb.size)⟩
theorem RangeFuncBoxed {W : World} {Z n₀ : Nat} {v : Value} {k : Nat} {xs : List Value} {tmp : Obj} (hv : W.heap[Z]? = some (.cells #[v] 34 (0, 0))) (hr : W.ownsRow n₀ 52 2 v k xs) (hn : n₀ ≤ W.heap.size) (hB : n₀ ≤ Z) (w1 : World) (v' : Value) (m : Nat) (ys : List Value) (ho : w1.ownsRow n₀ 52 2 v' m ys) (hg : (W.alloc tmp).grownBy w1 v.ownBlock) :
    _root_.Go.Boxed w1 Z 34 v ∧ _root_.Go.Boxed (w1.setCell ⟨Z, 0, none⟩ v') Z 34 v' ∧ (w1.setCell ⟨Z, 0, none⟩ v').ownsRow n₀ 52 2 v' m ys ∧ KeepsOthers W (w1.setCell ⟨Z, 0, none⟩ v') ∧ Below n₀ W (w1.setCell ⟨Z, 0, none⟩ v') :=
  _root_.Go.Boxed.appended hv (by decide) hr hn hB ho hg
set_option maxRecDepth 100000 in
set_option maxHeartbeats 4000000 in
theorem appendSeq_any (p : Nat) (v : Value) (l : List Hp) (hl : l.length ≤ 1000000) (w : World) (hg : ∀ W, Below w.heap.size w W → Gathered p v l W) :
    Calls Tryd.prog 68 #[.slice none 0 0, .func (.func 70) #[] #[.pointer (some ⟨p, 0, none⟩)]] w fun e w' => ∃ u, e = .returned u ∧ w'.ownsRow w.heap.size 52 2 u l.length (flatH l) ∧ Below w.heap.size w w' := by
  obtain ⟨i0, hi, hz0, hz1, hz2⟩ := info_parts Tryd.infoHeap
  have Hi := Lib.hid hi; have Hz0 := Lib.hid hz0; have Hz1 := Lib.hid hz1; have Hz2 := Lib.hid hz2
  clear hi hz0 hz1 hz2
  refine (callsIn_wide (n := 6)).1 ?_
  refine callsIn_of_wp_marks Tryd.func68 rfl trivial ?_ rfl
  simp only [Tryd.ntmps68, List.size_toArray, List.length_cons, List.length_nil, Nat.reduceAdd, Nat.reduceSub, Array.replicate_succ, Array.replicate_zero, List.push_toArray, List.append_toArray, List.nil_append, List.cons_append]
  gi_wp2
  obtain ⟨Z, hZ⟩ : ∃ Z, Z = w.heap.size := ⟨_, rfl⟩
  obtain ⟨wl, hwl⟩ : ∃ wl, wl = w.alloc (.cells #[.slice none 0 0] 34) := ⟨_, rfl⟩
  have hI0 : ColI w Z [] wl := ⟨⟨_, by rw [hwl, hZ]; exact heap_alloc_at _ _ rfl, owns_zero _ _ _ _, by simp [Value.ownBlock]⟩, by rw [hwl]; exact (Below.refl _ _).alloc (Nat.le_refl _) _⟩
  have hle : w.heap.size ≤ wl.heap.size := hI0.be.size
  have HZ := Lib.hid hZ
  simp only [← hZ]
  rw [← hwl]
  clear hZ hwl
  refine wpIn_range_box (F := Fence.wide) (n := 6) rfl (by omega) (gf := 70) (lb := #[.pointer (some ⟨p, 0, none⟩)]) rfl trivial (enters_of Tryd.func70 (by kernel_rfl) rfl)
    (encs := fun x : Hp => #[.agg (cellsH x).toArray]) (fun _ => rfl) (fun _ _ => True) (ColI w Z) (fun _ _ _ => False)
    (fun _ _ => trivial) (fun _ _ _ _ _ _ _ => trivial)
    (fun pre W q o o' hl h ho hi => hi.putObj o' (by omega) h ho) (fun c pre W q o o' hl h ho hi => hi)
    (fun o o' => (hI0.alloc o).alloc o') (fun x => .cells (cellsH x).toArray 52) (fun pre W x hi => hi.alloc _) (fun _ _ => trivial)
    (fun x B => { tmps := #[.slice none 0 0, .func (.func 70) #[] #[.pointer (some ⟨p, 0, none⟩)], .pointer (some ⟨Z, 0, none⟩), undef, .slice none 0 0, .pointer (some ⟨B, 0, none⟩), .func (.func 70) #[] #[.pointer (some ⟨p, 0, none⟩)], .agg (cellsH x).toArray, undef, undef, undef, undef, undef], defers := [] })
    (heaps_iter 5 p (by omega) v l hl wl _ _ _ (fun pre W hi => hg W hi.be) (fun pre W x hi => hi.alloc _)) ?assign ?body ?done ?stop
  case assign =>
    clear hI0
    intro q x W K hK
    rw [show (cellsH x).toArray = #[.int .i64 x.k, .int .i64 x.n] from rfl] at hK ⊢
    gi_wp2
    exact hK
  case body =>
    rintro q pre x W B hi hlen hB hBl
    obtain ⟨v0, hb0, ho0, hne⟩ := hi.ex
    obtain ⟨ao, cap, rfl, _⟩ := ownsRow_form ho0
    have hpl : pre.length + 1 ≤ l.length := by have := hlen.length_le; simpa using this
    have hZs := heap_lt hb0
    have cz := heap_cell hb0 0
    have cb0 := heap_cell hB 0; have cb1 := heap_cell hB 1
    have hbx := RangeFuncBoxed hb0 ho0 (by omega) (Nat.le_refl Z) (tmp := .cells (cellsH x).toArray 52)
    simp [cellsH] at cz cb0 cb1
    have HR := Lib.hid (row_cells (cs := cellsH x) (heap_alloc_at W (.cells (cellsH x).toArray 52) rfl))
    have HO := Lib.hid (ho0.alloc (.cells (cellsH x).toArray 52)); have HI := Lib.hid hi; have HP := Lib.hid hpl; have HZS := Lib.hid hZs; have HBX := Lib.hid hbx
    clear hI0 hi hlen hB hBl hb0 ho0 hne hpl hZs hbx hg
    rw [show (cellsH x).toArray = #[.int .i64 x.k, .int .i64 x.n] from rfl]
    gi_wp2_with (gi_at_builtin; refine wpListIn_append_own _ rfl _ _ 34 rfl Z 52 i0 _ 2 16 Tryd.underlying34 Hi.out Hz0.out Hz1.out Hz2.out rfl (by decide) _ _ _ rfl HO.out ⟨W.heap.size, 0, none⟩ 1 1 (cellsH x) rfl rfl HR.out (one_H x) (by have := HP.out; simp [maxLen]; omega) (by have := HP.out; omega) (by have := HZS.out; simp; omega) ?_)
    intro v2 w2 o2 gr2 _
    obtain ⟨x1, x2, x3, x4, x5⟩ := HBX.out _ _ _ _ o2 gr2
    have d0 := x1.cell
    have d1 := x1.frozen
    obtain ⟨ao2, cap2, rfl, _⟩ := ownsRow_form o2
    have X2 := Lib.hid x2; have X3 := Lib.hid x3; have X4 := Lib.hid x4; have X5 := Lib.hid x5
    clear x1 x2 x3 x4 x5 o2 gr2
    gi_wp2
    refine ⟨X4.out, trivial, ⟨⟨_, X2.out, by simpa [flatH] using X3.out, ?_⟩, HI.out.be.trans (X5.out.mono (by rw [HZ.out]; exact Nat.le_refl _))⟩⟩
    intro e
    have := X2.out.not_row (by decide) X3.out
    exact this e.symm
  case done =>
    clear hI0
    rintro D xs W hxs hi hK hle
    obtain rfl : xs = l := hxs
    obtain ⟨v0, hb0, ho0, _⟩ := hi.ex
    have cz := heap_cell hb0 0
    simp at cz
    have HO := Lib.hid ho0; have HI := Lib.hid hi; have HKD := Lib.hid hK
    obtain ⟨ao, cap, rfl, _⟩ := ownsRow_form ho0
    clear hi hK hb0 ho0 hg
    gi_wp2
    refine ⟨by simp, .inl ⟨_, _, rfl, run_takeDeferred HKD.out, ?_⟩⟩
    refine ⟨.slice ao xs.length cap, by simp [results, Tryd.results68, go_sem], _, rfl, ?_, ?_⟩
    · exact ownsRow_putObj _ HKD.out rfl (ownsRow_low HO.out (by rw [HZ.out]; exact Nat.le_refl _))
    · exact HI.out.be.trans (putObj_below _ (by omega) HI.out.be.size)
  case stop => rintro D c pre W hpre h hK hle; exact h.elim
set_option maxRecDepth 100000 in
theorem collect_any (p : Nat) (v : Value) (l : List Hp) (hl : l.length ≤ 1000000) (w : World) (hg : ∀ W, Below w.heap.size w W → Gathered p v l W) :
    Calls Tryd.prog 63 #[.func (.func 70) #[] #[.pointer (some ⟨p, 0, none⟩)]] w fun e w' => ∃ u, e = .returned u ∧ w'.ownsRow w.heap.size 52 2 u l.length (flatH l) ∧ Below w.heap.size w w' := by
  have HC := Lib.hid (appendSeq_any p v l hl w hg)
  clear hg hl
  go_enter Tryd.func63, Tryd.ntmps63
  go_wp2_with fail
  refine HC.out.mono ?_
  rintro e w1 ⟨u, rfl, o1, hb⟩
  have HO := Lib.hid o1; have HB := Lib.hid hb
  clear o1 hb
  go_wp2
  go_ret
  exact ⟨_, rfl, HO.out, HB.out⟩
end Go.Proofs.YtcihideabmpmjaaDoor
