import Derived.Test.YtpddbaijnjbfdaaGreatDoorQKdWordBd
namespace Go.Proofs.YtpddbaijnjbfdaaGreatDoor
open Lib (hid)
section
open Go.RowKit Go.Shelf
attribute [local go_sem] Oper.semAt_some
structure Gathered (p : Nat) (v : Value) (l : List Hp) (W : World) : Prop where
  box : W.heap[p]? = some (.cells #[v] 44 (0, 0))
  row : HpsAt W v l
set_option maxRecDepth 100000 in
set_option maxHeartbeats 4000000 in
theorem heaps_iter (n p : Nat) (hn : 1 ≤ n) (v : Value) (l : List Hp) (hl : l.length ≤ 1000000) (w : World) (Kp : World → World → Prop) (I : List Hp → World → Prop) (Ix : Code → List Hp → World → Prop)
    (hG : ∀ pre W, I pre W → Gathered p v l W) (hI : ∀ pre W x, I pre W → I pre (W.alloc (.cells (cellsH x).toArray 75))) :
    IterAt Fence.wide n Tryz.prog 128 #[.pointer (some ⟨p, 0, none⟩)] (fun x : Hp => #[.agg (cellsH x).toArray]) w Kp I Ix
      (fun xs => xs = l) (fun pre => pre <+: l) (fun pre x => pre ++ [x] <+: l) := by
  intro lp L L' W1 hL hL' hbel hY h0 hL0
  have hg := hG _ _ h0
  clear hbel
  obtain ⟨ao, ca, rfl⟩ := RowAt.form hg.row
  have c0 := heap_cell hg.box 0
  simp at c0
  have HG := hid hg; have HLL := hid hl
  clear hg hl
  refine callsIn_of_wp Tryz.func128 rfl trivial ?_ rfl
  simp only [Tryz.ntmps128, List.size_toArray, List.length_cons, List.length_nil, Nat.reduceAdd, Nat.reduceSub, Array.replicate_succ, Array.replicate_zero, List.push_toArray, List.append_toArray, List.nil_append, List.cons_append]
  gi_wp2
  gi_loopw [7] (fun t7 wr => ∃ i : Nat, t7 = .int .i64 i ∧ i ≤ l.length ∧ Gathered p (.slice ao l.length ca) l wr ∧ I (l.take i) wr ∧ L wr) (fun t7 _ => l.length - (intOf t7).toNat)
  case atStart => exact ⟨0, rfl, Nat.zero_le _, HG.out, h0, hL0⟩
  case round =>
    obtain ⟨i, rfl, hi, hgr, hI0, hl⟩ := hrel
    by_cases hlt : i < l.length
    · obtain ⟨x, hx⟩ : ∃ x, l[i]? = some x := ⟨l[i], by simp [hlt]⟩
      obtain ⟨b1, o1, e1, hb1, p0, p1⟩ := hps_at hgr.row hx
      subst e1
      have htk : l.take (i + 1) = l.take i ++ [x] := by rw [List.take_add_one, hx]; rfl
      have hpre : l.take i ++ [x] <+: l := by rw [← htk]; exact List.take_prefix _ _
      have hlt' : (i : Int) < l.length := by omega
      have hi6 : (i : Int) < 1000000 := by have := HLL.out; omega
      have HX := hid htk; have HPR := hid hpre; have HGR := hid hgr; have HI := hid hI0; have HLT := hid hlt
      obtain ⟨fn, tmps, assign, body, hy, hR⟩ := hY (l.take i) x (wr.alloc (.cells (cellsH x).toArray 75)) (hI _ _ _ hI0) (hL _ _ (KeepsOthers.alloc _ _) hl) hpre
      rw [show (cellsH x).toArray = #[.int .i64 x.k, .int .i64 x.n] from rfl] at hy hR
      clear htk hpre hgr hI0 hx hlt hi
      try dsimp only at hy
      gi_wp2
      refine hR.mono ?_
      rintro e W' (⟨rfl, hJ', hk, hl'⟩ | ⟨rfl, c', hx, hl'⟩)
      · have hgr' := hG _ _ hJ'
        have HG2 := hid hgr'
        clear hgr' hy hR hY
        gi_wp2
        go_roundw
        case rel => exact ⟨i + 1, by go_num, HLT.out, HG2.out, by rw [HX.out]; exact hJ', hl'⟩
        case measure => have := HLT.out; simp [intOf]; omega
      · clear hy hR hY
        gi_wp2
        refine bodyPost_ret (results_none rfl _ _ _) rfl ?_
        exact ⟨⟨_, rfl⟩, .inr ⟨_, c', HPR.out, hx, hl'⟩⟩
    · obtain rfl : i = l.length := by omega
      have hlt' : ¬ (l.length : Int) < l.length := by omega
      clear hY
      rw [List.take_length] at hI0
      gi_wp2
      first | go_end0 | refine bodyPost_ret (results_none rfl _ _ _) rfl ?_
      exact ⟨⟨_, rfl⟩, .inl ⟨hI0, hl⟩⟩
structure ColI (w : World) (Z : Nat) (pre : List Hp) (W : World) : Prop where
  ex : ∃ v, W.heap[Z]? = some (.cells #[v] 44 (0, 0)) ∧ W.ownsRow Z 75 2 v pre.length (flatH pre) ∧ v.ownBlock ≠ some Z
  be : Below w.heap.size w W
theorem ColI.alloc {w : World} {Z : Nat} {pre : List Hp} {W : World} (h : ColI w Z pre W) (o : Obj) : ColI w Z pre (W.alloc o) := by
  obtain ⟨⟨v, h1, h2, h3⟩, hb⟩ := h
  exact ⟨⟨v, heap_alloc_keep h1 _, h2.alloc _, h3⟩, hb.alloc hb.size _⟩
theorem ownsRow_putObj {W : World} {p : Nat} {o : Obj} (o' : Obj) (h : W.heap[p]? = some o) (ho : o.isCells = false) {B : Nat} {e : TypeId} {size : Nat} {v : Value} {n : Nat} {xs : List Value} (hv : W.ownsRow B e size v n xs) : (W.putObj p o').ownsRow B e size v n xs := by
  obtain ⟨h1, (h2 | ⟨g, cap, cur, rfl, hg, hr, h3⟩)⟩ := hv
  · exact ⟨h1, .inl h2⟩
  · exact ⟨h1, .inr ⟨g, cap, cur, rfl, hg, heap_putObj o' h ho hr, h3⟩⟩
theorem ColI.putObj {w : World} {Z : Nat} {pre : List Hp} {W : World} {p : Nat} {o : Obj} (o' : Obj) (hl : w.heap.size ≤ p) (h : W.heap[p]? = some o) (ho : o.isCells = false) (hi : ColI w Z pre W) : ColI w Z pre (W.putObj p o') := by
  obtain ⟨⟨v, h1, h2, h3⟩, hb⟩ := hi
  exact ⟨⟨v, heap_putObj o' h ho h1, ownsRow_putObj o' h ho h2, h3⟩, hb.trans (putObj_below o' hl hb.size)⟩
theorem RangeFuncBoxed {W : World} {Z n₀ : Nat} {v : Value} {k : Nat} {xs : List Value} {tmp : Obj} (hv : W.heap[Z]? = some (.cells #[v] 44 (0, 0))) (hr : W.ownsRow n₀ 75 2 v k xs) (hn : n₀ ≤ W.heap.size) (hB : n₀ ≤ Z) (w1 : World) (v' : Value) (m : Nat) (ys : List Value) (ho : w1.ownsRow n₀ 75 2 v' m ys) (hg : (W.alloc tmp).grownBy w1 v.ownBlock) :
    _root_.Go.Boxed w1 Z 44 v ∧ _root_.Go.Boxed (w1.setCell ⟨Z, 0, none⟩ v') Z 44 v' ∧ (w1.setCell ⟨Z, 0, none⟩ v').ownsRow n₀ 75 2 v' m ys ∧ KeepsOthers W (w1.setCell ⟨Z, 0, none⟩ v') ∧ Below n₀ W (w1.setCell ⟨Z, 0, none⟩ v') :=
  _root_.Go.Boxed.appended hv (by decide) hr hn hB ho hg
set_option maxRecDepth 100000 in
set_option maxHeartbeats 4000000 in
theorem appendSeq_any (p : Nat) (v : Value) (l : List Hp) (hl : l.length ≤ 1000000) (w : World) (hg : ∀ W, Below w.heap.size w W → Gathered p v l W) :
    Calls Tryz.prog 126 #[.slice none 0 0, .func (.func 128) #[] #[.pointer (some ⟨p, 0, none⟩)]] w fun e w' => ∃ u, e = .returned u ∧ w'.ownsRow w.heap.size 75 2 u l.length (flatH l) ∧ Below w.heap.size w w' := by
  obtain ⟨i0, hi, hz0, hz1, hz2⟩ := info_parts Tryz.infoHeap
  have Hi := hid hi; have Hz0 := hid hz0; have Hz1 := hid hz1; have Hz2 := hid hz2
  clear hi hz0 hz1 hz2
  refine (callsIn_wide (n := 6)).1 ?_
  refine callsIn_of_wp_marks Tryz.func126 rfl trivial ?_ rfl
  simp only [Tryz.ntmps126, List.size_toArray, List.length_cons, List.length_nil, Nat.reduceAdd, Nat.reduceSub, Array.replicate_succ, Array.replicate_zero, List.push_toArray, List.append_toArray, List.nil_append, List.cons_append]
  gi_wp2
  obtain ⟨Z, hZ⟩ : ∃ Z, Z = w.heap.size := ⟨_, rfl⟩
  obtain ⟨wl, hwl⟩ : ∃ wl, wl = w.alloc (.cells #[.slice none 0 0] 44) := ⟨_, rfl⟩
  have hI0 : ColI w Z [] wl := ⟨⟨_, by rw [hwl, hZ]; exact heap_alloc_at _ _ rfl, owns_zero _ _ _ _, by simp [Value.ownBlock]⟩, by rw [hwl]; exact (Below.refl _ _).alloc (Nat.le_refl _) _⟩
  have hle : w.heap.size ≤ wl.heap.size := hI0.be.size
  have HZ := hid hZ
  simp only [← hZ]
  rw [← hwl]
  clear hZ hwl
  refine wpIn_range_box (F := Fence.wide) (n := 6) rfl (by omega) (gf := 128) (lb := #[.pointer (some ⟨p, 0, none⟩)]) rfl trivial (enters_of Tryz.func128 (by kernel_rfl) rfl)
    (encs := fun x : Hp => #[.agg (cellsH x).toArray]) (fun _ => rfl) (fun _ _ => True) (ColI w Z) (fun _ _ _ => False)
    (fun _ _ => trivial) (fun _ _ _ _ _ _ _ => trivial)
    (fun pre W q o o' hl h ho hi => hi.putObj o' (by omega) h ho) (fun c pre W q o o' hl h ho hi => hi)
    (fun o o' => (hI0.alloc o).alloc o') (fun x => .cells (cellsH x).toArray 75) (fun pre W x hi => hi.alloc _) (fun _ _ => trivial)
    (fun x B => { tmps := #[.slice none 0 0, .func (.func 128) #[] #[.pointer (some ⟨p, 0, none⟩)], .pointer (some ⟨Z, 0, none⟩), undef, .slice none 0 0, .pointer (some ⟨B, 0, none⟩), .func (.func 128) #[] #[.pointer (some ⟨p, 0, none⟩)], .agg (cellsH x).toArray, undef, undef, undef, undef, undef], defers := [] })
    (heaps_iter 5 p (by omega) v l hl wl _ _ _ (fun pre W hi => hg W hi.be) (fun pre W x hi => hi.alloc _)) ?assign ?body ?done ?stop
  case assign =>
    clear hI0
    intro q x W K hK
    rw [show (cellsH x).toArray = #[.int .i64 x.k, .int .i64 x.n] from rfl] at hK ⊢
    gi_wp2
    exact hK
  case body =>
    rintro q pre x W B hi hlen hB hBl
    obtain ⟨v0, hb0, ho0, hne⟩ := hi.ex
    obtain ⟨ao, cap, rfl, _⟩ := ownsRow_form ho0
    have hpl : pre.length + 1 ≤ l.length := by have := hlen.length_le; simpa using this
    have hZs := heap_lt hb0
    have cz := heap_cell hb0 0
    have cb0 := heap_cell hB 0; have cb1 := heap_cell hB 1
    have hbx := RangeFuncBoxed hb0 ho0 (by omega) (Nat.le_refl Z) (tmp := .cells (cellsH x).toArray 75)
    simp [cellsH] at cz cb0 cb1
    have HR := hid (row_cells (cs := cellsH x) (heap_alloc_at W (.cells (cellsH x).toArray 75) rfl))
    have HO := hid (ho0.alloc (.cells (cellsH x).toArray 75)); have HI := hid hi; have HP := hid hpl; have HZS := hid hZs; have HBX := hid hbx
    clear hI0 hi hlen hB hBl hb0 ho0 hne hpl hZs hbx hg
    rw [show (cellsH x).toArray = #[.int .i64 x.k, .int .i64 x.n] from rfl]
    gi_wp2_with (gi_at_builtin; refine wpListIn_append_own _ rfl _ _ 44 rfl Z 75 i0 _ 2 16 Tryz.underlying44 Hi.out Hz0.out Hz1.out Hz2.out rfl (by decide) _ _ _ rfl HO.out ⟨W.heap.size, 0, none⟩ 1 1 (cellsH x) rfl rfl HR.out (one_H x) (by have := HP.out; simp [maxLen]; omega) (by have := HP.out; omega) (by have := HZS.out; simp; omega) ?_)
    intro v2 w2 o2 gr2 _
    obtain ⟨x1, x2, x3, x4, x5⟩ := HBX.out _ _ _ _ o2 gr2
    have d0 := x1.cell
    have d1 := x1.frozen
    obtain ⟨ao2, cap2, rfl, _⟩ := ownsRow_form o2
    have X2 := hid x2; have X3 := hid x3; have X4 := hid x4; have X5 := hid x5
    clear x1 x2 x3 x4 x5 o2 gr2
    gi_wp2
    refine ⟨X4.out, trivial, ⟨⟨_, X2.out, by simpa [flatH] using X3.out, ?_⟩, HI.out.be.trans (X5.out.mono (by rw [HZ.out]; exact Nat.le_refl _))⟩⟩
    intro e
    have := X2.out.not_row (by decide) X3.out
    exact this e.symm
  case done =>
    clear hI0
    rintro D xs W hxs hi hK hle
    obtain rfl : xs = l := hxs
    obtain ⟨v0, hb0, ho0, _⟩ := hi.ex
    have cz := heap_cell hb0 0
    simp at cz
    have HO := hid ho0; have HI := hid hi; have HKD := hid hK
    obtain ⟨ao, cap, rfl, _⟩ := ownsRow_form ho0
    clear hi hK hb0 ho0 hg
    gi_wp2
    refine ⟨by simp, .inl ⟨_, _, rfl, run_takeDeferred HKD.out, ?_⟩⟩
    refine ⟨.slice ao xs.length cap, by simp [results, Tryz.results126, go_sem], _, rfl, ?_, ?_⟩
    · exact ownsRow_putObj _ HKD.out rfl (ownsRow_low HO.out (by rw [HZ.out]; exact Nat.le_refl _))
    · exact HI.out.be.trans (putObj_below _ (by omega) HI.out.be.size)
  case stop => rintro D c pre W hpre h hK hle; exact h.elim
set_option maxRecDepth 100000 in
theorem collect_any (p : Nat) (v : Value) (l : List Hp) (hl : l.length ≤ 1000000) (w : World) (hg : ∀ W, Below w.heap.size w W → Gathered p v l W) :
    Calls Tryz.prog 113 #[.func (.func 128) #[] #[.pointer (some ⟨p, 0, none⟩)]] w fun e w' => ∃ u, e = .returned u ∧ w'.ownsRow w.heap.size 75 2 u l.length (flatH l) ∧ Below w.heap.size w w' := by
  have HC := hid (appendSeq_any p v l hl w hg)
  clear hg hl
  go_enter Tryz.func113, Tryz.ntmps113
  go_wp2_with fail
  refine HC.out.mono ?_
  rintro e w1 ⟨u, rfl, o1, hb⟩
  have HO := hid o1; have HB := hid hb
  clear o1 hb
  go_wp2
  go_ret
  exact ⟨_, rfl, HO.out, HB.out⟩
end
section
open Go.RowKit Go.Shelf
attribute [local go_sem] Oper.semAt_some
structure AlI (w : World) (q r p2 : Nat) (v2 u : Value) (l : List Hp) (pre : List Hp) (W : World) : Prop where
  left : ∃ ao c, (pre.length < l.length → (∃ g cap, u = .slice (some ⟨g, 0, none⟩) l.length cap ∧ ao = some ⟨g, pre.length * 2, none⟩) ∧ l.length - pre.length ≤ c) ∧ W.heap[q]? = some (.cells #[.slice ao (l.length - pre.length) c] 44 (0, 0))
  own : W.ownsRow 0 75 2 u l.length (flatH l)
  told : W.heap[r]? = some (.cells #[.bool false] 4 (0, 0))
  box : W.heap[p2]? = some (.cells #[v2] 44 (0, 0))
  own2 : W.ownsRow 0 75 2 v2 l.length (flatH l)
  ne : q ≠ p2
  le : w.heap.size ≤ q
  be : Below w.heap.size w W
section
variable {w : World} {q r p2 : Nat} {v2 u : Value} {l pre : List Hp} {W : World}
theorem AlI.g (h : AlI w q r p2 v2 u l pre W) : Gathered p2 v2 l W := ⟨h.box, RowAt.of_own h.own2⟩
theorem AlI.alloc (h : AlI w q r p2 v2 u l pre W) (o : Obj) : AlI w q r p2 v2 u l pre (W.alloc o) := by
  obtain ⟨⟨o1, c, h1, h2⟩, h3, h4, h5, h6, h7, h8, h9⟩ := h
  exact ⟨⟨o1, c, h1, heap_alloc_keep h2 _⟩, h3.alloc _, heap_alloc_keep h4 _, heap_alloc_keep h5 _, h6.alloc _, h7, h8, h9.alloc h9.size _⟩
theorem AlI.putObj {p : Nat} {o : Obj} (o' : Obj) (hl : w.heap.size ≤ p) (hp : W.heap[p]? = some o) (ho : o.isCells = false) (h : AlI w q r p2 v2 u l pre W) : AlI w q r p2 v2 u l pre (W.putObj p o') := by
  obtain ⟨⟨o1, c, h1, h2⟩, h3, h4, h5, h6, h7, h8, h9⟩ := h
  exact ⟨⟨o1, c, h1, heap_putObj o' hp ho h2⟩, ownsRow_putObj o' hp ho h3, heap_putObj o' hp ho h4, heap_putObj o' hp ho h5, ownsRow_putObj o' hp ho h6, h7, h8, h9.trans (putObj_below o' hl h9.size)⟩
theorem AlI.step (h : AlI w q r p2 v2 u l pre W) {y : Hp} {m : Nat} (hm : l.length - pre.length = m + 1) {ao : Option Addr} {c : Nat} (ha : 0 < m → (∃ g cap, u = .slice (some ⟨g, 0, none⟩) l.length cap ∧ ao = some ⟨g, pre.length * 2 + 2, none⟩) ∧ m ≤ c) : AlI w q r p2 v2 u l (pre ++ [y]) ((W.setCell ⟨q, 0, none⟩ (.slice ao m c)).drew) := by
  obtain ⟨⟨o1, c1, h1, h2⟩, h3, h4, h5, h6, h7, h8, h9⟩ := h
  have hq := heap_set_at h2 0 (.slice ao m c)
  have us : Upd (fun k => k = q) W ((W.setCell ⟨q, 0, none⟩ (.slice ao m c)).drew) := ((Upd.refl (fun k => k = q) W).setCell (p := ⟨q, 0, none⟩) (.inl rfl) _).drew
  have n1 := _root_.Go.Boxed.not_row h2 (by decide) h3
  have n2 := _root_.Go.Boxed.not_row h2 (by decide) h6
  refine ⟨⟨ao, c, fun hlt => ?_, ?_⟩, ownsRow_upd h3 us (fun k hk (e : k = q) => n1 (by rw [hk, e])), us.heap_some h4 (fun e => ne_of_types h2 h4 (by decide) e.symm), us.heap_some h5 (fun e => h7 e.symm), ownsRow_upd h6 us (fun k hk (e : k = q) => n2 (by rw [hk, e])), h7, h8, (h9.setCell (by simpa using h8) _).drew⟩
  · simp at hlt
    obtain ⟨⟨g, cap, e1, e2⟩, e3⟩ := ha (by omega)
    exact ⟨⟨g, cap, e1, by rw [e2]; simp [Nat.add_mul]⟩, by simp; omega⟩
  · rw [show l.length - (pre ++ [y]).length = m by simp; omega]
    have hq2 : (W.setCell ⟨q, 0, none⟩ (.slice ao m c)).heap[q]? = some (.cells #[.slice ao m c] 44 (0, 0)) := by simpa using hq
    exact hq2
end
set_option maxRecDepth 100000 in
set_option maxHeartbeats 4000000 in
theorem alike1_any (cs ds : List Value) (x : Sb) (w : World) (hs : SubAt w cs x) (ht : SubAt w ds x) (hm : Small x) (hc : cnt x ≤ 1000000) (hl : (heapsOf x).length ≤ 1000000) :
    Calls Tryz.prog 112 #[.agg cs.toArray, .agg ds.toArray] w fun e w' => e = .returned (.bool true) ∧ Below w.heap.size w w' := by
  obtain ⟨vs, vp, vr, vf, rfl, _, _, _, _⟩ := hs.ex
  obtain ⟨us, up, ur, uf, rfl, _, _, _, _⟩ := ht.ex
  refine (callsIn_wide (n := 6)).1 ?_
  refine callsIn_of_wp_marks Tryz.func112 rfl trivial ?_ rfl
  simp only [Tryz.ntmps112, List.size_toArray, List.length_cons, List.length_nil, Nat.reduceAdd, Nat.reduceSub, Array.replicate_succ, Array.replicate_zero, List.push_toArray, List.append_toArray, List.nil_append, List.cons_append]
  obtain ⟨W0, hW⟩ : ∃ W0, W0 = (((w.alloc (.cells #[.bool x.fin, vs, .int .i64 x.k, vp, vr, vf] 46)).alloc (.cells #[.bool x.fin, us, .int .i64 x.k, up, ur, uf] 46)).alloc (.cells #[.bool false] 4)) := ⟨_, rfl⟩
  have hb0 : Below w.heap.size w W0 := by rw [hW]; exact ((((Below.refl _ _).alloc (Nat.le_refl _) _).alloc (by simp) _).alloc (by simp; omega) _)
  have z0 : W0.heap[w.heap.size]? = some (.cells #[.bool x.fin, vs, .int .i64 x.k, vp, vr, vf] 46 (0, 0)) := by rw [hW]; exact heap_alloc_keep (heap_alloc_keep (heap_alloc_at _ _ rfl) _) _
  have z2 : W0.heap[w.heap.size + 1 + 1]? = some (.cells #[.bool false] 4 (0, 0)) := by rw [hW]; exact heap_alloc_at _ _ (by simp)
  have C1 := hid (heaps_any _ x W0 (ht.below hb0 (Nat.le_refl _)) hm hc)
  have HW := hid hW; have HB := hid hb0; have Z0 := hid z0; have Z2 := hid z2; have HS := hid hs; have HM := hid hm; have HCN := hid hc; have HL := hid hl
  clear hW hb0 z0 z2 hs ht hm hc hl
  gi_wp2
  rw [← HW.out]
  refine ⟨trivial, (callsIn_wide.2 C1.out).mono ?_⟩
  rintro e w1 ⟨p1, rfl, hp1, hb1, v1, hv1, ho1, _⟩
  obtain ⟨l, hl⟩ : ∃ l, heapsOf x = l := ⟨_, rfl⟩
  have hll := HL.out
  rw [hl] at ho1 hll
  have C2 := hid (collect_any p1 v1 l hll w1 (fun W hW => ⟨by rw [hW.block p1 (heap_lt hv1)]; exact hv1, (RowAt.of_own ho1).below hW (Nat.le_refl _)⟩))
  have HB1 := hid hb1; have HP1 := hid hp1; have HLL := hid hll; have HE := hid hl
  clear hv1 ho1 hb1 hp1 hll hl C1
  gi_wp2
  refine ⟨trivial, (callsIn_wide.2 C2.out).mono ?_⟩
  rintro e w2 ⟨u, rfl, ho2, hb2⟩
  obtain ⟨au, cu, rfl, _⟩ := ownsRow_form ho2
  have hbw2 : Below w.heap.size w w2 := (HB.out.trans (HB1.out.mono HB.out.size)).trans (hb2.mono (Nat.le_trans HB.out.size HB1.out.size))
  have y0 : w2.heap[w.heap.size]? = some (.cells #[.bool x.fin, vs, .int .i64 x.k, vp, vr, vf] 46 (0, 0)) := by
    have h := heap_lt Z0.out
    rw [hb2.block _ (by have := HB1.out.size; omega), HB1.out.block _ h]; exact Z0.out
  have y2 : w2.heap[w.heap.size + 1 + 1]? = some (.cells #[.bool false] 4 (0, 0)) := by
    have h := heap_lt Z2.out
    rw [hb2.block _ (by have := HB1.out.size; omega), HB1.out.block _ h]; exact Z2.out
  have HW2S := hid hbw2.size
  obtain ⟨q, hq⟩ : ∃ q, q = w2.heap.size := ⟨_, rfl⟩
  obtain ⟨W3, hW3⟩ : ∃ W3, W3 = w2.alloc (.cells #[.slice au l.length cu] 44) := ⟨_, rfl⟩
  have hb3 : Below w.heap.size w W3 := by rw [hW3]; exact hbw2.alloc hbw2.size _
  have x0 : W3.heap[w.heap.size]? = some (.cells #[.bool x.fin, vs, .int .i64 x.k, vp, vr, vf] 46 (0, 0)) := by rw [hW3]; exact heap_alloc_keep y0 _
  have x2 : W3.heap[w.heap.size + 1 + 1]? = some (.cells #[.bool false] 4 (0, 0)) := by rw [hW3]; exact heap_alloc_keep y2 _
  have xq : W3.heap[q]? = some (.cells #[.slice au l.length cu] 44 (0, 0)) := by rw [hW3, hq]; exact heap_alloc_at _ _ rfl
  have o3 : W3.ownsRow w1.heap.size 75 2 (.slice au l.length cu) l.length (flatH l) := by rw [hW3]; exact ho2.alloc _
  have C3 := hid (heaps_any _ x W3 (HS.out.below hb3 (Nat.le_refl _)) HM.out HCN.out)
  have c00 := heap_cell x0 0; have c01 := heap_cell x0 1; have c02 := heap_cell x0 2; have c03 := heap_cell x0 3; have c04 := heap_cell x0 4; have c05 := heap_cell x0 5
  simp at c00 c01 c02 c03 c04 c05
  have HB3 := hid hb3; have X2 := hid x2; have XQ := hid xq; have O3 := hid o3; have HW3 := hid hW3; have HQ := hid hq
  rw [hW3] at c00 c01 c02 c03 c04 c05
  clear hbw2 y0 y2 hb3 x0 x2 xq o3 hW3 hq ho2 hb2 C2 HB1 Z0 Z2
  gi_wp2
  rw [← HW3.out]
  refine ⟨trivial, (callsIn_wide.2 C3.out).mono ?_⟩
  rintro e w4 ⟨p2, rfl, hp2, hb4, v2, hv2, ho4, _⟩
  gi_wp2
  rw [HE.out] at ho4
  have hbe : Below w.heap.size w w4 := HB3.out.trans (hb4.mono HB3.out.size)
  have hq4 := HW2S.out
  have hI0 : AlI w w2.heap.size (w.heap.size + 1 + 1) p2 v2 (.slice au l.length cu) l [] w4 := by
    refine ⟨⟨au, cu, fun hz => ?_, by rw [← HQ.out, hb4.block _ (heap_lt XQ.out)]; simpa using XQ.out⟩, ownsRow_low (ownsRow_upd O3.out (Upd.of_below hb4 : Upd (fun _ => False) _ _) (fun _ _ h => h)) (Nat.zero_le _), by rw [hb4.block _ (heap_lt X2.out)]; exact X2.out, hv2, ownsRow_low ho4 (Nat.zero_le _), by have h := heap_lt XQ.out; have := HQ.out; omega, hq4, hbe⟩
    obtain ⟨g, cap, cur, e, _, hcap, _⟩ := ownsRow_some O3.out hz
    simp only [Value.slice.injEq, true_and] at e
    obtain ⟨rfl, rfl⟩ := e
    exact ⟨⟨g, _, rfl, by simp⟩, by simpa using hcap⟩
  have hle : w.heap.size ≤ w4.heap.size := hbe.size
  clear hbe hv2 ho4 hb4 c00 c01 c02 c03 c04 c05
  refine wpIn_range_box (F := Fence.wide) (n := 6) rfl (by omega) (gf := 128) (lb := #[.pointer (some ⟨p2, 0, none⟩)]) rfl trivial (enters_of Tryz.func128 (by kernel_rfl) rfl)
    (encs := fun x : Hp => #[.agg (cellsH x).toArray]) (fun _ => rfl) (fun _ _ => True) (AlI w w2.heap.size (w.heap.size + 1 + 1) p2 v2 (.slice au l.length cu) l) (fun _ _ _ => False)
    (fun _ _ => trivial) (fun _ _ _ _ _ _ _ => trivial)
    (fun pre W q o o' hl h ho hi => hi.putObj o' (by omega) h ho) (fun c pre W q o o' hl h ho hi => hi)
    (fun o o' => (hI0.alloc o).alloc o') (fun x => .cells (cellsH x).toArray 75) (fun pre W x hi => hi.alloc _) (fun _ _ => trivial)
    (fun y B => { tmps := #[.agg #[.bool x.fin, vs, .int .i64 x.k, vp, vr, vf], .agg #[.bool x.fin, us, .int .i64 x.k, up, ur, uf], .pointer (some ⟨w.heap.size, 0, none⟩), .pointer (some ⟨w.heap.size + 1, 0, none⟩), .pointer (some ⟨w.heap.size + 1 + 1, 0, none⟩), .pointer (some ⟨w2.heap.size, 0, none⟩), .pointer (some ⟨B, 0, none⟩), .agg #[.bool x.fin, us, .int .i64 x.k, up, ur, uf], .func (.func 128) #[] #[.pointer (some ⟨p1, 0, none⟩)], .slice au l.length cu, .agg #[.bool x.fin, vs, .int .i64 x.k, vp, vr, vf], .func (.func 128) #[] #[.pointer (some ⟨p2, 0, none⟩)], .agg (cellsH y).toArray, undef, undef, undef, undef, undef, undef, undef, undef, undef, undef, undef, undef, undef, undef, undef], defers := [] })
    (heaps_iter 5 p2 (by omega) v2 l HLL.out w4 _ _ _ (fun pre W hi => hi.g) (fun pre W x hi => hi.alloc _)) ?assign ?body ?done ?stop
  case assign =>
    clear hI0
    intro q x W K hK
    rw [show (cellsH x).toArray = #[.int .i64 x.k, .int .i64 x.n] from rfl] at hK ⊢
    gi_wp2
    exact hK
  case body =>
    rintro q pre y W B hi hlen hB hBl
    obtain ⟨ao, c, hlt, hbq⟩ := hi.left
    have hpl : pre.length + 1 ≤ l.length := by have := hlen.length_le; simpa using this
    obtain ⟨⟨b, cap, eu, rfl⟩, hc⟩ := hlt (by omega)
    simp only [Value.slice.injEq, true_and] at eu
    obtain ⟨rfl, rfl⟩ := eu
    have hy : l[pre.length]? = some y := by
      obtain ⟨r, hr⟩ := hlen
      rw [← hr]; simp
    obtain ⟨b', off', e1, _, r0, r1⟩ := hps_at (RowAt.of_own hi.own) hy
    simp only [Option.some.injEq, Addr.mk.injEq, and_true] at e1
    obtain ⟨rfl, rfl⟩ := e1
    simp only [Nat.zero_add] at r0 r1
    have cq := heap_cell hbq 0
    have fq := heap_frozen hbq 0
    have cb0 := heap_cell hB 0; have cb1 := heap_cell hB 1
    simp [cellsH] at cq cb0 cb1
    obtain ⟨m, hm⟩ : ∃ m, l.length - pre.length = m + 1 := ⟨l.length - pre.length - 1, by omega⟩
    rw [hm] at cq hc
    have h0 : ((m : Int) + 1 = 0) = False := by simp; omega
    have h1 : (((m : Int) + 1) == 0) = false := by simp; omega
    have h2 : (0 : Int) < (m : Int) + 1 := by omega
    have HI := hid hi; have HBQ := hid hbq; have HM1 := hid hm; have HPL := hid hpl; have HBL := hid hBl
    clear hI0 hi hbq hm hpl hlen hB hy hBl
    gi_wp2
    gi_region
    all_goals (clear cb0 cb1 r0 r1 h0 h1; gi_wp2)
    all_goals refine ⟨?_, trivial, HI.out.step HM1.out fun hm0 => ?_⟩
    all_goals first
      | exact (KeepsOthers.setCell _ _ _).trans (KeepsOthers.drew _)
      | exact ⟨⟨_, _, rfl, rfl⟩, by omega⟩
      | (exfalso; omega)
  case done =>
    clear hI0
    rintro D xs W hxs hi hK hle
    obtain rfl : xs = l := hxs
    obtain ⟨ao, c, _, hbq⟩ := hi.left
    have cq := heap_cell hbq 0
    have ct := heap_cell hi.told 0
    have ft := heap_frozen hi.told 0
    simp at cq ct
    have HI := hid hi; have HKD := hid hK
    clear hi hK hbq
    gi_wp2
    have hK2 := (KeepsOthers.setCell W ⟨w.heap.size + 1 + 1, 0, none⟩ (.bool true)).same D _ HKD.out rfl
    refine ⟨by simp, .inl ⟨_, _, rfl, run_takeDeferred hK2, ?_⟩⟩
    have z4 := heap_set_at HI.out.told 0 (.bool true)
    have z5 := heap_putObj (.deferred none) hK2 rfl z4
    have c5 := heap_cell z5 0
    simp at c5
    refine ⟨.bool true, by simp [results, Tryz.results112, go_sem, c5], rfl, ?_⟩
    have h1 := Below.setCell (p := ⟨w.heap.size + 1 + 1, 0, none⟩) HI.out.be (by simp; omega) (.bool true)
    exact h1.trans (putObj_below _ (by omega) h1.size)
  case stop => rintro D c pre W hpre h hK hle; exact h.elim
end
section
open Go.RowKit Go.Shelf
def GrpAt (w : World) (v : Value) (g : List Sb) : Prop := ∃ cs : List (List Value), cs.length = g.length ∧ (∀ c ∈ cs, c.length = 6) ∧ RowAt w 6 v g.length cs.flatten ∧ ∀ (i : Nat) c x, cs[i]? = some c → g[i]? = some x → SubAt w c x
theorem flatten_at {cs : List (List Value)} (h6 : ∀ c ∈ cs, c.length = 6) : ∀ (i : Nat) (c : List Value), cs[i]? = some c → ∀ j, j < 6 → cs.flatten[i * 6 + j]? = c[j]? := by
  induction cs with
  | nil => intro i c h; simp at h
  | cons d cs ih =>
    intro i c h j hj
    cases i with
    | zero =>
      simp at h; subst h
      rw [List.flatten_cons, List.getElem?_append_left (by rw [h6 _ (by simp)]; omega)]; simp
    | succ i =>
      have hd := h6 d (by simp)
      rw [List.flatten_cons, List.getElem?_append_right (by rw [hd, Nat.add_mul]; omega), hd, show (i + 1) * 6 + j - 6 = i * 6 + j by rw [Nat.add_mul]; omega]
      exact ih (fun c hc => h6 c (by simp [hc])) i c (by simpa using h) j hj
theorem GrpAt.form {w : World} {v : Value} {g : List Sb} (h : GrpAt w v g) : ∃ ao cap, v = .slice ao g.length cap := by
  obtain ⟨_, _, _, h, _⟩ := h; exact RowAt.form h
theorem GrpAt.keep {w w' : World} {v : Value} {g : List Sb} (h : GrpAt w v g) (hk : ∀ p u, w.cell? p = some u → w'.cell? p = some u) : GrpAt w' v g := by
  obtain ⟨cs, h1, h2, h3, h4⟩ := h
  exact ⟨cs, h1, h2, h3.keep hk, fun i c x hc hx => (h4 i c x hc hx).keep hk⟩
theorem GrpAt.below {w w' : World} {B : Nat} {v : Value} {g : List Sb} (h : GrpAt w v g) (hb : Below B w w') (hB : w.heap.size ≤ B) : GrpAt w' v g :=
  h.keep fun p u hp => by rw [hb.cell (Nat.lt_of_lt_of_le (World.block_lt_of_cell? _ _ hp) hB)]; exact hp
theorem GrpAt.at {w : World} {ao : Option Addr} {cap : Nat} {g : List Sb} (h : GrpAt w (.slice ao g.length cap) g) {i : Nat} {x : Sb} (hi : g[i]? = some x) : ∃ b off, ao = some ⟨b, off, none⟩ ∧ b < w.heap.size ∧ ∃ a1 c1 a2 c2 a3 c3 a4 c4, SubAt w [.bool x.fin, .slice a1 x.sups.length c1, .int .i64 x.k, .slice a2 x.ps.length c2, .slice a3 x.rs.length c3, .slice a4 x.fs.length c4] x ∧
    w.cell? ⟨b, off + i * 6, none⟩ = some (.bool x.fin) ∧ w.cell? ⟨b, off + i * 6 + 1, none⟩ = some (.slice a1 x.sups.length c1) ∧ w.cell? ⟨b, off + i * 6 + 2, none⟩ = some (.int .i64 x.k) ∧ w.cell? ⟨b, off + i * 6 + 3, none⟩ = some (.slice a2 x.ps.length c2) ∧ w.cell? ⟨b, off + i * 6 + 4, none⟩ = some (.slice a3 x.rs.length c3) ∧ w.cell? ⟨b, off + i * 6 + 5, none⟩ = some (.slice a4 x.fs.length c4) := by
  have hlt := (List.getElem?_eq_some_iff.1 hi).1
  obtain ⟨cs, h1, h2, h3, h4⟩ := h
  obtain ⟨b, off, rfl, hb, _, hc⟩ := RowAt.at h3 (by decide) (by omega)
  obtain ⟨c, hci⟩ : ∃ c, cs[i]? = some c := ⟨cs[i]'(by omega), by simp⟩
  have hs := h4 i c x hci hi
  obtain ⟨vs, vp, vr, vf, rfl, k1, k2, k3, k4⟩ := hs.ex
  obtain ⟨a1, c1, rfl⟩ := RowAt.form k1
  obtain ⟨a2, c2, rfl⟩ := RowAt.form k2
  obtain ⟨a3, c3, rfl⟩ := RowAt.form k3
  obtain ⟨a4, c4, rfl⟩ := RowAt.form k4
  have at' : ∀ j, j < 6 → w.cell? ⟨b, off + i * 6 + j, none⟩ = ([.bool x.fin, .slice a1 x.sups.length c1, .int .i64 x.k, .slice a2 x.ps.length c2, .slice a3 x.rs.length c3, .slice a4 x.fs.length c4] : List Value)[j]? := fun j hj => by
    rw [Nat.add_assoc, hc (i * 6 + j) (by omega)]; exact flatten_at h2 i _ hci j hj
  exact ⟨b, off, rfl, hb, a1, c1, a2, c2, a3, c3, a4, c4, hs, at' 0 (by omega), at' 1 (by omega), at' 2 (by omega), at' 3 (by omega), at' 4 (by omega), at' 5 (by omega)⟩
structure Sm (x : Sb) : Prop where
  small : Small x
  cnt : cnt x ≤ 1000000
  heaps : (heapsOf x).length ≤ 1000000
set_option maxRecDepth 100000 in
set_option maxHeartbeats 4000000 in
theorem equalFunc_any (a b : Value) (g : List Sb) (w : World) (ha : GrpAt w a g) (hb : GrpAt w b g) (hl : g.length ≤ 1000000) (hs : ∀ x ∈ g, Sm x) :
    Calls Tryz.prog 111 #[a, b, .func (.func 112) #[] #[]] w fun e w' => e = .returned (.bool true) ∧ Below w.heap.size w w' := by
  obtain ⟨ao, ca, rfl⟩ := ha.form
  obtain ⟨bo, cb, rfl⟩ := hb.form
  have HA := hid ha; have HB := hid hb; have HS := hid hs; have HL := hid hl
  clear ha hb hs hl
  go_enter Tryz.func111, Tryz.ntmps111
  go_wp2
  go_loopw [17] (fun t17 wr => ∃ i : Nat, t17 = .int .i64 i ∧ i ≤ g.length ∧ Below w.heap.size w wr) (fun t17 _ => g.length - (intOf t17).toNat)
  case atStart => exact ⟨0, rfl, Nat.zero_le _, Below.refl _ _⟩
  case round =>
    obtain ⟨i, rfl, hi, hbe⟩ := hrel
    by_cases hlt : i < g.length
    · obtain ⟨x, hx⟩ : ∃ x, g[i]? = some x := ⟨g[i], by simp [hlt]⟩
      obtain ⟨b1, o1, e1, _, a1, c1, a2, c2, a3, c3, a4, c4, sa, p0, p1, p2, p3, p4, p5⟩ := (HA.out.below hbe (Nat.le_refl _)).at hx
      obtain ⟨b2, o2, e2, _, d1, f1, d2, f2, d3, f3, d4, f4, sb, q0, q1, q2, q3, q4, q5⟩ := (HB.out.below hbe (Nat.le_refl _)).at hx
      subst e1 e2
      have hlt' : (i : Int) < g.length := by omega
      have hi6 : (i : Int) < 1000000 := by have := HL.out; omega
      have hm := HS.out x (List.mem_of_getElem? hx)
      have SA := hid sa; have SB := hid sb; have HM := hid hm; have HBE := hid hbe; have HLT := hid hlt
      clear sa sb hm hbe hlt hx hi
      go_wp2_with fail
      refine (alike1_any _ _ x _ (SA.out.below (((Below.refl _ _).alloc (Nat.le_refl _) _).alloc (by simp) _) (Nat.le_refl _)) (SB.out.below (((Below.refl _ _).alloc (Nat.le_refl _) _).alloc (by simp) _) (Nat.le_refl _)) HM.out.small HM.out.cnt HM.out.heaps).mono ?_
      rintro e w1 ⟨rfl, hb1⟩
      have hb2 : Below w.heap.size w w1 := by
        have h0 : Below w.heap.size w ((wr.alloc (.cells #[.bool x.fin, .slice a1 x.sups.length c1, .int .i64 x.k, .slice a2 x.ps.length c2, .slice a3 x.rs.length c3, .slice a4 x.fs.length c4] 46)).alloc (.cells #[.bool x.fin, .slice d1 x.sups.length f1, .int .i64 x.k, .slice d2 x.ps.length f2, .slice d3 x.rs.length f3, .slice d4 x.fs.length f4] 46)) := (HBE.out.alloc HBE.out.size _).alloc (by have := HBE.out.size; simp; omega) _
        exact h0.trans (hb1.mono h0.size)
      have HB2 := hid hb2
      clear hb1 hb2 p0 p1 p2 p3 p4 p5 q0 q1 q2 q3 q4 q5
      go_wp2
      go_roundw
      case rel => exact ⟨i + 1, by go_num, HLT.out, HB2.out⟩
      case measure => have := HLT.out; simp [intOf]; omega
    · obtain rfl : i = g.length := by omega
      have hlt' : ¬ (g.length : Int) < g.length := by omega
      go_wp2
      go_ret
      exact ⟨rfl, hbe⟩
set_option maxRecDepth 100000 in
theorem alike_any (a b : Value) (g : List Sb) (w : World) (ha : GrpAt w a g) (hb : GrpAt w b g) (hl : g.length ≤ 1000000) (hs : ∀ x ∈ g, Sm x) :
    Calls Tryz.prog 101 #[a, b] w fun e w' => e = .returned (.bool true) ∧ Below w.heap.size w w' := by
  have HC := hid (equalFunc_any a b g w ha hb hl hs)
  clear ha hb hl hs
  go_enter Tryz.func101, Tryz.ntmps101
  go_wp2_with fail
  refine HC.out.mono ?_
  rintro e w1 ⟨rfl, hb⟩
  have HB := hid hb
  clear hb
  go_wp2
  go_ret
  exact ⟨rfl, HB.out⟩
end
section
open Go.RowKit
def IntsAt (w : World) (v : Value) (l : List Int) : Prop := RowAt w 1 v l.length (l.map (Value.int .i64))
theorem IntsAt.at {w : World} {ao : Option Addr} {cap : Nat} {l : List Int} (h : IntsAt w (.slice ao l.length cap) l) {i : Nat} {x : Int} (hi : l[i]? = some x) : ∃ b off, ao = some ⟨b, off, none⟩ ∧ b < w.heap.size ∧ w.cell? ⟨b, off + i, none⟩ = some (.int .i64 x) := by
  have hlt := (List.getElem?_eq_some_iff.1 hi).1
  obtain ⟨b, off, rfl, hb, _, hc⟩ := RowAt.at h (by decide) (by omega)
  exact ⟨b, off, rfl, hb, by rw [hc i (by omega)]; simp [hi]⟩
def shut (ids : List Int) (gn : Nat) (ok : Bool) (h : Hp) : Hp × Bool :=
  if h.k ≠ 13 then (h, ok) else if h.n < ids.length then (⟨15, ids.getD h.n.toNat 0⟩, ok) else (⟨14, h.n - ids.length⟩, ok && decide (h.n - ids.length < gn))
def DIdx (h : Hp) : Prop := h.k = 13 → 0 ≤ h.n ∧ h.n < 4294967296
structure ShutJ (W0 : World) (B bo : Nat) (ok : Bool) (n : Nat) (T : Nat → Prop) (w : World) : Prop where
  be : Below B W0 w
  box : w.heap[bo]? = some (.cells #[.bool ok] 4 (0, 0))
  t : ∀ b, T b ↔ b = bo
  le : B ≤ w.heap.size
theorem upd_swap (W : World) (o o' : Obj) {S : Nat → Prop} (h : S W.heap.size) : Upd S (W.alloc o) (W.alloc o') :=
  ⟨rfl, rfl, rfl, by simp, fun k hk hs => by
    have h1 : k < W.heap.size := by
      have h2 : k ≠ W.heap.size := fun e => hs (by rw [e]; exact h)
      simp at hk; omega
    rw [Below.heap_alloc _ _ _ h1, Below.heap_alloc _ _ _ h1]⟩
set_option maxRecDepth 100000 in
set_option maxHeartbeats 8000000 in
theorem shut_ok (W0 : World) (B bi bo bg : Nat) (vi vg : Value) (ids : List Int) (gn : Nat) (_ : List Value) (_ : B ≤ W0.heap.size) (hbo : B ≤ bo) (hi : W0.heap[bi]? = some (.cells #[vi] 23 (0, 0))) (hg : W0.heap[bg]? = some (.cells #[vg] 97 (0, 0))) (hiB : bi < B) (hgB : bg < B)
    (hv : ∀ w, Below B W0 w → IntsAt w vi ids) (hgv : ∃ ao cap, vg = .slice ao gn cap) (hin : ids.length ≤ 1000000) (hgn : gn ≤ 1000000) :
    FnOk Tryz.prog cellsH DIdx 99 #[.pointer (some ⟨bi, 0, none⟩), .pointer (some ⟨bo, 0, none⟩), .pointer (some ⟨bg, 0, none⟩)] (shut ids gn) (ShutJ W0 B bo) B where
  enter := fun _ _ => rfl
  lt := fun h => ⟨fun b hb => by rw [(h.t b).1 hb]; exact heap_lt h.box, h.le⟩
  keep := fun h u => ⟨h.be.trans (u.below (fun k hk => hk.1) h.le), u.heap_some h.box (fun hk => hk.2 ((h.t _).2 rfl)), h.t, Nat.le_trans h.le u.size⟩
  less := fun h _ => ⟨h.be, h.box, h.t, h.le⟩
  call := by
    intro ok n T w x hd hj
    obtain ⟨ag, cg, rfl⟩ := hgv
    have hints := hv w hj.be
    obtain ⟨ai, ci, rfl⟩ := RowAt.form hints
    obtain ⟨k, m⟩ := x
    rw [show cellsH ⟨k, m⟩ = [.int .i64 k, .int .i64 m] from rfl]
    show Calls Tryz.prog 99 #[.agg #[.int .i64 k, .int .i64 m], .pointer (some ⟨bi, 0, none⟩), .pointer (some ⟨bo, 0, none⟩), .pointer (some ⟨bg, 0, none⟩)] w _
    have zi : w.heap[bi]? = some (.cells #[.slice ai ids.length ci] 23 (0, 0)) := by rw [hj.be.block bi hiB]; exact hi
    have zg : w.heap[bg]? = some (.cells #[.slice ag gn cg] 97 (0, 0)) := by rw [hj.be.block bg hgB]; exact hg
    have zo := hj.box
    obtain ⟨W1, hW⟩ : ∃ W1 : World, W1 = ((w.alloc (.cells #[.int .i64 k, .int .i64 m] 75)).alloc (.cells #[.int .i64 0, .int .i64 0] 75)) := ⟨_, rfl⟩
    have yi : W1.heap[bi]? = some (.cells #[.slice ai ids.length ci] 23 (0, 0)) := by rw [hW]; exact heap_alloc_keep (heap_alloc_keep zi _) _
    have yg : W1.heap[bg]? = some (.cells #[.slice ag gn cg] 97 (0, 0)) := by rw [hW]; exact heap_alloc_keep (heap_alloc_keep zg _) _
    have yo : W1.heap[bo]? = some (.cells #[.bool ok] 4 (0, 0)) := by rw [hW]; exact heap_alloc_keep (heap_alloc_keep zo _) _
    have y0 : W1.heap[w.heap.size]? = some (.cells #[.int .i64 k, .int .i64 m] 75 (0, 0)) := by rw [hW]; exact heap_alloc_keep (heap_alloc_at _ _ rfl) _
    have y1 : W1.heap[w.heap.size + 1]? = some (.cells #[.int .i64 0, .int .i64 0] 75 (0, 0)) := by rw [hW]; exact heap_alloc_at _ _ (by simp)
    have hin' : IntsAt W1 (.slice ai ids.length ci) ids := by rw [hW]; exact RowAt.keep hints fun _ _ h => cell_alloc (cell_alloc h _) _
    have u0 : Upd T w W1 := by rw [hW]; exact ((Upd.refl _ w).alloc _).alloc _
    have cI := heap_cell yi 0; have cG := heap_cell yg 0; have cO := heap_cell yo 0
    have c00 := heap_cell y0 0; have c01 := heap_cell y0 1; have c10 := heap_cell y1 0; have c11 := heap_cell y1 1
    have f1 := fun i => heap_frozen y1 i
    have fO := fun i => heap_frozen yo i
    have hbow := heap_lt zo
    have n0 : ¬ bo = w.heap.size := by omega
    have n0' : ¬ w.heap.size = bo := by omega
    have n1 : ¬ bo = w.heap.size + 1 := by omega
    have n1' : ¬ w.heap.size + 1 = bo := by omega
    have ngo : ¬ bg = bo := by omega
    have ngo' : ¬ bo = bg := by omega
    have nio : ¬ bi = bo := by omega
    have nio' : ¬ bo = bi := by omega
    simp at cI cG cO c00 c01 c10 c11
    -- the end: what was written are the box of what is told, and ok
    have fin : ∀ (ok' : Bool) (W' : World), Upd (fun b => b = bo ∨ b = w.heap.size + 1) W1 W' → W'.heap[bo]? = some (.cells #[.bool ok'] 4 (0, 0)) → ∃ T', ShutJ W0 B bo ok' n T' W' ∧ Upd T w W' ∧ Fresh T w T' := fun ok' W' u hb => by
      have uf : Upd T w W' := u0.trans (S1 := fun b => b = bo ∨ b = w.heap.size + 1) (fun b hb => by
        rcases hb with rfl | rfl
        · exact .inl ((hj.t _).2 rfl)
        · exact .inr (by omega)) u
      exact ⟨T, ⟨hj.be.trans (uf.below (fun b hb => by rw [(hj.t b).1 hb]; exact hbo) hj.le), hb, hj.t, Nat.le_trans hj.le uf.size⟩, uf, Fresh.refl _ _⟩
    have FIN := hid fin; have HBOW := hid hbow; have HW := hid hW; have YO := hid yo; have HZO := hid zo; have Y1 := hid y1; have HIN := hid hin'; have HD := hid hd
    clear fin hbow zi zg zo yi yg yo y0 y1 hin' u0 hd hints hi hg hiB hgB hv hj hbo
    rw [hW] at cI cG cO c00 c01 c10 c11
    rw [hW] at f1 fO
    by_cases hk : k = 13
    · subst hk
      obtain ⟨hm0, hm1⟩ := HD.out rfl
      dsimp only at hm0 hm1
      obtain ⟨mi, rfl⟩ : ∃ mi : Nat, m = mi := ⟨m.toNat, by omega⟩
      by_cases hlt : (mi : Int) < ids.length
      · obtain ⟨y, hy⟩ : ∃ y, ids[mi]? = some y := ⟨ids[mi]'(by omega), by simp⟩
        obtain ⟨b1, o1, e1, _, p0⟩ := IntsAt.at HIN.out hy
        subst e1
        rw [HW.out] at p0
        have HY := hid hy
        clear hy
        go_enter Tryz.func99, Tryz.ntmps99
        go_wp2
        refine bodyPost_ret (v := .agg #[.int .i64 15, .int .i64 y]) (by simp [results, Tryz.results99, go_sem]) rfl ?_
        have hs : shut ids gn ok ⟨13, mi⟩ = (⟨15, y⟩, ok) := by
          unfold shut; rw [if_neg (by simp), if_pos hlt]; simp [HY.out]
        rw [hs]
        have hf := FIN.out ok ((w.alloc (.cells #[.int .i64 13, .int .i64 mi] 75)).alloc (.cells #[.int .i64 15, .int .i64 y] 75)) (by rw [HW.out]; exact upd_swap _ _ _ (.inr (by simp))) (by exact heap_alloc_keep (heap_alloc_keep HZO.out _) _)
        obtain ⟨T', h1, h2, h3⟩ := hf
        exact ⟨T', rfl, h1, h2, h3⟩
      · have hge : ¬ (mi : Int) < ids.length := hlt
        cases ok
        · go_enter Tryz.func99, Tryz.ntmps99
          go_wp2
          refine bodyPost_ret (v := .agg #[.int .i64 14, .int .i64 ((mi : Int) - ids.length)]) (by simp [results, Tryz.results99, go_sem]) rfl ?_
          have hs : shut ids gn false ⟨13, mi⟩ = (⟨14, (mi : Int) - ids.length⟩, false) := by
            unfold shut; rw [if_neg (by simp), if_neg (show ¬ (mi : Int) < ids.length by omega)]; simp
          rw [hs]
          rw [← HW.out]
          have hf := FIN.out false (((W1.setCell ⟨bo, 0, none⟩ (.bool false)).setCell ⟨w.heap.size + 1, 0, none⟩ (.int .i64 14)).setCell ⟨w.heap.size + 1, 1, none⟩ (.int .i64 ((mi : Int) - ids.length))) ((((Upd.refl _ W1).setCell (.inl (.inl rfl)) _).setCell (.inl (.inr rfl)) _).setCell (.inl (.inr rfl)) _) (by have h := heap_set_off (heap_set_off (heap_set_at YO.out 0 (.bool false)) (a := ⟨w.heap.size + 1, 0, none⟩) n1 (.int .i64 14)) (a := ⟨w.heap.size + 1, 1, none⟩) n1 (.int .i64 ((mi : Int) - ids.length)); simpa using h)
          exact ⟨rfl, hf⟩
        · by_cases hgl : (mi : Int) - ids.length < gn
          · go_enter Tryz.func99, Tryz.ntmps99
            go_wp2
            refine bodyPost_ret (v := .agg #[.int .i64 14, .int .i64 ((mi : Int) - ids.length)]) (by simp [results, Tryz.results99, go_sem]) rfl ?_
            have hs : shut ids gn true ⟨13, mi⟩ = (⟨14, (mi : Int) - ids.length⟩, true) := by
              unfold shut; rw [if_neg (by simp), if_neg (show ¬ (mi : Int) < ids.length by omega)]; simp; omega
            rw [hs]
            rw [← HW.out]
            have hf := FIN.out true (((W1.setCell ⟨bo, 0, none⟩ (.bool true)).setCell ⟨w.heap.size + 1, 0, none⟩ (.int .i64 14)).setCell ⟨w.heap.size + 1, 1, none⟩ (.int .i64 ((mi : Int) - ids.length))) ((((Upd.refl _ W1).setCell (.inl (.inl rfl)) _).setCell (.inl (.inr rfl)) _).setCell (.inl (.inr rfl)) _) (by have h := heap_set_off (heap_set_off (heap_set_at YO.out 0 (.bool true)) (a := ⟨w.heap.size + 1, 0, none⟩) n1 (.int .i64 14)) (a := ⟨w.heap.size + 1, 1, none⟩) n1 (.int .i64 ((mi : Int) - ids.length)); simpa using h)
            exact ⟨rfl, hf⟩
          · go_enter Tryz.func99, Tryz.ntmps99
            go_wp2
            refine bodyPost_ret (v := .agg #[.int .i64 14, .int .i64 ((mi : Int) - ids.length)]) (by simp [results, Tryz.results99, go_sem]) rfl ?_
            have hs : shut ids gn true ⟨13, mi⟩ = (⟨14, (mi : Int) - ids.length⟩, false) := by
              unfold shut; rw [if_neg (by simp), if_neg (show ¬ (mi : Int) < ids.length by omega)]; simp; omega
            rw [hs]
            rw [← HW.out]
            have hf := FIN.out false (((W1.setCell ⟨bo, 0, none⟩ (.bool false)).setCell ⟨w.heap.size + 1, 0, none⟩ (.int .i64 14)).setCell ⟨w.heap.size + 1, 1, none⟩ (.int .i64 ((mi : Int) - ids.length))) ((((Upd.refl _ W1).setCell (.inl (.inl rfl)) _).setCell (.inl (.inr rfl)) _).setCell (.inl (.inr rfl)) _) (by have h := heap_set_off (heap_set_off (heap_set_at YO.out 0 (.bool false)) (a := ⟨w.heap.size + 1, 0, none⟩) n1 (.int .i64 14)) (a := ⟨w.heap.size + 1, 1, none⟩) n1 (.int .i64 ((mi : Int) - ids.length)); simpa using h)
            exact ⟨rfl, hf⟩
    · have hk' : (k == 13) = false := by simpa using hk
      have hk2 : (k != 13) = true := by simpa using hk
      go_enter Tryz.func99, Tryz.ntmps99
      go_wp2
      refine bodyPost_ret (v := .agg #[.int .i64 k, .int .i64 m]) (by simp [results, Tryz.results99, go_sem]) rfl ?_
      have hs : shut ids gn ok ⟨k, m⟩ = (⟨k, m⟩, ok) := by
        unfold shut; rw [if_pos hk]
      rw [hs]
      have hf := FIN.out ok ((w.alloc (.cells #[.int .i64 k, .int .i64 m] 75)).alloc (.cells #[.int .i64 k, .int .i64 m] 75)) (by rw [HW.out]; exact upd_swap _ _ _ (.inr (by simp))) (by exact heap_alloc_keep (heap_alloc_keep HZO.out _) _)
      obtain ⟨T', h1, h2, h3⟩ := hf
      exact ⟨T', rfl, h1, h2, h3⟩
end
end Go.Proofs.YtpddbaijnjbfdaaGreatDoor
