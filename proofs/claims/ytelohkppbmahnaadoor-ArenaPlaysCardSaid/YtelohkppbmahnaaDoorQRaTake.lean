/- geoderef20: Take. -/
import Derived.Test.YtelohkppbmahnaaDoorQInRoundBd
import Derived.Deep.Cut
import Derived.Deep.RegionHeldLaw
namespace Go.Proofs.YtelohkppbmahnaaDoor
open Go.RowKit

variable {S : Nat → Prop} {W W' : World} {p cap : Nat} {rs : List RBk}
/-- What Take leaves. -/
def RTakePost (S : Nat → Prop) (W : World) (p cap : Nat) (bs : List Blk) (n : Int) (e : Ending) (W' : World) : Prop :=
  e = .returned (.tuple #[.int .i64 ((takeF bs n).1 : Nat), .int .i64 (takeF bs n).2.1]) ∧ ∃ S', RaV S' W' p cap (takeF bs n).2.2 ∧ Upd S W W' ∧ Fresh S W S'
theorem RaAt.rowW (_ : RaAt S W p cap rs) {wr : World} (hb : Below W.heap.size W wr) {ao : Option Addr} {c : Nat} (R : RowC W p rs ao c) : RowC wr p rs ao c :=
  ⟨below_cell hb R.c1, fun i r hr => by
    obtain ⟨g, e, k0, k1, k2, k3⟩ := R.at' i r hr
    exact ⟨g, e, below_cell hb k0, below_cell hb k1, below_cell hb k2, below_cell hb k3⟩⟩
theorem RaAt.rowF (h : RaAt S W p cap rs) : ∃ ao c, RowC W p rs ao c ∧ W.heap[p]? = some (.cells #[.int .i64 (cap : Nat), .slice ao rs.length c] 57 (0, 0)) ∧ W.ownsRow 0 59 4 (.slice ao rs.length c) rs.length (rs.flatMap cellsR) ∧ ∀ g, (Value.slice ao rs.length c).ownBlock = some g → S g := by
  obtain ⟨ao, c, R⟩ := h.rowC
  obtain ⟨v, h1, h2, h3⟩ := h.hd
  have c1 := heap_cell h1 1
  rw [R.c1] at c1
  have : v = .slice ao rs.length c := by simpa using c1.symm
  subst this
  exact ⟨ao, c, R, h1, h2, h3⟩
theorem flat_take (l : List RBk) : ∀ j, (l.flatMap cellsR).take (j * 4) = (l.take j).flatMap cellsR := by
  induction l with
  | nil => intro j; simp
  | cons x l ih =>
    intro j
    cases j with
    | zero => simp
    | succ j =>
      rw [List.flatMap_cons, List.take_succ_cons, List.flatMap_cons, ← ih j, List.take_append]
      rw [show (j + 1) * 4 - (cellsR x).length = j * 4 by rw [cellsR_len]; omega, List.take_of_length_le (by rw [cellsR_len]; omega)]
theorem flat_drop (l : List RBk) : ∀ j, (l.flatMap cellsR).drop (j * 4) = (l.drop j).flatMap cellsR := by
  induction l with
  | nil => intro j; simp
  | cons x l ih =>
    intro j
    cases j with
    | zero => simp
    | succ j =>
      rw [List.flatMap_cons, List.drop_succ_cons, ← ih j, List.drop_append]
      rw [show (j + 1) * 4 - (cellsR x).length = j * 4 by rw [cellsR_len]; omega, List.drop_of_length_le (by rw [cellsR_len]; omega), List.nil_append]
theorem row_litG {w : World} {q c n : Nat} {T : TypeId} {xs : List Value} (h : w.heap[q]? = some (.cells xs.toArray T (0, 0))) (hl : xs.length = n * c) : RowG w c (.slice (some ⟨q, 0, none⟩) n n) n xs := by
  refine ⟨hl, .inr ⟨_, n, rfl, Nat.le_refl _, fun j u hj => ?_⟩⟩
  rw [Addr.add_lit, Nat.zero_add, heap_cell h]
  simpa using hj
theorem heap_drewR (w : World) : w.drew.heap = w.heap := rfl
theorem cellsR_one (l : List RBk) : ∀ u ∈ l.flatMap cellsR, u.oneCell' = true := fun u hu => by
  obtain ⟨r, _, hr⟩ := List.mem_flatMap.1 hu
  simp [cellsR] at hr
  rcases hr with rfl | rfl | rfl | rfl <;> rfl
theorem Tryd.infoBlk : (Tryd.prog.info? 59).map (fun i => (i.zero, i.size, i.bytes)) = some (some (.agg #[.int .i64 0, .slice none 0 0, .bool false, .bool false]), 4, 40) := by kernel_rfl
theorem RowC.rowW' {wr wr' : World} {ao : Option Addr} {c : Nat} (R : RowC wr p rs ao c) (hb : Below wr.heap.size wr wr') : RowC wr' p rs ao c :=
  ⟨below_cell hb R.c1, fun i r hr => by
    obtain ⟨g, e, k0, k1, k2, k3⟩ := R.at' i r hr
    exact ⟨g, e, below_cell hb k0, below_cell hb k1, below_cell hb k2, below_cell hb k3⟩⟩
/-- What stands behind the second append. -/
def MidP (W : World) (_ nb a nn : Nat) (_ : Option Addr) (_ _ : Nat) (pre : List RBk) (b : Blk) (s11 : Value) (wx : World) : Prop :=
  ∃ new ao3 c3, s11 = .slice ao3 (pre.length + new.length) c3 ∧ blks new = takeB nn b ∧ wx.ownsRow W.heap.size 59 4 s11 (pre.length + new.length) ((pre ++ new).flatMap cellsR) ∧ (∀ q ∈ new, wx.heap[q.g]? = some (.cells (u64s q.b.ws).toArray 28 (0, 0)) ∧ W.heap.size ≤ q.g) ∧ (new.map RBk.g).Nodup ∧ Below W.heap.size W wx ∧ wx.cell? ⟨nb, 0, none⟩ = some (.int .i64 (a : Nat)) ∧ new.length ≤ 2 ∧ s11.ownBlock ≠ some nb
theorem rem_row (W0 : World) (x y : Nat) {R : Obj} {wx : World} {own : Option Nat} (gr : (((W0.alloc (.cells (u64s (zeros x)).toArray 28)).alloc (.cells (u64s (zeros y)).toArray 28)).alloc R).drew.grownBy wx own) (ho : ∀ k, own = some k → k < W0.heap.size) :
    wx.heap[W0.heap.size]? = some (.cells (u64s (zeros x)).toArray 28 (0, 0)) ∧ wx.heap[W0.heap.size + 1]? = some (.cells (u64s (zeros y)).toArray 28 (0, 0)) := by
  have u := (Upd.refl (fun k => own = some k) ((((W0.alloc (.cells (u64s (zeros x)).toArray 28)).alloc (.cells (u64s (zeros y)).toArray 28)).alloc R).drew)).grown gr (fun k hk => .inl hk)
  refine ⟨u.heap_some (heap_alloc_keep (heap_alloc_keep (heap_alloc_at W0 _ rfl) _) _) (fun h => ?_), u.heap_some (heap_alloc_keep (heap_alloc_at (W0.alloc _) _ (by simp)) _) (fun h => ?_)⟩
  · have := ho _ h; omega
  · have := ho _ h; omega
theorem zeros_mem {n x : Nat} (h : x ∈ zeros n) : x = 0 := (List.mem_replicate.1 h).2
/-- The row's end is read. -/
theorem row_tail {wc : World} {g L c j1 : Nat} {rs : List RBk} (ho : wc.ownsRow 0 59 4 (.slice (some ⟨g, 0, none⟩) L c) L (rs.flatMap cellsR)) (hL : rs.length = L) (hj : j1 ≤ L) : RowG wc 4 (.slice (some ⟨g, j1 * 4, none⟩) (L - j1) (c - j1)) (L - j1) ((rs.drop j1).flatMap cellsR) := by
  obtain ⟨ao', c', e, h1, _⟩ := ownsRow_form ho
  simp only [Value.slice.injEq] at e
  refine ⟨by rw [flatG_len cellsR_len, List.length_drop, hL], .inr ⟨_, _, rfl, by omega, fun q u hq => ?_⟩⟩
  rw [← flat_drop, List.getElem?_drop] at hq
  have := RowG.of_own ho
  obtain ⟨_, ⟨h, _⟩ | ⟨ad, cap, h, _, hc⟩⟩ := this
  · cases h
  · simp only [Value.slice.injEq, Option.some.injEq] at h
    obtain ⟨rfl, _, _⟩ := h
    have := hc _ u hq
    rw [Addr.add_lit] at this ⊢
    rw [Nat.zero_add] at this
    exact this
theorem row_gone {wc : World} {c n : Nat} {ad : Addr} (hn : n = 0) : RowG wc 4 (.slice (some ad) n c) n [] := by
  subst hn
  exact ⟨rfl, .inr ⟨ad, c, rfl, Nat.zero_le _, fun j u h => by simp at h⟩⟩
/-- The document's arena behind Take. -/
theorem take_done (H : RaAt S W p cap rs) {j : Nat} {r : RBk} {nn : Nat} (hr : rs[j]? = some r) (hn : 1 ≤ nn) (hu : r.b.u = false) (hnb : nn ≤ r.b.n) {new : List RBk} (hnew : blks new = takeB nn r.b) {W5 : World} {v : Value}
    (hp : W5.heap[p]? = some (.cells #[.int .i64 (cap : Nat), v] 57 (0, 0))) (ho : W5.ownsRow W.heap.size 59 4 v (rs.take j ++ new ++ rs.drop (j + 1)).length ((rs.take j ++ new ++ rs.drop (j + 1)).flatMap cellsR))
    (hwd : ∀ q ∈ new, W5.heap[q.g]? = some (.cells (u64s q.b.ws).toArray 28 (0, 0)) ∧ W.heap.size ≤ q.g) (hnd : (new.map RBk.g).Nodup) (hold : ∀ b, b < W.heap.size → b ≠ p → W5.heap[b]? = W.heap[b]?) :
    RaV (fun b => S b ∨ W.heap.size ≤ b) W5 p cap ((blks rs).take j ++ takeB nn r.b ++ (blks rs).drop (j + 1)) := by
  have hlt : ∀ q ∈ rs, q.g < W.heap.size := fun q hq => heap_lt (H.wd q hq).1
  have hsplit : ∀ q, q ∈ rs.take j ++ new ++ rs.drop (j + 1) → q ∈ rs ∨ q ∈ new := fun q hq => by
    simp only [List.append_assoc, List.mem_append] at hq
    rcases hq with h | h | h
    · exact .inl (List.mem_of_mem_take h)
    · exact .inr h
    · exact .inl (List.mem_of_mem_drop h)
  refine ⟨rs.take j ++ new ++ rs.drop (j + 1), ⟨⟨v, hp, ownsRow_low ho (Nat.zero_le _), fun g hg => .inr (ho.lt g hg).1⟩, fun q hq => ?_, ?_, .inl H.sp, ?_, fun q hq x hx => ?_⟩, ?_⟩
  · rcases hsplit q hq with h | h
    · have h1 := H.wd q h
      exact ⟨by rw [hold q.g (hlt q h) (H.apart h).1]; exact h1.1, .inl h1.2⟩
    · exact ⟨(hwd q h).1, .inr (hwd q h).2⟩
  · have hs : (rs.take j ++ rs.drop (j + 1)).Sublist rs := by
      have e : rs = rs.take j ++ rs.drop j := (List.take_append_drop j rs).symm
      have h2 : (rs.drop (j + 1)).Sublist (rs.drop j) := by
        rw [show rs.drop (j + 1) = (rs.drop j).drop 1 by rw [List.drop_drop, Nat.add_comm]]
        exact List.drop_sublist _ _
      exact (List.append_sublist_append_left _ |>.2 h2).trans (by rw [← e]; exact List.Sublist.refl _)
    have h1 : ((rs.take j).map RBk.g ++ (rs.drop (j + 1)).map RBk.g).Nodup := by
      rw [← List.map_append]
      exact H.nd.sublist (hs.map _)
    rw [List.map_append, List.map_append]
    obtain ⟨a1, a2, a3⟩ := List.nodup_append.1 h1
    have ho2 : ∀ x ∈ (rs.take j).map RBk.g, x < W.heap.size := fun x hx => by
      obtain ⟨q, hq, rfl⟩ := List.mem_map.1 hx; exact hlt q (List.mem_of_mem_take hq)
    have ho3 : ∀ x ∈ (rs.drop (j + 1)).map RBk.g, x < W.heap.size := fun x hx => by
      obtain ⟨q, hq, rfl⟩ := List.mem_map.1 hx; exact hlt q (List.mem_of_mem_drop hq)
    have hn2 : ∀ x ∈ new.map RBk.g, W.heap.size ≤ x := fun x hx => by
      obtain ⟨q, hq, rfl⟩ := List.mem_map.1 hx; exact (hwd q hq).2
    refine List.nodup_append.2 ⟨List.nodup_append.2 ⟨a1, hnd, fun x hx y hy e => ?_⟩, a2, fun x hx y hy e => ?_⟩
    · have := ho2 x hx; have := hn2 y hy; omega
    · rcases List.mem_append.1 hx with hx | hx
      · exact a3 x hx y hy e
      · have := hn2 x hx; have := ho3 y hy; omega
  · have e : blks (rs.take j ++ new ++ rs.drop (j + 1)) = (blks rs).take j ++ takeB nn r.b ++ (blks rs).drop (j + 1) := by
      unfold blks at hnew ⊢
      rw [List.map_append, List.map_append, hnew, List.map_take, List.map_drop]
    rw [e]
    exact takeF_wf H.wf hn (by unfold blks; rw [List.getElem?_map, hr]; rfl) hu hnb
  · rcases hsplit q hq with h | h
    · exact H.u64 q h x hx
    · have hm : q.b ∈ takeB nn r.b := by rw [← hnew]; exact List.mem_map.2 ⟨q, h, rfl⟩
      have : x = 0 := by
        unfold takeB at hm
        split at hm
        · simp only [List.mem_cons, List.not_mem_nil, or_false] at hm
          rcases hm with h | h <;> (rw [h] at hx; exact zeros_mem hx)
        · simp only [List.mem_cons, List.not_mem_nil, or_false] at hm
          rw [hm] at hx; exact zeros_mem hx
      omega
  · unfold blks at hnew ⊢
    rw [List.map_append, List.map_append, hnew, List.map_take, List.map_drop]
theorem take_fin (H : RaAt S W p cap rs) {mm j j1 i ql c3 c4 a : Nat} {ao3 ao4 : Option Addr} {r : RBk} {nn : Nat} (hr : rs[j]? = some r) (hn : 1 ≤ nn) (hu : r.b.u = false) (hnb : nn ≤ r.b.n) (hL : rs.length = i) (hj1 : j + 1 = j1) (hmm : mm = i - j1) {new : List RBk} (hq : (rs.take j).length + new.length = ql) (hnew : blks new = takeB nn r.b) {wc w4 : World} {xs : List Value}
    (hon : wc.ownsRow W.heap.size 59 4 (.slice ao3 ql c3) ql ((rs.take j ++ new).flatMap cellsR)) (hwd : ∀ q ∈ new, wc.heap[q.g]? = some (.cells (u64s q.b.ws).toArray 28 (0, 0)) ∧ W.heap.size ≤ q.g) (hnd : (new.map RBk.g).Nodup) (hbe : Below W.heap.size W wc) {v0 : Value}
    (hp4 : w4.heap[p]? = some (.cells #[.int .i64 (cap : Nat), v0] 57 (0, 0))) (hxs : xs = (rs.drop j1).flatMap cellsR) (ho : w4.ownsRow W.heap.size 59 4 (.slice ao4 (ql + mm) c4) (ql + mm) ((rs.take j ++ new).flatMap cellsR ++ xs)) (gr : wc.grownBy w4 (Value.slice ao3 ql c3).ownBlock) (ha : r.b.a = a)
    (he : takeF (blks rs) nn = (r.b.a, 0, (blks rs).take j ++ takeB nn r.b ++ (blks rs).drop (j + 1))) :
    RTakePost S W p cap (blks rs) nn (.returned (.tuple #[.int .i64 (a : Nat), .int .i64 0])) (w4.setCell ⟨p, 1, none⟩ (.slice ao4 (ql + mm) c4)) := by
  subst hxs
  subst hj1
  have u4 : Upd (fun k => (Value.slice ao3 ql c3).ownBlock = some k) wc w4 := (Upd.refl (fun k => (Value.slice ao3 ql c3).ownBlock = some k) wc).grown gr (fun k hk => .inl hk)
  obtain ⟨W5, hW5⟩ : ∃ W5, W5 = w4.setCell ⟨p, 1, none⟩ (.slice ao4 (ql + mm) c4) := ⟨_, rfl⟩
  rw [← hW5]
  have u5 : Upd (fun b => b = p) w4 W5 := by rw [hW5]; exact (Upd.refl (fun b => b = p) w4).setCell (p := ⟨p, 1, none⟩) (.inl rfl) _
  have hpl := H.lt
  have hlen : (rs.take j ++ new ++ rs.drop (j + 1)).length = ql + mm := by
    rw [List.length_append, List.length_append, List.length_drop, hq, hL, hmm]
  have hb4 : Below W.heap.size W w4 := hbe.trans (u4.below (fun k hk => (hon.lt k hk).1) hbe.size)
  have hd := take_done H hr hn hu hnb hnew (W5 := W5) (v := .slice ao4 (ql + mm) c4) (by rw [hW5]; exact heap_set_at hp4 1 _) (by
      rw [hlen, List.flatMap_append]
      refine ownsRow_upd ho u5 (fun b hb e => ?_)
      have := (ho.lt b hb).1; omega) (fun q hq => ⟨u5.heap_some (u4.heap_some (hwd q hq).1 (fun h => ?_)) (fun e => by have := (hwd q hq).2; omega), (hwd q hq).2⟩) hnd (fun b hb hne => (u5.block b (by have := hb4.size; omega) hne).trans (hb4.block b hb))
  · unfold RTakePost
    rw [he]
    refine ⟨by rw [ha], _, hd, ?_, fun k hk => hk⟩
    refine ((Upd.of_below (S := S) hb4)).trans' ?_
    exact u5.mono (fun b _ hb => by rw [hb]; exact H.sp)
  · rcases hon.2 with ⟨h0, _⟩ | ⟨g2, c2, cur, h0, _, hg, _⟩
    · rw [h0] at h; simp [Value.ownBlock] at h
    · rw [h0] at h; simp [Value.ownBlock] at h; subst h
      rw [(hwd q hq).1] at hg; simp at hg
theorem mid_two {W wx : World} {nb a nn l1 y g1 g2 L c j : Nat} {ao : Option Addr} {pre : List RBk} {b : Blk} {s11 : Value} (hj : pre.length = j) (ho : wx.ownsRow W.heap.size 59 4 s11 (j + 2) (pre.flatMap cellsR ++ [.int .i64 (a : Nat), .slice (some ⟨g1, 0, none⟩) nn nn, .bool true, .bool false, .int .i64 (y : Nat), .slice (some ⟨g2, 0, none⟩) l1 l1, .bool false, .bool false]))
    (h1 : wx.heap[g1]? = some (.cells (u64s (zeros nn)).toArray 28 (0, 0))) (h2 : wx.heap[g2]? = some (.cells (u64s (zeros l1)).toArray 28 (0, 0))) (k1 : W.heap.size ≤ g1) (k2 : W.heap.size ≤ g2) (hne : g1 ≠ g2) (hb : Below W.heap.size W wx) (hc : wx.cell? ⟨nb, 0, none⟩ = some (.int .i64 (a : Nat)))
    (ha : b.a = a) (hy : a + nn + 1 = y) (hl : b.n - nn - 1 = l1) (hl2 : nn + 2 ≤ b.n) (hob : s11.ownBlock ≠ some nb) : MidP W p nb a nn ao L c pre b s11 wx := by
  obtain ⟨ao3, c3, rfl, _⟩ := ownsRow_form ho
  refine ⟨[⟨g1, ⟨a, zeros nn, true, false⟩⟩, ⟨g2, ⟨y, zeros l1, false, false⟩⟩], ao3, c3, by rw [hj]; rfl, ?_, ?_, fun q hq => ?_, by simpa using hne, hb, hc, by simp, hob⟩
  · unfold takeB blks
    rw [if_pos (by omega)]
    simp [ha, hy, hl]
  · rw [hj, List.flatMap_append]
    have e : ([⟨g1, ⟨a, zeros nn, true, false⟩⟩, ⟨g2, ⟨y, zeros l1, false, false⟩⟩] : List RBk).flatMap cellsR = [.int .i64 (a : Nat), .slice (some ⟨g1, 0, none⟩) nn nn, .bool true, .bool false, .int .i64 (y : Nat), .slice (some ⟨g2, 0, none⟩) l1 l1, .bool false, .bool false] := by
      simp [cellsR, Blk.n, zeros]
    rw [e]; exact ho
  · simp only [List.mem_cons, List.not_mem_nil, or_false] at hq
    rcases hq with rfl | rfl
    · exact ⟨h1, k1⟩
    · exact ⟨h2, k2⟩
theorem mid_one {W wx : World} {nb a nn g1 L c j sz : Nat} {ao : Option Addr} {pre : List RBk} {b : Blk} {s11 : Value} (hj : pre.length = j) (ho : wx.ownsRow W.heap.size 59 4 s11 (j + 1) (pre.flatMap cellsR ++ [.int .i64 (a : Nat), .slice (some ⟨g1, 0, none⟩) sz sz, .bool true, .bool false]))
    (h1 : wx.heap[g1]? = some (.cells (u64s (zeros sz)).toArray 28 (0, 0))) (k1 : W.heap.size ≤ g1) (hb : Below W.heap.size W wx) (hc : wx.cell? ⟨nb, 0, none⟩ = some (.int .i64 (a : Nat)))
    (ha : b.a = a) (hz : b.n = sz) (hl2 : ¬ nn + 2 ≤ b.n) (hob : s11.ownBlock ≠ some nb) : MidP W p nb a nn ao L c pre b s11 wx := by
  obtain ⟨ao3, c3, rfl, _⟩ := ownsRow_form ho
  refine ⟨[⟨g1, ⟨a, zeros sz, true, false⟩⟩], ao3, c3, by rw [hj]; rfl, ?_, ?_, fun q hq => ?_, by simp, hb, hc, by simp, hob⟩
  · unfold takeB blks
    rw [if_neg (by omega)]
    simp [ha, hz]
  · rw [hj, List.flatMap_append]
    have e : ([⟨g1, ⟨a, zeros sz, true, false⟩⟩] : List RBk).flatMap cellsR = [.int .i64 (a : Nat), .slice (some ⟨g1, 0, none⟩) sz sz, .bool true, .bool false] := by
      simp [cellsR, Blk.n, zeros]
    rw [e]; exact ho
  · simp only [List.mem_cons, List.not_mem_nil, or_false] at hq
    subst hq
    exact ⟨h1, k1⟩
set_option maxRecDepth 100000 in
set_option maxHeartbeats 4000000 in
theorem rTake_at (h : RaAt S W p cap rs) (n : Int) (hn1 : 1 ≤ n) (hn2 : n < 9223372036854775808) :
    Calls Tryd.prog 9 #[.pointer (some ⟨p, 0, none⟩), .int .i64 n] W (RTakePost S W p cap (blks rs) n) := by
  obtain ⟨ao, c, R, hpc, hown, howS⟩ := h.rowF
  have c1 := R.c1
  have hlen := h.len
  have HPC := Lib.hid hpc; have HOWN := Lib.hid hown; have HOWS := Lib.hid howS
  clear hpc hown howS
  obtain ⟨L, hL⟩ : ∃ L, rs.length = L := ⟨_, rfl⟩
  rw [hL] at c1 hlen
  have H := Lib.hid h; have HR := Lib.hid R; have HL := Lib.hid hL; have HLN := Lib.hid hlen; have HN1 := Lib.hid hn1; have HN2 := Lib.hid hn2; have HC1 := Lib.hid c1
  have hn0 : ¬ n < 1 := by omega
  clear h R hL hlen hn1 hn2 c1
  go_enter Tryd.func9, Tryd.ntmps9
  go_wp2
  go_loopw [6, 7, 8] (fun t6 t7 t8 wr => ∃ (i : Nat) (t : Int), t6 = .int .i64 t ∧ t7 = .int .i64 i ∧ i ≤ L ∧ BestP n ((blks rs).take i) t ∧ Below W.heap.size W wr) (fun _ t7 _ _ => L - (intOf t7).toNat)
  case atStart => exact ⟨0, -1, rfl, rfl, Nat.zero_le _, .nil n, Below.refl _ _⟩
  case round =>
    obtain ⟨i, t, rfl, rfl, hi, hbest, hbe⟩ := hrel
    have hR := H.out.rowW hbe HR.out
    have c1 := hR.c1
    rw [HL.out] at c1
    by_cases hlt : i < L
    · obtain ⟨r, hr⟩ : ∃ r, rs[i]? = some r := ⟨rs[i]'(by rw [HL.out]; exact hlt), by simp [HL.out, hlt]⟩
      obtain ⟨g, rfl, k0, k1, k2, k3⟩ := hR.at' i r hr
      have hb : (blks rs)[i]? = some r.b := by unfold blks; rw [List.getElem?_map, hr]; rfl
      have hstep : (blks rs).take (i + 1) = (blks rs).take i ++ [r.b] := by
        obtain ⟨hk, e⟩ := List.getElem?_eq_some_iff.1 hb
        rw [List.take_succ_eq_append_getElem hk, e]
      have hli : ((blks rs).take i).length = i := by unfold blks; rw [List.length_take, List.length_map, HL.out]; omega
      obtain ⟨u, hu⟩ : ∃ u, r.b.u = u := ⟨_, rfl⟩
      obtain ⟨sz, hsz⟩ : ∃ sz, r.b.n = sz := ⟨_, rfl⟩
      obtain ⟨a, ha⟩ : ∃ a, r.b.a = a := ⟨_, rfl⟩
      obtain ⟨rg, hrg⟩ : ∃ rg, r.g = rg := ⟨_, rfl⟩
      obtain ⟨mk, hmk⟩ : ∃ mk, r.b.m = mk := ⟨_, rfl⟩
      rw [hu] at k2
      rw [hsz, hrg] at k1
      rw [ha] at k0
      rw [hmk] at k3
      have hlt' : (i : Int) < L := by omega
      have hi0 : (0 : Int) ≤ i := by omega
      have HI6 := Lib.hid (show (i : Int) < 1048577 by have := HLN.out; omega)
      have HLT := Lib.hid hlt; have HS := Lib.hid hstep; have HLI := Lib.hid hli; have HU := Lib.hid hu; have HSZ := Lib.hid hsz; have HBE := Lib.hid hbe; have HBB := Lib.hid hbest; have HRR := Lib.hid hR
      clear hb hstep hli hu hsz ha hrg hmk hi hr hlt hbe hbest hR
      go_wp2_with fail
      obtain ⟨W1, hW1⟩ : ∃ W1, W1 = wr.alloc (.cells #[.int .i64 (a : Nat), .slice (some ⟨rg, 0, none⟩) sz sz, .bool u, .bool mk] 59) := ⟨_, rfl⟩
      have hb1 : Below wr.heap.size wr W1 := by rw [hW1]; exact (Below.refl _ _).alloc (Nat.le_refl _) _
      have q0 := heap_alloc_at wr (.cells #[.int .i64 (a : Nat), .slice (some ⟨rg, 0, none⟩) sz sz, .bool u, .bool mk] 59) rfl
      rw [← hW1] at q0 ⊢
      have y1 := heap_cell q0 1; have y2 := heap_cell q0 2
      simp at y1 y2
      have c1' := below_cell hb1 c1
      have HRW := Lib.hid (RowC.rowW' HRR.out hb1)
      have HB1 := Lib.hid (HBE.out.trans (hb1.mono HBE.out.size))
      have hnb : ∀ nq, Below W.heap.size W (W1.drewN nq) := fun nq => ((Upd.of_below (S := fun _ => False) HB1.out).drewN nq).toBelow (fun _ h => h)
      have HNB := Lib.hid hnb
      clear hW1 hb1 q0 c1 k0 k1 k2 k3 hnb HRR
      cases u
      · by_cases hf : n ≤ (sz : Int)
        · have hfit : fits n r.b = true := (fits_iff n r.b).2 ⟨HU.out, by rw [HSZ.out]; exact hf⟩
          have hf2 : decide (n ≤ (sz : Int)) = true := by simpa using hf
          have HF := Lib.hid hfit
          clear hfit
          rcases HBB.out with ⟨rfl, hno⟩ | ⟨j, b, hj, rfl, hfj, hmj⟩
          · have hm1 : (-1 : Int) < 0 := by omega
            have HNO := Lib.hid hno
            clear hno
            go_quiet (fail)
            have HI6' := HI6.out
            go_wp2
            go_roundw
            case rel => exact ⟨i + 1, i, rfl, by go_num, HLT.out, by rw [HS.out]; have := BestP.first HNO.out r.b HF.out; rw [HLI.out] at this; exact this, HNB.out _⟩
            case measure => have := HLT.out; simp [intOf]; omega
          · have hji : j < i := by have := (List.getElem?_eq_some_iff.1 hj).1; rw [HLI.out] at this; exact this
            have hj2 : (blks rs)[j]? = some b := by rw [List.getElem?_take] at hj; rw [if_pos hji] at hj; exact hj
            obtain ⟨r2, hr2, rfl⟩ := blks_at hj2
            obtain ⟨g2, e2, z0, z1, z2, z3⟩ := HRW.out.at' j r2 hr2
            simp only [Option.some.injEq, Addr.mk.injEq, and_true] at e2
            subst e2
            obtain ⟨sz2, hsz2⟩ : ∃ sz2, r2.b.n = sz2 := ⟨_, rfl⟩
            obtain ⟨rg2, hrg2⟩ : ∃ rg2, r2.g = rg2 := ⟨_, rfl⟩
            rw [hsz2, hrg2] at z1
            have hj0 : ¬ (j : Int) < 0 := by omega
            have hj00 : decide ((j : Int) < 0) = false := by simp
            have hj3 : (0 : Int) ≤ j := by omega
            have hj4 : (j : Int) < L := by have := HLT.out; omega
            have HJ := Lib.hid hj; have HFJ := Lib.hid hfj; have HMJ := Lib.hid hmj; have HZ2 := Lib.hid hsz2
            clear hj hfj hmj hsz2 hrg2 hj2 hr2 z0 z2 z3 hji
            by_cases hlt2 : sz < sz2
            · have hlt3 : (sz : Int) < sz2 := by omega
              have hlt4 : decide (sz < sz2) = true := by simpa using hlt2
              have HLT2 := Lib.hid hlt2
              go_quiet (fail)
              have HI6' := HI6.out
              go_wp2
              go_roundw
              case rel => exact ⟨i + 1, i, rfl, by go_num, HLT.out, by rw [HS.out]; have := BestP.better HJ.out HMJ.out r.b HF.out (by rw [HSZ.out, HZ2.out]; exact HLT2.out); rw [HLI.out] at this; exact this, HNB.out _⟩
              case measure => have := HLT.out; simp [intOf]; omega
            · have hlt3 : ¬ (sz : Int) < sz2 := by omega
              have hlt4 : decide (sz < sz2) = false := by simpa using hlt2
              have HLT2 := Lib.hid hlt2
              go_quiet (fail)
              have HI6' := HI6.out
              go_wp2
              go_roundw
              case rel => exact ⟨i + 1, j, rfl, by go_num, HLT.out, by rw [HS.out]; exact BestP.worse HJ.out HFJ.out HMJ.out r.b (by rw [HSZ.out, HZ2.out]; have := HLT2.out; omega), HNB.out _⟩
              case measure => have := HLT.out; simp [intOf]; omega
        · have hf2 : decide (n ≤ (sz : Int)) = false := by simpa using hf
          have hfit : fits n r.b = false := by
            cases hh : fits n r.b
            · rfl
            · have := (fits_iff n r.b).1 hh; rw [HSZ.out] at this; exact absurd this.2 hf
          have HF := Lib.hid hfit
          clear hfit
          go_quiet (fail)
          have HI6' := HI6.out
          go_wp2
          go_roundw
          case rel => exact ⟨i + 1, t, rfl, by go_num, HLT.out, by rw [HS.out]; exact HBB.out.unfit r.b HF.out, HNB.out _⟩
          case measure => have := HLT.out; simp [intOf]; omega
      · have hfit : fits n r.b = false := by unfold fits; rw [HU.out]; rfl
        have HF := Lib.hid hfit
        clear hfit
        go_quiet (fail)
        have HI6' := HI6.out
        go_wp2
        go_roundw
        case rel => exact ⟨i + 1, t, rfl, by go_num, HLT.out, by rw [HS.out]; exact HBB.out.unfit r.b HF.out, HNB.out _⟩
        case measure => have := HLT.out; simp [intOf]; omega
    · obtain rfl : i = L := by omega
      have hlt' : ¬ (i : Int) < i := by omega
      have hbl : BestP n (blks rs) t := by
        rw [List.take_of_length_le (by unfold blks; rw [List.length_map, HL.out]; exact Nat.le_refl _)] at hbest
        exact hbest
      have HBE := Lib.hid hbe; have HRR := Lib.hid hR
      rcases hbl.pick H.out.wf.span with ⟨rfl, hp⟩ | ⟨j, b, hj, rfl, hp, hbu, hbn⟩
      · have e0 : takeF (blks rs) n = (0, 5, blks rs) := by unfold takeF; rw [if_neg (by have := HN1.out; omega), hp]
        have E0 := Lib.hid e0
        have hm1 : (-1 : Int) < 0 := by omega
        clear hbest hbl hp e0 hi hbe hR
        go_wp2
        go_ret2
        unfold RTakePost
        rw [E0.out]
        exact ⟨rfl, S, ⟨rs, H.out.below HBE.out, rfl⟩, Upd.of_below HBE.out, Fresh.refl _ _⟩
      · have e0 := takeF_at HN1.out H.out.wf.span hj hp
        have E0 := Lib.hid e0
        obtain ⟨r, hr, rfl⟩ := blks_at hj
        obtain ⟨g, rfl, k0, k1, k2, k3⟩ := hR.at' j r hr
        have hjl := (List.getElem?_eq_some_iff.1 hr).1
        obtain ⟨sz, hsz⟩ : ∃ sz, r.b.n = sz := ⟨_, rfl⟩
        obtain ⟨a, ha⟩ : ∃ a, r.b.a = a := ⟨_, rfl⟩
        obtain ⟨rg, hrg⟩ : ∃ rg, r.g = rg := ⟨_, rfl⟩
        obtain ⟨u, hu⟩ : ∃ u, r.b.u = u := ⟨_, rfl⟩
        obtain ⟨mk, hmk⟩ : ∃ mk, r.b.m = mk := ⟨_, rfl⟩
        rw [hu] at k2
        rw [hsz, hrg] at k1
        rw [ha] at k0
        rw [hmk] at k3
        have HBU := Lib.hid hbu; have HBN := Lib.hid (show n ≤ r.b.n from hbn)
        rw [hsz] at hbn
        obtain ⟨nn, rfl⟩ : ∃ nn : Nat, n = nn := ⟨n.toNat, by have := HN1.out; omega⟩
        have hnn1 : nn ≤ sz := by omega
        have hnn0 : 1 ≤ nn := by have := HN1.out; omega
        obtain ⟨left, hleft⟩ : ∃ left, sz - nn = left := ⟨_, rfl⟩
        have hbd := H.out.bound (List.mem_of_getElem? hr)
        rw [hsz, ha] at hbd
        have e1 : IntKind.i64.wrap ((sz : Int) - nn) = (left : Int) := by rw [IntWalk.i64_in _ ⟨by omega, by omega⟩]; omega
        have hj0 : ¬ (j : Int) < 0 := by omega
        have hj1 : (0 : Int) ≤ j := by omega
        have hj2 : (j : Int) < i := by rw [← HL.out]; omega
        have hj3 : (j : Int) ≤ i := by omega
        have HJ := Lib.hid hj; have HR2 := Lib.hid hr; have HSZ := Lib.hid hsz; have HA := Lib.hid ha; have HBD := Lib.hid hbd; have HLF := Lib.hid hleft; have HNN1 := Lib.hid hnn1; have HNN0 := Lib.hid hnn0; have HJL := Lib.hid hjl
        clear hbest hbl hp e0 hi hbe hR hj hr hjl hsz ha hrg hu hmk hbu hbn hnn1 hnn0 hleft hbd
        go_upto_region 15 with fail
        obtain ⟨nb, hnb⟩ : ∃ nb, wr.heap.size = nb := ⟨_, rfl⟩
        obtain ⟨W1, hW1⟩ : ∃ W1, W1 = wr.alloc (.cells #[.int .i64 (a : Nat), .slice (some ⟨rg, 0, none⟩) sz sz, .bool u, .bool mk] 59) := ⟨_, rfl⟩
        have hb1 : Below wr.heap.size wr W1 := by rw [hW1]; exact (Below.refl _ _).alloc (Nat.le_refl _) _
        have q0 := heap_alloc_at wr (.cells #[.int .i64 (a : Nat), .slice (some ⟨rg, 0, none⟩) sz sz, .bool u, .bool mk] 59) hnb.symm
        rw [← hW1] at q0 ⊢
        rw [hnb]
        have c1' := below_cell hb1 c1
        have hBW := HBE.out.trans (hb1.mono HBE.out.size)
        have hrow1 : RowG W1 4 (.slice (some ⟨g, 0, none⟩) j c) j ((rs.take j).flatMap cellsR) := by
          have h1 := ownsRow_upd HOWN.out (Upd.of_below (S := fun _ => False) hBW) (fun _ _ h => h)
          have h2 := ownsRow_take h1 j (by have := HJL.out; omega)
          rw [flat_take] at h2
          exact RowG.of_own h2
        have hic : i ≤ c := by
          obtain ⟨ao', c', e, h1, _⟩ := ownsRow_form HOWN.out
          simp only [Value.slice.injEq] at e
          rw [HL.out] at h1
          omega
        have hjc : j ≤ c := by have := HJL.out; have := HL.out; omega
        have HIC := Lib.hid hic
        clear hic
        obtain ⟨i0, hi, hz0, hz1, hz2⟩ := info_parts Tryd.infoBlk
        have Hi := Lib.hid hi; have Hz0 := Lib.hid hz0; have Hz1 := Lib.hid hz1; have Hz2 := Lib.hid hz2
        have HROW1 := Lib.hid hrow1; have HBW := Lib.hid hBW; have HQ0 := Lib.hid q0; have HNB := Lib.hid hnb
        have hN : nb < W1.heap.size := heap_lt q0
        have HNBL := Lib.hid hN
        clear hW1 hb1 q0 hnb c1 k0 k1 k2 k3 hBW hrow1 hi hz0 hz1 hz2 hN
        go_upto_region 16 with (at_builtin; refine wpList_append_rowG _ rfl _ _ 55 rfl W.heap.size 59 i0 _ 4 40 Tryd.underlying55 Hi.out Hz0.out Hz1.out Hz2.out rfl (by decide) (.slice none 0 0) 0 [] rfl ⟨rfl, .inl ⟨rfl, rfl⟩⟩ (.slice (some ⟨g, 0, none⟩) j c) j ((rs.take j).flatMap cellsR) rfl HROW1.out (cellsR_one _) (by have := HJL.out; have := HLN.out; have := HL.out; unfold maxLen; omega) (by have := HJL.out; have := HLN.out; have := HL.out; omega) HBW.out.size ?_; intro v1 w1 o1 gr1 mv1; have HO1 := Lib.hid o1; have HGR1 := Lib.hid gr1; have HMV1 := Lib.hid mv1; clear o1 gr1 mv1)
        have u1 : Upd (fun _ => False) W1 w1 := (Upd.refl (fun _ => False) W1).grown HGR1.out (fun k hk => by simp [Value.ownBlock] at hk)
        have k0 := u1.cell_some (heap_cell HQ0.out 0) (fun h => h)
        have k1 := u1.cell_some (heap_cell HQ0.out 1) (fun h => h)
        have c1 := u1.cell_some c1' (fun h => h)
        simp at k0 k1
        have hbw1 : Below W.heap.size W w1 := HBW.out.trans ((u1.toBelow (fun _ h => h)).mono HBW.out.size)
        have ho1 := HO1.out
        rw [Nat.zero_add, List.nil_append] at ho1
        obtain ⟨ao1, cc1, rfl, _⟩ := ownsRow_form ho1
        have hnb1 : (Value.slice ao1 j cc1).ownBlock ≠ some nb := fun e => by
          have h1 := (ho1.lt nb e).1
          rcases HMV1.out with h | h
          · rw [h] at e; simp [Value.ownBlock] at e
          · rw [h] at e; injection e with e; have := HNBL.out; omega
        have HK0 := Lib.hid k0; have HK1 := Lib.hid k1; have HC1W := Lib.hid c1; have HBW1 := Lib.hid hbw1; have HO := Lib.hid ho1; have HNB1 := Lib.hid hnb1
        clear HO1 HGR1 HMV1 HROW1 HQ0 u1 k0 k1 c1 c1' hbw1 ho1 hnb1
        by_cases hl2 : 2 ≤ left
        · have hl2' : (2 : Int) ≤ left := by omega
          obtain ⟨l1, hl1⟩ : ∃ l1, left - 1 = l1 := ⟨_, rfl⟩
          obtain ⟨x, hx⟩ : ∃ x, a + nn = x := ⟨_, rfl⟩
          obtain ⟨y, hy⟩ : ∃ y, x + 1 = y := ⟨_, rfl⟩
          have hbd := HBD.out
          have e2 : IntKind.i64.wrap ((left : Int) - 1) = (l1 : Int) := by rw [IntWalk.i64_in _ ⟨by omega, by have := HLF.out; omega⟩]; omega
          have e3 : IntKind.i64.wrap ((a : Int) + nn) = (x : Int) := by have := HNN1.out; rw [IntWalk.i64_in _ ⟨by omega, by omega⟩]; omega
          have e4 : IntKind.i64.wrap ((x : Int) + 1) = (y : Int) := by have := HNN1.out; rw [IntWalk.i64_in _ ⟨by omega, by omega⟩]; omega
          have hm1 := fun W => run_make_row' (P := Tryd.prog) 47 28 (.int .u64 0) 8 Tryd.underlying47 Tryd.infoU64 rfl .i64 .i64 nn (by have := HNN1.out; omega) (by have := HNN1.out; omega) W
          have hm2 := fun W => run_make_row' (P := Tryd.prog) 47 28 (.int .u64 0) 8 Tryd.underlying47 Tryd.infoU64 rfl .i64 .i64 l1 (by have := HLF.out; omega) (by have := HLF.out; omega) W
          simp only [made_u64] at hm1 hm2
          have HX := Lib.hid hx; have HY := Lib.hid hy; have HL1 := Lib.hid hl1; have HL2 := Lib.hid hl2
          clear hx hy hl1 hl2 hbd
          go_upto_region 17 with fail
          go_cut [11] from 84 (fun s11 wx => MidP W p nb a nn (some ⟨g, 0, none⟩) i c (rs.take j) r.b s11 wx)
          case first =>
            have k0 : w1.cell? ⟨nb, 0, none⟩ = some (.int .i64 (a : Nat)) := HK0.out
            have KZ0 := Lib.hid k0
            go_region_held_law (fun w' => w'.cell? ⟨nb, 0, none⟩ = some (.int .i64 (a : Nat))) (first | exact KZ1.out | exact KZ0.out | exact cell_alloc KZ0.out _ | exact cell_alloc (cell_alloc KZ0.out _) _ | exact cell_alloc (cell_alloc (cell_alloc KZ0.out _) _) _)
              ((refine step_append_rowG rfl _ _ 55 rfl W.heap.size 59 i0 _ 4 40 Tryd.underlying55 Hi.out Hz0.out Hz1.out Hz2.out rfl (by decide) (.slice ao1 j cc1) j ((rs.take j).flatMap cellsR) rfl (((HO.out.alloc _).alloc _).alloc _) _ 2 _ rfl (row_litG (heap_alloc_at _ _ (by simp)) rfl) (by intro u hu; simp only [List.mem_cons, List.not_mem_nil, or_false] at hu; rcases hu with h | h | h | h | h | h | h | h <;> (subst h; rfl)) (by have := HJL.out; have := HLN.out; have := HL.out; unfold maxLen; omega) (by have := HJL.out; have := HLN.out; have := HL.out; omega) (by have := HBW1.out.size; simp [heap_drewR]; omega) ?_; intro v2 w2 o2 gr2 mv2; have KZ1 : Hid (w2.cell? ⟨nb, 0, none⟩ = some (.int .i64 (a : Nat))) := Lib.hid (((Upd.refl (fun k => (Value.slice ao1 j cc1).ownBlock = some k) _).grown gr2 (fun k hk => .inl hk)).cell_some (cell_alloc (cell_alloc (cell_alloc KZ0.out _) _) _) (fun h => HNB1.out h)); have HO2 := Lib.hid o2; have HGR2 := Lib.hid gr2; have HMV2 := Lib.hid mv2; clear o2 gr2 mv2))
            all_goals (go_wp2_with fail)
            all_goals go_meet
            all_goals
              have hjl : (rs.take j).length = j := by rw [List.length_take]; have := HJL.out; omega
              have hbl := HBW1.out.size
              have hlt : ∀ k, (Value.slice ao1 j cc1).ownBlock = some k → k < w1.heap.size := fun k hk => (HO.out.lt k hk).2
              have hge : ∀ k, (Value.slice ao1 j cc1).ownBlock = some k → W.heap.size ≤ k := fun k hk => (HO.out.lt k hk).1
              have hsz := HSZ.out; have hl1 := HL1.out; have hlf := HLF.out; have hx := HX.out; have hy := HY.out; have hl2 := HL2.out
              have hob : v2.ownBlock ≠ some nb := fun h => by
                rcases HMV2.out with e | e
                · rw [e] at h; exact HNB1.out h
                · rw [e] at h
                  have h : w1.heap.size + 1 + 1 + 1 = nb := by simpa [heap_drewR] using h
                  have h3 := World.block_lt_of_cell? _ _ HK0.out
                  dsimp only at h3
                  omega
            all_goals
              first
                | (obtain ⟨r1, r2⟩ := rem_row w1 nn l1 HGR2.out hlt
                   refine mid_two hjl HO2.out r1 r2 hbl (by omega) (by omega) (HBW1.out.trans ?_) KZ1.out HA.out (by omega) (by omega) (by omega) hob
                   exact (((((Below.refl _ _).alloc hbl _).alloc (by simp; omega) _).alloc (by simp; omega) _).drew).grown HGR2.out (by simp [heap_drewR]; omega) (fun k hk => hge k hk))
                | (obtain ⟨r1, r2⟩ := rem_row w1 l1 nn HGR2.out hlt
                   refine mid_two hjl HO2.out r2 r1 (by omega) hbl (by omega) (HBW1.out.trans ?_) KZ1.out HA.out (by omega) (by omega) (by omega) hob
                   exact (((((Below.refl _ _).alloc hbl _).alloc (by simp; omega) _).alloc (by simp; omega) _).drew).grown HGR2.out (by simp [heap_drewR]; omega) (fun k hk => hge k hk))
          case rest =>
            obtain ⟨new, ao3, c3, rfl, hnew, hon, hwd, hnd, hbe3, hk3, hln, hnb3p⟩ := hcut

            have c1 := below_cell hbe3 HC1.out
            obtain ⟨ql, hql⟩ : ∃ ql, (rs.take j).length + new.length = ql := ⟨_, rfl⟩
            rw [hql] at hon hnb3p ⊢
            have HNB3P := Lib.hid hnb3p
            clear hnb3p
            have HQL := Lib.hid hql
            clear hql
            obtain ⟨j1, hj1⟩ : ∃ j1, j + 1 = j1 := ⟨_, rfl⟩
            have e6 : IntKind.i64.wrap ((j : Int) + 1) = (j1 : Int) := by have := HJL.out; have := HLN.out; have := HL.out; rw [IntWalk.i64_in _ ⟨by omega, by omega⟩]; omega
            have hj1i : j1 ≤ i := by have := HJL.out; have := HL.out; omega
            have hic := HIC.out
            have HJ1 := Lib.hid hj1; have HNEW := Lib.hid hnew; have HON := Lib.hid hon; have HWD := Lib.hid hwd; have HND := Lib.hid hnd; have HBE3 := Lib.hid hbe3; have HLN2 := Lib.hid hln
            clear hj1 hnew hon hwd hnd hbe3 hln hm1 hm2 e2 e3 e4 hl2'
            have hqb : ql ≤ 1048576 + 2 := by have h1 := HQL.out; have h2 := HLN2.out; have h3 := HLN.out; have h4 := HL.out; rw [List.length_take] at h1; omega
            have HQLB := Lib.hid hqb
            have hown3 := ownsRow_upd HOWN.out (Upd.of_below (S := fun _ => False) HBE3.out) (fun _ _ h => h)
            rw [HL.out] at hown3
            have HTAIL := Lib.hid (row_tail hown3 HL.out hj1i)
            have HP3 := Lib.hid ((Upd.of_below (S := fun _ => False) HBE3.out).heap_some HPC.out (fun h => h))
            have hpn : (Value.slice ao3 ql c3).ownBlock ≠ some p := fun h => by
              have h1 := (HON.out.lt p h).1; have h2 := heap_lt HPC.out; omega
            have HPN := Lib.hid hpn
            have hnb3 : (Value.slice ao3 ql c3).ownBlock ≠ some nb := HNB3P.out
            have HNB3 := Lib.hid hnb3
            clear hpn hnb3
            clear hqb hown3
            have hij : rs.length = i := HL.out
            have HJI := Lib.hid hj1i
            rcases Nat.lt_or_ge j1 c with hcj | hcj
            · have hne : ¬ c = j1 := by omega
              clear hij
              go_wp2_with (at_builtin; refine wpList_append_rowG _ rfl _ _ 55 rfl W.heap.size 59 i0 _ 4 40 Tryd.underlying55 Hi.out Hz0.out Hz1.out Hz2.out rfl (by decide) _ _ _ rfl HON.out _ _ _ rfl HTAIL.out (cellsR_one _) (by have h1 := HJ1.out; have h2 := HQLB.out; have h3 := HLN.out; unfold maxLen; omega) (by have h1 := HJ1.out; have h2 := HQLB.out; have h3 := HLN.out; omega) HBE3.out.size ?_; intro v4 w4 o4 gr4 mv4; obtain ⟨ao4, c4, rfl, _⟩ := ownsRow_form o4; have hp4 := ((Upd.refl (fun k => (Value.slice ao3 ql c3).ownBlock = some k) wc).grown gr4 (fun k hk => .inl hk)).heap_some HP3.out (fun h => HPN.out h); have y1 := heap_cell hp4 1; have z1 := heap_frozen hp4 1; have n0 := ((Upd.refl (fun k => (Value.slice ao3 ql c3).ownBlock = some k) wc).grown gr4 (fun k hk => .inl hk)).cell_some hk3 (fun h => HNB3.out h); simp at y1; have HP4 := Lib.hid hp4; have HO4 := Lib.hid o4; have HGR4 := Lib.hid gr4; clear o4 gr4 mv4 hp4)
              go_ret2
              exact take_fin H.out HR2.out HNN0.out HBU.out (by have := HBN.out; omega) HL.out HJ1.out rfl HQL.out HNEW.out HON.out HWD.out HND.out HBE3.out HP4.out rfl HO4.out HGR4.out HA.out E0.out
            · obtain rfl : j1 = c := by omega
              have HNIL := Lib.hid (show (rs.drop j1).flatMap cellsR = [] by rw [List.drop_of_length_le (by omega)]; rfl)
              clear hij hcj
              go_wp2_with (at_builtin; refine wpList_append_rowG _ rfl _ _ 55 rfl W.heap.size 59 i0 _ 4 40 Tryd.underlying55 Hi.out Hz0.out Hz1.out Hz2.out rfl (by decide) _ _ _ rfl HON.out (.slice (some ⟨g, 0, none⟩) 0 0) 0 [] rfl (row_gone rfl) (fun u hu => by simp at hu) (by have h1 := HJ1.out; have h2 := HQLB.out; have h3 := HLN.out; unfold maxLen; omega) (by have h1 := HJ1.out; have h2 := HQLB.out; have h3 := HLN.out; omega) HBE3.out.size ?_; intro v4 w4 o4 gr4 mv4; obtain ⟨ao4, c4, rfl, _⟩ := ownsRow_form o4; have hp4 := ((Upd.refl (fun k => (Value.slice ao3 ql c3).ownBlock = some k) wc).grown gr4 (fun k hk => .inl hk)).heap_some HP3.out (fun h => HPN.out h); have y1 := heap_cell hp4 1; have z1 := heap_frozen hp4 1; have n0 := ((Upd.refl (fun k => (Value.slice ao3 ql c3).ownBlock = some k) wc).grown gr4 (fun k hk => .inl hk)).cell_some hk3 (fun h => HNB3.out h); simp at y1; have HP4 := Lib.hid hp4; have HO4 := Lib.hid o4; have HGR4 := Lib.hid gr4; clear o4 gr4 mv4 hp4)
              go_ret2
              exact take_fin H.out HR2.out HNN0.out HBU.out (by have := HBN.out; omega) HL.out HJ1.out (by have h1 := HJI.out; have h2 := HIC.out; omega) HQL.out HNEW.out HON.out HWD.out HND.out HBE3.out HP4.out HNIL.out.symm HO4.out HGR4.out HA.out E0.out
        · have hl2' : ¬ (2 : Int) ≤ left := by omega
          have hbd := HBD.out
          have e2 : IntKind.i64.wrap ((nn : Int) + left) = (sz : Int) := by have := HNN1.out; have := HLF.out; rw [IntWalk.i64_in _ ⟨by omega, by omega⟩]; omega
          have hm1 := fun W => run_make_row' (P := Tryd.prog) 47 28 (.int .u64 0) 8 Tryd.underlying47 Tryd.infoU64 rfl .i64 .i64 sz (by omega) (by omega) W
          simp only [made_u64] at hm1
          have HL2 := Lib.hid hl2
          clear hl2 hbd
          go_upto_region 18 with fail
          go_cut [11] from 101 (fun s11 wx => MidP W p nb a nn (some ⟨g, 0, none⟩) i c (rs.take j) r.b s11 wx)
          case first =>
            have k0 : w1.cell? ⟨nb, 0, none⟩ = some (.int .i64 (a : Nat)) := HK0.out
            have KZ0 := Lib.hid k0
            go_region_held_law (fun w' => w'.cell? ⟨nb, 0, none⟩ = some (.int .i64 (a : Nat))) (first | exact KZ1.out | exact KZ0.out | exact cell_alloc KZ0.out _ | exact cell_alloc (cell_alloc KZ0.out _) _)
              ((refine step_append_rowG rfl _ _ 55 rfl W.heap.size 59 i0 _ 4 40 Tryd.underlying55 Hi.out Hz0.out Hz1.out Hz2.out rfl (by decide) (.slice ao1 j cc1) j ((rs.take j).flatMap cellsR) rfl ((HO.out.alloc _).alloc _) _ 1 _ rfl (row_litG (heap_alloc_at _ _ (by simp)) rfl) (by intro u hu; simp only [List.mem_cons, List.not_mem_nil, or_false] at hu; rcases hu with h | h | h | h <;> (subst h; rfl)) (by have := HJL.out; have := HLN.out; have := HL.out; unfold maxLen; omega) (by have := HJL.out; have := HLN.out; have := HL.out; omega) (by have := HBW1.out.size; simp [heap_drewR]; omega) ?_; intro v2 w2 o2 gr2 mv2; have KZ1 : Hid (w2.cell? ⟨nb, 0, none⟩ = some (.int .i64 (a : Nat))) := Lib.hid (((Upd.refl (fun k => (Value.slice ao1 j cc1).ownBlock = some k) _).grown gr2 (fun k hk => .inl hk)).cell_some (cell_alloc (cell_alloc KZ0.out _) _) (fun h => HNB1.out h)); have HO2 := Lib.hid o2; have HGR2 := Lib.hid gr2; have HMV2 := Lib.hid mv2; clear o2 gr2 mv2))
            all_goals (go_wp2_with fail)
            all_goals go_meet
            all_goals
              have hjl : (rs.take j).length = j := by rw [List.length_take]; have := HJL.out; omega
              have hbl := HBW1.out.size
              have hlt : ∀ k, (Value.slice ao1 j cc1).ownBlock = some k → k < w1.heap.size := fun k hk => (HO.out.lt k hk).2
              have hge : ∀ k, (Value.slice ao1 j cc1).ownBlock = some k → W.heap.size ≤ k := fun k hk => (HO.out.lt k hk).1
              have hsz := HSZ.out; have hlf := HLF.out; have hl2 := HL2.out; have hn1 := HNN1.out
              have hob : v2.ownBlock ≠ some nb := fun h => by
                rcases HMV2.out with e | e
                · rw [e] at h; exact HNB1.out h
                · rw [e] at h
                  have h : w1.heap.size + 1 + 1 = nb := by simpa [heap_drewR] using h
                  have h3 := World.block_lt_of_cell? _ _ HK0.out
                  dsimp only at h3
                  omega
              have r1 := ((Upd.refl (fun k => (Value.slice ao1 j cc1).ownBlock = some k) _).grown HGR2.out (fun k hk => .inl hk)).heap_some (heap_alloc_keep (heap_alloc_at w1 (.cells (u64s (zeros sz)).toArray 28) rfl) _) (fun h => by have := hlt _ h; omega)
              refine mid_one hjl HO2.out r1 hbl (HBW1.out.trans ?_) KZ1.out HA.out hsz (by omega) hob
              exact ((((Below.refl _ _).alloc hbl _).alloc (by simp; omega) _).drew).grown HGR2.out (by simp [heap_drewR]; omega) (fun k hk => hge k hk)
          case rest =>
            obtain ⟨new, ao3, c3, rfl, hnew, hon, hwd, hnd, hbe3, hk3, hln, hnb3p⟩ := hcut

            have c1 := below_cell hbe3 HC1.out
            obtain ⟨ql, hql⟩ : ∃ ql, (rs.take j).length + new.length = ql := ⟨_, rfl⟩
            rw [hql] at hon hnb3p ⊢
            have HNB3P := Lib.hid hnb3p
            clear hnb3p
            have HQL := Lib.hid hql
            clear hql
            obtain ⟨j1, hj1⟩ : ∃ j1, j + 1 = j1 := ⟨_, rfl⟩
            have e6 : IntKind.i64.wrap ((j : Int) + 1) = (j1 : Int) := by have := HJL.out; have := HLN.out; have := HL.out; rw [IntWalk.i64_in _ ⟨by omega, by omega⟩]; omega
            have hj1i : j1 ≤ i := by have := HJL.out; have := HL.out; omega
            have hic := HIC.out
            have HJ1 := Lib.hid hj1; have HNEW := Lib.hid hnew; have HON := Lib.hid hon; have HWD := Lib.hid hwd; have HND := Lib.hid hnd; have HBE3 := Lib.hid hbe3; have HLN2 := Lib.hid hln
            clear hj1 hnew hon hwd hnd hbe3 hln hm1 e2 hl2'
            have hqb : ql ≤ 1048576 + 2 := by have h1 := HQL.out; have h2 := HLN2.out; have h3 := HLN.out; have h4 := HL.out; rw [List.length_take] at h1; omega
            have HQLB := Lib.hid hqb
            have hown3 := ownsRow_upd HOWN.out (Upd.of_below (S := fun _ => False) HBE3.out) (fun _ _ h => h)
            rw [HL.out] at hown3
            have HTAIL := Lib.hid (row_tail hown3 HL.out hj1i)
            have HP3 := Lib.hid ((Upd.of_below (S := fun _ => False) HBE3.out).heap_some HPC.out (fun h => h))
            have hpn : (Value.slice ao3 ql c3).ownBlock ≠ some p := fun h => by
              have h1 := (HON.out.lt p h).1; have h2 := heap_lt HPC.out; omega
            have HPN := Lib.hid hpn
            have hnb3 : (Value.slice ao3 ql c3).ownBlock ≠ some nb := HNB3P.out
            have HNB3 := Lib.hid hnb3
            clear hpn hnb3
            clear hqb hown3
            have hij : rs.length = i := HL.out
            have HJI := Lib.hid hj1i
            rcases Nat.lt_or_ge j1 c with hcj | hcj
            · have hne : ¬ c = j1 := by omega
              clear hij
              go_wp2_with (at_builtin; refine wpList_append_rowG _ rfl _ _ 55 rfl W.heap.size 59 i0 _ 4 40 Tryd.underlying55 Hi.out Hz0.out Hz1.out Hz2.out rfl (by decide) _ _ _ rfl HON.out _ _ _ rfl HTAIL.out (cellsR_one _) (by have h1 := HJ1.out; have h2 := HQLB.out; have h3 := HLN.out; unfold maxLen; omega) (by have h1 := HJ1.out; have h2 := HQLB.out; have h3 := HLN.out; omega) HBE3.out.size ?_; intro v4 w4 o4 gr4 mv4; obtain ⟨ao4, c4, rfl, _⟩ := ownsRow_form o4; have hp4 := ((Upd.refl (fun k => (Value.slice ao3 ql c3).ownBlock = some k) wc).grown gr4 (fun k hk => .inl hk)).heap_some HP3.out (fun h => HPN.out h); have y1 := heap_cell hp4 1; have z1 := heap_frozen hp4 1; have n0 := ((Upd.refl (fun k => (Value.slice ao3 ql c3).ownBlock = some k) wc).grown gr4 (fun k hk => .inl hk)).cell_some hk3 (fun h => HNB3.out h); simp at y1; have HP4 := Lib.hid hp4; have HO4 := Lib.hid o4; have HGR4 := Lib.hid gr4; clear o4 gr4 mv4 hp4)
              go_ret2
              exact take_fin H.out HR2.out HNN0.out HBU.out (by have := HBN.out; omega) HL.out HJ1.out rfl HQL.out HNEW.out HON.out HWD.out HND.out HBE3.out HP4.out rfl HO4.out HGR4.out HA.out E0.out
            · obtain rfl : j1 = c := by omega
              have HNIL := Lib.hid (show (rs.drop j1).flatMap cellsR = [] by rw [List.drop_of_length_le (by omega)]; rfl)
              clear hij hcj
              go_wp2_with (at_builtin; refine wpList_append_rowG _ rfl _ _ 55 rfl W.heap.size 59 i0 _ 4 40 Tryd.underlying55 Hi.out Hz0.out Hz1.out Hz2.out rfl (by decide) _ _ _ rfl HON.out (.slice (some ⟨g, 0, none⟩) 0 0) 0 [] rfl (row_gone rfl) (fun u hu => by simp at hu) (by have h1 := HJ1.out; have h2 := HQLB.out; have h3 := HLN.out; unfold maxLen; omega) (by have h1 := HJ1.out; have h2 := HQLB.out; have h3 := HLN.out; omega) HBE3.out.size ?_; intro v4 w4 o4 gr4 mv4; obtain ⟨ao4, c4, rfl, _⟩ := ownsRow_form o4; have hp4 := ((Upd.refl (fun k => (Value.slice ao3 ql c3).ownBlock = some k) wc).grown gr4 (fun k hk => .inl hk)).heap_some HP3.out (fun h => HPN.out h); have y1 := heap_cell hp4 1; have z1 := heap_frozen hp4 1; have n0 := ((Upd.refl (fun k => (Value.slice ao3 ql c3).ownBlock = some k) wc).grown gr4 (fun k hk => .inl hk)).cell_some hk3 (fun h => HNB3.out h); simp at y1; have HP4 := Lib.hid hp4; have HO4 := Lib.hid o4; have HGR4 := Lib.hid gr4; clear o4 gr4 mv4 hp4)
              go_ret2
              exact take_fin H.out HR2.out HNN0.out HBU.out (by have := HBN.out; omega) HL.out HJ1.out (by have h1 := HJI.out; have h2 := HIC.out; omega) HQL.out HNEW.out HON.out HWD.out HND.out HBE3.out HP4.out HNIL.out.symm HO4.out HGR4.out HA.out E0.out
end Go.Proofs.YtelohkppbmahnaaDoor
