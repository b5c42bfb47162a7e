/- slices.Insert of one element, slices.Delete of one, at rows of members. -/
import Derived.Test.YtelohkppbmahnaaDoorQArCopyBd
import Derived.Test.YtelohkppbmahnaaDoorQCalmBd
import Derived.Lib.Overlaps
namespace Go.Proofs.YtelohkppbmahnaaDoor
open Go.RowKit

theorem Tryd.infoMem : (Tryd.prog.info? 69).map (fun i => (i.zero, i.size, i.bytes)) = some (some (.agg #[.int .i64 0, .slice none 0 0]), 2, 32) := by kernel_rfl
def MPost (w : World) (v : Value) (n : Nat) (xs : List Value) (e : Ending) (w' : World) : Prop := ∃ v', e = .returned v' ∧ w'.ownsRow 0 69 2 v' n xs ∧ Upd (fun k => v.ownBlock = some k) w w' ∧ MovedUp w v v'
theorem insert_end (w : World) (v : Value) (n : Nat) (xs : List Value) (nb : Nat) (a b : Value) (hown : w.ownsRow 0 69 2 v n xs) (hnb : w.heap[nb]? = some (.cells #[a, b] 69 (0, 0))) (ha : a.oneCell' = true) (hb : b.oneCell' = true) (hn : n ≤ 1048576) :
    Calls Tryd.prog 63 #[v, .int .i64 n, .slice (some ⟨nb, 0, none⟩) 1 1] w (MPost w v (n + 1) (xs ++ [a, b])) := by
  obtain ⟨ao, cap, rfl, hc1, hc2, hc3⟩ := ownsRow_form hown
  unfold maxLen at hc2
  obtain ⟨i0, hi, hz0, hz1, hz2⟩ := info_parts Tryd.infoMem
  have Hi := Lib.hid hi; have Hz0 := Lib.hid hz0; have Hz1 := Lib.hid hz1; have Hz2 := Lib.hid hz2
  have HO := Lib.hid hown; have HN := Lib.hid hnb
  clear hi hz0 hz1 hz2 hown hnb
  by_cases hcn : cap = n
  · subst hcn
    go_enter Tryd.func63, Tryd.ntmps63
    go_wp2_with (at_builtin; refine wpList_append_own2 _ rfl _ _ 67 rfl 0 69 i0 _ 2 32 Tryd.underlying67 Hi.out Hz0.out Hz1.out Hz2.out rfl (by decide) _ _ xs rfl HO.out ⟨nb, 0, none⟩ 1 1 [a, b] rfl rfl ?c1 ?c2 ?c3 ?c4 (Nat.zero_le _) (by decide) ?_)
    case c1 =>
      intro j u hj
      rw [Addr.add_lit, Nat.zero_add, heap_cell HN.out]
      simpa using hj
    case c2 =>
      intro u hu
      rcases List.mem_cons.1 hu with h | h
      · rw [h]; exact ha
      · rw [List.mem_singleton.1 h]; exact hb
    case c3 => unfold maxLen; omega
    case c4 => omega
    intro v' w' r1 r2 r3
    have R1 := Lib.hid r1; have R2 := Lib.hid r2; have R3 := Lib.hid r3
    obtain ⟨ao', cap', rfl, _⟩ := ownsRow_form r1
    clear r1 r2 r3
    go_wp2
    go_ret
    exact ⟨_, rfl, R1.out, (Upd.refl (fun k => Value.ownBlock _ = some k) w).grown R2.out (fun k hk => .inl hk), R3.out⟩
  · go_enter Tryd.func63, Tryd.ntmps63
    go_wp2_with (at_builtin; refine wpList_append_own2 _ rfl _ _ 67 rfl 0 69 i0 _ 2 32 Tryd.underlying67 Hi.out Hz0.out Hz1.out Hz2.out rfl (by decide) _ n xs rfl HO.out ⟨nb, 0, none⟩ 1 1 [a, b] rfl rfl ?c1 ?c2 ?c3 ?c4 (Nat.zero_le _) (by decide) ?_)
    case c1 =>
      intro j u hj
      rw [Addr.add_lit, Nat.zero_add, heap_cell HN.out]
      simpa using hj
    case c2 =>
      intro u hu
      rcases List.mem_cons.1 hu with h | h
      · rw [h]; exact ha
      · rw [List.mem_singleton.1 h]; exact hb
    case c3 => unfold maxLen; omega
    case c4 => omega
    intro v' w' r1 r2 r3
    have R1 := Lib.hid r1; have R2 := Lib.hid r2; have R3 := Lib.hid r3
    obtain ⟨ao', cap', rfl, _⟩ := ownsRow_form r1
    clear r1 r2 r3
    go_wp2
    go_ret
    exact ⟨_, rfl, R1.out, (Upd.refl (fun k => Value.ownBlock _ = some k) w).grown R2.out (fun k hk => .inl hk), R3.out⟩
theorem splice_take {α : Type} (L : List α) (p : Nat) (cs : List α) (h : p + cs.length ≤ L.length) : (splice L p cs).take (p + cs.length) = L.take p ++ cs := by
  unfold splice
  have hl : (L.take p ++ cs).length = p + cs.length := by rw [List.length_append, List.length_take]; omega
  rw [← List.append_assoc, ← hl, List.take_left]
theorem splice_two {α : Type} (L : List α) (p : Nat) (cs ds : List α) (h : p + cs.length + ds.length ≤ L.length) : (splice (splice L p cs) (p + cs.length) ds).take (p + cs.length + ds.length) = L.take p ++ cs ++ ds := by
  rw [splice_take _ _ _ (by rw [length_splice _ _ _ (by omega)]; exact h), splice_take _ _ _ (by omega)]
theorem splice_low {α : Type} (L : List α) (p : Nat) (cs ds : List α) (h : p + cs.length + ds.length ≤ L.length) : (splice (splice L (p + cs.length) ds) p cs).take (p + cs.length + ds.length) = L.take p ++ cs ++ ds := by
  have h1 : (splice L (p + cs.length) ds).take p = L.take p := by
    unfold splice
    rw [List.take_append_of_le_length (by rw [List.length_take]; omega), List.take_take, Nat.min_eq_left (by omega)]
  have h2 : (splice L (p + cs.length) ds).drop (p + cs.length) = ds ++ L.drop (p + cs.length + ds.length) := by
    unfold splice
    have hl : (L.take (p + cs.length)).length = p + cs.length := by rw [List.length_take]; omega
    rw [List.drop_append_of_le_length (by omega), List.drop_of_length_le (by omega), List.nil_append]
  have h3 : splice (splice L (p + cs.length) ds) p cs = (L.take p ++ cs ++ ds) ++ L.drop (p + cs.length + ds.length) := by
    rw [splice, h1, h2]; simp
  rw [h3, List.take_append_of_le_length (by simp; omega), List.take_of_length_le (by simp; omega)]
theorem copyInfo : (Tryd.prog.info? 69).map (·.size) = some 2 := by kernel_rfl
theorem mem_of_take {α : Type} {l : List α} {x : α} {n : Nat} (h : x ∈ l.take n) : x ∈ l := List.mem_of_mem_take h
set_option maxRecDepth 100000 in
set_option maxHeartbeats 4000000 in
theorem insert_grow (w : World) (g n i : Nat) (xs : List Value) (nb : Nat) (a b : Value) (hown : w.ownsRow 0 69 2 (.slice (some ⟨g, 0, none⟩) n n) n xs) (hnb : w.heap[nb]? = some (.cells #[a, b] 69 (0, 0))) (ha : a.oneCell' = true) (hb : b.oneCell' = true) (hxs : ∀ u ∈ xs, u.oneCell' = true) (hi : i < n) (hn : n ≤ 1048576) :
    Calls Tryd.prog 63 #[.slice (some ⟨g, 0, none⟩) n n, .int .i64 i, .slice (some ⟨nb, 0, none⟩) 1 1] w (MPost w (.slice (some ⟨g, 0, none⟩) n n) (n + 1) (xs.take (i * 2) ++ [a, b] ++ xs.drop (i * 2))) := by
  obtain ⟨i0, hi0, hz0, hz1, hz2⟩ := info_parts Tryd.infoMem
  have Hi := Lib.hid hi0; have Hz0 := Lib.hid hz0; have Hz1 := Lib.hid hz1; have Hz2 := Lib.hid hz2
  have HO := Lib.hid hown; have HN := Lib.hid hnb; have HXS := Lib.hid hxs
  have hin : ¬ (i : Int) = n := by omega
  have hin2 : ¬ i = n := by omega
  have hin3 : ¬ n = i := by omega
  have q1 : IntKind.i64.wrap ((n : Int) + 1) = n + 1 := IntWalk.i64_in _ ⟨by omega, by omega⟩
  have q2 : IntKind.i64.wrap ((n : Int) + 1 - i) = ((n + 1 - i : Nat) : Int) := by rw [IntWalk.i64_in _ ⟨by omega, by omega⟩]; omega
  clear hi0 hz0 hz1 hz2 hown hnb hxs
  go_enter Tryd.func63, Tryd.ntmps63
  go_wp2_with (at_builtin; refine wpList_append_make rfl _ _ 67 3 rfl 69 i0 _ 2 32 .i64 .i64 Tryd.underlying67 Tryd.underlying3 Hi.out Hz0.out Hz1.out Hz2.out rfl (by decide) ⟨g, 0, none⟩ i n (xs.take (i * 2)) rfl ?c1 ?c2 (n + 1 - i) (congrArg (Value.int .i64) ?c7) ?c3 ?c4 ?c5 ?c6 ?_)
  case c1 => rw [List.length_take, HO.out.1]; omega
  case c2 =>
    intro j u hj
    have hlt : j < i * 2 := by have := (List.getElem?_eq_some_iff.1 hj).1; rw [List.length_take] at this; omega
    rw [List.getElem?_take, if_pos hlt] at hj
    rw [Addr.add_lit, Nat.zero_add, HO.out.cellAt j (by omega)]
    exact hj
  case c7 => rfl
  case c3 => omega
  case c4 => omega
  case c5 => unfold maxLen; omega
  case c6 => omega
  intro v' w1 r1 hb1
  rw [show i + (n + 1 - i) = n + 1 by omega] at r1
  obtain ⟨hlen, (⟨_, h0⟩ | ⟨g2, cap2, cur, rfl, hg2, hcur, hc2, hm2, hsz, htk⟩)⟩ := r1
  · omega
  unfold maxLen at hm2
  obtain ⟨Lc, rfl⟩ : ∃ Lc : List Value, cur = Lc.toArray := ⟨cur.toList, by simp⟩
  simp only [List.size_toArray] at hsz htk
  have hpre : Lc.take (i * 2) = xs.take (i * 2) := by
    have := congrArg (List.take (i * 2)) htk
    rw [List.take_take, show min (i * 2) ((n + 1) * 2) = i * 2 by omega] at this
    rw [this, List.take_append_of_le_length (by rw [List.length_take, HO.out.1]; omega), List.take_take, Nat.min_self]
  have hgl : g < w.heap.size := (HO.out.lt g rfl).2
  have HP := Lib.hid hpre; have HB1 := Lib.hid hb1
  have hsz2 : Lc.length = cap2 * 2 := hsz
  have HCUR := Lib.hid hcur
  have hc3 : ¬ cap2 = i := by omega
  have hc4 : ¬ cap2 = i + 1 := by omega
  have q3 : IntKind.i64.wrap ((i : Int) + 1) = ((i + 1 : Nat) : Int) := by rw [IntWalk.i64_in _ ⟨by omega, by omega⟩]; omega
  have HSZ := Lib.hid hsz2
  clear hpre hb1 hcur hlen htk hsz hsz2 q1 q2
  go_wp2_with (refine wpList_copy_sized rfl _ _ 67 67 rfl 69 2 Tryd.underlying67 copyInfo g2 (i * 2) (n + 1 - i) (cap2 - i) ⟨nb, 0, none⟩ 1 1 rfl rfl Lc 69 HCUR.out 1 [a, b] ?d2 rfl ?d3 ?d4 ?d5 ?_)
  case d2 => show 1 = min 1 (n + 1 - i); omega
  case d3 =>
    intro j u hj
    rw [Addr.add_lit, Nat.zero_add, heap_cell (by rw [HB1.out.block nb (heap_lt HN.out)]; exact HN.out)]
    simpa using hj
  case d4 => have := HSZ.out; simp; omega
  case d5 =>
    intro u hu
    rcases List.mem_cons.1 hu with h | h
    · rw [h]; exact ha
    · rw [List.mem_singleton.1 h]; exact hb
  intro w2 H2 U2
  go_wp2
  refine wp_region_calm_tail 8 (by kernel_rfl) (by kernel_rfl) ?_
  simp only [List.take_succ_cons, List.take_zero, List.drop_succ_cons, List.drop_zero]
  repeat (go_big_quiet_step (fail))
  refine wpQuiet_nil ?_
  intro w3 hb3
  have H3 : w3.heap[g2]? = some (.cells (splice Lc (i * 2) [a, b]).toArray 69 (0, 0)) := by rw [hb3.block g2 (heap_lt H2.out)]; exact H2.out
  have u1 : Upd (fun _ => False) w w1 := Upd.of_below HB1.out
  have u3 : Upd (fun k => k = g2) w w3 := (u1.mono (fun _ _ h => h.elim)).trans' (U2.out.trans' (Upd.of_below hb3))
  have HO3 := ownsRow_upd HO.out u3 (fun b hb e => by simp [Value.ownBlock] at hb; omega)
  have HH3 := Lib.hid H3; have HU3 := Lib.hid u3; have HHO := Lib.hid HO3
  clear H3 u1 u3 HO3 hb3 H2 U2
  refine wpList_copy_sized rfl _ _ 67 67 rfl 69 2 Tryd.underlying67 copyInfo g2 _ _ _ ⟨g, i * 2, none⟩ _ _ rfl rfl (splice Lc (i * 2) [a, b]) 69 HH3.out (n - i) (xs.drop (i * 2)) ?e1 ?e2 ?e3 ?e4 ?e5 ?_
  case e1 => simp; try omega
  case e2 => rw [List.length_drop, HO.out.1]; omega
  case e3 =>
    intro j u hj
    have hlt : i * 2 + j < n * 2 := by have := (List.getElem?_eq_some_iff.1 hj).1; rw [List.length_drop, HO.out.1] at this; omega
    rw [List.getElem?_drop] at hj
    rw [Addr.add_lit, HHO.out.cellAt (i * 2 + j) (by omega)]
    exact hj
  case e4 =>
    have hs := length_splice Lc (i * 2) [a, b] (by have := HSZ.out; simp; omega)
    rw [hs, HSZ.out, List.length_drop, HO.out.1]; omega
  case e5 => intro u hu; exact HXS.out u (List.mem_of_mem_drop hu)
  intro w4 H4 U4
  go_wp2
  go_ret
  have hl : (xs.drop (i * 2)).length = (n - i) * 2 := by rw [List.length_drop, HO.out.1]; omega
  refine ⟨_, rfl, ⟨?_, .inr ⟨g2, cap2, _, rfl, Nat.zero_le _, H4.out, hc2, by unfold maxLen; omega, ?_, ?_⟩⟩, ?_, .inr (fun b hb => ?_)⟩
  · rw [List.length_append, List.length_append, hl, List.length_take, HO.out.1]; simp; omega
  · have h1 := length_splice Lc (i * 2) [a, b] (by have := HSZ.out; simp; omega)
    have h2 := length_splice (splice Lc (i * 2) [a, b]) ((i + 1) * 2) (xs.drop (i * 2)) (by rw [h1, HSZ.out, hl]; omega)
    simp only [List.size_toArray]
    rw [h2, h1, HSZ.out]
  · have h := splice_two Lc (i * 2) [a, b] (xs.drop (i * 2)) (by rw [hl, HSZ.out]; simp; omega)
    rw [HP.out] at h
    rw [← h]
    simp only [hl, List.length_cons, List.length_nil]
    rw [show (n + 1) * 2 = i * 2 + (0 + 1 + 1) + (n - i) * 2 by omega, show (i + 1) * 2 = i * 2 + (0 + 1 + 1) by omega]
  · have u4 := HU3.out.trans' U4.out
    exact ⟨u4.os, u4.tape, u4.output, u4.size, fun k hk hs => u4.block k hk (fun e => by omega)⟩
  · simp [Value.ownBlock] at hb; omega
theorem zMem (w : World) : (Go.sizeOf 69).run Tryd.prog w = .ok 2 w := by
  obtain ⟨i0, hi, hz0, hz1, hz2⟩ := info_parts Tryd.infoMem
  simp [Go.sizeOf, Go.typeInfo, hi, hz1]
set_option maxRecDepth 100000 in
set_option maxHeartbeats 4000000 in
theorem insert_room (w : World) (g n cap i : Nat) (xs : List Value) (nb : Nat) (a b : Value) (hown : w.ownsRow 0 69 2 (.slice (some ⟨g, 0, none⟩) n cap) n xs) (hnb : w.heap[nb]? = some (.cells #[a, b] 69 (0, 0))) (hne : nb ≠ g) (ha : a.oneCell' = true) (hb : b.oneCell' = true) (hxs : ∀ u ∈ xs, u.oneCell' = true) (hi : i < n) (hnc : n < cap) (hn : n ≤ 1048576) :
    Calls Tryd.prog 63 #[.slice (some ⟨g, 0, none⟩) n cap, .int .i64 i, .slice (some ⟨nb, 0, none⟩) 1 1] w (MPost w (.slice (some ⟨g, 0, none⟩) n cap) (n + 1) (xs.take (i * 2) ++ [a, b] ++ xs.drop (i * 2))) := by
  have hown0 := hown
  obtain ⟨hlen, (⟨h0, _⟩ | ⟨g', cap', cur, h0, hg2, hcur, hc2, hm2, hsz, htk⟩)⟩ := hown
  · cases h0
  simp only [Value.slice.injEq, Option.some.injEq, Addr.mk.injEq, true_and, and_true] at h0
  obtain ⟨rfl, rfl⟩ := h0
  unfold maxLen at hm2
  obtain ⟨Lc, rfl⟩ : ∃ Lc : List Value, cur = Lc.toArray := ⟨cur.toList, by simp⟩
  simp only [List.size_toArray] at hsz htk
  have HC := Lib.hid hcur; have HN := Lib.hid hnb; have HXS := Lib.hid hxs; have HT := Lib.hid htk; have HSZ := Lib.hid hsz; have HLEN := Lib.hid hlen
  have hov : ∀ lb cb, (callFunc 66 #[.slice (some ⟨nb, 0, none⟩) 1 1, .slice (some ⟨g, (i + 1) * 2, none⟩) lb cb]).run Tryd.prog w = .ok (.value (.bool false)) w := fun lb cb => by
    rw [run_callFunc_extern Tryd.func66 (by kernel_rfl) (by kernel_rfl) (by kernel_rfl) (e := Extern.SlicesOverlaps.overlaps #[67, 67] #[4]) (by kernel_rfl),
      Lib.run_overlaps_apart w 67 4 69 Tryd.underlying67 2 zMem ⟨nb, 0, none⟩ ⟨g, (i + 1) * 2, none⟩ 1 1 lb cb hne 69 69 2 Lc.length (by simp [World.shape?, HN.out]) (by simp [World.shape?, HC.out]) (by rw [HSZ.out]; omega) (heap_frozen HN.out _) (heap_frozen HN.out _)]
    rfl
  have hin : ¬ (i : Int) = n := by omega
  have hin2 : ¬ i = n := by omega
  have hin3 : ¬ n = i := by omega
  have q1 : IntKind.i64.wrap ((n : Int) + 1) = ((n + 1 : Nat) : Int) := by rw [IntWalk.i64_in _ ⟨by omega, by omega⟩]; omega
  have q3 : IntKind.i64.wrap ((i : Int) + 1) = ((i + 1 : Nat) : Int) := by rw [IntWalk.i64_in _ ⟨by omega, by omega⟩]; omega
  have hc3 : ¬ cap = i := by omega
  have hc4 : ¬ cap = i + 1 := by omega
  have hnc2 : ¬ cap < n + 1 := by omega
  have hnc3 : ¬ (cap : Int) < (n : Int) + 1 := by omega
  clear hnb hxs hcur htk hsz hlen hown0
  go_enter Tryd.func63, Tryd.ntmps63
  go_wp2
  refine wp_region_calm_tail 8 (by kernel_rfl) (by kernel_rfl) ?_
  simp only [List.take_succ_cons, List.take_zero, List.drop_succ_cons, List.drop_zero]
  repeat (go_big_quiet_step (fail))
  refine wpQuiet_nil ?_
  intro w1 hb1
  have C1 : w1.heap[g]? = some (.cells Lc.toArray 69 (0, 0)) := by rw [hb1.block g (heap_lt HC.out)]; exact HC.out
  have N1 : w1.heap[nb]? = some (.cells #[a, b] 69 (0, 0)) := by rw [hb1.block nb (heap_lt HN.out)]; exact HN.out
  have HC1 := Lib.hid C1; have HN1 := Lib.hid N1; have HB1 := Lib.hid hb1
  clear C1 N1 hb1 hov
  have hdrop : ∀ j u, (xs.drop (i * 2))[j]? = some u → Lc[i * 2 + j]? = some u := by
    intro j u hj
    rw [List.getElem?_drop] at hj
    have hlt := (List.getElem?_eq_some_iff.1 hj).1
    rw [HLEN.out] at hlt
    rw [← HT.out, List.getElem?_take, if_pos hlt] at hj
    exact hj
  have HD := Lib.hid hdrop
  clear hdrop
  refine wpList_copy_sized rfl _ _ 67 67 rfl 69 2 Tryd.underlying67 copyInfo g _ _ _ ⟨g, i * 2, none⟩ _ _ rfl rfl Lc 69 HC1.out (n - i) (xs.drop (i * 2)) ?e1 ?e2 ?e3 ?e4 ?e5 ?_
  case e1 => simp [Nat.min_def]; try omega
  case e2 => rw [List.length_drop, HLEN.out]; omega
  case e3 =>
    intro j u hj
    rw [Addr.add_lit, heap_cell HC1.out]
    simpa using HD.out j u hj
  case e4 => rw [HSZ.out, List.length_drop, HLEN.out]; omega
  case e5 => intro u hu; exact HXS.out u (List.mem_of_mem_drop hu)
  intro w2 H2 U2
  have N2 : w2.heap[nb]? = some (.cells #[a, b] 69 (0, 0)) := U2.out.heap_some HN1.out hne
  have HN2 := Lib.hid N2
  clear N2
  go_wp2_with (refine wpList_copy_sized rfl _ _ 67 67 rfl 69 2 Tryd.underlying67 copyInfo g (i * 2) _ _ ⟨nb, 0, none⟩ 1 1 rfl rfl (splice Lc ((i + 1) * 2) (xs.drop (i * 2))) 69 H2.out 1 [a, b] ?d2 rfl ?d3 ?d4 ?d5 ?_)
  case d2 => simp [Nat.min_def]; try omega
  case d3 =>
    intro j u hj
    rw [Addr.add_lit, Nat.zero_add, heap_cell HN2.out]
    simpa using hj
  case d4 =>
    rw [length_splice _ _ _ (by rw [HSZ.out, List.length_drop, HLEN.out]; omega), HSZ.out]; simp; omega
  case d5 =>
    intro u hu
    rcases List.mem_cons.1 hu with h | h
    · rw [h]; exact ha
    · rw [List.mem_singleton.1 h]; exact hb
  intro w3 H3 U3
  go_wp2
  go_ret
  have hl : (xs.drop (i * 2)).length = (n - i) * 2 := by rw [List.length_drop, HLEN.out]; omega
  have hp : Lc.take (i * 2) = xs.take (i * 2) := by
    have := congrArg (List.take (i * 2)) HT.out
    rwa [List.take_take, show min (i * 2) (n * 2) = i * 2 by omega] at this
  refine ⟨_, rfl, ⟨?_, .inr ⟨g, cap, _, rfl, Nat.zero_le _, H3.out, by omega, by unfold maxLen; omega, ?_, ?_⟩⟩, ?_, .inl rfl⟩
  · rw [List.length_append, List.length_append, hl, List.length_take, HLEN.out]; simp; omega
  · have h1 := length_splice Lc ((i + 1) * 2) (xs.drop (i * 2)) (by rw [HSZ.out, hl]; omega)
    have h2 := length_splice (splice Lc ((i + 1) * 2) (xs.drop (i * 2))) (i * 2) [a, b] (by rw [h1, HSZ.out]; simp; omega)
    simp only [List.size_toArray]
    rw [h2, h1, HSZ.out]
  · have h := splice_low Lc (i * 2) [a, b] (xs.drop (i * 2)) (by rw [hl, HSZ.out]; simp; omega)
    rw [hp] at h
    rw [← h]
    simp only [hl, List.length_cons, List.length_nil]
    rw [show (n + 1) * 2 = i * 2 + (0 + 1 + 1) + (n - i) * 2 by omega, show (i + 1) * 2 = i * 2 + (0 + 1 + 1) by omega]
  · have u : Upd (fun k => k = g) w w3 := ((Upd.of_below HB1.out).trans' U2.out).trans' U3.out
    exact u.mono (fun k _ e => by rw [e]; rfl)
theorem insert_at (w : World) (v : Value) (n i : Nat) (xs : List Value) (nb : Nat) (a b : Value) (hown : w.ownsRow 0 69 2 v n xs) (hnb : w.heap[nb]? = some (.cells #[a, b] 69 (0, 0))) (hne : ∀ g, v.ownBlock = some g → nb ≠ g) (ha : a.oneCell' = true) (hb : b.oneCell' = true) (hxs : ∀ u ∈ xs, u.oneCell' = true) (hi : i ≤ n) (hn : n ≤ 1048576) :
    Calls Tryd.prog 63 #[v, .int .i64 i, .slice (some ⟨nb, 0, none⟩) 1 1] w (MPost w v (n + 1) (xs.take (i * 2) ++ [a, b] ++ xs.drop (i * 2))) := by
  by_cases h : i = n
  · subst h
    have e : xs.take (i * 2) ++ [a, b] ++ xs.drop (i * 2) = xs ++ [a, b] := by
      rw [List.take_of_length_le (by rw [hown.1]; exact Nat.le_refl _), List.drop_of_length_le (by rw [hown.1]; exact Nat.le_refl _), List.append_nil]
    rw [e]
    exact insert_end w v i xs nb a b hown hnb ha hb hn
  · obtain ⟨g, cap, cur, rfl, _, hc, _, _⟩ := ownsRow_some hown (by omega)
    by_cases h2 : cap = n
    · subst h2
      exact insert_grow w g cap i xs nb a b hown hnb ha hb hxs (by omega) hn
    · exact insert_room w g n cap i xs nb a b hown hnb (hne g rfl) ha hb hxs (by omega) (by omega) hn
theorem zeroMem (w : World) : (zeroValue 69).run Tryd.prog w = .ok (.agg #[.int .i64 0, .slice none 0 0]) w := by
  obtain ⟨i0, hi, hz0, hz1, hz2⟩ := info_parts Tryd.infoMem
  simp [zeroValue, Go.typeInfo, hi, hz0]
theorem zc1 : (Builtin.zeroCells (Value.agg #[.int .i64 0, .slice none 0 0]).cells 1).toList = [.int .i64 0, .slice none 0 0] := by kernel_rfl
set_option maxRecDepth 100000 in
set_option maxHeartbeats 4000000 in
theorem delete_at (w : World) (g n cap i : Nat) (xs : List Value) (hown : w.ownsRow 0 69 2 (.slice (some ⟨g, 0, none⟩) n cap) n xs) (hxs : ∀ u ∈ xs, u.oneCell' = true) (hi : i < n) (hn : n ≤ 1048576) :
    Calls Tryd.prog 58 #[.slice (some ⟨g, 0, none⟩) n cap, .int .i64 i, .int .i64 ((i + 1 : Nat) : Int)] w (MPost w (.slice (some ⟨g, 0, none⟩) n cap) (n - 1) (xs.take (i * 2) ++ xs.drop ((i + 1) * 2))) := by
  obtain ⟨i0, hi0, hz0, hz1, hz2⟩ := info_parts Tryd.infoMem
  have Hi := Lib.hid hi0; have Hz1 := Lib.hid hz1
  have HLEN := Lib.hid hown.1
  obtain ⟨g', cap', cur', h0, _, hc1, hc2, _⟩ := ownsRow_some hown (by omega)
  simp only [Value.slice.injEq, Option.some.injEq, Addr.mk.injEq, true_and, and_true] at h0
  obtain ⟨rfl, rfl⟩ := h0
  unfold maxLen at hc2
  have HO := Lib.hid hown; have HXS := Lib.hid hxs
  have hci : ¬ cap = i := by omega
  have hii : ¬ (i : Int) = (i : Int) + 1 := by omega
  clear hi0 hz0 hz1 hz2 hown hxs
  by_cases hcj : cap = i + 1
  · obtain rfl : n = i + 1 := by omega
    subst hcj
    go_enter Tryd.func58, Tryd.ntmps58
    go_wp2
    refine wp_region_calm_tail 6 (by kernel_rfl) (by kernel_rfl) ?_
    simp only [List.take_succ_cons, List.take_zero, List.drop_succ_cons, List.drop_zero]
    repeat (go_big_quiet_step (fail))
    refine wpQuiet_nil ?_
    intro w1 hb1
    have R1 := ownsRow_upd (S := fun _ => False) HO.out (Upd.of_below hb1) (fun _ _ h => h)
    have RT := ownsRow_take R1 i (by omega)
    have HR1 := Lib.hid R1; have HRT := Lib.hid RT; have HB1 := Lib.hid hb1
    clear R1 RT hb1
    refine wpList_append_fits_any _ rfl _ _ 67 rfl 0 69 i0 2 Tryd.underlying67 Hi.out Hz1.out g i (i + 1) (xs.take (i * 2)) rfl HRT.out _ _ _ (xs.drop ((i + 1) * 2)) rfl ?e1 ?e2 ?e3 ?e4 ?e5 ?_
    case e1 => rw [List.length_drop, HLEN.out]; omega
    case e2 => intro h; cases h
    case e3 =>
      intro ad had j u hj
      have hlt : (i + 1) * 2 + j < (i + 1) * 2 := by have := (List.getElem?_eq_some_iff.1 hj).1; rw [List.length_drop, HLEN.out] at this; omega
      omega
    case e4 => intro u hu; exact HXS.out u (List.mem_of_mem_drop hu)
    case e5 => omega
    intro w2 r2 g2
    rw [Nat.add_zero] at r2 ⊢
    have hl2 : (xs.take (i * 2) ++ xs.drop ((i + 1) * 2)).length = i * 2 := by rw [List.length_append, List.length_take, List.length_drop, HLEN.out]; omega
    obtain ⟨_, (⟨h0, _⟩ | ⟨g', cap', cur, h0, hg2, hcur, hc2, hm2, hsz, htk⟩)⟩ := r2
    · cases h0
    simp only [Value.slice.injEq, Option.some.injEq, Addr.mk.injEq, true_and, and_true] at h0
    obtain ⟨rfl, rfl⟩ := h0
    obtain ⟨Lc, rfl⟩ : ∃ Lc : List Value, cur = Lc.toArray := ⟨cur.toList, by simp⟩
    simp only [List.size_toArray] at hsz htk
    have HC := Lib.hid hcur; have HT := Lib.hid htk; have HSZ := Lib.hid hsz; have HG := Lib.hid g2; have HL2 := Lib.hid hl2
    have hcn : ¬ i + 1 = i := by omega
    have hn1 : i + 1 - i = 1 := by omega
    clear hcur htk hsz g2 hl2
    go_wp2_with (refine wpList_clear_row rfl _ 67 rfl 69 (.agg #[.int .i64 0, .slice none 0 0]) Tryd.underlying67 zeroMem g (i * 2) 1 _ rfl Lc 69 HC.out [.int .i64 0, .slice none 0 0] zc1 ?f1 ?f2 ?f3 ?_)
    case f1 => have := HSZ.out; simp; omega
    case f2 => intro u hu; simp at hu; rcases hu with h | h <;> (rw [h]; rfl)
    case f3 => intro h; cases h
    intro w3 H3 U3
    go_wp2
    go_ret
    refine ⟨_, rfl, ⟨HL2.out, .inr ⟨g, i + 1, _, rfl, Nat.zero_le _, H3.out, by omega, by unfold maxLen; omega, ?_, ?_⟩⟩, ?_, .inl rfl⟩
    · simp only [List.size_toArray]
      rw [length_splice _ _ _ (by have := HSZ.out; simp; omega), HSZ.out]
    · rw [← HT.out]
      simp only
      unfold splice
      rw [List.take_append_of_le_length (by rw [List.length_take]; have := HSZ.out; omega), List.take_take]
      congr 1; omega
    · have u : Upd (fun k => k = g) w w3 := ((Upd.of_below HB1.out).grown HG.out (fun k hk => .inl (by cases hk; rfl))).trans' U3.out
      exact u.mono (fun k _ e => by rw [e]; rfl)
  ·
    go_enter Tryd.func58, Tryd.ntmps58
    go_wp2
    refine wp_region_calm_tail 6 (by kernel_rfl) (by kernel_rfl) ?_
    simp only [List.take_succ_cons, List.take_zero, List.drop_succ_cons, List.drop_zero]
    repeat (go_big_quiet_step (fail))
    refine wpQuiet_nil ?_
    intro w1 hb1
    have R1 := ownsRow_upd (S := fun _ => False) HO.out (Upd.of_below hb1) (fun _ _ h => h)
    have RT := ownsRow_take R1 i (by omega)
    have HR1 := Lib.hid R1; have HRT := Lib.hid RT; have HB1 := Lib.hid hb1
    clear R1 RT hb1
    refine wpList_append_fits_any _ rfl _ _ 67 rfl 0 69 i0 2 Tryd.underlying67 Hi.out Hz1.out g i cap (xs.take (i * 2)) rfl HRT.out _ (n - (i + 1)) _ (xs.drop ((i + 1) * 2)) rfl ?e1 ?e2 ?e3 ?e4 ?e5 ?_
    case e1 => rw [List.length_drop, HLEN.out]; omega
    case e2 => intro h; cases h
    case e3 =>
      intro ad had j u hj
      have hlt : (i + 1) * 2 + j < n * 2 := by have := (List.getElem?_eq_some_iff.1 hj).1; rw [List.length_drop, HLEN.out] at this; omega
      cases had
      rw [List.getElem?_drop] at hj
      rw [Addr.add_lit, HR1.out.cellAt ((i + 1) * 2 + j) (by omega)]
      exact hj
    case e4 => intro u hu; exact HXS.out u (List.mem_of_mem_drop hu)
    case e5 => omega
    intro w2 r2 g2
    rw [show i + (n - (i + 1)) = n - 1 by omega] at r2 ⊢
    have hl2 : (xs.take (i * 2) ++ xs.drop ((i + 1) * 2)).length = (n - 1) * 2 := by rw [List.length_append, List.length_take, List.length_drop, HLEN.out]; omega
    obtain ⟨_, (⟨h0, _⟩ | ⟨g', cap', cur, h0, hg2, hcur, hc2, hm2, hsz, htk⟩)⟩ := r2
    · cases h0
    simp only [Value.slice.injEq, Option.some.injEq, Addr.mk.injEq, true_and, and_true] at h0
    obtain ⟨rfl, rfl⟩ := h0
    obtain ⟨Lc, rfl⟩ : ∃ Lc : List Value, cur = Lc.toArray := ⟨cur.toList, by simp⟩
    simp only [List.size_toArray] at hsz htk
    have HC := Lib.hid hcur; have HT := Lib.hid htk; have HSZ := Lib.hid hsz; have HG := Lib.hid g2; have HL2 := Lib.hid hl2
    have w3 : IntKind.i64.wrap ((n : Int) - 1) = ((n - 1 : Nat) : Int) := by rw [IntWalk.i64_in _ ⟨by omega, by omega⟩]; omega
    have hcn : ¬ cap = n - 1 := by omega
    have hn1 : n - (n - 1) = 1 := by omega
    clear hcur htk hsz g2 hl2
    go_wp2_with (refine wpList_clear_row rfl _ 67 rfl 69 (.agg #[.int .i64 0, .slice none 0 0]) Tryd.underlying67 zeroMem g ((n - 1) * 2) 1 _ rfl Lc 69 HC.out [.int .i64 0, .slice none 0 0] zc1 ?f1 ?f2 ?f3 ?_)
    case f1 => have := HSZ.out; simp; omega
    case f2 => intro u hu; simp at hu; rcases hu with h | h <;> (rw [h]; rfl)
    case f3 => intro h; cases h
    intro w3 H3 U3
    go_wp2
    go_ret
    refine ⟨_, rfl, ⟨HL2.out, .inr ⟨g, cap, _, rfl, Nat.zero_le _, H3.out, by omega, by unfold maxLen; omega, ?_, ?_⟩⟩, ?_, .inl rfl⟩
    · simp only [List.size_toArray]
      rw [length_splice _ _ _ (by have := HSZ.out; simp; omega), HSZ.out]
    · rw [← HT.out]
      simp only
      unfold splice
      rw [List.take_append_of_le_length (by rw [List.length_take]; have := HSZ.out; omega), List.take_take]
      congr 1; omega
    · have u : Upd (fun k => k = g) w w3 := ((Upd.of_below HB1.out).grown HG.out (fun k hk => .inl (by cases hk; rfl))).trans' U3.out
      exact u.mono (fun k _ e => by rw [e]; rfl)
end Go.Proofs.YtelohkppbmahnaaDoor
