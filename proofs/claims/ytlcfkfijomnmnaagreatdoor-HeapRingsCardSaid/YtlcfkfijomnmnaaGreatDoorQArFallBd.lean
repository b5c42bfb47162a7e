import Derived.Test.YtlcfkfijomnmnaaGreatDoorQArCopyBd
import Derived.Lib.Overlaps
namespace Go.Proofs.YtlcfkfijomnmnaaGreatDoor
open Lib (hid)
section
open Go.RowKit
theorem Tryz.infoMem : (Tryz.prog.info? 187).map (fun i => (i.zero, i.size, i.bytes)) = some (some (.agg #[.int .i64 0, .slice none 0 0]), 2, 32) := by kernel_rfl
def MPost (w : World) (v : Value) (n : Nat) (xs : List Value) (e : Ending) (w' : World) : Prop := ∃ v', e = .returned v' ∧ w'.ownsRow 0 187 2 v' n xs ∧ Upd (fun k => v.ownBlock = some k) w w' ∧ MovedUp w v v'
theorem insert_end (w : World) (v : Value) (n : Nat) (xs : List Value) (nb : Nat) (a b : Value) (hown : w.ownsRow 0 187 2 v n xs) (hnb : w.heap[nb]? = some (.cells #[a, b] 187 (0, 0))) (ha : a.oneCell' = true) (hb : b.oneCell' = true) (hn : n ≤ 1048576) :
    Calls Tryz.prog 119 #[v, .int .i64 n, .slice (some ⟨nb, 0, none⟩) 1 1] w (MPost w v (n + 1) (xs ++ [a, b])) := by
  obtain ⟨ao, cap, rfl, hc1, hc2, hc3⟩ := ownsRow_form hown
  unfold maxLen at hc2
  obtain ⟨i0, hi, hz0, hz1, hz2⟩ := info_parts Tryz.infoMem
  have Hi := hid hi; have Hz0 := hid hz0; have Hz1 := hid hz1; have Hz2 := hid hz2
  have HO := hid hown; have HN := hid hnb
  clear hi hz0 hz1 hz2 hown hnb
  by_cases hcn : cap = n
  · subst hcn
    go_enter Tryz.func119, Tryz.ntmps119
    go_wp2_with (at_builtin; refine wpList_append_own2 _ rfl _ _ 182 rfl 0 187 i0 _ 2 32 Tryz.underlying182 Hi.out Hz0.out Hz1.out Hz2.out rfl (by decide) _ _ xs rfl HO.out ⟨nb, 0, none⟩ 1 1 [a, b] rfl rfl ?c1 ?c2 ?c3 ?c4 (Nat.zero_le _) (by decide) ?_)
    case c1 =>
      intro j u hj
      rw [Addr.add_lit, Nat.zero_add, heap_cell HN.out]
      simpa using hj
    case c2 =>
      intro u hu
      rcases List.mem_cons.1 hu with h | h
      · rw [h]; exact ha
      · rw [List.mem_singleton.1 h]; exact hb
    case c3 => unfold maxLen; omega
    case c4 => omega
    intro v' w' r1 r2 r3
    have R1 := hid r1; have R2 := hid r2; have R3 := hid r3
    obtain ⟨ao', cap', rfl, _⟩ := ownsRow_form r1
    clear r1 r2 r3
    go_wp2
    go_ret
    exact ⟨_, rfl, R1.out, (Upd.refl (fun k => Value.ownBlock _ = some k) w).grown R2.out (fun k hk => .inl hk), R3.out⟩
  · go_enter Tryz.func119, Tryz.ntmps119
    go_wp2_with (at_builtin; refine wpList_append_own2 _ rfl _ _ 182 rfl 0 187 i0 _ 2 32 Tryz.underlying182 Hi.out Hz0.out Hz1.out Hz2.out rfl (by decide) _ n xs rfl HO.out ⟨nb, 0, none⟩ 1 1 [a, b] rfl rfl ?c1 ?c2 ?c3 ?c4 (Nat.zero_le _) (by decide) ?_)
    case c1 =>
      intro j u hj
      rw [Addr.add_lit, Nat.zero_add, heap_cell HN.out]
      simpa using hj
    case c2 =>
      intro u hu
      rcases List.mem_cons.1 hu with h | h
      · rw [h]; exact ha
      · rw [List.mem_singleton.1 h]; exact hb
    case c3 => unfold maxLen; omega
    case c4 => omega
    intro v' w' r1 r2 r3
    have R1 := hid r1; have R2 := hid r2; have R3 := hid r3
    obtain ⟨ao', cap', rfl, _⟩ := ownsRow_form r1
    clear r1 r2 r3
    go_wp2
    go_ret
    exact ⟨_, rfl, R1.out, (Upd.refl (fun k => Value.ownBlock _ = some k) w).grown R2.out (fun k hk => .inl hk), R3.out⟩
theorem splice_take {α : Type} (L : List α) (p : Nat) (cs : List α) (h : p + cs.length ≤ L.length) : (splice L p cs).take (p + cs.length) = L.take p ++ cs := by
  unfold splice
  have hl : (L.take p ++ cs).length = p + cs.length := by rw [List.length_append, List.length_take]; omega
  rw [← List.append_assoc, ← hl, List.take_left]
theorem splice_two {α : Type} (L : List α) (p : Nat) (cs ds : List α) (h : p + cs.length + ds.length ≤ L.length) : (splice (splice L p cs) (p + cs.length) ds).take (p + cs.length + ds.length) = L.take p ++ cs ++ ds := by
  rw [splice_take _ _ _ (by rw [length_splice _ _ _ (by omega)]; exact h), splice_take _ _ _ (by omega)]
theorem splice_low {α : Type} (L : List α) (p : Nat) (cs ds : List α) (h : p + cs.length + ds.length ≤ L.length) : (splice (splice L (p + cs.length) ds) p cs).take (p + cs.length + ds.length) = L.take p ++ cs ++ ds := by
  have h1 : (splice L (p + cs.length) ds).take p = L.take p := by
    unfold splice
    rw [List.take_append_of_le_length (by rw [List.length_take]; omega), List.take_take, Nat.min_eq_left (by omega)]
  have h2 : (splice L (p + cs.length) ds).drop (p + cs.length) = ds ++ L.drop (p + cs.length + ds.length) := by
    unfold splice
    have hl : (L.take (p + cs.length)).length = p + cs.length := by rw [List.length_take]; omega
    rw [List.drop_append_of_le_length (by omega), List.drop_of_length_le (by omega), List.nil_append]
  have h3 : splice (splice L (p + cs.length) ds) p cs = (L.take p ++ cs ++ ds) ++ L.drop (p + cs.length + ds.length) := by
    rw [splice, h1, h2]; simp
  rw [h3, List.take_append_of_le_length (by simp; omega), List.take_of_length_le (by simp; omega)]
theorem copyInfo : (Tryz.prog.info? 187).map (·.size) = some 2 := by kernel_rfl
set_option maxRecDepth 100000 in
set_option maxHeartbeats 4000000 in
theorem insert_grow (w : World) (g n i : Nat) (xs : List Value) (nb : Nat) (a b : Value) (hown : w.ownsRow 0 187 2 (.slice (some ⟨g, 0, none⟩) n n) n xs) (hnb : w.heap[nb]? = some (.cells #[a, b] 187 (0, 0))) (ha : a.oneCell' = true) (hb : b.oneCell' = true) (hxs : ∀ u ∈ xs, u.oneCell' = true) (hi : i < n) (hn : n ≤ 1048576) :
    Calls Tryz.prog 119 #[.slice (some ⟨g, 0, none⟩) n n, .int .i64 i, .slice (some ⟨nb, 0, none⟩) 1 1] w (MPost w (.slice (some ⟨g, 0, none⟩) n n) (n + 1) (xs.take (i * 2) ++ [a, b] ++ xs.drop (i * 2))) := by
  obtain ⟨i0, hi0, hz0, hz1, hz2⟩ := info_parts Tryz.infoMem
  have Hi := hid hi0; have Hz0 := hid hz0; have Hz1 := hid hz1; have Hz2 := hid hz2
  have HO := hid hown; have HN := hid hnb; have HXS := hid hxs
  have hin : ¬ (i : Int) = n := by omega
  have hin2 : ¬ i = n := by omega
  have hin3 : ¬ n = i := by omega
  have q1 : IntKind.i64.wrap ((n : Int) + 1) = n + 1 := IntWalk.i64_in _ ⟨by omega, by omega⟩
  have q2 : IntKind.i64.wrap ((n : Int) + 1 - i) = ((n + 1 - i : Nat) : Int) := by rw [IntWalk.i64_in _ ⟨by omega, by omega⟩]; omega
  clear hi0 hz0 hz1 hz2 hown hnb hxs
  go_enter Tryz.func119, Tryz.ntmps119
  go_wp2_with (at_builtin; refine wpList_append_make rfl _ _ 182 3 rfl 187 i0 _ 2 32 .i64 .i64 Tryz.underlying182 Tryz.underlying3 Hi.out Hz0.out Hz1.out Hz2.out rfl (by decide) ⟨g, 0, none⟩ i n (xs.take (i * 2)) rfl ?c1 ?c2 (n + 1 - i) (congrArg (Value.int .i64) ?c7) ?c3 ?c4 ?c5 ?c6 ?_)
  case c1 => rw [List.length_take, HO.out.1]; omega
  case c2 =>
    intro j u hj
    have hlt : j < i * 2 := by have := (List.getElem?_eq_some_iff.1 hj).1; rw [List.length_take] at this; omega
    rw [List.getElem?_take, if_pos hlt] at hj
    rw [Addr.add_lit, Nat.zero_add, HO.out.cellAt j (by omega)]
    exact hj
  case c7 => rfl
  case c3 => omega
  case c4 => omega
  case c5 => unfold maxLen; omega
  case c6 => omega
  intro v' w1 r1 hb1
  rw [show i + (n + 1 - i) = n + 1 by omega] at r1
  obtain ⟨hlen, (⟨_, h0⟩ | ⟨g2, cap2, cur, rfl, hg2, hcur, hc2, hm2, hsz, htk⟩)⟩ := r1
  · omega
  unfold maxLen at hm2
  obtain ⟨Lc, rfl⟩ : ∃ Lc : List Value, cur = Lc.toArray := ⟨cur.toList, by simp⟩
  simp only [List.size_toArray] at hsz htk
  have hpre : Lc.take (i * 2) = xs.take (i * 2) := by
    have := congrArg (List.take (i * 2)) htk
    rw [List.take_take, show min (i * 2) ((n + 1) * 2) = i * 2 by omega] at this
    rw [this, List.take_append_of_le_length (by rw [List.length_take, HO.out.1]; omega), List.take_take, Nat.min_self]
  have hgl : g < w.heap.size := (HO.out.lt g rfl).2
  have HP := hid hpre; have HB1 := hid hb1
  have hsz2 : Lc.length = cap2 * 2 := hsz
  have HCUR := hid hcur
  have hc3 : ¬ cap2 = i := by omega
  have hc4 : ¬ cap2 = i + 1 := by omega
  have q3 : IntKind.i64.wrap ((i : Int) + 1) = ((i + 1 : Nat) : Int) := by rw [IntWalk.i64_in _ ⟨by omega, by omega⟩]; omega
  have HSZ := hid hsz2
  clear hpre hb1 hcur hlen htk hsz hsz2 q1 q2
  go_wp2_with (refine wpList_copy_sized rfl _ _ 182 182 rfl 187 2 Tryz.underlying182 copyInfo g2 (i * 2) (n + 1 - i) (cap2 - i) ⟨nb, 0, none⟩ 1 1 rfl rfl Lc 187 HCUR.out 1 [a, b] ?d2 rfl ?d3 ?d4 ?d5 ?_)
  case d2 => show 1 = min 1 (n + 1 - i); omega
  case d3 =>
    intro j u hj
    rw [Addr.add_lit, Nat.zero_add, heap_cell (by rw [HB1.out.block nb (heap_lt HN.out)]; exact HN.out)]
    simpa using hj
  case d4 => have := HSZ.out; simp; omega
  case d5 =>
    intro u hu
    rcases List.mem_cons.1 hu with h | h
    · rw [h]; exact ha
    · rw [List.mem_singleton.1 h]; exact hb
  intro w2 H2 U2
  go_wp2
  refine wp_region_calm_tail 8 (by kernel_rfl) (by kernel_rfl) ?_
  simp only [List.take_succ_cons, List.take_zero, List.drop_succ_cons, List.drop_zero]
  repeat (go_big_quiet_step (fail))
  refine wpQuiet_nil ?_
  intro w3 hb3
  have H3 : w3.heap[g2]? = some (.cells (splice Lc (i * 2) [a, b]).toArray 187 (0, 0)) := by rw [hb3.block g2 (heap_lt H2.out)]; exact H2.out
  have u1 : Upd (fun _ => False) w w1 := Upd.of_below HB1.out
  have u3 : Upd (fun k => k = g2) w w3 := (u1.mono (fun _ _ h => h.elim)).trans' (U2.out.trans' (Upd.of_below hb3))
  have HO3 := ownsRow_upd HO.out u3 (fun b hb e => by simp [Value.ownBlock] at hb; omega)
  have HH3 := hid H3; have HU3 := hid u3; have HHO := hid HO3
  clear H3 u1 u3 HO3 hb3 H2 U2
  refine wpList_copy_sized rfl _ _ 182 182 rfl 187 2 Tryz.underlying182 copyInfo g2 _ _ _ ⟨g, i * 2, none⟩ _ _ rfl rfl (splice Lc (i * 2) [a, b]) 187 HH3.out (n - i) (xs.drop (i * 2)) ?e1 ?e2 ?e3 ?e4 ?e5 ?_
  case e1 => simp; try omega
  case e2 => rw [List.length_drop, HO.out.1]; omega
  case e3 =>
    intro j u hj
    have hlt : i * 2 + j < n * 2 := by have := (List.getElem?_eq_some_iff.1 hj).1; rw [List.length_drop, HO.out.1] at this; omega
    rw [List.getElem?_drop] at hj
    rw [Addr.add_lit, HHO.out.cellAt (i * 2 + j) (by omega)]
    exact hj
  case e4 =>
    have hs := length_splice Lc (i * 2) [a, b] (by have := HSZ.out; simp; omega)
    rw [hs, HSZ.out, List.length_drop, HO.out.1]; omega
  case e5 => intro u hu; exact HXS.out u (List.mem_of_mem_drop hu)
  intro w4 H4 U4
  go_wp2
  go_ret
  have hl : (xs.drop (i * 2)).length = (n - i) * 2 := by rw [List.length_drop, HO.out.1]; omega
  refine ⟨_, rfl, ⟨?_, .inr ⟨g2, cap2, _, rfl, Nat.zero_le _, H4.out, hc2, by unfold maxLen; omega, ?_, ?_⟩⟩, ?_, .inr (fun b hb => ?_)⟩
  · rw [List.length_append, List.length_append, hl, List.length_take, HO.out.1]; simp; omega
  · have h1 := length_splice Lc (i * 2) [a, b] (by have := HSZ.out; simp; omega)
    have h2 := length_splice (splice Lc (i * 2) [a, b]) ((i + 1) * 2) (xs.drop (i * 2)) (by rw [h1, HSZ.out, hl]; omega)
    simp only [List.size_toArray]
    rw [h2, h1, HSZ.out]
  · have h := splice_two Lc (i * 2) [a, b] (xs.drop (i * 2)) (by rw [hl, HSZ.out]; simp; omega)
    rw [HP.out] at h
    rw [← h]
    simp only [hl, List.length_cons, List.length_nil]
    rw [show (n + 1) * 2 = i * 2 + (0 + 1 + 1) + (n - i) * 2 by omega, show (i + 1) * 2 = i * 2 + (0 + 1 + 1) by omega]
  · have u4 := HU3.out.trans' U4.out
    exact ⟨u4.os, u4.tape, u4.output, u4.size, fun k hk hs => u4.block k hk (fun e => by omega)⟩
  · simp [Value.ownBlock] at hb; omega
theorem zMem (w : World) : (Go.sizeOf 187).run Tryz.prog w = .ok 2 w := by
  obtain ⟨i0, hi, hz0, hz1, hz2⟩ := info_parts Tryz.infoMem
  simp [Go.sizeOf, Go.typeInfo, hi, hz1]
set_option maxRecDepth 100000 in
set_option maxHeartbeats 4000000 in
theorem insert_room (w : World) (g n cap i : Nat) (xs : List Value) (nb : Nat) (a b : Value) (hown : w.ownsRow 0 187 2 (.slice (some ⟨g, 0, none⟩) n cap) n xs) (hnb : w.heap[nb]? = some (.cells #[a, b] 187 (0, 0))) (hne : nb ≠ g) (ha : a.oneCell' = true) (hb : b.oneCell' = true) (hxs : ∀ u ∈ xs, u.oneCell' = true) (hi : i < n) (hnc : n < cap) (hn : n ≤ 1048576) :
    Calls Tryz.prog 119 #[.slice (some ⟨g, 0, none⟩) n cap, .int .i64 i, .slice (some ⟨nb, 0, none⟩) 1 1] w (MPost w (.slice (some ⟨g, 0, none⟩) n cap) (n + 1) (xs.take (i * 2) ++ [a, b] ++ xs.drop (i * 2))) := by
  have hown0 := hown
  obtain ⟨hlen, (⟨h0, _⟩ | ⟨g', cap', cur, h0, hg2, hcur, hc2, hm2, hsz, htk⟩)⟩ := hown
  · cases h0
  simp only [Value.slice.injEq, Option.some.injEq, Addr.mk.injEq, true_and, and_true] at h0
  obtain ⟨rfl, rfl⟩ := h0
  unfold maxLen at hm2
  obtain ⟨Lc, rfl⟩ : ∃ Lc : List Value, cur = Lc.toArray := ⟨cur.toList, by simp⟩
  simp only [List.size_toArray] at hsz htk
  have HC := hid hcur; have HN := hid hnb; have HXS := hid hxs; have HT := hid htk; have HSZ := hid hsz; have HLEN := hid hlen
  have hov : ∀ lb cb, (callFunc 145 #[.slice (some ⟨nb, 0, none⟩) 1 1, .slice (some ⟨g, (i + 1) * 2, none⟩) lb cb]).run Tryz.prog w = .ok (.value (.bool false)) w := fun lb cb => by
    rw [run_callFunc_extern Tryz.func145 (by kernel_rfl) (by kernel_rfl) (by kernel_rfl) (e := Extern.SlicesOverlaps.overlaps #[182, 182] #[4]) (by kernel_rfl),
      Lib.run_overlaps_apart w 182 4 187 Tryz.underlying182 2 zMem ⟨nb, 0, none⟩ ⟨g, (i + 1) * 2, none⟩ 1 1 lb cb hne 187 187 2 Lc.length (by simp [World.shape?, HN.out]) (by simp [World.shape?, HC.out]) (by rw [HSZ.out]; omega) (heap_frozen HN.out _) (heap_frozen HN.out _)]
    rfl
  have hin : ¬ (i : Int) = n := by omega
  have hin2 : ¬ i = n := by omega
  have hin3 : ¬ n = i := by omega
  have q1 : IntKind.i64.wrap ((n : Int) + 1) = ((n + 1 : Nat) : Int) := by rw [IntWalk.i64_in _ ⟨by omega, by omega⟩]; omega
  have q3 : IntKind.i64.wrap ((i : Int) + 1) = ((i + 1 : Nat) : Int) := by rw [IntWalk.i64_in _ ⟨by omega, by omega⟩]; omega
  have hc3 : ¬ cap = i := by omega
  have hc4 : ¬ cap = i + 1 := by omega
  have hnc2 : ¬ cap < n + 1 := by omega
  have hnc3 : ¬ (cap : Int) < (n : Int) + 1 := by omega
  clear hnb hxs hcur htk hsz hlen hown0
  go_enter Tryz.func119, Tryz.ntmps119
  go_wp2
  refine wp_region_calm_tail 8 (by kernel_rfl) (by kernel_rfl) ?_
  simp only [List.take_succ_cons, List.take_zero, List.drop_succ_cons, List.drop_zero]
  repeat (go_big_quiet_step (fail))
  refine wpQuiet_nil ?_
  intro w1 hb1
  have C1 : w1.heap[g]? = some (.cells Lc.toArray 187 (0, 0)) := by rw [hb1.block g (heap_lt HC.out)]; exact HC.out
  have N1 : w1.heap[nb]? = some (.cells #[a, b] 187 (0, 0)) := by rw [hb1.block nb (heap_lt HN.out)]; exact HN.out
  have HC1 := hid C1; have HN1 := hid N1; have HB1 := hid hb1
  clear C1 N1 hb1 hov
  have hdrop : ∀ j u, (xs.drop (i * 2))[j]? = some u → Lc[i * 2 + j]? = some u := by
    intro j u hj
    rw [List.getElem?_drop] at hj
    have hlt := (List.getElem?_eq_some_iff.1 hj).1
    rw [HLEN.out] at hlt
    rw [← HT.out, List.getElem?_take, if_pos hlt] at hj
    exact hj
  have HD := hid hdrop
  clear hdrop
  refine wpList_copy_sized rfl _ _ 182 182 rfl 187 2 Tryz.underlying182 copyInfo g _ _ _ ⟨g, i * 2, none⟩ _ _ rfl rfl Lc 187 HC1.out (n - i) (xs.drop (i * 2)) ?e1 ?e2 ?e3 ?e4 ?e5 ?_
  case e1 => simp [Nat.min_def]; try omega
  case e2 => rw [List.length_drop, HLEN.out]; omega
  case e3 =>
    intro j u hj
    rw [Addr.add_lit, heap_cell HC1.out]
    simpa using HD.out j u hj
  case e4 => rw [HSZ.out, List.length_drop, HLEN.out]; omega
  case e5 => intro u hu; exact HXS.out u (List.mem_of_mem_drop hu)
  intro w2 H2 U2
  have N2 : w2.heap[nb]? = some (.cells #[a, b] 187 (0, 0)) := U2.out.heap_some HN1.out hne
  have HN2 := hid N2
  clear N2
  go_wp2_with (refine wpList_copy_sized rfl _ _ 182 182 rfl 187 2 Tryz.underlying182 copyInfo g (i * 2) _ _ ⟨nb, 0, none⟩ 1 1 rfl rfl (splice Lc ((i + 1) * 2) (xs.drop (i * 2))) 187 H2.out 1 [a, b] ?d2 rfl ?d3 ?d4 ?d5 ?_)
  case d2 => simp [Nat.min_def]; try omega
  case d3 =>
    intro j u hj
    rw [Addr.add_lit, Nat.zero_add, heap_cell HN2.out]
    simpa using hj
  case d4 =>
    rw [length_splice _ _ _ (by rw [HSZ.out, List.length_drop, HLEN.out]; omega), HSZ.out]; simp; omega
  case d5 =>
    intro u hu
    rcases List.mem_cons.1 hu with h | h
    · rw [h]; exact ha
    · rw [List.mem_singleton.1 h]; exact hb
  intro w3 H3 U3
  go_wp2
  go_ret
  have hl : (xs.drop (i * 2)).length = (n - i) * 2 := by rw [List.length_drop, HLEN.out]; omega
  have hp : Lc.take (i * 2) = xs.take (i * 2) := by
    have := congrArg (List.take (i * 2)) HT.out
    rwa [List.take_take, show min (i * 2) (n * 2) = i * 2 by omega] at this
  refine ⟨_, rfl, ⟨?_, .inr ⟨g, cap, _, rfl, Nat.zero_le _, H3.out, by omega, by unfold maxLen; omega, ?_, ?_⟩⟩, ?_, .inl rfl⟩
  · rw [List.length_append, List.length_append, hl, List.length_take, HLEN.out]; simp; omega
  · have h1 := length_splice Lc ((i + 1) * 2) (xs.drop (i * 2)) (by rw [HSZ.out, hl]; omega)
    have h2 := length_splice (splice Lc ((i + 1) * 2) (xs.drop (i * 2))) (i * 2) [a, b] (by rw [h1, HSZ.out]; simp; omega)
    simp only [List.size_toArray]
    rw [h2, h1, HSZ.out]
  · have h := splice_low Lc (i * 2) [a, b] (xs.drop (i * 2)) (by rw [hl, HSZ.out]; simp; omega)
    rw [hp] at h
    rw [← h]
    simp only [hl, List.length_cons, List.length_nil]
    rw [show (n + 1) * 2 = i * 2 + (0 + 1 + 1) + (n - i) * 2 by omega, show (i + 1) * 2 = i * 2 + (0 + 1 + 1) by omega]
  · have u : Upd (fun k => k = g) w w3 := ((Upd.of_below HB1.out).trans' U2.out).trans' U3.out
    exact u.mono (fun k _ e => by rw [e]; rfl)
theorem insert_at (w : World) (v : Value) (n i : Nat) (xs : List Value) (nb : Nat) (a b : Value) (hown : w.ownsRow 0 187 2 v n xs) (hnb : w.heap[nb]? = some (.cells #[a, b] 187 (0, 0))) (hne : ∀ g, v.ownBlock = some g → nb ≠ g) (ha : a.oneCell' = true) (hb : b.oneCell' = true) (hxs : ∀ u ∈ xs, u.oneCell' = true) (hi : i ≤ n) (hn : n ≤ 1048576) :
    Calls Tryz.prog 119 #[v, .int .i64 i, .slice (some ⟨nb, 0, none⟩) 1 1] w (MPost w v (n + 1) (xs.take (i * 2) ++ [a, b] ++ xs.drop (i * 2))) := by
  by_cases h : i = n
  · subst h
    have e : xs.take (i * 2) ++ [a, b] ++ xs.drop (i * 2) = xs ++ [a, b] := by
      rw [List.take_of_length_le (by rw [hown.1]; exact Nat.le_refl _), List.drop_of_length_le (by rw [hown.1]; exact Nat.le_refl _), List.append_nil]
    rw [e]
    exact insert_end w v i xs nb a b hown hnb ha hb hn
  · obtain ⟨g, cap, cur, rfl, _, hc, _, _⟩ := ownsRow_some hown (by omega)
    by_cases h2 : cap = n
    · subst h2
      exact insert_grow w g cap i xs nb a b hown hnb ha hb hxs (by omega) hn
    · exact insert_room w g n cap i xs nb a b hown hnb (hne g rfl) ha hb hxs (by omega) (by omega) hn
theorem zeroMem (w : World) : (zeroValue 187).run Tryz.prog w = .ok (.agg #[.int .i64 0, .slice none 0 0]) w := by
  obtain ⟨i0, hi, hz0, hz1, hz2⟩ := info_parts Tryz.infoMem
  simp [zeroValue, Go.typeInfo, hi, hz0]
theorem zc1 : (Builtin.zeroCells (Value.agg #[.int .i64 0, .slice none 0 0]).cells 1).toList = [.int .i64 0, .slice none 0 0] := by kernel_rfl
set_option maxRecDepth 100000 in
set_option maxHeartbeats 4000000 in
theorem delete_at (w : World) (g n cap i : Nat) (xs : List Value) (hown : w.ownsRow 0 187 2 (.slice (some ⟨g, 0, none⟩) n cap) n xs) (hxs : ∀ u ∈ xs, u.oneCell' = true) (hi : i < n) (hn : n ≤ 1048576) :
    Calls Tryz.prog 125 #[.slice (some ⟨g, 0, none⟩) n cap, .int .i64 i, .int .i64 ((i + 1 : Nat) : Int)] w (MPost w (.slice (some ⟨g, 0, none⟩) n cap) (n - 1) (xs.take (i * 2) ++ xs.drop ((i + 1) * 2))) := by
  obtain ⟨i0, hi0, hz0, hz1, hz2⟩ := info_parts Tryz.infoMem
  have Hi := hid hi0; have Hz1 := hid hz1
  have HLEN := hid hown.1
  obtain ⟨g', cap', cur', h0, _, hc1, hc2, _⟩ := ownsRow_some hown (by omega)
  simp only [Value.slice.injEq, Option.some.injEq, Addr.mk.injEq, true_and, and_true] at h0
  obtain ⟨rfl, rfl⟩ := h0
  unfold maxLen at hc2
  have HO := hid hown; have HXS := hid hxs
  have hci : ¬ cap = i := by omega
  have hii : ¬ (i : Int) = (i : Int) + 1 := by omega
  clear hi0 hz0 hz1 hz2 hown hxs
  by_cases hcj : cap = i + 1
  · obtain rfl : n = i + 1 := by omega
    subst hcj
    go_enter Tryz.func125, Tryz.ntmps125
    go_wp2
    refine wp_region_calm_tail 6 (by kernel_rfl) (by kernel_rfl) ?_
    simp only [List.take_succ_cons, List.take_zero, List.drop_succ_cons, List.drop_zero]
    repeat (go_big_quiet_step (fail))
    refine wpQuiet_nil ?_
    intro w1 hb1
    have R1 := ownsRow_upd (S := fun _ => False) HO.out (Upd.of_below hb1) (fun _ _ h => h)
    have RT := ownsRow_take R1 i (by omega)
    have HR1 := hid R1; have HRT := hid RT; have HB1 := hid hb1
    clear R1 RT hb1
    refine wpList_append_fits_any _ rfl _ _ 182 rfl 0 187 i0 2 Tryz.underlying182 Hi.out Hz1.out g i (i + 1) (xs.take (i * 2)) rfl HRT.out _ _ _ (xs.drop ((i + 1) * 2)) rfl ?e1 ?e2 ?e3 ?e4 ?e5 ?_
    case e1 => rw [List.length_drop, HLEN.out]; omega
    case e2 => intro h; cases h
    case e3 =>
      intro ad had j u hj
      have hlt : (i + 1) * 2 + j < (i + 1) * 2 := by have := (List.getElem?_eq_some_iff.1 hj).1; rw [List.length_drop, HLEN.out] at this; omega
      omega
    case e4 => intro u hu; exact HXS.out u (List.mem_of_mem_drop hu)
    case e5 => omega
    intro w2 r2 g2
    rw [Nat.add_zero] at r2 ⊢
    have hl2 : (xs.take (i * 2) ++ xs.drop ((i + 1) * 2)).length = i * 2 := by rw [List.length_append, List.length_take, List.length_drop, HLEN.out]; omega
    obtain ⟨_, (⟨h0, _⟩ | ⟨g', cap', cur, h0, hg2, hcur, hc2, hm2, hsz, htk⟩)⟩ := r2
    · cases h0
    simp only [Value.slice.injEq, Option.some.injEq, Addr.mk.injEq, true_and, and_true] at h0
    obtain ⟨rfl, rfl⟩ := h0
    obtain ⟨Lc, rfl⟩ : ∃ Lc : List Value, cur = Lc.toArray := ⟨cur.toList, by simp⟩
    simp only [List.size_toArray] at hsz htk
    have HC := hid hcur; have HT := hid htk; have HSZ := hid hsz; have HG := hid g2; have HL2 := hid hl2
    have hcn : ¬ i + 1 = i := by omega
    have hn1 : i + 1 - i = 1 := by omega
    clear hcur htk hsz g2 hl2
    go_wp2_with (refine wpList_clear_row rfl _ 182 rfl 187 (.agg #[.int .i64 0, .slice none 0 0]) Tryz.underlying182 zeroMem g (i * 2) 1 _ rfl Lc 187 HC.out [.int .i64 0, .slice none 0 0] zc1 ?f1 ?f2 ?f3 ?_)
    case f1 => have := HSZ.out; simp; omega
    case f2 => intro u hu; simp at hu; rcases hu with h | h <;> (rw [h]; rfl)
    case f3 => intro h; cases h
    intro w3 H3 U3
    go_wp2
    go_ret
    refine ⟨_, rfl, ⟨HL2.out, .inr ⟨g, i + 1, _, rfl, Nat.zero_le _, H3.out, by omega, by unfold maxLen; omega, ?_, ?_⟩⟩, ?_, .inl rfl⟩
    · simp only [List.size_toArray]
      rw [length_splice _ _ _ (by have := HSZ.out; simp; omega), HSZ.out]
    · rw [← HT.out]
      simp only
      unfold splice
      rw [List.take_append_of_le_length (by rw [List.length_take]; have := HSZ.out; omega), List.take_take]
      congr 1; omega
    · have u : Upd (fun k => k = g) w w3 := ((Upd.of_below HB1.out).grown HG.out (fun k hk => .inl (by cases hk; rfl))).trans' U3.out
      exact u.mono (fun k _ e => by rw [e]; rfl)
  ·
    go_enter Tryz.func125, Tryz.ntmps125
    go_wp2
    refine wp_region_calm_tail 6 (by kernel_rfl) (by kernel_rfl) ?_
    simp only [List.take_succ_cons, List.take_zero, List.drop_succ_cons, List.drop_zero]
    repeat (go_big_quiet_step (fail))
    refine wpQuiet_nil ?_
    intro w1 hb1
    have R1 := ownsRow_upd (S := fun _ => False) HO.out (Upd.of_below hb1) (fun _ _ h => h)
    have RT := ownsRow_take R1 i (by omega)
    have HR1 := hid R1; have HRT := hid RT; have HB1 := hid hb1
    clear R1 RT hb1
    refine wpList_append_fits_any _ rfl _ _ 182 rfl 0 187 i0 2 Tryz.underlying182 Hi.out Hz1.out g i cap (xs.take (i * 2)) rfl HRT.out _ (n - (i + 1)) _ (xs.drop ((i + 1) * 2)) rfl ?e1 ?e2 ?e3 ?e4 ?e5 ?_
    case e1 => rw [List.length_drop, HLEN.out]; omega
    case e2 => intro h; cases h
    case e3 =>
      intro ad had j u hj
      have hlt : (i + 1) * 2 + j < n * 2 := by have := (List.getElem?_eq_some_iff.1 hj).1; rw [List.length_drop, HLEN.out] at this; omega
      cases had
      rw [List.getElem?_drop] at hj
      rw [Addr.add_lit, HR1.out.cellAt ((i + 1) * 2 + j) (by omega)]
      exact hj
    case e4 => intro u hu; exact HXS.out u (List.mem_of_mem_drop hu)
    case e5 => omega
    intro w2 r2 g2
    rw [show i + (n - (i + 1)) = n - 1 by omega] at r2 ⊢
    have hl2 : (xs.take (i * 2) ++ xs.drop ((i + 1) * 2)).length = (n - 1) * 2 := by rw [List.length_append, List.length_take, List.length_drop, HLEN.out]; omega
    obtain ⟨_, (⟨h0, _⟩ | ⟨g', cap', cur, h0, hg2, hcur, hc2, hm2, hsz, htk⟩)⟩ := r2
    · cases h0
    simp only [Value.slice.injEq, Option.some.injEq, Addr.mk.injEq, true_and, and_true] at h0
    obtain ⟨rfl, rfl⟩ := h0
    obtain ⟨Lc, rfl⟩ : ∃ Lc : List Value, cur = Lc.toArray := ⟨cur.toList, by simp⟩
    simp only [List.size_toArray] at hsz htk
    have HC := hid hcur; have HT := hid htk; have HSZ := hid hsz; have HG := hid g2; have HL2 := hid hl2
    have w3 : IntKind.i64.wrap ((n : Int) - 1) = ((n - 1 : Nat) : Int) := by rw [IntWalk.i64_in _ ⟨by omega, by omega⟩]; omega
    have hcn : ¬ cap = n - 1 := by omega
    have hn1 : n - (n - 1) = 1 := by omega
    clear hcur htk hsz g2 hl2
    go_wp2_with (refine wpList_clear_row rfl _ 182 rfl 187 (.agg #[.int .i64 0, .slice none 0 0]) Tryz.underlying182 zeroMem g ((n - 1) * 2) 1 _ rfl Lc 187 HC.out [.int .i64 0, .slice none 0 0] zc1 ?f1 ?f2 ?f3 ?_)
    case f1 => have := HSZ.out; simp; omega
    case f2 => intro u hu; simp at hu; rcases hu with h | h <;> (rw [h]; rfl)
    case f3 => intro h; cases h
    intro w3 H3 U3
    go_wp2
    go_ret
    refine ⟨_, rfl, ⟨HL2.out, .inr ⟨g, cap, _, rfl, Nat.zero_le _, H3.out, by omega, by unfold maxLen; omega, ?_, ?_⟩⟩, ?_, .inl rfl⟩
    · simp only [List.size_toArray]
      rw [length_splice _ _ _ (by have := HSZ.out; simp; omega), HSZ.out]
    · rw [← HT.out]
      simp only
      unfold splice
      rw [List.take_append_of_le_length (by rw [List.length_take]; have := HSZ.out; omega), List.take_take]
      congr 1; omega
    · have u : Upd (fun k => k = g) w w3 := ((Upd.of_below HB1.out).grown HG.out (fun k hk => .inl (by cases hk; rfl))).trans' U3.out
      exact u.mono (fun k _ e => by rw [e]; rfl)
end
section
open Go.RowKit
theorem row_block {w : World} {base : Nat} {e : TypeId} {size : Nat} {v : Value} {n : Nat} {xs : List Value} (h : w.ownsRow base e size v n xs) {b : Nat} (hb : v.ownBlock = some b) : ∃ cur, w.heap[b]? = some (.cells cur e (0, 0)) := by
  obtain ⟨_, (⟨rfl, _⟩ | ⟨g, cap, cur, rfl, _, hr, _⟩)⟩ := h
  · cases hb
  · simp [Value.ownBlock] at hb; subst hb; exact ⟨cur, hr⟩
theorem rows_ne {w : World} {b1 b2 : Nat} {e1 e2 : TypeId} {s1 s2 : Nat} {v1 v2 : Value} {n1 n2 : Nat} {x1 x2 : List Value} (h1 : w.ownsRow b1 e1 s1 v1 n1 x1) (h2 : w.ownsRow b2 e2 s2 v2 n2 x2) (ht : e1 ≠ e2) {b : Nat} (hb : v1.ownBlock = some b) : ¬ v2.ownBlock = some b := fun hc => by
  obtain ⟨c1, k1⟩ := row_block h1 hb
  obtain ⟨c2, k2⟩ := row_block h2 hc
  rw [k1] at k2; simp at k2; exact ht k2.2
theorem LsAt.renew {SL : Nat → Prop} {w w' : World} {lv : Value} {L : List (Value × List (Ent Value))} {T K : Nat → Nat} (h : LsAt SL w lv L T K) {ws : List Nat} {F : Nat → Nat → Prop} (ok : ListsOk (L.map (·.2)) ws F)
    {k s : Nat} {l1 old l2 : List (Ent Value)} {mv : Value} (hk : L[k]? = some (mv, l1 ++ old ++ l2)) (hks : Nat.log2 s = k) (hold : old = [] ∨ ∃ e, old = [e] ∧ e.s = s) (p : ∀ e ∈ l1, e.s < s) (q : ∀ e ∈ l2, s < e.s)
    (ov : Option Nat) (hov : ∀ b, ov = some b → ∃ e ∈ old, e.v.ownBlock = some b) (wb : Nat) {wcur : Array Value} (hwb : w.heap[wb]? = some (.cells wcur 56 (0, 0)))
    (u : Upd (fun b => b = wb ∨ mv.ownBlock = some b ∨ ov = some b ∨ lv.ownBlock = some b) w w')
    (new : List (Ent Value)) (hnew : ∀ e ∈ new, e.s = s ∧ w'.ownsRow 0 3 1 e.v e.h.length (ints e.h) ∧ (e.v.ownBlock = ov ∨ ∀ b, e.v.ownBlock = some b → w.heap.size ≤ b))
    (mv' : Value) (hm : w'.ownsRow 0 187 2 mv' (l1 ++ new ++ l2).length (flatE (l1 ++ new ++ l2))) (hmm : mv'.ownBlock = mv.ownBlock ∨ ∀ b, mv'.ownBlock = some b → w.heap.size ≤ b)
    (hl : w'.ownsRow 0 182 1 lv L.length ((L.set k (mv', l1 ++ new ++ l2)).map (·.1))) (hsz : ∀ b, SL b → b < w.heap.size) :
    ∃ SL' T' K', LsAt SL' w' lv (L.set k (mv', l1 ++ new ++ l2)) T' K' ∧ Fresh SL w SL' ∧ ∀ b, SL' b → b < w'.heap.size := by
  have hkl : k < L.length := (List.getElem?_eq_some_iff.1 hk).1
  have okk : ∀ (j : Nat) (pr : Value × List (Ent Value)), L[j]? = some pr → ∀ e ∈ pr.2, Nat.log2 e.s = j := fun j pr hj e he => (ok.pos j pr.2 (by rw [List.getElem?_map, hj]; rfl) e he).2.1
  have hmv := h.mrow k _ hk
  have hlw := h.row
  have holdrow : ∀ b, ov = some b → ∃ e ∈ l1 ++ old ++ l2, e.s = s ∧ e.v.ownBlock = some b := fun b hb => by
    obtain ⟨e, he, hb'⟩ := hov b hb
    refine ⟨e, by simp [he], ?_, hb'⟩
    rcases hold with rfl | ⟨e0, rfl, hs⟩
    · simp at he
    · rw [List.mem_singleton.1 he]; exact hs
  -- a row of addresses of another size is none of those that turned
  have keepH : ∀ (j : Nat) (pr : Value × List (Ent Value)), L[j]? = some pr → ∀ e ∈ pr.2, e.s ≠ s → ∀ b, e.v.ownBlock = some b → ¬ (b = wb ∨ mv.ownBlock = some b ∨ ov = some b ∨ lv.ownBlock = some b) := by
    intro j pr hj e he hs b hb hc
    have hr := h.hrow j pr hj e he
    rcases hc with rfl | hc | hc | hc
    · obtain ⟨cur, hcur⟩ := row_block hr hb
      rw [hwb] at hcur; simp at hcur
    · exact rows_ne hr hmv (by decide) hb hc
    · obtain ⟨e0, he0, hs0, hb0⟩ := holdrow b hc
      have a1 := (h.hown j pr hj e he b hb).2
      have a2 := (h.hown k _ hk e0 he0 b hb0).2
      exact hs (by rw [← a1, a2, hs0])
    · exact rows_ne hr hlw (by decide) hb hc
  have keepM : ∀ (j : Nat) (pr : Value × List (Ent Value)), L[j]? = some pr → j ≠ k → ∀ b, pr.1.ownBlock = some b → ¬ (b = wb ∨ mv.ownBlock = some b ∨ ov = some b ∨ lv.ownBlock = some b) := by
    intro j pr hj hjk b hb hc
    have hr := h.mrow j pr hj
    rcases hc with rfl | hc | hc | hc
    · obtain ⟨cur, hcur⟩ := row_block hr hb
      rw [hwb] at hcur; simp at hcur
    · have a1 := (h.mown j pr hj b hb).2
      have a2 := (h.mown k _ hk b hc).2
      exact hjk (by rw [← a1, a2])
    · obtain ⟨e0, he0, _, hb0⟩ := holdrow b hc
      exact rows_ne hr (h.hrow k _ hk e0 he0) (by decide) hb hb0
    · exact rows_ne hr hlw (by decide) hb hc
  have inner : ∀ e ∈ l1 ++ new ++ l2, e ∈ new ∨ (e ∈ l1 ++ old ++ l2 ∧ e.s ≠ s) := fun e he => by
    rcases List.mem_append.1 he with he | he
    · rcases List.mem_append.1 he with he | he
      · exact .inr ⟨by simp [he], by have := p e he; omega⟩
      · exact .inl he
    · exact .inr ⟨by simp [he], by have := q e he; omega⟩
  have newB : ∀ e ∈ new, ∀ b, e.v.ownBlock = some b → (SL b ∧ T b = s) ∨ w.heap.size ≤ b := fun e he b hb => by
    rcases (hnew e he).2.2 with h1 | h1
    · rw [h1] at hb
      obtain ⟨e0, he0, hs0, hb0⟩ := holdrow b hb
      have := h.hown k _ hk e0 he0 b hb0
      exact .inl ⟨this.1, by rw [this.2, hs0]⟩
    · exact .inr (h1 b hb)
  have mvB : ∀ b, mv'.ownBlock = some b → (SL b ∧ K b = k) ∨ w.heap.size ≤ b := fun b hb => by
    rcases hmm with h1 | h1
    · rw [h1] at hb; exact .inl (h.mown k _ hk b hb)
    · exact .inr (h1 b hb)
  classical
  refine ⟨fun b => SL b ∨ mv'.ownBlock = some b ∨ ∃ e ∈ new, e.v.ownBlock = some b, fun b => if ∃ e ∈ new, e.v.ownBlock = some b then s else T b, fun b => if mv'.ownBlock = some b then k else K b, ⟨?_, ?_, ?_, ?_, ?_, ?_⟩, ?_, ?_⟩
  · rw [List.length_set]; exact hl
  · exact fun b hb => .inl (h.own b hb)
  · intro j pr hj
    rcases getElem?_set_some hkl hj with ⟨rfl, rfl⟩ | ⟨hjk, hj⟩
    · exact hm
    · exact ownsRow_upd (h.mrow j pr hj) u (keepM j pr hj hjk)
  · intro j pr hj b hb
    rcases getElem?_set_some hkl hj with ⟨rfl, rfl⟩ | ⟨hjk, hj⟩
    · exact ⟨.inr (.inl hb), if_pos hb⟩
    · have hb2 := h.mown j pr hj b hb
      refine ⟨.inl hb2.1, ?_⟩
      rw [if_neg (fun hc => ?_)]
      · exact hb2.2
      · rcases mvB b hc with ⟨_, h2⟩ | h2
        · exact hjk (by rw [← hb2.2, h2])
        · have := hsz b hb2.1; omega
  · intro j pr hj e he
    rcases getElem?_set_some hkl hj with ⟨rfl, rfl⟩ | ⟨hjk, hj⟩
    · rcases inner e he with h1 | ⟨h1, h2⟩
      · exact (hnew e h1).2.1
      · exact ownsRow_upd (h.hrow _ _ hk e h1) u (keepH _ _ hk e h1 h2)
    · exact ownsRow_upd (h.hrow j pr hj e he) u (keepH j pr hj e he (fun hs => hjk (by rw [← okk j pr hj e he, hs, hks])))
  · intro j pr hj e he b hb
    have gen : ∀ (j : Nat) (pr : Value × List (Ent Value)), L[j]? = some pr → ∀ e ∈ pr.2, e.s ≠ s → ∀ b, e.v.ownBlock = some b → (SL b ∨ mv'.ownBlock = some b ∨ ∃ e ∈ new, e.v.ownBlock = some b) ∧ (if ∃ e ∈ new, e.v.ownBlock = some b then s else T b) = e.s := by
      intro j pr hj e he hs b hb
      have hb2 := h.hown j pr hj e he b hb
      refine ⟨.inl hb2.1, ?_⟩
      rw [if_neg (fun hc => ?_)]
      · exact hb2.2
      · obtain ⟨e0, he0, hb0⟩ := hc
        rcases newB e0 he0 b hb0 with ⟨_, h2⟩ | h2
        · exact hs (by rw [← hb2.2, h2])
        · have := hsz b hb2.1; omega
    rcases getElem?_set_some hkl hj with ⟨rfl, rfl⟩ | ⟨hjk, hj⟩
    · rcases inner e he with h1 | ⟨h1, h2⟩
      · refine ⟨.inr (.inr ⟨e, h1, hb⟩), ?_⟩
        rw [if_pos ⟨e, h1, hb⟩, (hnew e h1).1]
      · exact gen _ _ hk e h1 h2 b hb
    · exact gen j pr hj e he (fun hs => hjk (by rw [← okk j pr hj e he, hs, hks])) b hb
  · rintro b (hb | hb | ⟨e, he, hb⟩)
    · exact .inl hb
    · rcases mvB b hb with h1 | h1
      · exact .inl h1.1
      · exact .inr h1
    · rcases newB e he b hb with h1 | h1
      · exact .inl h1.1
      · exact .inr h1
  · rintro b (hb | hb | ⟨e, he, hb⟩)
    · exact Nat.lt_of_lt_of_le (hsz b hb) u.size
    · exact (hm.lt b hb).2
    · exact ((hnew e he).2.1.lt b hb).2
end
section
open Go.RowKit
theorem HV.drewN {w : World} {p wb hb m mc n nc : Nat} {h ws : List Nat} (k : HV w p wb hb m mc n nc h ws) (q : Nat) : HV (w.drewN q) p wb hb m mc n nc h ws := ⟨k.fld, k.wrow, k.hrow, k.pw, k.ph, k.wh, k.small, k.w64⟩
set_option maxHeartbeats 2000000 in
theorem fall_at (w : World) (p wb hb m mc n nc : Nat) (h ws : List Nat) (k : HV w p wb hb m mc n nc h ws) (i : Nat) (hi : i < n) (hn : n ≤ 2000000) (hall : ∀ j, j < n → h.getD j 0 < m) :
    Calls Tryz.prog 126 #[.pointer (some ⟨p, 0, none⟩), .slice (some ⟨hb, 0, none⟩) n nc, .int .i64 i] w (RisePost w p wb hb m mc n nc (fallP (h.getD i 0) i h ws)) := by
  obtain ⟨R, hR⟩ : ∃ R, fallP (h.getD i 0) i h ws = R := ⟨_, rfl⟩
  rw [hR]
  obtain ⟨x, hx⟩ : ∃ x, h.getD i 0 = x := ⟨_, rfl⟩
  have hxm := hall i hi
  rw [hx] at hR hxm
  obtain ⟨e1, e2⟩ := k.m_eq
  have c0 := k.hrow.cellAt i (by omega)
  rw [ints_at (by omega), hx] at c0
  have K := hid k; have HR := hid hR; have HA := hid hall
  clear k hR hall hx e1 e2
  go_enter Tryz.func126, Tryz.ntmps126
  go_wp2
  go_loopw [2, 7] (fun t2 t7 wr => ∃ (i' : Nat) (h' ws' : List Nat), i' < n ∧ t2 = .int .i64 i' ∧ fallP x i' h' ws' = R ∧ (∀ j, j < n → h'.getD j 0 < m) ∧ HV wr p wb hb m mc n nc h' ws' ∧ Upd (fun b => b = hb ∨ b = wb) w wr) (fun t2 t7 _ => n - (intOf t2).toNat)
  case atStart => exact ⟨i, h, ws, hi, rfl, HR.out, HA.out, K.out, Upd.refl _ _⟩
  case round =>
    obtain ⟨i', h', ws', hi', rfl, hr, ha, hv, hu⟩ := hrel
    have hlen : h'.length = n := hv.m_eq.2
    have HR1 := hid hr; have HA1 := hid ha; have HV1 := hid hv; have HU := hid hu; have HL := hid hlen
    have hfold : fallP x i' h' ws' = if leastP i' h' < n ∧ h'.getD (leastP i' h') 0 ≤ x then fallP x (leastP i' h') (h'.set i' (h'.getD (leastP i' h') 0)) (stamp ws' (h'.getD (leastP i' h') 0) i') else (h'.set i' x, stamp ws' x i') := by
      rw [fallP, hlen]; split <;> rfl
    have HF := hid hfold
    have q3 : IntKind.i64.wrap (2 * (i' : Int) + 1 + 1) = 2 * (i' : Int) + 2 := by rw [IntWalk.i64_in _ ⟨by omega, by omega⟩]; omega
    clear hr ha hv hu hfold hlen
    by_cases h2 : 2 * i' + 2 < n
    · obtain ⟨y1, hy1⟩ : ∃ y, h'.getD (2 * i' + 1) 0 = y := ⟨_, rfl⟩
      have c1 := HV1.out.hrow.cellAt (2 * i' + 1) (by omega)
      rw [ints_at (by have := HL.out; omega), hy1] at c1
      have m1 := HA1.out (2 * i' + 1) (by omega)
      rw [hy1] at m1
      have HY1 := hid hy1
      clear hy1
      obtain ⟨y2, hy2⟩ : ∃ y, h'.getD (2 * i' + 2) 0 = y := ⟨_, rfl⟩
      have c2 := HV1.out.hrow.cellAt (2 * i' + 2) (by omega)
      rw [ints_at (by have := HL.out; omega), hy2] at c2
      have m2 := HA1.out (2 * i' + 2) (by omega)
      rw [hy2] at m2
      have HY2 := hid hy2
      clear hy2
      have d1 : decide (2 * (i' : Int) + 2 < (n : Int)) = true := decide_eq_true (by omega)
      by_cases h12 : y2 < y1
      · have d2 : decide ((y2 : Int) < (y1 : Int)) = true := by simpa using h12
        have hlp : leastP i' h' = 2 * i' + 2 := by unfold leastP; rw [if_pos ⟨by have := HL.out; omega, by rw [HY1.out, HY2.out]; exact h12⟩]
        have HLP := hid hlp
        clear hlp
        have d5 : ¬ (n : Int) ≤ 2 * (i' : Int) + 2 := by omega
        by_cases hg : x < y2
        · have d3 : (x : Int) < y2 := by omega
          have hstop : fallP x i' h' ws' = (h'.set i' x, stamp ws' x i') := by
            rw [HF.out, HLP.out, if_neg (fun q => by have := q.2; rw [HY2.out] at this; omega)]
          have HST := hid hstop
          clear hstop
          go_wp2
          go_quiet (fail)
          go_wp2_with fail
          refine (put_at _ p wb hb m mc n nc h' ws' (HV1.out.drewN _) i' x hi' hxm hn).mono ?_
          rintro e w2 ⟨rfl, hv2, hu2⟩
          have HV2 := hid hv2; have HU2 := hid ((HU.out.drewN _).trans' hu2)
          clear hv2 hu2
          go_wp2
          refine bodyPost_end (v := .tuple #[]) (results_none rfl _ _ _) rfl ⟨rfl, ?_, HU2.out⟩
          rw [← HR1.out, HST.out]; exact HV2.out
        · have d3 : ¬ (x : Int) < y2 := by omega
          have hgo : fallP x i' h' ws' = fallP x (2 * i' + 2) (h'.set i' y2) (stamp ws' y2 i') := by
            rw [HF.out, HLP.out, HY2.out, if_pos ⟨by omega, by omega⟩]
          have HG := hid hgo
          clear hgo
          go_wp2
          go_quiet (fail)
          go_wp2_with fail
          refine (put_at _ p wb hb m mc n nc h' ws' (HV1.out.drewN _) i' y2 hi' m2 hn).mono ?_
          rintro e w2 ⟨rfl, hv2, hu2⟩
          have HV2 := hid hv2; have HU2 := hid ((HU.out.drewN _).trans' hu2)
          clear hv2 hu2
          go_wp2
          go_roundw
          case rel => exact ⟨2 * i' + 2, _, _, by omega, rfl, by rw [← HG.out]; exact HR1.out, fun j hj => by rw [getD_set _ _ _ _ (by have := HL.out; omega)]; split; exact m2; exact HA1.out j hj, HV2.out, HU2.out⟩
          case measure => simp [intOf]; omega
      · have d2 : decide ((y2 : Int) < (y1 : Int)) = false := by simpa using h12
        have hlp : leastP i' h' = 2 * i' + 1 := by unfold leastP; rw [if_neg (fun q => h12 (by have := q.2; rwa [HY1.out, HY2.out] at this))]
        have HLP := hid hlp
        clear hlp
        have d5 : ¬ (n : Int) ≤ 2 * (i' : Int) + 1 := by omega
        by_cases hg : x < y1
        · have d3 : (x : Int) < y1 := by omega
          have hstop : fallP x i' h' ws' = (h'.set i' x, stamp ws' x i') := by
            rw [HF.out, HLP.out, if_neg (fun q => by have := q.2; rw [HY1.out] at this; omega)]
          have HST := hid hstop
          clear hstop
          go_wp2
          go_quiet (fail)
          go_wp2_with fail
          refine (put_at _ p wb hb m mc n nc h' ws' (HV1.out.drewN _) i' x hi' hxm hn).mono ?_
          rintro e w2 ⟨rfl, hv2, hu2⟩
          have HV2 := hid hv2; have HU2 := hid ((HU.out.drewN _).trans' hu2)
          clear hv2 hu2
          go_wp2
          refine bodyPost_end (v := .tuple #[]) (results_none rfl _ _ _) rfl ⟨rfl, ?_, HU2.out⟩
          rw [← HR1.out, HST.out]; exact HV2.out
        · have d3 : ¬ (x : Int) < y1 := by omega
          have hgo : fallP x i' h' ws' = fallP x (2 * i' + 1) (h'.set i' y1) (stamp ws' y1 i') := by
            rw [HF.out, HLP.out, HY1.out, if_pos ⟨by omega, by omega⟩]
          have HG := hid hgo
          clear hgo
          go_wp2
          go_quiet (fail)
          go_wp2_with fail
          refine (put_at _ p wb hb m mc n nc h' ws' (HV1.out.drewN _) i' y1 hi' m1 hn).mono ?_
          rintro e w2 ⟨rfl, hv2, hu2⟩
          have HV2 := hid hv2; have HU2 := hid ((HU.out.drewN _).trans' hu2)
          clear hv2 hu2
          go_wp2
          go_roundw
          case rel => exact ⟨2 * i' + 1, _, _, by omega, rfl, by rw [← HG.out]; exact HR1.out, fun j hj => by rw [getD_set _ _ _ _ (by have := HL.out; omega)]; split; exact m1; exact HA1.out j hj, HV2.out, HU2.out⟩
          case measure => simp [intOf]; omega
    · have d1 : decide (2 * (i' : Int) + 2 < (n : Int)) = false := decide_eq_false (by omega)
      have hlp : leastP i' h' = 2 * i' + 1 := by unfold leastP; rw [if_neg (fun q => h2 (by have := HL.out; omega))]
      have HLP := hid hlp
      clear hlp
      by_cases h1 : 2 * i' + 1 < n
      · obtain ⟨y1, hy1⟩ : ∃ y, h'.getD (2 * i' + 1) 0 = y := ⟨_, rfl⟩
        have c1 := HV1.out.hrow.cellAt (2 * i' + 1) (by omega)
        rw [ints_at (by have := HL.out; omega), hy1] at c1
        have m1 := HA1.out (2 * i' + 1) (by omega)
        rw [hy1] at m1
        have HY1 := hid hy1
        clear hy1
        have d5 : ¬ (n : Int) ≤ 2 * (i' : Int) + 1 := by omega
        by_cases hg : x < y1
        · have d3 : (x : Int) < y1 := by omega
          have hstop : fallP x i' h' ws' = (h'.set i' x, stamp ws' x i') := by
            rw [HF.out, HLP.out, if_neg (fun q => by have := q.2; rw [HY1.out] at this; omega)]
          have HST := hid hstop
          clear hstop
          go_wp2
          go_quiet (fail)
          go_wp2_with fail
          refine (put_at _ p wb hb m mc n nc h' ws' (HV1.out.drewN _) i' x hi' hxm hn).mono ?_
          rintro e w2 ⟨rfl, hv2, hu2⟩
          have HV2 := hid hv2; have HU2 := hid ((HU.out.drewN _).trans' hu2)
          clear hv2 hu2
          go_wp2
          refine bodyPost_end (v := .tuple #[]) (results_none rfl _ _ _) rfl ⟨rfl, ?_, HU2.out⟩
          rw [← HR1.out, HST.out]; exact HV2.out
        · have d3 : ¬ (x : Int) < y1 := by omega
          have hgo : fallP x i' h' ws' = fallP x (2 * i' + 1) (h'.set i' y1) (stamp ws' y1 i') := by
            rw [HF.out, HLP.out, HY1.out, if_pos ⟨by omega, by omega⟩]
          have HG := hid hgo
          clear hgo
          go_wp2
          go_quiet (fail)
          go_wp2_with fail
          refine (put_at _ p wb hb m mc n nc h' ws' (HV1.out.drewN _) i' y1 hi' m1 hn).mono ?_
          rintro e w2 ⟨rfl, hv2, hu2⟩
          have HV2 := hid hv2; have HU2 := hid ((HU.out.drewN _).trans' hu2)
          clear hv2 hu2
          go_wp2
          go_roundw
          case rel => exact ⟨2 * i' + 1, _, _, by omega, rfl, by rw [← HG.out]; exact HR1.out, fun j hj => by rw [getD_set _ _ _ _ (by have := HL.out; omega)]; split; exact m1; exact HA1.out j hj, HV2.out, HU2.out⟩
          case measure => simp [intOf]; omega
      · have d5 : (n : Int) ≤ 2 * (i' : Int) + 1 := by omega
        have hstop : fallP x i' h' ws' = (h'.set i' x, stamp ws' x i') := by
          rw [HF.out, HLP.out, if_neg (fun q => by omega)]
        have HST := hid hstop
        clear hstop
        go_wp2
        go_quiet (fail)
        go_wp2_with fail
        refine (put_at _ p wb hb m mc n nc h' ws' (HV1.out.drewN _) i' x hi' hxm hn).mono ?_
        rintro e w2 ⟨rfl, hv2, hu2⟩
        have HV2 := hid hv2; have HU2 := hid ((HU.out.drewN _).trans' hu2)
        clear hv2 hu2
        go_wp2
        refine bodyPost_end (v := .tuple #[]) (results_none rfl _ _ _) rfl ⟨rfl, ?_, HU2.out⟩
        rw [← HR1.out, HST.out]; exact HV2.out
end
end Go.Proofs.YtlcfkfijomnmnaaGreatDoor
