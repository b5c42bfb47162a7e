/- package chain: Grow. -/
import Derived.Test.YtkgmfbfpmlnfcaaGreatDoorQChNextA
import Derived.Test.YtkgmfbfpmlnfcaaGreatDoorQMaClimb
import Derived.Test.YtkgmfbfpmlnfcaaGreatDoorQRoNoneP
import Derived.Great.BuildSlice
namespace Go.Proofs.YtkgmfbfpmlnfcaaGreatDoor
open Go.RowKit

theorem fill_line {CA B : Array Value} {n : Nat} (hn : 0 < n) (hs : CA.size = n) (hB : B.size = n) : Instr.fill (fun i => some (i * n, n)) B [(0, .agg CA)] = some CA := by
  have := Go.Great.fill_whole hn [.agg CA] B (fun v hv => by rw [List.mem_singleton.1 hv]; exact hs) (by simp [hB])
  simpa [List.zipIdx, Value.cells] using this
theorem map_one {α β : Type} (f : α → β) (x : α) : (Array.map f #[x]).toList = [f x] := by simp
theorem growL_step {ts : List Sb} {L : List (List Nat)} {y : Sb} (hy : ts[L.length]? = some y) : growAll ts L = if (nextL L L.length y.sups).1 = 0 then growAll ts (L ++ [(nextL L L.length y.sups).2]) else ((nextL L L.length y.sups).1, L) := by
  have hlt := (List.getElem?_eq_some_iff.1 hy).1
  unfold growAll
  obtain ⟨n, hn⟩ : ∃ n, ts.length - L.length = n + 1 := ⟨ts.length - L.length - 1, by omega⟩
  rw [hn, growL, hy]
  dsimp only
  split
  · rw [List.length_append, List.length_singleton, show ts.length - (L.length + 1) = n by omega]
  · rfl
theorem growL_stop {ts : List Sb} {L : List (List Nat)} (h : ts.length ≤ L.length) : growAll ts L = (0, L) := by
  unfold growAll; rw [show ts.length - L.length = 0 by omega]; rfl
theorem nextL_ok {L : List (List Nat)} {sups : List Hp} (he : (nextL L L.length sups).1 = 0) (hL : L.length < 10000) (h : ∀ p ∈ L, ∀ x ∈ p, x < 10000) : ((nextL L L.length sups).2.length ≤ 64 ∧ (nextL L L.length sups).2 ≠ []) ∧ ∀ x ∈ (nextL L L.length sups).2, x < 10000 := by
  rcases sups with _ | ⟨s, _ | ⟨s2, r⟩⟩
  · exact ⟨⟨by simp [nextL], by simp [nextL]⟩, fun x hx => by simp [nextL] at hx; omega⟩
  · unfold nextL at he ⊢
    dsimp only at he ⊢
    split at he
    · simp at he
    · rename_i h1
      split at he
      · simp at he
      · rename_i h2
        rw [if_neg h1, if_neg h2]
        refine ⟨⟨by rw [List.length_append, List.length_singleton]; omega, by simp⟩, fun x hx => ?_⟩
        have hm : L.getD s.n.toNat [] ∈ L := by
          rw [List.getD_eq_getElem?_getD, List.getElem?_eq_getElem (by omega)]; exact List.getElem_mem _
        rw [List.mem_append] at hx
        rcases hx with hx | hx
        · exact h _ hm x hx
        · simp at hx; omega
  · simp [nextL] at he
/-- Where Grow stands: lines of the first types, of which the rest gives what all give. -/
structure GrI (SL S R : Nat → Prop) (w : World) (t tt : Nat) (gs : List (List Sb)) (L0 L : List (List Nat)) (S' : Nat → Prop) (wr : World) : Prop where
  li : LinesAt S' wr t L
  tab : TabK S R wr tt gs
  up : Upd SL w wr
  fr : Fresh SL w S'
  eq : growAll (tabL gs) L = growAll (tabL gs) L0
  off : ∀ k, S' k → ¬ S k ∧ ¬ R k
theorem GrI.below {SL S R : Nat → Prop} {w : World} {t tt : Nat} {gs : List (List Sb)} {L0 L : List (List Nat)} {S' : Nat → Prop} {wr w' : World} (h : GrI SL S R w t tt gs L0 L S' wr) (hb : Below wr.heap.size wr w') : GrI SL S R w t tt gs L0 L S' w' :=
  ⟨h.li.below hb, h.tab.below hb, h.up.trans' (Upd.of_below hb), h.fr, h.eq, h.off⟩
theorem GrI.grown {SL S R : Nat → Prop} {w : World} {t tt : Nat} {gs : List (List Sb)} {L0 L : List (List Nat)} {S' : Nat → Prop} {wr W8 w9 : World} {y : Sb} {C : List Value} {CA : Array Value} {ov v9 : Value} (hI : GrI SL S R w t tt gs L0 L S' wr) (hy : (tabL gs)[L.length]? = some y) (he : (nextL L L.length y.sups).1 = 0) (hC : C = lineC (nextL L L.length y.sups).2)
    (hb8 : Below wr.heap.size wr W8) (_ : W8.ownsRow 0 69 65 ov L.length (linesC L)) (t3 : ∀ b, ov.ownBlock = some b → S' b)
    (o9 : w9.ownsRow 0 69 65 v9 (L.length + 1) (linesC L ++ C)) (gr9 : (W8.alloc (.cells CA 69)).grownBy w9 ov.ownBlock) (mv : v9.ownBlock = ov.ownBlock ∨ v9.ownBlock = some (W8.alloc (.cells CA 69)).heap.size)
    (f9 : w9.heap[t]? = some (.cells #[ov, .pointer (some ⟨t, 0, none⟩)] 66 (0, 0))) : GrI SL S R w t tt gs L0 (L ++ [(nextL L L.length y.sups).2]) (fun b => S' b ∨ v9.ownBlock = some b) (w9.setCell ⟨t, 0, none⟩ v9) := by
  have hlt := (List.getElem?_eq_some_iff.1 hy).1
  rw [tabL_len] at hlt
  have h4 := hI.tab.ok.total
  obtain ⟨k1, k2⟩ := nextL_ok he (by omega) hI.li.ok.2.2
  have hu8 : Upd S' wr w9 := ((Upd.of_below hb8 : Upd S' wr W8).alloc (.cells CA 69)).grown gr9 (fun k hk => .inl (t3 k hk))
  have hu : Upd S' wr (w9.setCell ⟨t, 0, none⟩ v9) := hu8.setCell (.inl hI.li.st) v9
  have hne : ∀ b, v9.ownBlock = some b → b ≠ t := fun b hb e => by
    subst e; exact row_ne o9 f9 (by decide) hb
  have hw8 : w.heap.size ≤ W8.heap.size := Nat.le_trans hI.up.size hb8.size
  refine ⟨⟨⟨v9, heap_set_at f9 0 v9, ?_, fun b hb => .inr hb⟩, .inl hI.li.st, fun k hk => ?_, ?_⟩, ⟨hI.tab.tab.keep (hu.mono fun k _ hk => hI.off k hk), hI.tab.ok, hI.tab.c⟩, hI.up.trans hI.fr hu, fun k hk => ?_, ?_, fun k hk => ?_⟩
  · rw [linesC_snoc, ← hC, List.length_append, List.length_singleton]
    exact ownsRow_upd o9 ((Upd.refl (fun k => k = t) w9).setCell (.inl rfl) v9) hne
  · rcases hk with hk | hk
    · exact Nat.lt_of_lt_of_le (hI.li.lt k hk) hu.size
    · simpa [World.setCell] using (o9.lt k hk).2
  · refine ⟨fun p hp => ?_, by simp; omega, fun p hp => ?_⟩
    · rw [List.mem_append] at hp
      rcases hp with hp | hp
      · exact hI.li.ok.1 p hp
      · rw [List.mem_singleton.1 hp]; exact k1
    · rw [List.mem_append] at hp
      rcases hp with hp | hp
      · exact hI.li.ok.2.2 p hp
      · rw [List.mem_singleton.1 hp]; exact k2
  · rcases hk with hk | hk
    · exact hI.fr k hk
    · rcases mv with mv | mv
      · rw [mv] at hk; exact hI.fr k (t3 k hk)
      · rw [mv] at hk
        simp at hk
        exact .inr (by omega)
  · rw [← hI.eq, growL_step hy, if_pos he]
  · rcases hk with hk | hk
    · exact hI.off k hk
    · rcases mv with mv | mv
      · rw [mv] at hk; exact hI.off k (t3 k hk)
      · rw [mv] at hk
        simp at hk
        have h1 := hb8.size
        exact ⟨fun q => by have := (hI.tab.tab.lt k q).1; omega, fun q => by have := hI.tab.tab.rlt k q; omega⟩
set_option maxRecDepth 100000 in
set_option maxHeartbeats 16000000 in
theorem grow_any {SL S R : Nat → Prop} {t tt : Nat} {gs : List (List Sb)} {L : List (List Nat)} (w : World) (h : LinesAt SL w t L) (ht : TabK S R w tt gs) (hoff : ∀ k, SL k → ¬ S k ∧ ¬ R k) :
    Calls Tryz.prog 11 #[.pointer (some ⟨t, 0, none⟩), .pointer (some ⟨tt, 0, none⟩)] w fun e w' => ∃ S', e = .returned (.int .i64 (growAll (tabL gs) L).1) ∧ GrI SL S R w t tt gs L (growAll (tabL gs) L).2 S' w' := by
  obtain ⟨i0, hi, hz0, hz1, hz2⟩ := info_parts Tryz.infoLine
  have Hi := Lib.hid hi; have Hz0 := Lib.hid hz0; have Hz1 := Lib.hid hz1; have Hz2 := Lib.hid hz2
  have H := Lib.hid h; have HT := Lib.hid ht; have HOFF := Lib.hid hoff
  have C0 := Lib.hid (get_out ht.tab ht.ok.total (-1) (by omega))
  have hlc : L.length ≤ 10000 := h.ok.2.1
  clear hi hz0 hz1 hz2 h ht hoff
  go_enter Tryz.func11, Tryz.ntmps11
  go_wp2_with fail
  refine C0.out.mono ?_
  rintro e w1 ⟨rfl, hb1⟩
  have hb2 : Below w.heap.size w (w1.alloc (.cells #[.bool false, .slice none 0 0, .int .i64 0, .slice none 0 0, .slice none 0 0, .slice none 0 0] 44)) := hb1.alloc hb1.size _
  have C1 := Lib.hid (chMade_any (H.out.below hb2))
  have HB2 := Lib.hid hb2
  clear hb1 hb2
  go_wp2_with fail
  refine C1.out.mono ?_
  rintro e w2 ⟨rfl, hw2⟩
  obtain ⟨ao, co, q1, _⟩ := (H.out.below HB2.out).at
  have c0 := heap_cell q1 0
  simp at c0
  subst hw2
  clear q1
  go_wp2_with fail
  obtain ⟨W1, hW1⟩ : ∃ W1 : World, W1 = w1.alloc (.cells #[.bool false, .slice none 0 0, .int .i64 0, .slice none 0 0, .slice none 0 0, .slice none 0 0] 44) := ⟨_, rfl⟩
  have hst : GrI SL S R w t tt gs L L SL W1 := by
    rw [hW1]
    exact ⟨H.out.below HB2.out, HT.out.below HB2.out, Upd.of_below HB2.out, Fresh.refl _ _, rfl, HOFF.out⟩
  rw [← hW1]
  have HST := Lib.hid hst
  clear hst hW1 c0
  go_loopw [7] (fun t7 wr => ∃ (L' : List (List Nat)) (S' : Nat → Prop), t7 = .int .i64 L'.length ∧ GrI SL S R w t tt gs L L' S' wr) (fun t7 _ => total gs - (intOf t7).toNat)
  case atStart => exact ⟨L, SL, rfl, HST.out⟩
  case round =>
    obtain ⟨L', S', rfl, hI⟩ := hrel
    have C2 := Lib.hid (len_any hI.tab.tab)
    have hlc' : L'.length ≤ 10000 := hI.li.ok.2.1
    by_cases hlt : L'.length < total gs
    · obtain ⟨y, hy⟩ : ∃ y, (tabL gs)[L'.length]? = some y := ⟨(tabL gs)[L'.length]'(by rw [tabL_len]; exact hlt), by simp⟩
      have C3 := Lib.hid (get_k hI.tab hy)
      have hlt' : (L'.length : Int) < total gs := by omega
      have HI := Lib.hid hI; have HLT := Lib.hid hlt; have HY := Lib.hid hy
      clear hI hlt hy
      go_wp2_with fail
      refine C2.out.mono ?_
      rintro e w3 ⟨rfl, hw3⟩
      have hw3' := hw3.symm
      subst hw3'
      clear hw3
      go_wp2_with fail
      refine C3.out.mono ?_
      rintro e w4 ⟨ds, rfl, hsub, hb4⟩
      obtain ⟨a1, l1, a2, l2, a3, l3, a4, l4, rfl⟩ := (hsub w4 (Upd.refl _ _)).out
      have hb5 : Below wr.heap.size wr (w4.alloc (.cells #[.bool y.fin, .slice a1 y.sups.length l1, .int .i64 y.k, .slice a2 y.ps.length l2, .slice a3 y.rs.length l3, .slice a4 y.fs.length l4] 44)) := hb4.alloc hb4.size _
      have hps : HpsAt (w4.alloc (.cells #[.bool y.fin, .slice a1 y.sups.length l1, .int .i64 y.k, .slice a2 y.ps.length l2, .slice a3 y.rs.length l3, .slice a4 y.fs.length l4] 44)) (.slice a1 y.sups.length l1) y.sups := (hsub _ ((Upd.refl _ w4).alloc _)).sups
      have C5 := Lib.hid (next_any _ (HI.out.li.below hb5) _ y.sups hps)
      have HB5 := Lib.hid hb5
      clear hsub hb4 hb5 hps
      go_wp2_with fail
      refine C5.out.mono ?_
      rintro e w6 ⟨C, rfl, hCl, hC1, hC0, hb6⟩
      obtain ⟨er, her⟩ : ∃ er, (nextL L' L'.length y.sups).1 = er := ⟨_, rfl⟩
      rw [her] at hC0
      dsimp only
      rw [her]
      obtain ⟨Z, hZ⟩ : ∃ Z, Tryz.zeroCells69 = Z := ⟨_, rfl⟩
      have zL1 : Z = zL.toArray := by rw [← hZ, zL_eq]
      have zs : Z.size = 65 := by rw [zL1]; rfl
      obtain ⟨CA, hCA⟩ : ∃ CA, C.toArray = CA := ⟨_, rfl⟩
      have hCAs : CA.size = 65 := by rw [← hCA]; simpa using hCl
      have hCA1 : CA.all (·.oneCell') = true := by rw [← hCA]; exact all_oneCell_toArray hC1
      rw [hCA]
      have hb6w : Below wr.heap.size wr w6 := HB5.out.trans (hb6.mono HB5.out.size)
      have hb7 : Below wr.heap.size wr ((w6.alloc (.cells Z 69)).setRow w6.heap.size CA) := Below.setRow (hb6w.alloc hb6w.size _) hb6w.size _
      have g10 : ((w6.alloc (.cells Z 69)).setRow w6.heap.size CA).heap[w6.heap.size]? = some (.cells CA 69 (0, 0)) := setRow_heap _ _ Z CA _ _ (heap_alloc_at _ _ rfl)
      have HZS := Lib.hid zs; have HCAS := Lib.hid hCAs; have HCA1 := Lib.hid hCA1; have HCA := Lib.hid hCA; have HCL := Lib.hid hCl; have HC1 := Lib.hid hC1; have HC0 := Lib.hid hC0; have HER := Lib.hid her; have HB7 := Lib.hid hb7; have G10 := Lib.hid g10
      clear hb6 hb6w hb7 g10 zL1 zs hCA hCAs hCA1 hCl hC1 hC0 her
      by_cases h0 : er = 0
      · subst h0
        go_wp2_with (first | (refine wpList_store_row rfl 69 _ _ rfl w6.heap.size CA rfl rfl 69 Z (heap_alloc_at _ _ rfl) (by rw [HCAS.out]; exact Tryz.sizeLine) (by rw [HCAS.out, HZS.out]) HCA1.out ?_) | fail)
        obtain ⟨W7, hW7⟩ : ∃ W7 : World, W7 = (w6.alloc (.cells Z 69)).setRow w6.heap.size CA := ⟨_, rfl⟩
        have hb7 := HB7.out
        have g10 := G10.out
        rw [← hW7] at hb7 g10 ⊢
        clear HB7 G10
        have HB7 := Lib.hid hb7; have G10 := Lib.hid g10
        obtain ⟨ov, t1, t2, t3⟩ := (HI.out.li.below hb7).ex
        obtain ⟨ao5, co5, rfl, _⟩ := ownsRow_form t2
        have y0 : W7.cell? ⟨t, 0, none⟩ = some (.slice ao5 L'.length co5) := by rw [heap_cell t1]; rfl
        have T1 := Lib.hid t1; have T2 := Lib.hid t2; have T3 := Lib.hid t3; have Y0' := Lib.hid y0
        clear hb7 g10 hW7 t1 t2 t3 y0
        · skip
          refine wp_region_any (by kernel_rfl) ?_
          obtain ⟨W8, hW8⟩ : ∃ W8 : World, W8 = { W7 with drawn := W7.drawn + 1 } := ⟨_, rfl⟩
          rw [← hW8]
          have g10 : W8.heap[w6.heap.size]? = some (.cells CA 69 (0, 0)) := by rw [hW8]; exact G10.out
          have y0 : W8.cell? ⟨t, 0, none⟩ = some (.slice ao5 L'.length co5) := by rw [hW8]; exact Y0'.out
          have hb8 : Below wr.heap.size wr W8 := by rw [hW8]; have h := HB7.out; exact ⟨h.os, h.tape, h.output, h.size, h.block⟩
          have t1w : W8.heap[t]? = some (.cells #[.slice ao5 L'.length co5, .pointer (some ⟨t, 0, none⟩)] 66 (0, 0)) := by rw [hW8]; exact T1.out
          have t2w : W8.ownsRow 0 69 65 (.slice ao5 L'.length co5) L'.length (linesC L') := by rw [hW8]; exact T2.out
          have tblk : ∀ w', (W8.alloc (.cells CA 69)).grownBy w' (Value.slice ao5 L'.length co5).ownBlock → w'.heap[t]? = some (.cells #[.slice ao5 L'.length co5, .pointer (some ⟨t, 0, none⟩)] 66 (0, 0)) := fun w' gr => by
            have hk := heap_alloc_keep t1w (.cells CA 69)
            rw [gr.block t (heap_lt hk) (fun e => row_ne (t2w.alloc (.cells CA 69)) hk (by decide) e.symm)]
            exact hk
          have T2W := Lib.hid t2w; have TBLK := Lib.hid tblk
          clear G10 t1w t2w tblk
          have G10 := Lib.hid g10; have Y0 := Lib.hid y0; have HB8 := Lib.hid hb8
          clear g10 y0 hb8 hW8
          refine wpAny_take (i := 0) (v := ?_) rfl (by kernel_rfl) (by kernel_rfl) (by kernel_rfl) (fun _ _ _ h => h) (Or.inl ⟨by rfl, ?_⟩) ?_
          rotate_left
          · intro w'
            go_simp
            try with_reducible rfl
          simp only [Act.put, List.setIfInBounds_toArray]
          refine wpAny_take (i := 1) (v := ?_) rfl (by kernel_rfl) (by kernel_rfl) (by kernel_rfl) (fun _ _ _ h => h) (Or.inl ⟨by rfl, ?_⟩) ?_
          rotate_left
          · intro w'
            go_simp
            try with_reducible rfl
          simp only [Act.put]
          refine wpAny_take (i := 2) (v := ?_) rfl (by kernel_rfl) (by kernel_rfl) (by kernel_rfl) (fun _ _ _ h => h) (Or.inl ⟨by rfl, ?_⟩) ?_
          rotate_left
          · intro w'
            go_simp
            try with_reducible rfl
          simp only [Act.put]
          refine wpAny_take (i := 3) (v := ?_) rfl (by kernel_rfl) (by kernel_rfl) (by kernel_rfl) (fun _ _ _ h => h) (Or.inl ⟨by rfl, ?_⟩) ?_
          rotate_left
          · intro w'
            go_simp
            try with_reducible rfl
          simp only [Act.put]
          refine wpAny_ready (rs := [4, 5]) (by kernel_rfl) (by simp) ?_
          refine AllReady.cons rfl (fun K hK => ?_) (AllReady.cons rfl (fun K hK => ?_) AllReady.nil)
          · have y0 := Y0.out
            go_simp
            refine hK _ _ ?_
            clear hK K y0
            refine wpAny_ready (rs := [5]) (by kernel_rfl) (by simp) ?_
            refine AllReady.cons rfl (fun K hK => ?_) AllReady.nil
            rw [if_pos (by rfl)]
            refine wp_load_row 69 _ rfl w6.heap.size rfl 69 CA (0, 0) _ G10.out Tryz.underlying69 rfl (by rw [HCAS.out]; exact Tryz.sizeLine) ?_
            refine hK _ _ ?_
            clear hK K
            simp only [Act.put, List.getElem_toArray, List.getElem_cons_succ, List.getElem_cons_zero, List.setIfInBounds_toArray, List.set_cons_zero, List.set_cons_succ]
            refine wpAny_ready (rs := [6]) (by kernel_rfl) (by simp) ?_
            refine AllReady.cons rfl (fun K hK => ?_) AllReady.nil
            rw [if_pos (by rfl)]
            refine wp_buildSlice 64 69 1 _ rfl CA i0 _ Tryz.underlying64 Hi.out Hz0.out (by rw [Hz1.out]; decide) (by rw [Hz1.out]; decide) (by rw [Hz1.out]; exact (congrArg (Instr.fill _ _) (map_one _ _)).trans (fill_line (B := (Array.range (1 * 65)).map (fun x => (Value.agg zL.toArray).cells[x % (Value.agg zL.toArray).cells.size]!)) (by decide) HCAS.out (by simp))) ?_
            refine hK _ _ ?_
            clear hK K
            simp only [Act.put, List.getElem_toArray, List.getElem_cons_succ, List.getElem_cons_zero, List.setIfInBounds_toArray, List.set_cons_zero, List.set_cons_succ]
            refine wpAny_ready (rs := [7]) (by kernel_rfl) (by simp) ?_
            refine AllReady.cons rfl (fun K hK => ?_) AllReady.nil
            refine step_append_own rfl _ _ 64 rfl 0 69 i0 _ 65 260 Tryz.underlying64 Hi.out Hz0.out Hz1.out Hz2.out rfl (by decide) _ _ _ rfl (T2W.out.alloc _) ⟨W8.heap.size, 0, none⟩ 1 1 C rfl (by rw [HCL.out]) (fun j u hj => by rw [Addr.add_lit, Nat.zero_add, heap_cell (heap_alloc_at _ _ rfl), ← HCA.out]; simpa using hj) HC1.out (by unfold maxLen; have := HLT.out; omega) (by omega) (Nat.zero_le _) ?_
            intro v9 w9 o9 gr9 mv9
            refine hK _ _ ?_
            clear hK K
            obtain ⟨a9, c9, rfl, _⟩ := ownsRow_form o9
            simp only [Act.put, List.getElem_toArray, List.getElem_cons_succ, List.getElem_cons_zero, List.setIfInBounds_toArray, List.set_cons_zero, List.set_cons_succ]
            refine wpAny_ready (rs := [8]) (by kernel_rfl) (by simp) ?_
            refine AllReady.cons rfl (fun K hK => ?_) AllReady.nil
            go_simp
            refine hK _ _ ?_
            clear hK K
            refine wpAny_ready (rs := [9]) (by kernel_rfl) (by simp) ?_
            refine AllReady.cons rfl (fun K hK => ?_) AllReady.nil
            go_simp
            refine hK _ _ ?_
            clear hK K
            have f9 : w9.heap[t]? = some (.cells #[.slice ao5 L'.length co5, .pointer (some ⟨t, 0, none⟩)] 66 (0, 0)) := TBLK.out _ gr9
            have HN := Lib.hid (HI.out.grown HY.out HER.out (HC0.out (by first | trivial | rfl)) HB8.out T2W.out T3.out o9 gr9 mv9 f9)
            clear o9 gr9 mv9
            have f9f := heap_frozen f9 0
            have f9c : w9.cell? ⟨t, 0, none⟩ = some (.slice ao5 L'.length co5) := by rw [heap_cell f9]; rfl
            refine wpAny_ready (rs := [10]) (by kernel_rfl) (by simp) ?_
            refine AllReady.cons rfl (fun K hK => ?_) AllReady.nil
            go_simp
            refine hK _ _ ?_
            clear hK K f9f f9c
            refine wpAny_done (by kernel_rfl) ?_ _
            clear f9
            go_wp2
            go_roundw
            case rel => exact ⟨_, _, by simp, HN.out⟩
            case measure => have := HLT.out; simp [intOf]; omega
          · skip
            rw [if_pos (by rfl)]
            refine wp_load_row 69 _ rfl w6.heap.size rfl 69 CA (0, 0) _ G10.out Tryz.underlying69 rfl (by rw [HCAS.out]; exact Tryz.sizeLine) ?_
            refine hK _ _ ?_
            clear hK K
            simp only [Act.put, List.getElem_toArray, List.getElem_cons_succ, List.getElem_cons_zero, List.setIfInBounds_toArray, List.set_cons_zero, List.set_cons_succ]
            refine wpAny_ready (rs := [4, 6]) (by kernel_rfl) (by simp) ?_
            refine AllReady.cons rfl (fun K hK => ?_) (AllReady.cons rfl (fun K hK => ?_) AllReady.nil)
            · skip
              have y0 := Y0.out
              go_simp
              refine hK _ _ ?_
              clear hK K y0
              refine wpAny_ready (rs := [6]) (by kernel_rfl) (by simp) ?_
              refine AllReady.cons rfl (fun K hK => ?_) AllReady.nil
              rw [if_pos (by rfl)]
              refine wp_buildSlice 64 69 1 _ rfl CA i0 _ Tryz.underlying64 Hi.out Hz0.out (by rw [Hz1.out]; decide) (by rw [Hz1.out]; decide) (by rw [Hz1.out]; exact (congrArg (Instr.fill _ _) (map_one _ _)).trans (fill_line (B := (Array.range (1 * 65)).map (fun x => (Value.agg zL.toArray).cells[x % (Value.agg zL.toArray).cells.size]!)) (by decide) HCAS.out (by simp))) ?_
              refine hK _ _ ?_
              clear hK K
              simp only [Act.put, List.getElem_toArray, List.getElem_cons_succ, List.getElem_cons_zero, List.setIfInBounds_toArray, List.set_cons_zero, List.set_cons_succ]
              refine wpAny_ready (rs := [7]) (by kernel_rfl) (by simp) ?_
              refine AllReady.cons rfl (fun K hK => ?_) AllReady.nil
              refine step_append_own rfl _ _ 64 rfl 0 69 i0 _ 65 260 Tryz.underlying64 Hi.out Hz0.out Hz1.out Hz2.out rfl (by decide) _ _ _ rfl (T2W.out.alloc _) ⟨W8.heap.size, 0, none⟩ 1 1 C rfl (by rw [HCL.out]) (fun j u hj => by rw [Addr.add_lit, Nat.zero_add, heap_cell (heap_alloc_at _ _ rfl), ← HCA.out]; simpa using hj) HC1.out (by unfold maxLen; have := HLT.out; omega) (by omega) (Nat.zero_le _) ?_
              intro v9 w9 o9 gr9 mv9
              refine hK _ _ ?_
              clear hK K
              obtain ⟨a9, c9, rfl, _⟩ := ownsRow_form o9
              simp only [Act.put, List.getElem_toArray, List.getElem_cons_succ, List.getElem_cons_zero, List.setIfInBounds_toArray, List.set_cons_zero, List.set_cons_succ]
              refine wpAny_ready (rs := [8]) (by kernel_rfl) (by simp) ?_
              refine AllReady.cons rfl (fun K hK => ?_) AllReady.nil
              go_simp
              refine hK _ _ ?_
              clear hK K
              refine wpAny_ready (rs := [9]) (by kernel_rfl) (by simp) ?_
              refine AllReady.cons rfl (fun K hK => ?_) AllReady.nil
              go_simp
              refine hK _ _ ?_
              clear hK K
              have f9 : w9.heap[t]? = some (.cells #[.slice ao5 L'.length co5, .pointer (some ⟨t, 0, none⟩)] 66 (0, 0)) := TBLK.out _ gr9
              have HN := Lib.hid (HI.out.grown HY.out HER.out (HC0.out (by first | trivial | rfl)) HB8.out T2W.out T3.out o9 gr9 mv9 f9)
              clear o9 gr9 mv9
              have f9f := heap_frozen f9 0
              have f9c : w9.cell? ⟨t, 0, none⟩ = some (.slice ao5 L'.length co5) := by rw [heap_cell f9]; rfl
              refine wpAny_ready (rs := [10]) (by kernel_rfl) (by simp) ?_
              refine AllReady.cons rfl (fun K hK => ?_) AllReady.nil
              go_simp
              refine hK _ _ ?_
              clear hK K f9f f9c
              refine wpAny_done (by kernel_rfl) ?_ _
              clear f9
              go_wp2
              go_roundw
              case rel => exact ⟨_, _, by simp, HN.out⟩
              case measure => have := HLT.out; simp [intOf]; omega
            · skip
              rw [if_pos (by rfl)]
              refine wp_buildSlice 64 69 1 _ rfl CA i0 _ Tryz.underlying64 Hi.out Hz0.out (by rw [Hz1.out]; decide) (by rw [Hz1.out]; decide) (by rw [Hz1.out]; exact (congrArg (Instr.fill _ _) (map_one _ _)).trans (fill_line (B := (Array.range (1 * 65)).map (fun x => (Value.agg zL.toArray).cells[x % (Value.agg zL.toArray).cells.size]!)) (by decide) HCAS.out (by simp))) ?_
              refine hK _ _ ?_
              clear hK K
              simp only [Act.put, List.getElem_toArray, List.getElem_cons_succ, List.getElem_cons_zero, List.setIfInBounds_toArray, List.set_cons_zero, List.set_cons_succ]
              refine wpAny_ready (rs := [4]) (by kernel_rfl) (by simp) ?_
              refine AllReady.cons rfl (fun K hK => ?_) AllReady.nil
              have y0 := cell_alloc Y0.out (.cells CA 69)
              go_simp
              refine hK _ _ ?_
              clear hK K y0
              refine wpAny_ready (rs := [7]) (by kernel_rfl) (by simp) ?_
              refine AllReady.cons rfl (fun K hK => ?_) AllReady.nil
              refine step_append_own rfl _ _ 64 rfl 0 69 i0 _ 65 260 Tryz.underlying64 Hi.out Hz0.out Hz1.out Hz2.out rfl (by decide) _ _ _ rfl (T2W.out.alloc _) ⟨W8.heap.size, 0, none⟩ 1 1 C rfl (by rw [HCL.out]) (fun j u hj => by rw [Addr.add_lit, Nat.zero_add, heap_cell (heap_alloc_at _ _ rfl), ← HCA.out]; simpa using hj) HC1.out (by unfold maxLen; have := HLT.out; omega) (by omega) (Nat.zero_le _) ?_
              intro v9 w9 o9 gr9 mv9
              refine hK _ _ ?_
              clear hK K
              obtain ⟨a9, c9, rfl, _⟩ := ownsRow_form o9
              simp only [Act.put, List.getElem_toArray, List.getElem_cons_succ, List.getElem_cons_zero, List.setIfInBounds_toArray, List.set_cons_zero, List.set_cons_succ]
              refine wpAny_ready (rs := [8]) (by kernel_rfl) (by simp) ?_
              refine AllReady.cons rfl (fun K hK => ?_) AllReady.nil
              go_simp
              refine hK _ _ ?_
              clear hK K
              refine wpAny_ready (rs := [9]) (by kernel_rfl) (by simp) ?_
              refine AllReady.cons rfl (fun K hK => ?_) AllReady.nil
              go_simp
              refine hK _ _ ?_
              clear hK K
              have f9 : w9.heap[t]? = some (.cells #[.slice ao5 L'.length co5, .pointer (some ⟨t, 0, none⟩)] 66 (0, 0)) := TBLK.out _ gr9
              have HN := Lib.hid (HI.out.grown HY.out HER.out (HC0.out (by first | trivial | rfl)) HB8.out T2W.out T3.out o9 gr9 mv9 f9)
              clear o9 gr9 mv9
              have f9f := heap_frozen f9 0
              have f9c : w9.cell? ⟨t, 0, none⟩ = some (.slice ao5 L'.length co5) := by rw [heap_cell f9]; rfl
              refine wpAny_ready (rs := [10]) (by kernel_rfl) (by simp) ?_
              refine AllReady.cons rfl (fun K hK => ?_) AllReady.nil
              go_simp
              refine hK _ _ ?_
              clear hK K f9f f9c
              refine wpAny_done (by kernel_rfl) ?_ _
              clear f9
              go_wp2
              go_roundw
              case rel => exact ⟨_, _, by simp, HN.out⟩
              case measure => have := HLT.out; simp [intOf]; omega
      · have h0b : (er == 0) = false := by simpa using h0
        have h0c : (er != 0) = true := by simpa using h0
        go_wp2_with (first | (refine wpList_store_row rfl 69 _ _ rfl w6.heap.size CA rfl rfl 69 Z (heap_alloc_at _ _ rfl) (by rw [HCAS.out]; exact Tryz.sizeLine) (by rw [HCAS.out, HZS.out]) HCA1.out ?_) | fail)
        go_ret
        have e1 : growAll (tabL gs) L' = (er, L') := by rw [growL_step HY.out, if_neg (by rw [HER.out]; exact h0), HER.out]
        have h := HI.out.below HB7.out
        have e2 := HI.out.eq
        rw [e1] at e2
        rw [← e2]
        exact ⟨S', rfl, h⟩
    · have hge : total gs ≤ L'.length := by omega
      have hlt' : ¬ (L'.length : Int) < total gs := by omega
      have HI := Lib.hid hI; have HGE := Lib.hid hge
      clear hI hlt hge
      go_wp2_with fail
      refine C2.out.mono ?_
      rintro e w3 ⟨rfl, hw3⟩
      have hw3' := hw3.symm
      subst hw3'
      clear hw3
      go_wp2
      go_ret
      have e1 := growL_stop (ts := tabL gs) (L := L') (by rw [tabL_len]; exact HGE.out)
      have e2 := HI.out.eq
      rw [e1] at e2
      rw [← e2]
      exact ⟨S', rfl, HI.out⟩
end Go.Proofs.YtkgmfbfpmlnfcaaGreatDoor
