/- package arena: Copy. -/
import Derived.Test.YtelohkppbmahnaaDoorQPlCpIBd
import Derived.Deep.CutRange
import Derived.Deep.RegionHeldLaw
namespace Go.Proofs.YtelohkppbmahnaaDoor
open Go.RowKit

theorem u64s_oneC (xs : List Nat) : ∀ u ∈ u64s xs, u.oneCell' = true := by
  intro u hu
  obtain ⟨x, _, rfl⟩ := List.mem_map.1 hu
  rfl
/-- A row's block is no block of another type. -/
theorem row_ne' {w : World} {B b n : Nat} {e T : TypeId} {c : Nat} {v : Value} {xs : List Value} {cs : Array Value} {fr : Nat × Nat} (h : w.ownsRow B e c v n xs) (hb : w.heap[b]? = some (.cells cs T fr)) (ht : e ≠ T) (hv : v.ownBlock = some b) : False := by
  obtain ⟨_, ⟨rfl, _⟩ | ⟨q, cap, cur, rfl, _, hq, _⟩⟩ := h
  · simp [Value.ownBlock] at hv
  · simp [Value.ownBlock] at hv
    subst hv
    rw [hq] at hb
    simp at hb
    exact ht hb.2.1
theorem ints_oneC (xs : List Nat) : ∀ u ∈ ints xs, u.oneCell' = true := by
  intro u hu
  obtain ⟨x, _, rfl⟩ := List.mem_map.1 hu
  rfl
def CopyPost (w : World) (m : Nat) (bs : List Blk) (e : Ending) (W : World) : Prop :=
  ∃ c S', e = .returned (.pointer (some ⟨c, 0, none⟩)) ∧ ArV S' W c m bs ∧ (∀ b, S' b → w.heap.size ≤ b) ∧ Below w.heap.size w W
set_option maxRecDepth 100000 in
set_option maxHeartbeats 4000000 in
theorem copy_any {S : Nat → Prop} {w : World} {p m : Nat} {bs : List Blk} (A0 : ArV S w p m bs) :
    Calls Tryd.prog 21 #[.pointer (some ⟨p, 0, none⟩)] w (CopyPost w m bs) := by
  obtain ⟨SL, wb, tb, kb, mc, lv, ws, L, T, K, used, tk, mk, tbs, kbs, A, I, O⟩ := A0
  obtain ⟨lao, lcap, rfl, _⟩ := ownsRow_form A.core.ls.row
  have hb := A.core.blk
  have c0 := heap_cell hb 0; have c1 := heap_cell hb 1; have c2 := heap_cell hb 2; have c3 := heap_cell hb 3; have c4 := heap_cell hb 4
  simp at c0 c1 c2 c3 c4
  dsimp only [bits64] at c1 c2
  obtain ⟨i0, hi, hz0, hz1, hz2⟩ := info_parts Tryd.infoMem
  have Hi := Lib.hid hi; have Hz0 := Lib.hid hz0; have Hz1 := Lib.hid hz1; have Hz2 := Lib.hid hz2
  obtain ⟨ln, hln⟩ : ∃ ln, L.length = ln := ⟨_, rfl⟩
  rw [hln] at c4
  have HA := Lib.hid A; have HI := Lib.hid I; have HLN := Lib.hid hln
  clear A I O hb hln hi hz0 hz1 hz2
  go_enter Tryd.func21, Tryd.ntmps21
  go_wp2_with fail
  refine (absent_at p w).mono ?_
  rintro e w1 ⟨rfl, rfl⟩
  go_upto_region 4 with fail
  obtain ⟨cb, hcb⟩ : ∃ cb, w.heap.size = cb := ⟨_, rfl⟩
  obtain ⟨W1, hW1⟩ : ∃ W1, W1 = w.alloc (.cells #[.slice (some ⟨wb, 0, none⟩) m mc.w, .slice (some ⟨tb, 0, none⟩) (m / 64 + 1) mc.t, .slice (some ⟨kb, 0, none⟩) (m / 64 + 1) mc.k, .int .i64 used, .slice lao ln lcap] 53) := ⟨_, rfl⟩
  rw [← hW1, hcb]
  have q1 : W1.heap[cb]? = some (.cells #[.slice (some ⟨wb, 0, none⟩) m mc.w, .slice (some ⟨tb, 0, none⟩) (m / 64 + 1) mc.t, .slice (some ⟨kb, 0, none⟩) (m / 64 + 1) mc.k, .int .i64 used, .slice lao ln lcap] 53 (0, 0)) := by rw [hW1]; exact heap_alloc_at w _ hcb.symm
  have b1 : Below w.heap.size w W1 := by rw [hW1]; exact (Below.refl _ _).alloc (Nat.le_refl _) _
  have HC := Lib.hid (And.intro c0 (And.intro c1 (And.intro c2 c4)))
  have HCB := Lib.hid hcb; have HQ1 := Lib.hid q1; have HB1 := Lib.hid b1
  have c0 := below_cell b1 c0
  clear hW1 c1 c2 c3 c4 hcb b1 q1
  go_wp2_with fail
  have r0 := ownsRow_upd HA.out.core.wrow (Upd.of_below (S := fun _ => False) HB1.out) (fun _ _ h => h)
  refine (cloneW_any wb m mc.w (u64s ws) W1 r0 (u64s_oneC ws) (by have := HA.out.core.len; have := HA.out.core.small; omega)).mono ?_
  rintro e w2 ⟨wb', wc', rfl, o2, b2⟩
  have hq2 := (Upd.of_below (S := fun _ => False) b2).heap_some HQ1.out (fun h => h)
  have HO2 := Lib.hid (ownsRow_low o2 HB1.out.size)
  have HB2 := Lib.hid (HB1.out.trans (b2.mono HB1.out.size))
  have y0 := heap_cell hq2 0
  have z0 := heap_frozen hq2 0
  simp at y0
  have HQ2 := Lib.hid hq2
  clear hq2 o2 b2 r0 c0
  go_upto_region 5 with fail
  obtain ⟨W3, hW3⟩ : ∃ W3, W3 = w2.setCell ⟨cb, 0, none⟩ (.slice (some ⟨wb', 0, none⟩) m wc') := ⟨_, rfl⟩
  rw [← hW3]
  have q3 := heap_set_at HQ2.out 0 (.slice (some ⟨wb', 0, none⟩) m wc')
  rw [← hW3] at q3
  have u3 : Upd (fun b => b = cb) w2 W3 := by rw [hW3]; exact (Upd.refl (fun b => b = cb) w2).setCell (p := ⟨cb, 0, none⟩) (.inl rfl) _
  have b3 : Below w.heap.size w W3 := by rw [hW3]; exact HB2.out.setCell (by rw [HCB.out]; exact Nat.le_refl _) _
  have HB3 := Lib.hid b3; have HQ3 := Lib.hid q3
  have HWR := Lib.hid (ownsRow_upd HO2.out u3 (fun b hb e => row_ne' HO2.out HQ2.out (by decide) (by rw [hb, e])))
  have c1 := below_cell b3 HC.out.2.1
  have HWG := Lib.hid (HWR.out.lt wb' rfl).1
  clear hW3 q3 u3 b3 y0 z0 HQ2 HO2 HB2 HQ1
  go_wp2_with fail
  have r1 := ownsRow_upd HA.out.brt.row (Upd.of_below (S := fun _ => False) HB3.out) (fun _ _ h => h)
  refine (cloneB_any tb (m / 64 + 1) mc.t (u64s tbs) W3 r1 (u64s_oneC tbs) (by have := HA.out.core.len; have := HA.out.core.small; omega)).mono ?_
  rintro e w4 ⟨tb', tc', rfl, o4, b4⟩
  have hq4 := (Upd.of_below (S := fun _ => False) b4).heap_some HQ3.out (fun h => h)
  have HO4 := Lib.hid (ownsRow_low o4 HB3.out.size)
  have HB4 := Lib.hid (HB3.out.trans (b4.mono HB3.out.size))
  have HW4 := Lib.hid (ownsRow_upd HWR.out (Upd.of_below (S := fun _ => False) b4) (fun _ _ h => h))
  have HTW := Lib.hid (show tb' ≠ wb' from fun e => by have h1 := (o4.lt tb' rfl).1; have h2 := (HWR.out.lt wb' rfl).2; omega)
  have y1 := heap_cell hq4 1
  have z1 := heap_frozen hq4 1
  simp at y1
  have HQ4 := Lib.hid hq4
  clear hq4 o4 b4 r1 c1 HWR HQ3
  go_upto_region 6 with fail
  obtain ⟨W5, hW5⟩ : ∃ W5, W5 = w4.setCell ⟨cb, 1, none⟩ (.slice (some ⟨tb', 0, none⟩) (m / 64 + 1) tc') := ⟨_, rfl⟩
  rw [← hW5]
  have q5 := heap_set_at HQ4.out 1 (.slice (some ⟨tb', 0, none⟩) (m / 64 + 1) tc')
  rw [← hW5] at q5
  have u5 : Upd (fun b => b = cb) w4 W5 := by rw [hW5]; exact (Upd.refl (fun b => b = cb) w4).setCell (p := ⟨cb, 1, none⟩) (.inl rfl) _
  have b5 : Below w.heap.size w W5 := by rw [hW5]; exact HB4.out.setCell (by rw [HCB.out]; exact Nat.le_refl _) _
  have HB5 := Lib.hid b5; have HQ5 := Lib.hid q5
  have HWR := Lib.hid (ownsRow_upd HW4.out u5 (fun b hb e => row_ne' HW4.out HQ4.out (by decide) (by rw [hb, e])))
  have HTR := Lib.hid (ownsRow_upd HO4.out u5 (fun b hb e => row_ne' HO4.out HQ4.out (by decide) (by rw [hb, e])))
  have c2 := below_cell b5 HC.out.2.2.1
  clear hW5 q5 u5 b5 y1 z1 HQ4 HO4 HB4 HW4 HB3
  go_wp2_with fail
  have r2 := ownsRow_upd HA.out.brk.row (Upd.of_below (S := fun _ => False) HB5.out) (fun _ _ h => h)
  refine (cloneB_any kb (m / 64 + 1) mc.k (u64s kbs) W5 r2 (u64s_oneC kbs) (by have := HA.out.core.len; have := HA.out.core.small; omega)).mono ?_
  rintro e w6 ⟨kb', kc', rfl, o6, b6⟩
  have hq6 := (Upd.of_below (S := fun _ => False) b6).heap_some HQ5.out (fun h => h)
  have HO6 := Lib.hid (ownsRow_low o6 HB5.out.size)
  have HB6 := Lib.hid (HB5.out.trans (b6.mono HB5.out.size))
  have HW6 := Lib.hid (ownsRow_upd HWR.out (Upd.of_below (S := fun _ => False) b6) (fun _ _ h => h))
  have HT6 := Lib.hid (ownsRow_upd HTR.out (Upd.of_below (S := fun _ => False) b6) (fun _ _ h => h))
  have HKW := Lib.hid (show kb' ≠ wb' from fun e => by have h1 := (o6.lt kb' rfl).1; have h2 := (HWR.out.lt wb' rfl).2; omega)
  have HTK := Lib.hid (show tb' ≠ kb' from fun e => by have h1 := (o6.lt kb' rfl).1; have h2 := (HTR.out.lt tb' rfl).2; omega)
  have y2 := heap_cell hq6 2
  have z2 := heap_frozen hq6 2
  simp at y2
  have HQ6 := Lib.hid hq6
  clear hq6 o6 b6 r2 c2 HWR HTR HQ5
  go_upto_region 7 with fail
  obtain ⟨W7, hW7⟩ : ∃ W7, W7 = w6.setCell ⟨cb, 2, none⟩ (.slice (some ⟨kb', 0, none⟩) (m / 64 + 1) kc') := ⟨_, rfl⟩
  rw [← hW7]
  have q7 := heap_set_at HQ6.out 2 (.slice (some ⟨kb', 0, none⟩) (m / 64 + 1) kc')
  rw [← hW7] at q7
  have u7 : Upd (fun b => b = cb) w6 W7 := by rw [hW7]; exact (Upd.refl (fun b => b = cb) w6).setCell (p := ⟨cb, 2, none⟩) (.inl rfl) _
  have b7 : Below w.heap.size w W7 := by rw [hW7]; exact HB6.out.setCell (by rw [HCB.out]; exact Nat.le_refl _) _
  have HB7 := Lib.hid b7; have HQ7 := Lib.hid q7
  have HWR := Lib.hid (ownsRow_upd HW6.out u7 (fun b hb e => row_ne' HW6.out HQ6.out (by decide) (by rw [hb, e])))
  have HTR := Lib.hid (ownsRow_upd HT6.out u7 (fun b hb e => row_ne' HT6.out HQ6.out (by decide) (by rw [hb, e])))
  have HKR := Lib.hid (ownsRow_upd HO6.out u7 (fun b hb e => row_ne' HO6.out HQ6.out (by decide) (by rw [hb, e])))
  have c4 := below_cell b7 HC.out.2.2.2
  have c5 := heap_cell q7 4
  have z5 := heap_frozen q7 4
  simp at c5
  have hcl : cb < W7.heap.size := heap_lt q7
  clear hW7 q7 u7 b7 y2 z2 HQ6 HO6 HB6 HW6 HT6 HB5
  have HL6 := Lib.hid (show ln ≤ 64 by have := HI.out.L_le; rw [List.length_map, HLN.out] at this; exact this)
  have hm1 := fun W => run_make_row' (P := Tryd.prog) 49 67 (.slice none 0 0) 24 Tryd.underlying49 infoRowM2 rfl .i64 .i64 ln (by have := HL6.out; omega) (by have := HL6.out; omega) W
  go_upto_region 8 with fail
  obtain ⟨gl, hgl⟩ : ∃ gl, W7.heap.size = gl := ⟨_, rfl⟩
  obtain ⟨W8, hW8⟩ : ∃ W8, W8 = (W7.setCell ⟨cb, 4, none⟩ (.slice (some ⟨gl, 0, none⟩) ln ln)).alloc (.cells (madeCells #[.slice none 0 0] ln) 67) := ⟨_, rfl⟩
  rw [hgl, ← hW8]
  have b8 : Below w.heap.size w W8 := by rw [hW8]; exact (HB7.out.setCell (by rw [HCB.out]; exact Nat.le_refl _) _).alloc (by simp; exact HB7.out.size) _
  have q8 : W8.heap[cb]? = some (.cells #[.slice (some ⟨wb', 0, none⟩) m wc', .slice (some ⟨tb', 0, none⟩) (m / 64 + 1) tc', .slice (some ⟨kb', 0, none⟩) (m / 64 + 1) kc', .int .i64 used, .slice (some ⟨gl, 0, none⟩) ln ln] 53 (0, 0)) := by
    rw [hW8]; exact heap_alloc_keep (heap_set_at HQ7.out 4 _) _
  have g8 : W8.heap[gl]? = some (.cells (madeCells #[.slice none 0 0] ln) 67 (0, 0)) := by
    rw [hW8]; exact heap_alloc_at _ _ (by simp; exact hgl.symm)
  have u8 : Upd (fun b => b = cb) W7 W8 := by rw [hW8]; exact ((Upd.refl (fun b => b = cb) W7).setCell (p := ⟨cb, 4, none⟩) (.inl rfl) _).alloc _
  have c4 := below_cell b8 HC.out.2.2.2
  have HWR := Lib.hid (ownsRow_upd HWR.out u8 (fun b hb e => row_ne' HWR.out HQ7.out (by decide) (by rw [hb, e])))
  have HTR := Lib.hid (ownsRow_upd HTR.out u8 (fun b hb e => row_ne' HTR.out HQ7.out (by decide) (by rw [hb, e])))
  have HKR := Lib.hid (ownsRow_upd HKR.out u8 (fun b hb e => row_ne' HKR.out HQ7.out (by decide) (by rw [hb, e])))
  have hsm : ∀ x s, frF bs x s → s < 1048576 := fun x s hF => by
    obtain ⟨b, hb, _, _, h2⟩ := hF
    have h3 := HI.out.end_le b hb
    have h4 := HI.out.small
    omega
  have HLE := Lib.hid (show ∀ (k : Nat) (pr : Value × List (Ent Value)), L[k]? = some pr → pr.2.length ≤ 1048576 ∧ ∀ e ∈ pr.2, e.h.length ≤ 1048576 from fun k pr hk => by
    have h1 : (L.map (·.2))[k]? = some pr.2 := by rw [List.getElem?_map, hk]; rfl
    exact ⟨HI.out.lists.len_le hsm k pr.2 h1, fun e he => Nat.le_trans (HI.out.lists.heap k pr.2 h1 e he).len_le HI.out.small⟩)
  obtain ⟨Lg, hLg⟩ : ∃ Lg, Lg = L.map (fun p => p.2.map entG) := ⟨_, rfl⟩
  have HLG := Lib.hid hLg
  have J0 : CpJ w cb gl wb' tb' kb' m ln wc' tc' kc' used (u64s ws) (u64s tbs) (u64s kbs) Lg (fun b => b = gl) (noLists ln) (fun _ => 0) (fun _ => 0) 0 0 W8 := by
    have hN : (noLists ln).length = ln := by simp [noLists]
    have hM : (noLists ln).map (·.1) = List.replicate ln (.slice none 0 0) := by simp [noLists]
    refine ⟨⟨?_, ?_, fun j pr h => ?_, fun j pr h b hb => ?_, fun j pr h e he => ?_, fun j pr h e he => ?_⟩, fun b hb => ⟨?_, ?_⟩, hN, fun k pr hk => ?_, q8, HWR.out, HTR.out, HKR.out, b8⟩
    · rw [hN, hM]; exact made_row g8 (by have := HL6.out; unfold maxLen; omega)
    · intro b hb; simp [Value.ownBlock] at hb; exact hb.symm
    · rw [noLists_at h]; exact ⟨rfl, .inl ⟨rfl, rfl⟩⟩
    · rw [noLists_at h] at hb; cases hb
    · rw [noLists_at h] at he; cases he
    · rw [noLists_at h] at he; cases he
    · rw [hb, ← hgl]; exact HB7.out.size
    · rw [hb]; exact heap_lt g8
    · rw [noLists_at hk]; unfold wantAt; simp
  have HJ0 := Lib.hid J0
  have hlog : ∀ k g, Lg[k]? = some g → ∀ e ∈ g, Nat.log2 e.1 = k := fun k g hk e he => by
    rw [hLg, List.getElem?_map] at hk
    obtain ⟨pr, h1, h2⟩ := Option.map_eq_some_iff.1 hk
    rw [← h2] at he
    obtain ⟨e0, he0, rfl⟩ := List.mem_map.1 he
    exact (HI.out.lists.pos k pr.2 (by rw [List.getElem?_map, h1]; rfl) e0 he0).2.1
  have hsort : ∀ (k : Nat) (g : List (Nat × List Nat)), Lg[k]? = some g → g.Pairwise (fun a b => a.1 < b.1) := fun k g hk => by
    rw [hLg, List.getElem?_map] at hk
    obtain ⟨pr, h1, h2⟩ := Option.map_eq_some_iff.1 hk
    rw [← h2]
    exact List.pairwise_map.2 (HI.out.lists.sorted k pr.2 (by rw [List.getElem?_map, h1]; rfl))
  have HLOG := Lib.hid hlog; have HSORT := Lib.hid hsort
  have HGL := Lib.hid hgl
  clear hW8 z5 hm1 c5 hcl q8 g8 u8 b8 J0 hlog hsort hLg hgl
  go_wp2_with fail
  go_loopw [43] (fun t43 wr => ∃ (i : Nat) (SN : Nat → Prop) (Ln : List (Value × List (Ent Value))) (T' K' : Nat → Nat), t43 = .int .i64 (i : Nat) ∧ i ≤ ln ∧ CpJ w cb gl wb' tb' kb' m ln wc' tc' kc' used (u64s ws) (u64s tbs) (u64s kbs) Lg SN Ln T' K' i 0 wr) (fun t43 _ => ln - (intOf t43).toNat)
  case atStart => exact ⟨0, _, _, _, _, rfl, Nat.zero_le _, HJ0.out⟩
  case round =>
    obtain ⟨i, SN, Ln, T', K', rfl, hi, J⟩ := hrel
    have HJ := Lib.hid J
    by_cases hlt : i < ln
    · obtain ⟨pr, hpr⟩ : ∃ pr, L[i]? = some pr := ⟨L[i]'(by rw [HLN.out]; exact hlt), by simp [HLN.out, hlt]⟩
      obtain ⟨v, le⟩ := pr
      have hor := HA.out.core.ls.row
      rw [HLN.out] at hor
      obtain ⟨lb, cap0, cur0, e0, _, _, _, hce⟩ := ownsRow_some hor (by omega)
      simp only [Value.slice.injEq] at e0
      obtain ⟨rfl, _, rfl⟩ := e0
      have x1 := hce i (by omega)
      rw [List.getElem?_map, hpr] at x1
      simp only [Option.map_some] at x1
      have x1 := below_cell J.below x1
      have hmr := HA.out.core.ls.mrow i _ hpr
      obtain ⟨vo, vc, hv, _⟩ := ownsRow_form hmr
      dsimp only at hv
      subst hv
      obtain ⟨n, hn⟩ : ∃ n, le.length = n := ⟨_, rfl⟩
      have HN := Lib.hid hn; have HPR := Lib.hid hpr
      rw [hn] at x1
      have hlt' : (i : Int) < ln := by omega
      have hi0 : (0 : Int) ≤ i := by omega
      have HLT := Lib.hid hlt
      have HI6 := Lib.hid (show (i : Int) < 1048577 by have := HL6.out; omega)
      have HN6 := Lib.hid (show n ≤ 1048576 by rw [← hn]; exact (HLE.out i _ hpr).1)
      clear hor hce hmr hn hpr hi hlt J HJ0
      go_wp2_with fail
      go_loopw [50] (fun t50 wx => ∃ (j : Nat) (SN : Nat → Prop) (Ln : List (Value × List (Ent Value))) (T' K' : Nat → Nat), t50 = .int .i64 (j : Nat) ∧ j ≤ n ∧ CpJ w cb gl wb' tb' kb' m ln wc' tc' kc' used (u64s ws) (u64s tbs) (u64s kbs) Lg SN Ln T' K' i j wx) (fun t50 _ => n - (intOf t50).toNat)
      case atStart => exact ⟨0, _, _, _, _, rfl, Nat.zero_le _, HJ.out⟩
      case round =>
        clear HJ x1
        obtain ⟨j, SM, Lm, T1, K1, rfl, hj, J⟩ := hrel
        have HJ := Lib.hid J
        by_cases hjn : j < n
        · obtain ⟨e, he⟩ : ∃ e, le[j]? = some e := ⟨le[j]'(by rw [HN.out]; exact hjn), by simp [HN.out, hjn]⟩
          have hmr := HA.out.core.ls.mrow i _ HPR.out
          dsimp only at hmr
          rw [HN.out] at hmr
          obtain ⟨vb, vc0, vcur, e0, _, _, _, hce⟩ := ownsRow_some hmr (by omega)
          simp only [Value.slice.injEq] at e0
          obtain ⟨rfl, _, rfl⟩ := e0
          have y0 := hce (j * 2) (by omega)
          have y1 := hce (j * 2 + 1) (by omega)
          rw [(flatE_at le j e he).1] at y0
          rw [(flatE_at le j e he).2] at y1
          have y0 := below_cell J.below y0
          have y1 := below_cell J.below y1
          have hem : e ∈ le := List.mem_of_getElem? he
          have hhr := HA.out.core.ls.hrow i _ HPR.out e hem
          have hne := (HI.out.lists.pos i le (by rw [List.getElem?_map, HPR.out]; rfl) e hem).2.2
          obtain ⟨eb, ec, ecur, e1, _, _, _, _⟩ := ownsRow_some hhr (List.length_pos_iff.2 hne)
          rw [e1] at y1 hhr
          have HHR := Lib.hid (ownsRow_upd (S := fun _ => False) hhr (Upd.of_below J.below) (fun _ _ h => h))
          obtain ⟨hn, hhn⟩ : ∃ hn, e.h.length = hn := ⟨_, rfl⟩
          rw [hhn] at y1
          obtain ⟨sz, hsz⟩ : ∃ sz, e.s = sz := ⟨_, rfl⟩
          rw [hsz] at y0
          have HH6 := Lib.hid (show hn ≤ 1048576 by rw [← hhn]; exact (HLE.out i _ HPR.out).2 e hem)
          have hil : i < Lm.length := by rw [J.len]; exact HLT.out
          obtain ⟨pr1, hpr1⟩ : ∃ pr1, Lm[i]? = some pr1 := ⟨Lm[i], by simp [hil]⟩
          obtain ⟨v1, l1⟩ := pr1
          obtain ⟨vo1, vc1, hv1, _⟩ := ownsRow_form (J.ls.mrow i _ hpr1)
          dsimp only at hv1
          subst hv1
          have g4 := heap_cell J.blk 4
          simp at g4
          have hlr := J.ls.row
          rw [J.len] at hlr
          have hil2 : i < ln := HLT.out
          have gi := hlr.cellAt i (by omega)
          rw [List.getElem?_map, hpr1] at gi
          simp only [Option.map_some] at gi
          have gf := hlr.frozenAt i
          clear hlr hil2
          obtain ⟨n1, hn1⟩ : ∃ n1, l1.length = n1 := ⟨_, rfl⟩
          rw [hn1] at gi
          have HN1 := Lib.hid hn1; have HPR1 := Lib.hid hpr1; have HHN := Lib.hid hhn; have HSZ := Lib.hid hsz; have HE := Lib.hid he
          have hlt2 : (j : Int) < n := by omega
          have hj0 : (0 : Int) ≤ j := by omega
          have HJN := Lib.hid hjn
          have HJ6 := Lib.hid (show (j : Int) < 1048577 by have := HN6.out; omega)
          clear hmr hce he hem hhr hne e1 hhn hsz hil hpr1 hn1 hj hjn J
          obtain ⟨mb, hmb⟩ : ∃ mb, wr.heap.size = mb := ⟨_, rfl⟩
          go_upto_region 14 with fail
          obtain ⟨V1, hV1⟩ : ∃ V1, V1 = wr.alloc (.cells #[.int .i64 sz, .slice (some ⟨eb, 0, none⟩) hn ec] 69) := ⟨_, rfl⟩
          rw [← hV1]
          have v1 : V1.heap[mb]? = some (.cells #[.int .i64 sz, .slice (some ⟨eb, 0, none⟩) hn ec] 69 (0, 0)) := by rw [hV1]; exact heap_alloc_at _ _ hmb.symm
          have bv : Below wr.heap.size wr V1 := by rw [hV1]; exact (Below.refl _ _).alloc (Nat.le_refl _) _
          have g4 := below_cell bv g4
          have gi := below_cell bv gi
          have m0 := heap_cell v1 0
          have m1 := heap_cell v1 1
          simp at m0 m1
          have HV1 := Lib.hid v1; have HBV := Lib.hid bv; have HMB := Lib.hid hmb; have HGF := Lib.hid gf
          obtain ⟨R, hR⟩ : ∃ R : Nat → Prop, R = fun b => (Value.slice vo1 n1 vc1).ownBlock = some b := ⟨_, rfl⟩
          have hm1' := HJ.out.ls.mrow i _ HPR1.out
          dsimp only at hm1'
          rw [HN1.out] at hm1'
          have r1 : ¬ R cb := by rw [hR]; exact fun h => row_nb hm1' HJ.out.blk (by decide) h
          have r2 : ¬ R gl := by rw [hR]; exact fun h => rows_ne hm1' HJ.out.ls.row (by decide) h rfl
          have r3 : ¬ R mb := by rw [hR]; exact fun h => by have := (hm1'.lt mb h).2; omega
          have f4 := ExtU.cells (R := R) g4 r1
          have fi := ExtU.cells (R := R) gi r2
          have f0 := ExtU.cells (R := R) m0 r3
          have f1 := ExtU.cells (R := R) m1 r3
          have HMR := Lib.hid hm1'; have HR := Lib.hid hR
          clear hV1 v1 bv hmb y0 y1 gf g4 gi m0 m1 hm1' r1 r2 r3 hR
          refine wp_region_midX (fun x : ExtU R V1 => x.val) 16 [0, 1, 2, 3, 4, 5, 6, 7, 8, 9, 10, 11] [12, 13, 14, 15] (by kernel_rfl) (by kernel_rfl) (by kernel_rfl) (by kernel_rfl) (by rintro c a (_ | d) v w h <;> exact h) ⟨⟨_, (Upd.refl _ _).drew⟩, rfl⟩ ?_
          simp only [pickO, List.getD_cons_succ, List.getD_cons_zero, List.drop_succ_cons, List.drop_zero]
          repeat (go_big_quiet_step (fail))
          refine wpQuiet_nil ?_
          unfold wpMids
          go_wp2_with fail
          have hr1 := HHR.out
          rw [HHN.out] at hr1
          have hbd : Below V1.heap.size V1 V1.drew := (Below.refl _ _).drew
          refine (cloneI_any eb hn ec (ints e.h) V1.drew (ownsRow_upd (S := fun _ => False) hr1 (Upd.of_below ((HBV.out.trans (hbd.mono HBV.out.size)))) (fun _ _ h => h)) (ints_oneC _) (by have := HH6.out; omega)).mono ?_
          rintro ee V2 ⟨ab, ac, rfl, o2, b2⟩
          have b2 := hbd.trans b2
          have HO2 := Lib.hid o2; have HB2 := Lib.hid b2
          clear hr1 hbd o2 b2
          go_wp2_with fail
          refine ⟨⟨⟨_, Upd.of_below HB2.out⟩, rfl⟩, ?_⟩
          unfold wpMids
          go_wp2_with fail
          refine ⟨⟨⟨_, Upd.of_below HB2.out⟩, rfl⟩, ?_⟩
          unfold wpMids
          go_wp2_with fail
          refine ⟨⟨⟨_, (Upd.of_below HB2.out).alloc _⟩, rfl⟩, ?_⟩
          unfold wpMids
          obtain ⟨nb, hnb⟩ : ∃ nb, V2.heap.size = nb := ⟨_, rfl⟩
          obtain ⟨V3, hV3⟩ : ∃ V3, V3 = V2.alloc (.cells #[.int .i64 sz, .slice (some ⟨ab, 0, none⟩) hn ac] 69) := ⟨_, rfl⟩
          rw [← hV3, hnb]
          have q3 : V3.heap[nb]? = some (.cells #[.int .i64 sz, .slice (some ⟨ab, 0, none⟩) hn ac] 69 (0, 0)) := by rw [hV3]; exact heap_alloc_at _ _ hnb.symm
          have b3 : Below V2.heap.size V2 V3 := by rw [hV3]; exact (Below.refl _ _).alloc (Nat.le_refl _) _
          have bw3 : Below wr.heap.size wr V3 := HBV.out.trans ((HB2.out.trans (b3.mono HB2.out.size)).mono HBV.out.size)
          have HM3 := Lib.hid (ownsRow_upd (S := fun _ => False) HMR.out (Upd.of_below bw3) (fun _ _ h => h))
          have HB3 := Lib.hid b3; have HQ3 := Lib.hid q3; have HW3 := Lib.hid bw3
          have HO3 := Lib.hid (ownsRow_upd (S := fun _ => False) HO2.out (Upd.of_below b3) (fun _ _ h => h))
          have HN16 := Lib.hid (show n1 ≤ 1048576 by
            have h1 := congrArg List.length (HJ.out.want i _ HPR1.out)
            unfold wantAt at h1
            rw [if_neg (by omega), if_pos rfl, List.length_map, List.length_take] at h1
            have h2 := HN1.out; have h3 := HN6.out; have h4 := HJN.out
            dsimp only at h1
            omega)
          clear hV3 hnb b3 q3 bw3
          go_wp2_with (at_builtin; refine wpList_append_own2 _ rfl _ _ 67 rfl 0 69 i0 _ 2 32 Tryd.underlying67 Hi.out Hz0.out Hz1.out Hz2.out rfl (by decide) (.slice vo1 n1 vc1) n1 (flatE l1) rfl HM3.out ⟨nb, 0, none⟩ 1 1 [.int .i64 sz, .slice (some ⟨ab, 0, none⟩) hn ac] rfl rfl ?c1 ?c2 ?c3 ?c4 (Nat.zero_le _) (by decide) ?_)
          case c1 =>
            intro j u hj
            rw [Addr.add_lit, Nat.zero_add, heap_cell HQ3.out]
            simpa using hj
          case c2 =>
            intro u hu
            rcases List.mem_cons.1 hu with h | h
            · rw [h]; rfl
            · rw [List.mem_singleton.1 h]; rfl
          case c3 => have := HN16.out; unfold maxLen; omega
          case c4 => have := HN16.out; omega
          intro v4 V4 r4 g4 mu4
          obtain ⟨vo4, vc4, rfl, _⟩ := ownsRow_form r4
          have u14 : Upd R V1 V4 := by
            rw [HR.out]
            exact (Upd.of_below (HB2.out.trans (HB3.out.mono HB2.out.size))).grown g4 (fun k hk => .inl hk)
          have uw4 : Upd (fun b => (Value.slice vo1 n1 vc1).ownBlock = some b) wr V4 := (Upd.of_below HW3.out).grown g4 (fun k hk => .inl hk)
          have hl4 := ownsRow_upd HJ.out.ls.row uw4 (fun b hb h => rows_ne HMR.out HJ.out.ls.row (by decide) h hb)
          rw [HJ.out.len] at hl4
          have hil3 : i < ln := HLT.out
          have gi := hl4.cellAt i (by omega)
          rw [List.getElem?_map, HPR1.out] at gi
          simp only [Option.map_some] at gi
          rw [HN1.out] at gi
          have gf := hl4.frozenAt i
          have HL4 := Lib.hid hl4; have HUW4 := Lib.hid uw4; have HU14 := Lib.hid u14; have HR4 := Lib.hid r4; have HG4 := Lib.hid g4; have HMU := Lib.hid mu4
          clear r4 g4 mu4 u14 uw4 hl4 hil3
          go_wp2_with fail
          refine ⟨⟨⟨_, HU14.out⟩, rfl⟩, ?_⟩
          unfold wpMids
          have HJ6' := HJ6.out
          go_wp2_with fail
          obtain ⟨V5, hV5⟩ : ∃ V5, V5 = V4.setCell ⟨gl, i, none⟩ (.slice vo4 (n1 + 1) vc4) := ⟨_, rfl⟩
          rw [← hV5]
          have u45 : Upd (fun b => b = gl) V4 V5 := by rw [hV5]; exact upd_set _ _ _ _
          have hgb : (Value.slice (some ⟨gl, 0, none⟩) ln ln).ownBlock = some gl := rfl
          have u5 : Upd (fun b => (Value.slice vo1 n1 vc1).ownBlock = some b ∨ b = gl) wr V5 := (HUW4.out.mono (fun b _ h => .inl h)).trans' (u45.mono (fun b _ h => .inr h))
          have hmw := HW3.out.size
          have hat : V5.ownsRow 0 3 1 (.slice (some ⟨ab, 0, none⟩) hn ac) e.h.length (ints e.h) := by
            have h1 := ownsRow_low HO3.out (Nat.zero_le _)
            have h2 := ownsRow_upd (S := fun b => (Value.slice vo1 n1 vc1).ownBlock = some b) h1 ((Upd.refl _ _).grown HG4.out (fun k hk => .inl hk)) (fun b hb h => rows_ne h1 HM3.out (by decide) hb h)
            have h3 := ownsRow_upd h2 u45 (fun b hb h => rows_ne h2 HL4.out (by decide) hb (by rw [h]; rfl))
            rw [HHN.out]; exact h3
          have hatn : ∀ b, (Value.slice (some ⟨ab, 0, none⟩) hn ac).ownBlock = some b → wr.heap.size ≤ b := fun b hb => by
            have h1 := (HO3.out.lt b hb).1
            have h2 := HBV.out.size
            simp at h1
            omega
          have hm : V5.ownsRow 0 69 2 (.slice vo4 (n1 + 1) vc4) (l1.length + 1) (flatE (l1 ++ [⟨sz, .slice (some ⟨ab, 0, none⟩) hn ac, e.h⟩])) := by
            rw [HN1.out, flatE_append]
            exact ownsRow_upd HR4.out u45 (fun b hb h => rows_ne HR4.out HL4.out (by decide) hb (by rw [h]; rfl))
          have hmm : (Value.slice vo4 (n1 + 1) vc4).ownBlock = (Value.slice vo1 n1 vc1).ownBlock ∨ ∀ b, (Value.slice vo4 (n1 + 1) vc4).ownBlock = some b → wr.heap.size ≤ b := by
            rcases HMU.out with h | h
            · exact .inl h
            · exact .inr (fun b hb => Nat.le_trans hmw (h b hb))
          have hst := (HL4.out.stored i (.slice vo4 (n1 + 1) vc4)).1
          rw [← hV5, ← map_set (f := (·.1)) (x := ((.slice vo4 (n1 + 1) vc4, l1 ++ [⟨sz, .slice (some ⟨ab, 0, none⟩) hn ac, e.h⟩]) : Value × List (Ent Value)))] at hst
          have hp1 := HPR1.out
          rw [HN1.out] at hp1
          have hbl : Below w.heap.size w V5 := by
            rw [hV5]
            refine ((HJ.out.below.trans (HW3.out.mono HJ.out.below.size)).grown HG4.out (Nat.le_trans HJ.out.below.size hmw) (fun k hk => ?_)).setCell ?_ _
            · exact (HJ.out.low k (HJ.out.ls.mown i _ hp1 k hk).1).1
            · exact (HJ.out.low gl (HJ.out.ls.own gl rfl)).1
          have hgi : Lg[i]? = some (le.map entG) := by rw [HLG.out, List.getElem?_map, HPR.out]; rfl
          have hgj : (le.map entG)[j]? = some (sz, e.h) := by rw [List.getElem?_map, HE.out, ← HSZ.out]; rfl
          obtain ⟨S5, T5, K5, J5⟩ := HJ.out.push hp1 hgi hgj HLOG.out HSORT.out u5 hat hatn hm hmm hst hbl
          refine ⟨⟨j + 1, _, _, _, _, by go_num, HJN.out, J5⟩, ?_⟩
          have := HJN.out; simp [intOf]; omega
        · obtain rfl : j = n := by omega
          have hlt2 : ¬ ((j : Int) < j) := by omega
          have HDL := Lib.hid (show (Lg.getD i []).length = j by
            rw [List.getD_eq_getElem?_getD, HLG.out, List.getElem?_map, HPR.out]
            simp [HN.out])
          have HNX := Lib.hid (CpJ.next (by rw [HDL.out]; exact HJ.out))
          have HI6' := HI6.out
          clear hj hjn J
          go_wp2_with fail
          refine ⟨⟨i + 1, _, _, _, _, by go_num, HLT.out, HNX.out⟩, ?_⟩
          have := HLT.out; simp [intOf]; omega
    · obtain rfl : i = ln := by omega
      have hlt' : ¬ ((i : Int) < i) := by omega
      go_wp2_with fail
      go_ret
      have J := HJ.out
      rw [HLG.out] at J
      obtain ⟨S', h1, h2⟩ := J.done HA.out HI.out HLN.out (Nat.le_of_eq HCB.out) HTW.out HKW.out HTK.out
      exact ⟨cb, S', rfl, h1, h2, J.below⟩
end Go.Proofs.YtelohkppbmahnaaDoor
