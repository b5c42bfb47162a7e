/- package mark: over. -/
import Derived.Test.YtfpfpopfnbcblaaDoorQMkReachMBd
import Derived.Outline
import Derived.WalkSpells
import Derived.Test.YtfpfpopfnbcblaaDoorQInRoundBd
import Derived.Test.YtfpfpopfnbcblaaDoorQMkInvBd
namespace Go.Proofs.YtfpfpopfnbcblaaDoor
open Go.RowKit Go.Shelf
attribute [local go_sem] Oper.semAt_some

theorem ocell_putObj {W : World} {l : Nat} {o : Obj} (o' : Obj) {a : Addr} {v : Value} (h : W.heap[l]? = some o) (ho : o.isCells = false) (hc : W.cell? a = some v) : (W.putObj l o').cell? a = some v :=
  cell_kept hc (grownBy_putObj' W l o') (fun r e => by cases e; exact ⟨_, h, ho⟩)
/-- Between two rounds of over. -/
def OverI (S : Nat → Prop) (p m mb : Nat) (fw : FuncId) (capw : Array Value) (lim : Nat) (ct : List (Nat × List Nat × Bool)) (E0 : Nat → List Nat) (M R : Nat → Prop) (c0 : Nat) (w : World) (bs : List Blk) (s : Mk) (pre : List (Nat × Nat)) (W : World) : Prop :=
  ∃ bs' s', DSt S p m mb fw capw lim ct E0 M R c0 w (fun y => MarkX bs y ∧ y ∉ pre.map (·.1)) bs' s' W ∧ Stp bs s bs' s' ∧ s'.todo = [] ∧ W.cell? ⟨w.heap.size, 0, none⟩ = some (.pointer (some ⟨mb, 0, none⟩)) ∧ W.cell? ⟨w.heap.size + 1, 0, none⟩ = some (.pointer (some ⟨p, 0, none⟩))
variable {S : Nat → Prop} {p m mb : Nat} {fw : FuncId} {capw : Array Value} {lim : Nat} {ct : List (Nat × List Nat × Bool)} {E0 : Nat → List Nat} {M R : Nat → Prop} {c0 : Nat} {w : World} {bs : List Blk} {s : Mk}
theorem MEnv.out_lt (V : MEnv S p m mb fw capw ct E0 w) (b : Nat) (h : S b ∨ b = mb) : b < w.heap.size := h.elim (V.hS b) (fun e => by rw [e]; exact V.mbl)
def shapeC (ct : List (Nat × List Nat × Bool)) : List (Nat × Nat × Bool) := ct.map fun t => (t.1, t.2.1.length, t.2.2)
theorem OverI.blk (V : MEnv S p m mb fw capw ct E0 w) {pre : List (Nat × Nat)} {W : World} (h : OverI S p m mb fw capw lim ct E0 M R c0 w bs s pre W) : BlkAt (w.heap.size + 1) p m (shapeC ct) W := by
  obtain ⟨bs', s', hd, _, _, _, hc⟩ := h
  exact ⟨hc, ⟨S, bs', by rw [shape_content, hd.inv.same]; rfl, hd.st.ar⟩, (V.tab W hd.upd).2⟩
theorem OverI.put (V : MEnv S p m mb fw capw ct E0 w) {pre : List (Nat × Nat)} {W : World} {l : Nat} {o : Obj} (o' : Obj) (hl : w.heap.size ≤ l) (hh : W.heap[l]? = some o) (ho : o.isCells = false) (h : OverI S p m mb fw capw lim ct E0 M R c0 w bs s pre W) : OverI S p m mb fw capw lim ct E0 M R c0 w bs s pre (W.putObj l o') := by
  obtain ⟨bs', s', hd, h1, h2, h3, h4⟩ := h
  exact ⟨bs', s', hd.away V (upd_putObj W l o') (fun b hb => by rw [hb]; exact hl), h1, h2, ocell_putObj o' hh ho h3, ocell_putObj o' hh ho h4⟩
theorem usedC_shape {x : Nat × Nat} (h : x ∈ usedsF (shapeC ct)) : UsedC ct x.1 := by
  unfold usedsF shapeC at h
  obtain ⟨t, ht, rfl⟩ := List.mem_map.1 h
  obtain ⟨h1, h2⟩ := List.mem_filter.1 ht
  obtain ⟨q, hq, rfl⟩ := List.mem_map.1 h1
  exact ⟨q.2.1, by dsimp only at h2 ⊢; rw [← h2]; exact hq⟩
theorem shape_usedC {y : Nat} (h : UsedC ct y) : ∃ n, (y, n) ∈ usedsF (shapeC ct) := by
  obtain ⟨ws, h⟩ := h
  refine ⟨ws.length, ?_⟩
  unfold usedsF shapeC
  exact List.mem_map.2 ⟨(y, ws.length, true), List.mem_filter.2 ⟨List.mem_map.2 ⟨_, h, rfl⟩, rfl⟩, rfl⟩
/-- Other marked ones are still to be looked at; what is not any longer points to marked ones. -/
theorem MInv.exch {EE : Nat → List Nat} {ex ex' : Nat → Prop} (h : MInv ct EE M R c0 ex bs s) (h1 : ∀ y, ex' y → MarkX bs y) (h2 : ∀ y, ex y → ¬ ex' y → ∀ b ∈ EE y, UsedC ct b → MarkX bs b) : MInv ct EE M R c0 ex' bs s :=
  ⟨h.same, ⟨h.mk'.old, h.mk'.sub, fun a ha => ha.elim (fun q => h.mk'.td a (.inl q)) (h1 a), fun hl a ha hn b hb hu => by
    have hn1 : a ∉ s.todo := fun q => hn (.inl q)
    have hn2 : ¬ ex' a := fun q => hn (.inr q)
    by_cases e : ex a
    · exact h2 a e hn2 b hb hu
    · exact h.mk'.cl hl a ha (fun hh => hh.elim hn1 e) b hb hu⟩, h.cnt⟩
set_option maxRecDepth 100000 in
set_option maxHeartbeats 4000000 in
theorem over_any (V : MEnv S p m mb fw capw ct E0 w) (h : DSt S p m mb fw capw lim ct E0 M R c0 w (MarkX bs) bs s w) (ht : s.todo = []) :
    Calls Tryd.prog 34 #[.pointer (some ⟨mb, 0, none⟩)] w fun e W => (∃ u, e = .returned u) ∧ ∃ bs' s', DSt S p m mb fw capw lim ct E0 M R c0 w (fun _ => False) bs' s' W ∧ Stp bs s bs' s' ∧ s'.todo = [] := by
  obtain ⟨B, hB⟩ : ∃ B, B = w.heap.size := ⟨_, rfl⟩
  obtain ⟨W1, hW1⟩ : ∃ W1, W1 = w.alloc (.cells #[.pointer (some ⟨mb, 0, none⟩)] 65) := ⟨_, rfl⟩
  obtain ⟨W2, hW2⟩ : ∃ W2, W2 = W1.alloc (.cells #[.pointer (some ⟨p, 0, none⟩)] 25) := ⟨_, rfl⟩
  have hs1 : W1.heap.size = B + 1 := by rw [hW1, hB]; simp
  have hb1 : Below w.heap.size w W1 := by rw [hW1]; exact (Below.refl _ _).alloc (Nat.le_refl _) _
  have hb2 : Below W1.heap.size W1 W2 := by rw [hW2]; exact (Below.refl _ _).alloc (Nat.le_refl _) _
  have hb : Below w.heap.size w W2 := hb1.trans (hb2.mono hb1.size)
  have b0 := heap_cell (heap_alloc_at w (.cells #[.pointer (some ⟨mb, 0, none⟩)] 65) hB) 0
  have b1 := heap_cell (heap_alloc_at W1 (.cells #[.pointer (some ⟨p, 0, none⟩)] 25) hs1.symm) 0
  rw [← hW1] at b0; rw [← hW2] at b1
  simp at b0 b1
  have c0' := below_cell hb2 b0
  have m0 := below_cell hb1 h.st.mr.c0
  have hI0 : ∀ o o', OverI S p m mb fw capw lim ct E0 M R c0 w bs s [] ((W2.alloc o).alloc o') := fun o o' => by
    have hbb : Below W2.heap.size W2 ((W2.alloc o).alloc o') := ((Below.refl _ _).alloc (Nat.le_refl _) _).alloc (by simp) _
    have hd := (h.then hb).then hbb
    exact ⟨bs, s, ⟨hd.st, ⟨hd.inv.same, ⟨hd.inv.mk'.old, hd.inv.mk'.sub, fun a ha => hd.inv.mk'.td a (ha.imp id (fun q => q.1)), fun hl a hx hn => absurd hx (fun hx => hn (.inr ⟨hx, by simp⟩))⟩, hd.inv.cnt⟩, hd.upd⟩, .refl _ _, ht, by rw [← hB]; exact below_cell hbb c0', by rw [← hB]; exact below_cell hbb b1⟩
  have HV := Lib.hid V; have H := Lib.hid h; have HI0 := Lib.hid hI0; have HB := Lib.hid hB; have HBB := Lib.hid hb
  have HIT := Lib.hid (blocks_iter 6 (B + 1) p m (shapeC ct) (by omega) W2 (fun _ _ => True) (OverI S p m mb fw capw lim ct E0 M R c0 w bs s) (fun _ _ _ => False) (fun pre W h => by rw [hB]; exact OverI.blk HV.out h))
  rw [hW1] at m0
  clear V h hI0 hb hb1 hb2 b1 c0' ht hs1
  refine (callsIn_wide (n := 7)).1 ?_
  refine callsIn_of_wp_marks Tryd.func34 rfl trivial ?_ rfl
  simp only [Tryd.ntmps34, List.size_toArray, List.length_cons, List.length_nil, Nat.reduceAdd, Nat.reduceSub, Array.replicate_succ, Array.replicate_zero, List.push_toArray, List.append_toArray, List.nil_append, List.cons_append]
  gi_wp2_with (refine ⟨trivial, ?_⟩; gi_at_call 16; refine (callsIn_wide.2 (blocks_any p _)).mono ?_; rintro e w1 ⟨rfl, rfl⟩)
  refine wpIn_range_atG (F := Fence.wide) (n := 7) rfl (by omega) (gf := 42) (lb := #[.pointer (some ⟨w.heap.size + 1, 0, none⟩)]) rfl trivial (enters_of Tryd.func42 (by kernel_rfl) rfl)
    (encs := fun x : Nat × Nat => #[.int .i64 (x.1 : Nat), .int .i64 (x.2 : Nat)]) (fun _ => rfl) (fun _ _ => True) (OverI S p m mb fw capw lim ct E0 M R c0 w bs s) (fun _ _ _ => False)
    (fun _ _ => trivial) (fun _ _ _ _ _ _ _ => trivial)
    (fun pre W l o o' hl h ho hi => hi.put HV.out o' (by simp at hl; omega) h ho) (fun c pre W l o o' hl h ho hi => hi)
    (fun o o' => by have := HI0.out o o'; rw [hW2, hW1] at this; exact this) (fun x => { tmps := #[.pointer (some ⟨mb, 0, none⟩), .pointer (some ⟨w.heap.size, 0, none⟩), .int .i64 (x.1 : Nat), .pointer (some ⟨mb, 0, none⟩), .pointer (some ⟨mb, 0, none⟩), .pointer (some ⟨mb, 0, none⟩), .pointer (some ⟨p, 0, none⟩), .func (.func 42) #[] #[.pointer (some ⟨w.heap.size + 1, 0, none⟩)], .int .i64 (x.1 : Nat), .int .i64 (x.2 : Nat), undef, undef, undef, undef, undef, undef, undef, undef, undef, undef, undef, undef, undef, undef, undef, undef, undef], defers := [] })
    (by have := HIT.out; rw [hW2, hW1, hB] at this; exact this) ?assign ?body ?done ?stop
  case assign =>
    intro l x W K hK
    gi_wp2
    exact hK
  case body =>
    rintro l pre x W ⟨bs1, s1, hd, hst, htd, hc1, hc2⟩ hG
    have hxm : x ∈ usedsF (shapeC ct) := hG.subset (by simp)
    have hxu := usedC_shape hxm
    have k0 := hd.st.mr.c0
    have CM := Lib.hid (Marked_s hd.st.ar x.1 (by rw [← usedC_iff, hd.inv.same]; exact hxu))
    have HD := Lib.hid hd; have HST := Lib.hid hst; have HTD := Lib.hid htd; have HXU := Lib.hid hxu; have HC1 := Lib.hid hc1; have HC2 := Lib.hid hc2
    clear hd hst htd hG hxm hxu hW1 hW2 hB b0 m0
    obtain ⟨a, ha⟩ : ∃ a, x.1 = a := ⟨_, rfl⟩
    rw [ha] at CM HXU ⊢
    have HA := Lib.hid ha
    clear ha
    cases hmk : markedAt bs1 a
    · rw [hmk] at CM
      have HMK := Lib.hid hmk
      clear hmk
      gi_wp2_with (refine ⟨trivial, ?_⟩; gi_at_call 12; refine (callsIn_wide.2 CM.out).mono ?_; rintro e w1 ⟨rfl, rfl⟩)
      refine ⟨KeepsFrom.refl _ _, trivial, bs1, s1, ⟨HD.out.st, HD.out.inv.exch (fun y hy => HST.out.mono y hy.1) (fun y hy hn => ?_), HD.out.upd⟩, HST.out, HTD.out, HC1.out, HC2.out⟩
      have hy2 : y = a := by
        by_cases e : y = a
        · exact e
        · exact absurd ⟨hy.1, by simp only [List.map_append, List.map_cons, List.map_nil, List.mem_append, List.mem_singleton, not_or, HA.out]; exact ⟨hy.2, e⟩⟩ hn
      have := HST.out.mono y hy.1
      rw [hy2] at this
      unfold MarkX at this
      rw [HMK.out] at this; cases this
    · rw [hmk] at CM
      have HMK := Lib.hid hmk
      clear hmk
      gi_wp2_with (refine ⟨trivial, ?_⟩; gi_at_call 12; refine (callsIn_wide.2 CM.out).mono ?_; rintro e w1 ⟨rfl, rfl⟩)
      have hd1 : DSt S p m mb fw capw lim ct E0 M R c0 w (fun y => MarkX bs y ∧ y ∉ pre.map (·.1)) bs1 s1 W.drew := HD.out.then (Below.refl _ _).drew
      have hrx := hd1.inv.mk'.sub a HMK.out
      have C := Lib.hid (HV.out.words bs1 W.drew hd1.inv.same hd1.st.ar hd1.upd a HXU.out)
      have x0 : W.drew.cell? ⟨w.heap.size, 0, none⟩ = some (.pointer (some ⟨mb, 0, none⟩)) := HC1.out
      have x1 := hd1.st.mr.c1
      have HD1 := Lib.hid hd1; have HRX := Lib.hid hrx
      have hen := HV.out.enter
      clear hd1 hrx k0 CM
      -- REGION (printed by mkover.py)
      refine wpIn_region_calm (by kernel_rfl) (by simp) (fun _ _ h => h) ?_
      refine wpAny_take (i := 4) (v := .int .i64 a) rfl (by kernel_rfl) (by kernel_rfl) (by kernel_rfl) (fun _ _ _ h => h) (Or.inl ⟨by rfl, by intro w; go_simp⟩) ?_
      refine wpAny_ready (rs := [0, 6]) (by kernel_rfl) (by simp) ?_
      refine AllReady.cons rfl (fun K hK => ?_) ?_
      go_simp
      refine hK _ _ ?_
      clear hK K
      refine wpAny_take (i := 1) (v := .pointer (some ⟨mb, 0, none⟩)) rfl (by kernel_rfl) (by kernel_rfl) (by kernel_rfl) (fun _ _ _ h => h) (Or.inl ⟨by rfl, by intro w; go_simp⟩) ?_
      refine wpAny_take (i := 2) (v := .pointer (some ⟨mb, 1, none⟩)) rfl (by kernel_rfl) (by kernel_rfl) (by kernel_rfl) (fun _ _ _ h => h) (Or.inl ⟨by rfl, by intro w; go_simp⟩) ?_
      refine wpAny_ready (rs := [3, 6]) (by kernel_rfl) (by simp) ?_
      refine AllReady.cons rfl (fun K hK => ?_) ?_
      go_simp
      refine hK _ _ ?_
      clear hK K
      refine wpAny_ready (rs := [5, 6]) (by kernel_rfl) (by simp) ?_
      refine AllReady.cons rfl (fun K hK => ?_) ?_
      go_simp
      refine (C.out).mono ?_
      rintro e w2 ⟨v, rfl, hv, hb⟩
      have y0 := below_cell hb x0
      have hd2 := DSt.then HD1.out hb
      have C2 := Lib.hid (each_meet HV.out hd2 v (E0 a) (fun W u => hv.at (HD1.out.old HV.out) u) (HV.out.e64 a) (HV.out.len a) (fun b hb hu => .step HRX.out hb hu))
      have HB2 := Lib.hid hb
      clear hv hb hd2
      dsimp only
      refine hK _ _ ?_
      clear hK K
      refine wpAny_ready (rs := [6]) (by kernel_rfl) (by simp) ?_
      refine AllReady.cons rfl (fun K hK => ?_) ?_
      go_simp
      refine hK _ _ ?_
      clear hK K
      refine wpAny_take (i := 7) (v := .func (.func 32) #[.pointer (some ⟨mb, 0, none⟩)] #[]) rfl (by kernel_rfl) (by kernel_rfl) (by kernel_rfl) (fun _ _ _ h => h) (Or.inl ⟨by rfl, by intro w; go_simp⟩) ?_
      refine wpAny_ready (rs := [8]) (by kernel_rfl) (by simp) ?_
      refine AllReady.cons rfl (fun K hK => ?_) ?_
      go_simp
      refine (C2.out).mono ?_
      rintro e w3 ⟨⟨u, rfl⟩, hp⟩
      have HP := Lib.hid hp
      clear hp C C2
      dsimp only
      refine hK _ _ ?_
      clear hK K
      refine wpAny_done (by kernel_rfl) ?_ _
      dsimp only [OnlyN]
      rotate_left
      exact AllReady.nil
      exact AllReady.nil
      refine AllReady.cons rfl (fun K hK => ?_) ?_
      go_simp
      refine hK _ _ ?_
      clear hK K
      refine wpAny_take (i := 7) (v := .func (.func 32) #[.pointer (some ⟨mb, 0, none⟩)] #[]) rfl (by kernel_rfl) (by kernel_rfl) (by kernel_rfl) (fun _ _ _ h => h) (Or.inl ⟨by rfl, by intro w; go_simp⟩) ?_
      refine wpAny_ready (rs := [5]) (by kernel_rfl) (by simp) ?_
      refine AllReady.cons rfl (fun K hK => ?_) ?_
      go_simp
      refine (C.out).mono ?_
      rintro e w2 ⟨v, rfl, hv, hb⟩
      have y0 := below_cell hb x0
      have hd2 := DSt.then HD1.out hb
      have C2 := Lib.hid (each_meet HV.out hd2 v (E0 a) (fun W u => hv.at (HD1.out.old HV.out) u) (HV.out.e64 a) (HV.out.len a) (fun b hb hu => .step HRX.out hb hu))
      have HB2 := Lib.hid hb
      clear hv hb hd2
      dsimp only
      refine hK _ _ ?_
      clear hK K
      refine wpAny_ready (rs := [8]) (by kernel_rfl) (by simp) ?_
      refine AllReady.cons rfl (fun K hK => ?_) ?_
      go_simp
      refine (C2.out).mono ?_
      rintro e w3 ⟨⟨u, rfl⟩, hp⟩
      have HP := Lib.hid hp
      clear hp C C2
      dsimp only
      refine hK _ _ ?_
      clear hK K
      refine wpAny_done (by kernel_rfl) ?_ _
      dsimp only [OnlyN]
      rotate_left
      exact AllReady.nil
      exact AllReady.nil
      exact AllReady.nil
      refine AllReady.cons rfl (fun K hK => ?_) ?_
      go_simp
      refine hK _ _ ?_
      clear hK K
      refine wpAny_take (i := 7) (v := .func (.func 32) #[.pointer (some ⟨mb, 0, none⟩)] #[]) rfl (by kernel_rfl) (by kernel_rfl) (by kernel_rfl) (fun _ _ _ h => h) (Or.inl ⟨by rfl, by intro w; go_simp⟩) ?_
      refine wpAny_ready (rs := [3]) (by kernel_rfl) (by simp) ?_
      refine AllReady.cons rfl (fun K hK => ?_) ?_
      go_simp
      refine hK _ _ ?_
      clear hK K
      refine wpAny_ready (rs := [5]) (by kernel_rfl) (by simp) ?_
      refine AllReady.cons rfl (fun K hK => ?_) ?_
      go_simp
      refine (C.out).mono ?_
      rintro e w2 ⟨v, rfl, hv, hb⟩
      have y0 := below_cell hb x0
      have hd2 := DSt.then HD1.out hb
      have C2 := Lib.hid (each_meet HV.out hd2 v (E0 a) (fun W u => hv.at (HD1.out.old HV.out) u) (HV.out.e64 a) (HV.out.len a) (fun b hb hu => .step HRX.out hb hu))
      have HB2 := Lib.hid hb
      clear hv hb hd2
      dsimp only
      refine hK _ _ ?_
      clear hK K
      refine wpAny_ready (rs := [8]) (by kernel_rfl) (by simp) ?_
      refine AllReady.cons rfl (fun K hK => ?_) ?_
      go_simp
      refine (C2.out).mono ?_
      rintro e w3 ⟨⟨u, rfl⟩, hp⟩
      have HP := Lib.hid hp
      clear hp C C2
      dsimp only
      refine hK _ _ ?_
      clear hK K
      refine wpAny_done (by kernel_rfl) ?_ _
      dsimp only [OnlyN]
      rotate_left
      exact AllReady.nil
      exact AllReady.nil
      exact AllReady.nil
      exact AllReady.nil
      refine AllReady.cons rfl (fun K hK => ?_) ?_
      go_simp
      refine hK _ _ ?_
      clear hK K
      refine wpAny_take (i := 7) (v := .func (.func 32) #[.pointer (some ⟨mb, 0, none⟩)] #[]) rfl (by kernel_rfl) (by kernel_rfl) (by kernel_rfl) (fun _ _ _ h => h) (Or.inl ⟨by rfl, by intro w; go_simp⟩) ?_
      refine wpAny_ready (rs := [0]) (by kernel_rfl) (by simp) ?_
      refine AllReady.cons rfl (fun K hK => ?_) ?_
      go_simp
      refine hK _ _ ?_
      clear hK K
      refine wpAny_take (i := 1) (v := .pointer (some ⟨mb, 0, none⟩)) rfl (by kernel_rfl) (by kernel_rfl) (by kernel_rfl) (fun _ _ _ h => h) (Or.inl ⟨by rfl, by intro w; go_simp⟩) ?_
      refine wpAny_take (i := 2) (v := .pointer (some ⟨mb, 1, none⟩)) rfl (by kernel_rfl) (by kernel_rfl) (by kernel_rfl) (fun _ _ _ h => h) (Or.inl ⟨by rfl, by intro w; go_simp⟩) ?_
      refine wpAny_ready (rs := [3]) (by kernel_rfl) (by simp) ?_
      refine AllReady.cons rfl (fun K hK => ?_) ?_
      go_simp
      refine hK _ _ ?_
      clear hK K
      refine wpAny_ready (rs := [5]) (by kernel_rfl) (by simp) ?_
      refine AllReady.cons rfl (fun K hK => ?_) ?_
      go_simp
      refine (C.out).mono ?_
      rintro e w2 ⟨v, rfl, hv, hb⟩
      have y0 := below_cell hb x0
      have hd2 := DSt.then HD1.out hb
      have C2 := Lib.hid (each_meet HV.out hd2 v (E0 a) (fun W u => hv.at (HD1.out.old HV.out) u) (HV.out.e64 a) (HV.out.len a) (fun b hb hu => .step HRX.out hb hu))
      have HB2 := Lib.hid hb
      clear hv hb hd2
      dsimp only
      refine hK _ _ ?_
      clear hK K
      refine wpAny_ready (rs := [8]) (by kernel_rfl) (by simp) ?_
      refine AllReady.cons rfl (fun K hK => ?_) ?_
      go_simp
      refine (C2.out).mono ?_
      rintro e w3 ⟨⟨u, rfl⟩, hp⟩
      have HP := Lib.hid hp
      clear hp C C2
      dsimp only
      refine hK _ _ ?_
      clear hK K
      refine wpAny_done (by kernel_rfl) ?_ _
      dsimp only [OnlyN]
      rotate_left
      exact AllReady.nil
      exact AllReady.nil
      exact AllReady.nil
      exact AllReady.nil
      exact AllReady.nil
      all_goals
        obtain ⟨bs2, s2, h1, h2, h3, h4⟩ := HP.out
        have z0 : w3.cell? ⟨w.heap.size, 0, none⟩ = some (.pointer (some ⟨mb, 0, none⟩)) := h4.cell_some y0 (fun h => by have := HV.out.out_lt _ h; simp at this)
        have DR := Lib.hid (drain_any (HV.out.at h1.upd) h1.at)
        have H1 := Lib.hid h1; have H2 := Lib.hid h2; have H3 := Lib.hid h3; have H4 := Lib.hid h4
        clear h1 h2 h3 h4 x0 x1 y0 hen
        gi_wp2_with (refine ⟨trivial, ?_⟩; gi_at_call 33; refine (callsIn_wide.2 DR.out).mono ?_; rintro e w4 ⟨⟨u2, rfl⟩, hq⟩)
        obtain ⟨bs3, s3, q1, q2, q3⟩ := hq
        have uu : Upd (fun b => S b ∨ b = mb) W w4 := (((Upd.refl _ W).drew.trans' (Upd.of_below HB2.out)).trans' H4.out).trans' q1.upd
        refine ⟨upd_keepsFrom uu (fun b hb => by have := HV.out.out_lt b hb; simp; omega), trivial, bs3, s3, ⟨q1.st, q1.inv.exch (fun y hy => (HST.out.trans (H2.out.trans q2)).mono y hy.1) (fun y hy hn b hb hu => ?_), HD.out.upd.trans' uu⟩, HST.out.trans (H2.out.trans q2), q3, uu.cell_some HC1.out (fun h => by have := HV.out.out_lt _ h; simp at this), uu.cell_some HC2.out (fun h => by have := HV.out.out_lt _ h; simp at this; omega)⟩
        have hy2 : y = a := by
          by_cases e : y = a
          · exact e
          · exact absurd ⟨hy.1, by simp only [List.map_append, List.map_cons, List.map_nil, List.mem_append, List.mem_singleton, not_or, HA.out]; exact ⟨hy.2, e⟩⟩ hn
        rw [hy2] at hb
        exact q2.mono b (H3.out b hb hu)
  case done =>
    rintro D xs W hxs ⟨bs1, s1, hd, hst, htd, hc1, hc2⟩ hK hle
    have HD := Lib.hid hd; have HST := Lib.hid hst; have HTD := Lib.hid htd; have HXS := Lib.hid hxs
    clear hd hst htd hxs hW1 hW2 hB b0 m0
    refine ⟨by simp, .inl ⟨_, _, rfl, run_takeDeferred hK, ?_⟩⟩
    refine ⟨.tuple #[], by simp [results, Tryd.results34, go_sem], ⟨_, rfl⟩, bs1, s1, ?_, HST.out, HTD.out⟩
    have hd := HD.out.away HV.out (upd_putObj W D (.deferred none)) (fun b hb => by rw [hb]; simp at hle; omega)
    refine ⟨hd.st, hd.inv.exch (fun y hy => hy.elim) (fun y hy _ => ?_), hd.upd⟩
    obtain ⟨n, hn⟩ := shape_usedC (H.out.inv.mk'.sub y hy.1).used
    exact absurd (List.mem_map.2 ⟨(y, n), by rw [HXS.out]; exact hn, rfl⟩) hy.2
  case stop =>
    rintro D c pre W _ h
    exact h.elim
end Go.Proofs.YtfpfpopfnbcblaaDoor

/- package mark: marked. -/
namespace Go.Proofs.YtfpfpopfnbcblaaDoor
open Go.RowKit Go.Shelf
attribute [local go_sem] Oper.semAt_some

theorem mcell_putObj {W : World} {l : Nat} {o : Obj} (o' : Obj) {a : Addr} {v : Value} (h : W.heap[l]? = some o) (ho : o.isCells = false) (hc : W.cell? a = some v) : (W.putObj l o').cell? a = some v :=
  cell_kept hc (grownBy_putObj' W l o') (fun r e => by cases e; exact ⟨_, h, ho⟩)
theorem mfrozen_putObj {W : World} {l : Nat} {o : Obj} (o' : Obj) {a : Addr} {v : Value} (h : W.heap[l]? = some o) (ho : o.isCells = false) (hc : W.cell? a = some v) (hf : W.frozen? a = false) : (W.putObj l o').frozen? a = false :=
  (frozen_kept hc (grownBy_putObj' W l o') (fun r e => by cases e; exact ⟨_, h, ho⟩)).trans hf
structure MkdI (p mb : Nat) (bs : List Blk) (w : World) (pre : List (Nat × Nat)) (W : World) : Prop where
  b0 : W.cell? ⟨w.heap.size, 0, none⟩ = some (.pointer (some ⟨mb, 0, none⟩))
  b1 : W.cell? ⟨w.heap.size + 1, 0, none⟩ = some (.bool false)
  f1 : W.frozen? ⟨w.heap.size + 1, 0, none⟩ = false
  b2 : W.cell? ⟨w.heap.size + 2, 0, none⟩ = some (.pointer (some ⟨p, 0, none⟩))
  no : ∀ x ∈ pre, ¬ MarkX bs x.1
  bel : Below w.heap.size w W
def MkdX (bs : List Blk) (w : World) (c : Code) (_pre : List (Nat × Nat)) (W : World) : Prop := c = .ret ∧ W.cell? ⟨w.heap.size + 1, 0, none⟩ = some (.bool true) ∧ (∃ a, MarkX bs a) ∧ Below w.heap.size w W
variable {p mb : Nat} {bs : List Blk} {w : World}
theorem MkdI.put {pre : List (Nat × Nat)} {W : World} {l : Nat} {o : Obj} (o' : Obj) (hl : w.heap.size ≤ l) (h : W.heap[l]? = some o) (ho : o.isCells = false) (hi : MkdI p mb bs w pre W) : MkdI p mb bs w pre (W.putObj l o') :=
  ⟨mcell_putObj o' h ho hi.b0, mcell_putObj o' h ho hi.b1, mfrozen_putObj o' h ho hi.b1 hi.f1, mcell_putObj o' h ho hi.b2, hi.no, hi.bel.grown (grownBy_putObj' W l o') hi.bel.size (fun k e => by cases e; exact hl)⟩
theorem MkdX.put {c : Code} {pre : List (Nat × Nat)} {W : World} {l : Nat} {o : Obj} (o' : Obj) (hl : w.heap.size ≤ l) (h : W.heap[l]? = some o) (ho : o.isCells = false) (hi : MkdX bs w c pre W) : MkdX bs w c pre (W.putObj l o') := by
  obtain ⟨h1, h2, h3, h4⟩ := hi
  exact ⟨h1, mcell_putObj o' h ho h2, h3, h4.grown (grownBy_putObj' W l o') h4.size (fun k e => by cases e; exact hl)⟩
set_option maxRecDepth 100000 in
set_option maxHeartbeats 2000000 in
theorem marked_any {S : Nat → Prop} {m : Nat} (hA : ArV S w p m bs) (k0 : w.cell? ⟨mb, 0, none⟩ = some (.pointer (some ⟨p, 0, none⟩))) (ht : TzTab w) :
    Calls Tryd.prog 30 #[.pointer (some ⟨mb, 0, none⟩)] w fun e W => (∃ r : Bool, e = .returned (.bool r) ∧ (r = true ↔ ∃ a, MarkX bs a)) ∧ Below w.heap.size w W := by
  obtain ⟨W1, hW1⟩ : ∃ W1, W1 = ((w.alloc (.cells #[.pointer (some ⟨mb, 0, none⟩)] 65)).alloc (.cells #[.bool false] 4)).alloc (.cells #[.pointer (some ⟨p, 0, none⟩)] 25) := ⟨_, rfl⟩
  have hb : Below w.heap.size w W1 := by rw [hW1]; exact (((Below.refl _ _).alloc (Nat.le_refl _) _).alloc (by simp) _).alloc (by simp; omega) _
  have h0 := heap_alloc_keep (heap_alloc_keep (heap_alloc_at w (.cells #[.pointer (some ⟨mb, 0, none⟩)] 65) rfl) (.cells #[.bool false] 4)) (.cells #[.pointer (some ⟨p, 0, none⟩)] 25)
  have h1 := heap_alloc_keep (heap_alloc_at (w.alloc (.cells #[.pointer (some ⟨mb, 0, none⟩)] 65)) (.cells #[.bool false] 4) (b := w.heap.size + 1) (by simp)) (.cells #[.pointer (some ⟨p, 0, none⟩)] 25)
  have h2 := heap_alloc_at ((w.alloc (.cells #[.pointer (some ⟨mb, 0, none⟩)] 65)).alloc (.cells #[.bool false] 4)) (.cells #[.pointer (some ⟨p, 0, none⟩)] 25) (b := w.heap.size + 2) (by simp)
  rw [← hW1] at h0 h1 h2
  have hI0 : MkdI p mb bs w [] W1 := ⟨by have := heap_cell h0 0; simpa using this, by have := heap_cell h1 0; simpa using this, heap_frozen h1 0, by have := heap_cell h2 0; simpa using this, fun x hx => by simp at hx, hb⟩
  have hI2 : ∀ o o', MkdI p mb bs w [] ((W1.alloc o).alloc o') := fun o o' => by
    have hbb : Below W1.heap.size W1 ((W1.alloc o).alloc o') := ((Below.refl _ _).alloc (Nat.le_refl _) _).alloc (by simp) _
    exact ⟨below_cell hbb hI0.b0, below_cell hbb hI0.b1, (hbb.frozen (World.block_lt_of_cell? _ _ hI0.b1)).trans hI0.f1, below_cell hbb hI0.b2, hI0.no, hI0.bel.trans (hbb.mono hI0.bel.size)⟩
  have HA := Lib.hid hA; have HT := Lib.hid ht; have HI2 := Lib.hid hI2; have HK0 := Lib.hid k0
  have HIT := Lib.hid (blocks_iter 6 (w.heap.size + 2) p m (shape bs) (by omega) W1 (fun _ _ => True) (MkdI p mb bs w) (MkdX bs w) (fun pre W h => ⟨h.b2, ⟨S, bs, rfl, HA.out.below h.bel⟩, HT.out.on h.bel⟩))
  have k1 := below_cell (((Below.refl w.heap.size w).alloc (Nat.le_refl _) (.cells #[.pointer (some ⟨mb, 0, none⟩)] 65)).alloc (by simp) (.cells #[.bool false] 4)) k0
  clear hA ht hI0 hI2 h0 h1 h2 hb k0
  refine (callsIn_wide (n := 7)).1 ?_
  refine callsIn_of_wp_marks Tryd.func30 rfl trivial ?_ rfl
  simp only [Tryd.ntmps30, List.size_toArray, List.length_cons, List.length_nil, Nat.reduceAdd, Nat.reduceSub, Array.replicate_succ, Array.replicate_zero, List.push_toArray, List.append_toArray, List.nil_append, List.cons_append]
  gi_wp2_with (refine ⟨trivial, ?_⟩; gi_at_call 16; refine (callsIn_wide.2 (blocks_any p _)).mono ?_; rintro e w1 ⟨rfl, rfl⟩)
  refine wpIn_range_atG (F := Fence.wide) (n := 7) rfl (by omega) (gf := 42) (lb := #[.pointer (some ⟨w.heap.size + 2, 0, none⟩)]) rfl trivial (enters_of Tryd.func42 (by kernel_rfl) rfl)
    (encs := fun x : Nat × Nat => #[.int .i64 (x.1 : Nat), .int .i64 (x.2 : Nat)]) (fun _ => rfl) (fun _ _ => True) (MkdI p mb bs w) (MkdX bs w)
    (fun _ _ => trivial) (fun _ _ _ _ _ _ _ => trivial)
    (fun pre W l o o' hl h ho hi => hi.put o' (by simp at hl; omega) h ho) (fun c pre W l o o' hl h ho hi => hi.put o' (by simp at hl; omega) h ho)
    (fun o o' => by have := HI2.out o o'; rw [hW1] at this; exact this) (fun x => { tmps := #[.pointer (some ⟨mb, 0, none⟩), .pointer (some ⟨w.heap.size, 0, none⟩), .pointer (some ⟨w.heap.size + 1, 0, none⟩), .int .i64 (x.1 : Nat), .pointer (some ⟨mb, 0, none⟩), .pointer (some ⟨mb, 0, none⟩), .pointer (some ⟨mb, 0, none⟩), .pointer (some ⟨p, 0, none⟩), .func (.func 42) #[] #[.pointer (some ⟨w.heap.size + 2, 0, none⟩)], .int .i64 (x.1 : Nat), .int .i64 (x.2 : Nat), undef, undef, undef, undef, undef, undef], defers := [] })
    (by have := HIT.out; rw [hW1] at this; exact this) ?assign ?body ?done ?stop
  case assign =>
    intro l x W K hK
    gi_wp2
    exact hK
  case body =>
    rintro l pre x W hi hG
    have hxm : x ∈ usedsF (shape bs) := hG.subset (by simp)
    obtain ⟨b, hb, hbu, hba, _⟩ := usedsF_mem.1 hxm
    have HIN := Lib.hid hi
    have i0 := hi.b0; have i1 := hi.b1; have i3 := hi.f1
    have kk := below_cell hi.bel HK0.out
    have CM := Lib.hid (Marked_s (HA.out.below hi.bel) x.1 (by rw [← hba]; exact usedAt_of hb hbu))
    clear hi hG hxm hb hbu hba hW1 k1
    cases hmk : markedAt bs x.1
    · rw [hmk] at CM
      have HMK := Lib.hid hmk
      clear hmk
      gi_wp2_with (refine ⟨trivial, ?_⟩; gi_at_call 12; refine (callsIn_wide.2 CM.out).mono ?_; rintro e w1 ⟨rfl, rfl⟩)
      refine ⟨KeepsFrom.refl _ _, trivial, i0, i1, i3, HIN.out.b2, fun y hy => ?_, HIN.out.bel⟩
      rcases List.mem_append.1 hy with h | h
      · exact HIN.out.no y h
      · rw [List.mem_singleton] at h; subst h
        intro hh; unfold MarkX at hh; rw [HMK.out] at hh; cases hh
    · rw [hmk] at CM
      have HMK := Lib.hid hmk
      clear hmk
      gi_wp2_with (refine ⟨trivial, ?_⟩; gi_at_call 12; refine (callsIn_wide.2 CM.out).mono ?_; rintro e w1 ⟨rfl, rfl⟩)
      exact ⟨(KeepsOthers.setCell _ _ _).from _, rfl, World.cell?_setCell_same' _ _ _ (by rw [i1]; rfl), ⟨_, HMK.out⟩, HIN.out.bel.setCell (by simp) _⟩
  case done =>
    clear hW1 k1
    rintro D xs W hxs hi hK hle
    have HIN := Lib.hid hi; have HXS := Lib.hid hxs
    have i1 := hi.b1; have i3 := hi.f1
    clear hi hxs
    gi_wp2
    have hK2 := (KeepsOthers.setCell W ⟨w.heap.size + 1, 0, none⟩ (.bool false)).same D _ hK rfl
    refine ⟨by simp, .inl ⟨_, _, rfl, run_takeDeferred hK2, ?_⟩⟩
    have c1 : (W.setCell ⟨w.heap.size + 1, 0, none⟩ (.bool false)).cell? ⟨w.heap.size + 1, 0, none⟩ = some (.bool false) := World.cell?_setCell_same' _ _ _ (by rw [i1]; rfl)
    have c2 := mcell_putObj (.deferred none) hK2 rfl c1
    refine ⟨.bool false, by simp [results, Tryd.results30, go_sem, c2], ⟨false, rfl, ⟨fun h => (Bool.false_ne_true h).elim, fun ⟨a, ha⟩ => ?_⟩⟩, ?_⟩
    · obtain ⟨b, hb, hbm, hba⟩ := markedAt_iff.1 ha
      have hbu : b.u = true := by
        cases hu : b.u
        · have := HA.out.wf.unm b hb hu; rw [this] at hbm; cases hbm
        · rfl
      exact absurd (show MarkX bs (b.a, b.n).1 by show MarkX bs b.a; rw [hba]; exact ha) (HIN.out.no (b.a, b.n) (by rw [HXS.out]; exact usedsF_mem.2 ⟨b, hb, hbu, rfl, rfl⟩))
    · exact (HIN.out.bel.setCell (by simp) _).grown (grownBy_putObj' _ D _) (by have := HIN.out.bel.size; simp; omega) (fun k e => by cases e; simp at hle; omega)
  case stop =>
    clear hW1 k1
    rintro D c pre W _ ⟨rfl, i1, hex, hbel⟩ hK hle
    have HEX := Lib.hid hex; have HBEL := Lib.hid hbel
    clear hex hbel
    gi_wp2
    refine ⟨by simp, .inl ⟨_, _, rfl, run_takeDeferred hK, ?_⟩⟩
    have c2 := mcell_putObj (.deferred none) hK rfl i1
    refine ⟨.bool true, by simp [results, Tryd.results30, go_sem, c2], ⟨true, rfl, ⟨fun _ => HEX.out, fun _ => rfl⟩⟩, ?_⟩
    exact HBEL.out.grown (grownBy_putObj' _ D _) HBEL.out.size (fun k e => by cases e; simp at hle; omega)
end Go.Proofs.YtfpfpopfnbcblaaDoor

/- package mark: what Mark does with the roots. -/
namespace Go.Proofs.YtfpfpopfnbcblaaDoor
open Go.RowKit

variable {S : Nat → Prop} {p m mb mv : Nat} {fw : FuncId} {capw : Array Value} {lim : Nat} {ct : List (Nat × List Nat × Bool)} {E0 : Nat → List Nat} {M R : Nat → Prop} {c0 : Nat} {w0 : World} {ex : Nat → Prop} {bs : List Blk} {s : Mk}
theorem root_any (V : MEnv S p m mb fw capw ct E0 w0) {W0 : World} (h : DSt S p m mb fw capw lim ct E0 M R c0 w0 ex bs s W0) (hmv : W0.cell? ⟨mv, 0, none⟩ = some (.pointer (some ⟨mb, 0, none⟩))) (hU : ¬ (S mv ∨ mv = mb)) (a : Nat) (ha : a < 9223372036854775808) (hr : UsedC ct a → Rch (UsedC ct) (EF E0) (fun x => M x ∨ R x) a) :
    Calls Tryd.prog 31 (#[.int .i64 (a : Nat)] ++ #[.pointer (some ⟨mv, 0, none⟩)]) W0 fun e W => (∃ u, e = .returned u) ∧ ∃ bs' s', DSt S p m mb fw capw lim ct E0 M R c0 w0 ex bs' s' W ∧ Stp bs s bs' s' ∧ s'.todo = [] ∧ (UsedC ct a → MarkX bs' a) ∧ Upd (fun b => S b ∨ b = mb) W0 W := by
  have hw := h.st.ar.wf
  obtain ⟨q1, q2, q3⟩ := h.inv.meet (lim := lim) hw a (hr)
  have C := Lib.hid (meet_any h.st a ha (h.inv.many_le hw))
  have H := Lib.hid h; have HV := Lib.hid V; have Q1 := Lib.hid q1; have Q2 := Lib.hid q2; have Q3 := Lib.hid q3; have HU := Lib.hid hU
  clear h V q1 q2 q3 hU hr hw ha
  go_enter Tryd.func31, Tryd.ntmps31
  go_wp2_with fail
  refine C.out.mono ?_
  rintro e w1 ⟨⟨u, rfl⟩, hms, hu⟩
  have k1 := hu.cell_some hmv HU.out
  have hd1 : DSt S p m mb fw capw lim ct E0 M R c0 w0 ex _ _ w1 := ⟨hms, Q1.out, H.out.upd.trans' hu⟩
  have D := Lib.hid (drain_any (HV.out.at hd1.upd) hd1.at)
  have HD := Lib.hid hd1; have HUU := Lib.hid hu
  clear hms hu hd1 hmv
  go_wp2_with fail
  refine D.out.mono ?_
  rintro e w2 ⟨⟨u2, rfl⟩, bs', s', h1, h2, h3⟩
  have H1 := Lib.hid h1; have H2 := Lib.hid h2; have H3 := Lib.hid h3
  clear h1 h2 h3 C D
  go_wp2
  go_end0
  exact ⟨⟨_, rfl⟩, bs', s', H1.out.from HD.out.upd, Q2.out.trans H2.out, H3.out, fun hu => H2.out.mono a (Q3.out hu), HUU.out.trans' H1.out.upd⟩
theorem roots_any (V : MEnv S p m mb fw capw ct E0 w0) {W0 : World} (h : DSt S p m mb fw capw lim ct E0 M R c0 w0 ex bs s W0) (ht : s.todo = []) (hmv : W0.cell? ⟨mv, 0, none⟩ = some (.pointer (some ⟨mb, 0, none⟩))) (hU : ¬ (S mv ∨ mv = mb)) (v : Value) (xs : List Nat) (hv : ∀ W, Upd (fun b => S b ∨ b = mb) W0 W → U64At W v xs) (hx : ∀ x ∈ xs, x < 18446744073709551616) (hl : xs.length ≤ 1000000)
    (hr : ∀ a ∈ xs.filterMap toF, UsedC ct a → Rch (UsedC ct) (EF E0) (fun x => M x ∨ R x) a) :
    Calls Tryd.prog 27 #[v, .func (.func 31) #[] #[.pointer (some ⟨mv, 0, none⟩)]] W0 fun e W => (∃ u, e = .returned u) ∧ ∃ bs' s', DSt S p m mb fw capw lim ct E0 M R c0 w0 ex bs' s' W ∧ Stp bs s bs' s' ∧ s'.todo = [] ∧ (∀ a ∈ xs.filterMap toF, UsedC ct a → MarkX bs' a) ∧ Upd (fun b => S b ∨ b = mb) W0 W := by
  refine (each_any (f := 31) (bnd := #[]) (cap := #[.pointer (some ⟨mv, 0, none⟩)]) (fun _ _ => rfl) v xs (fun pre W => ∃ bs' s', DSt S p m mb fw capw lim ct E0 M R c0 w0 ex bs' s' W ∧ Stp bs s bs' s' ∧ s'.todo = [] ∧ (∀ a ∈ pre, UsedC ct a → MarkX bs' a) ∧ Upd (fun b => S b ∨ b = mb) W0 W) ?_ hx hl ?_ W0 ⟨bs, s, h, .refl _ _, ht, fun a ha => by simp at ha, Upd.refl _ _⟩).mono fun e W hp => hp
  · rintro pre W ⟨bs', s', hd, _, _, _, hu⟩
    exact ⟨hv W hu, (V.tab W hd.upd).1⟩
  · rintro pre a W ha ⟨bs', s', hd, hst, _, hpre, hu⟩
    refine (root_any V hd (hu.cell_some hmv hU) hU a (toF_lt ha) (hr a ha)).mono ?_
    rintro e W' ⟨he, bs2, s2, h1, h2, h3, h4, h5⟩
    refine ⟨he, bs2, s2, h1, hst.trans h2, h3, fun b hb hub => ?_, hu.trans' h5⟩
    rcases List.mem_append.1 hb with hb | hb
    · exact h2.mono b (hpre b hb hub)
    · rw [List.mem_singleton] at hb; subst hb; exact h4 hub
end Go.Proofs.YtfpfpopfnbcblaaDoor

/- package mark: the loop of Mark (plain). -/
namespace Go.Proofs.YtfpfpopfnbcblaaDoor

variable {ct : List (Nat × List Nat × Bool)} {EF : Nat → List Nat} {M R : Nat → Prop} {c0 : Nat} {ex : Nat → Prop} {bs : List Blk} {s : Mk}
/-- Ahead of a turn over all marked blocks each of them is still to be looked at. -/
theorem MInv.begin (h : MInv ct EF M R c0 ex bs s) (_ : s.todo = []) : MInv ct EF M R c0 (MarkX bs) bs ⟨s.many, false, []⟩ :=
  ⟨h.same, ⟨h.mk'.old, h.mk'.sub, fun a ha => ha.elim (fun q => by simp at q) id, fun _ a ha hn => absurd (.inr ha) hn⟩, h.cnt⟩
/-- At the start: M is what was marked ahead; `left` tells whether anything was. -/
theorem MInv.start (hc : content bs = ct) (hu : ∀ a, MarkX bs a → UsedC ct a) (b : Bool) (hb : b = true ↔ ∃ a, MarkX bs a) : MInv ct EF (MarkX bs) R (cntM bs) (fun _ => False) bs ⟨0, b, []⟩ :=
  ⟨hc, ⟨fun _ h => h, fun a ha => .root (.inl ha) (hu a ha), fun a ha => ha.elim (fun q => by simp at q) (fun q => q.elim), fun hl a ha _ => by
    have : b = true := hb.2 ⟨a, ha⟩
    rw [show b = false from hl] at this; cases this⟩, rfl⟩
/-- At the end what is marked is what is reached. -/
theorem MInv.done (h : MInv ct EF M R c0 (fun _ => False) bs s) (hl : s.left = false) (ht : s.todo = []) (hr : ∀ a, R a → UsedC ct a → MarkX bs a) (hM : ∀ a, M a → UsedC ct a) (a : Nat) : MarkX bs a ↔ Rch (UsedC ct) EF (fun x => M x ∨ R x) a := by
  have h1 := h.mk'
  rw [hl] at h1
  exact h1.done (fun a ha => ha.elim (fun q => by rw [ht] at q; simp at q) id) hr hM a
/-- How long the loop still goes. -/
def measL (s : Mk) : Nat := 2 * (1048576 - s.many) + (if s.left then 1 else 0)
theorem measL_lt {bs' : List Blk} {s s' : Mk} {bs : List Blk} (hl : s.left = true) (k : Stp bs ⟨s.many, false, []⟩ bs' s') (hm : s'.many + 1 ≤ 1048576) : measL s' < measL s := by
  unfold measL
  rw [hl]
  have h1 := k.many
  dsimp only at h1
  cases h : s'.left
  · simp; omega
  · rcases k.left1 h with h2 | h2
    · cases h2
    · dsimp only at h2; simp; omega
end Go.Proofs.YtfpfpopfnbcblaaDoor
