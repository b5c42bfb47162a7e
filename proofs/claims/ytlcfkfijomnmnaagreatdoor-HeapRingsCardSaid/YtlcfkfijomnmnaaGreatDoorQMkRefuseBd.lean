import Derived.Test.YtlcfkfijomnmnaaGreatDoorQMkOverBd
namespace Go.Proofs.YtlcfkfijomnmnaaGreatDoor
open Lib (hid)
section
open Go.RowKit Go.Shelf
attribute [local go_sem] Oper.semAt_some
theorem mcell_putObj {W : World} {l : Nat} {o : Obj} (o' : Obj) {a : Addr} {v : Value} (h : W.heap[l]? = some o) (ho : o.isCells = false) (hc : W.cell? a = some v) : (W.putObj l o').cell? a = some v :=
  cell_kept hc (grownBy_putObj' W l o') (fun r e => by cases e; exact ⟨_, h, ho⟩)
theorem mfrozen_putObj {W : World} {l : Nat} {o : Obj} (o' : Obj) {a : Addr} {v : Value} (h : W.heap[l]? = some o) (ho : o.isCells = false) (hc : W.cell? a = some v) (hf : W.frozen? a = false) : (W.putObj l o').frozen? a = false :=
  (frozen_kept hc (grownBy_putObj' W l o') (fun r e => by cases e; exact ⟨_, h, ho⟩)).trans hf
structure MkdI (p mb : Nat) (bs : List Blk) (w : World) (pre : List (Nat × Nat)) (W : World) : Prop where
  b0 : W.cell? ⟨w.heap.size, 0, none⟩ = some (.pointer (some ⟨mb, 0, none⟩))
  b1 : W.cell? ⟨w.heap.size + 1, 0, none⟩ = some (.bool false)
  f1 : W.frozen? ⟨w.heap.size + 1, 0, none⟩ = false
  b2 : W.cell? ⟨w.heap.size + 2, 0, none⟩ = some (.pointer (some ⟨p, 0, none⟩))
  no : ∀ x ∈ pre, ¬ MarkX bs x.1
  bel : Below w.heap.size w W
def MkdX (bs : List Blk) (w : World) (c : Code) (_pre : List (Nat × Nat)) (W : World) : Prop := c = .ret ∧ W.cell? ⟨w.heap.size + 1, 0, none⟩ = some (.bool true) ∧ (∃ a, MarkX bs a) ∧ Below w.heap.size w W
variable {p mb : Nat} {bs : List Blk} {w : World}
theorem MkdI.put {pre : List (Nat × Nat)} {W : World} {l : Nat} {o : Obj} (o' : Obj) (hl : w.heap.size ≤ l) (h : W.heap[l]? = some o) (ho : o.isCells = false) (hi : MkdI p mb bs w pre W) : MkdI p mb bs w pre (W.putObj l o') :=
  ⟨mcell_putObj o' h ho hi.b0, mcell_putObj o' h ho hi.b1, mfrozen_putObj o' h ho hi.b1 hi.f1, mcell_putObj o' h ho hi.b2, hi.no, hi.bel.grown (grownBy_putObj' W l o') hi.bel.size (fun k e => by cases e; exact hl)⟩
theorem MkdX.put {c : Code} {pre : List (Nat × Nat)} {W : World} {l : Nat} {o : Obj} (o' : Obj) (hl : w.heap.size ≤ l) (h : W.heap[l]? = some o) (ho : o.isCells = false) (hi : MkdX bs w c pre W) : MkdX bs w c pre (W.putObj l o') := by
  obtain ⟨h1, h2, h3, h4⟩ := hi
  exact ⟨h1, mcell_putObj o' h ho h2, h3, h4.grown (grownBy_putObj' W l o') h4.size (fun k e => by cases e; exact hl)⟩
set_option maxRecDepth 100000 in
set_option maxHeartbeats 2000000 in
theorem marked_any {S : Nat → Prop} {m : Nat} (hA : ArV S w p m bs) (k0 : w.cell? ⟨mb, 0, none⟩ = some (.pointer (some ⟨p, 0, none⟩))) (ht : TzTab w) :
    Calls Tryz.prog 92 #[.pointer (some ⟨mb, 0, none⟩)] w fun e W => (∃ r : Bool, e = .returned (.bool r) ∧ (r = true ↔ ∃ a, MarkX bs a)) ∧ Below w.heap.size w W := by
  obtain ⟨W1, hW1⟩ : ∃ W1, W1 = ((w.alloc (.cells #[.pointer (some ⟨mb, 0, none⟩)] 163)).alloc (.cells #[.bool false] 4)).alloc (.cells #[.pointer (some ⟨p, 0, none⟩)] 79) := ⟨_, rfl⟩
  have hb : Below w.heap.size w W1 := by rw [hW1]; exact (((Below.refl _ _).alloc (Nat.le_refl _) _).alloc (by simp) _).alloc (by simp; omega) _
  have h0 := heap_alloc_keep (heap_alloc_keep (heap_alloc_at w (.cells #[.pointer (some ⟨mb, 0, none⟩)] 163) rfl) (.cells #[.bool false] 4)) (.cells #[.pointer (some ⟨p, 0, none⟩)] 79)
  have h1 := heap_alloc_keep (heap_alloc_at (w.alloc (.cells #[.pointer (some ⟨mb, 0, none⟩)] 163)) (.cells #[.bool false] 4) (b := w.heap.size + 1) (by simp)) (.cells #[.pointer (some ⟨p, 0, none⟩)] 79)
  have h2 := heap_alloc_at ((w.alloc (.cells #[.pointer (some ⟨mb, 0, none⟩)] 163)).alloc (.cells #[.bool false] 4)) (.cells #[.pointer (some ⟨p, 0, none⟩)] 79) (b := w.heap.size + 2) (by simp)
  rw [← hW1] at h0 h1 h2
  have hI0 : MkdI p mb bs w [] W1 := ⟨by have := heap_cell h0 0; simpa using this, by have := heap_cell h1 0; simpa using this, heap_frozen h1 0, by have := heap_cell h2 0; simpa using this, fun x hx => by simp at hx, hb⟩
  have hI2 : ∀ o o', MkdI p mb bs w [] ((W1.alloc o).alloc o') := fun o o' => by
    have hbb : Below W1.heap.size W1 ((W1.alloc o).alloc o') := ((Below.refl _ _).alloc (Nat.le_refl _) _).alloc (by simp) _
    exact ⟨below_cell hbb hI0.b0, below_cell hbb hI0.b1, (hbb.frozen (World.block_lt_of_cell? _ _ hI0.b1)).trans hI0.f1, below_cell hbb hI0.b2, hI0.no, hI0.bel.trans (hbb.mono hI0.bel.size)⟩
  have HA := hid hA; have HT := hid ht; have HI2 := hid hI2; have HK0 := hid k0
  have HIT := hid (blocks_iter 6 (w.heap.size + 2) p m (shape bs) (by omega) W1 (fun _ _ => True) (MkdI p mb bs w) (MkdX bs w) (fun pre W h => ⟨h.b2, ⟨S, bs, rfl, HA.out.below h.bel⟩, HT.out.on h.bel⟩))
  have k1 := below_cell (((Below.refl w.heap.size w).alloc (Nat.le_refl _) (.cells #[.pointer (some ⟨mb, 0, none⟩)] 163)).alloc (by simp) (.cells #[.bool false] 4)) k0
  clear hA ht hI0 hI2 h0 h1 h2 hb k0
  refine (callsIn_wide (n := 7)).1 ?_
  refine callsIn_of_wp_marks Tryz.func92 rfl trivial ?_ rfl
  simp only [Tryz.ntmps92, List.size_toArray, List.length_cons, List.length_nil, Nat.reduceAdd, Nat.reduceSub, Array.replicate_succ, Array.replicate_zero, List.push_toArray, List.append_toArray, List.nil_append, List.cons_append]
  gi_wp2_with (refine ⟨trivial, ?_⟩; gi_at_call 62; refine (callsIn_wide.2 (blocks_any p _)).mono ?_; rintro e w1 ⟨rfl, rfl⟩)
  refine wpIn_range_atG (F := Fence.wide) (n := 7) rfl (by omega) (gf := 104) (lb := #[.pointer (some ⟨w.heap.size + 2, 0, none⟩)]) rfl trivial (enters_of Tryz.func104 (by kernel_rfl) rfl)
    (encs := fun x : Nat × Nat => #[.int .i64 (x.1 : Nat), .int .i64 (x.2 : Nat)]) (fun _ => rfl) (fun _ _ => True) (MkdI p mb bs w) (MkdX bs w)
    (fun _ _ => trivial) (fun _ _ _ _ _ _ _ => trivial)
    (fun pre W l o o' hl h ho hi => hi.put o' (by simp at hl; omega) h ho) (fun c pre W l o o' hl h ho hi => hi.put o' (by simp at hl; omega) h ho)
    (fun o o' => by have := HI2.out o o'; rw [hW1] at this; exact this) (fun x => { tmps := #[.pointer (some ⟨mb, 0, none⟩), .pointer (some ⟨w.heap.size, 0, none⟩), .pointer (some ⟨w.heap.size + 1, 0, none⟩), .int .i64 (x.1 : Nat), .pointer (some ⟨mb, 0, none⟩), .pointer (some ⟨mb, 0, none⟩), .pointer (some ⟨mb, 0, none⟩), .pointer (some ⟨p, 0, none⟩), .func (.func 104) #[] #[.pointer (some ⟨w.heap.size + 2, 0, none⟩)], .int .i64 (x.1 : Nat), .int .i64 (x.2 : Nat), undef, undef, undef, undef, undef, undef], defers := [] })
    (by have := HIT.out; rw [hW1] at this; exact this) ?assign ?body ?done ?stop
  case assign =>
    intro l x W K hK
    gi_wp2
    exact hK
  case body =>
    rintro l pre x W hi hG
    have hxm : x ∈ usedsF (shape bs) := hG.subset (by simp)
    obtain ⟨b, hb, hbu, hba, _⟩ := usedsF_mem.1 hxm
    have HIN := hid hi
    have i0 := hi.b0; have i1 := hi.b1; have i3 := hi.f1
    have kk := below_cell hi.bel HK0.out
    have CM := hid (Marked_s (HA.out.below hi.bel) x.1 (by rw [← hba]; exact usedAt_of hb hbu))
    clear hi hG hxm hb hbu hba hW1 k1
    cases hmk : markedAt bs x.1
    · rw [hmk] at CM
      have HMK := hid hmk
      clear hmk
      gi_wp2_with (refine ⟨trivial, ?_⟩; gi_at_call 127; refine (callsIn_wide.2 CM.out).mono ?_; rintro e w1 ⟨rfl, rfl⟩)
      refine ⟨KeepsFrom.refl _ _, trivial, i0, i1, i3, HIN.out.b2, fun y hy => ?_, HIN.out.bel⟩
      rcases List.mem_append.1 hy with h | h
      · exact HIN.out.no y h
      · rw [List.mem_singleton] at h; subst h
        intro hh; unfold MarkX at hh; rw [HMK.out] at hh; cases hh
    · rw [hmk] at CM
      have HMK := hid hmk
      clear hmk
      gi_wp2_with (refine ⟨trivial, ?_⟩; gi_at_call 127; refine (callsIn_wide.2 CM.out).mono ?_; rintro e w1 ⟨rfl, rfl⟩)
      exact ⟨(KeepsOthers.setCell _ _ _).from _, rfl, World.cell?_setCell_same' _ _ _ (by rw [i1]; rfl), ⟨_, HMK.out⟩, HIN.out.bel.setCell (by simp) _⟩
  case done =>
    clear hW1 k1
    rintro D xs W hxs hi hK hle
    have HIN := hid hi; have HXS := hid hxs
    have i1 := hi.b1; have i3 := hi.f1
    clear hi hxs
    gi_wp2
    have hK2 := (KeepsOthers.setCell W ⟨w.heap.size + 1, 0, none⟩ (.bool false)).same D _ hK rfl
    refine ⟨by simp, .inl ⟨_, _, rfl, run_takeDeferred hK2, ?_⟩⟩
    have c1 : (W.setCell ⟨w.heap.size + 1, 0, none⟩ (.bool false)).cell? ⟨w.heap.size + 1, 0, none⟩ = some (.bool false) := World.cell?_setCell_same' _ _ _ (by rw [i1]; rfl)
    have c2 := mcell_putObj (.deferred none) hK2 rfl c1
    refine ⟨.bool false, by simp [results, Tryz.results92, go_sem, c2], ⟨false, rfl, ⟨fun h => (Bool.false_ne_true h).elim, fun ⟨a, ha⟩ => ?_⟩⟩, ?_⟩
    · obtain ⟨b, hb, hbm, hba⟩ := markedAt_iff.1 ha
      have hbu : b.u = true := by
        cases hu : b.u
        · have := HA.out.wf.unm b hb hu; rw [this] at hbm; cases hbm
        · rfl
      exact absurd (show MarkX bs (b.a, b.n).1 by show MarkX bs b.a; rw [hba]; exact ha) (HIN.out.no (b.a, b.n) (by rw [HXS.out]; exact usedsF_mem.2 ⟨b, hb, hbu, rfl, rfl⟩))
    · exact (HIN.out.bel.setCell (by simp) _).grown (grownBy_putObj' _ D _) (by have := HIN.out.bel.size; simp; omega) (fun k e => by cases e; simp at hle; omega)
  case stop =>
    clear hW1 k1
    rintro D c pre W _ ⟨rfl, i1, hex, hbel⟩ hK hle
    have HEX := hid hex; have HBEL := hid hbel
    clear hex hbel
    gi_wp2
    refine ⟨by simp, .inl ⟨_, _, rfl, run_takeDeferred hK, ?_⟩⟩
    have c2 := mcell_putObj (.deferred none) hK rfl i1
    refine ⟨.bool true, by simp [results, Tryz.results92, go_sem, c2], ⟨true, rfl, ⟨fun _ => HEX.out, fun _ => rfl⟩⟩, ?_⟩
    exact HBEL.out.grown (grownBy_putObj' _ D _) HBEL.out.size (fun k e => by cases e; simp at hle; omega)
end
section
open Go.RowKit
variable {S : Nat → Prop} {p m mb mv : Nat} {fw : FuncId} {capw : Array Value} {lim : Nat} {ct : List (Nat × List Nat × Bool)} {E0 : Nat → List Nat} {M R : Nat → Prop} {c0 : Nat} {w0 : World} {ex : Nat → Prop} {bs : List Blk} {s : Mk}
theorem root_any (V : MEnv S p m mb fw capw ct E0 w0) {W0 : World} (h : DSt S p m mb fw capw lim ct E0 M R c0 w0 ex bs s W0) (hmv : W0.cell? ⟨mv, 0, none⟩ = some (.pointer (some ⟨mb, 0, none⟩))) (hU : ¬ (S mv ∨ mv = mb)) (a : Nat) (ha : a < 9223372036854775808) (hr : UsedC ct a → Rch (UsedC ct) (EF E0) (fun x => M x ∨ R x) a) :
    Calls Tryz.prog 93 (#[.int .i64 (a : Nat)] ++ #[.pointer (some ⟨mv, 0, none⟩)]) W0 fun e W => (∃ u, e = .returned u) ∧ ∃ bs' s', DSt S p m mb fw capw lim ct E0 M R c0 w0 ex bs' s' W ∧ Stp bs s bs' s' ∧ s'.todo = [] ∧ (UsedC ct a → MarkX bs' a) ∧ Upd (fun b => S b ∨ b = mb) W0 W := by
  have hw := h.st.ar.wf
  obtain ⟨q1, q2, q3⟩ := h.inv.meet (lim := lim) hw a (hr)
  have C := hid (meet_any h.st a ha (h.inv.many_le hw))
  have H := hid h; have HV := hid V; have Q1 := hid q1; have Q2 := hid q2; have Q3 := hid q3; have HU := hid hU
  clear h V q1 q2 q3 hU hr hw ha
  go_enter Tryz.func93, Tryz.ntmps93
  go_wp2_with fail
  refine C.out.mono ?_
  rintro e w1 ⟨⟨u, rfl⟩, hms, hu⟩
  have k1 := hu.cell_some hmv HU.out
  have hd1 : DSt S p m mb fw capw lim ct E0 M R c0 w0 ex _ _ w1 := ⟨hms, Q1.out, H.out.upd.trans' hu⟩
  have D := hid (drain_any (HV.out.at hd1.upd) hd1.at)
  have HD := hid hd1; have HUU := hid hu
  clear hms hu hd1 hmv
  go_wp2_with fail
  refine D.out.mono ?_
  rintro e w2 ⟨⟨u2, rfl⟩, bs', s', h1, h2, h3⟩
  have H1 := hid h1; have H2 := hid h2; have H3 := hid h3
  clear h1 h2 h3 C D
  go_wp2
  go_end0
  exact ⟨⟨_, rfl⟩, bs', s', H1.out.from HD.out.upd, Q2.out.trans H2.out, H3.out, fun hu => H2.out.mono a (Q3.out hu), HUU.out.trans' H1.out.upd⟩
theorem roots_any (V : MEnv S p m mb fw capw ct E0 w0) {W0 : World} (h : DSt S p m mb fw capw lim ct E0 M R c0 w0 ex bs s W0) (ht : s.todo = []) (hmv : W0.cell? ⟨mv, 0, none⟩ = some (.pointer (some ⟨mb, 0, none⟩))) (hU : ¬ (S mv ∨ mv = mb)) (v : Value) (xs : List Nat) (hv : ∀ W, Upd (fun b => S b ∨ b = mb) W0 W → U64At W v xs) (hx : ∀ x ∈ xs, x < 18446744073709551616) (hl : xs.length ≤ 1000000)
    (hr : ∀ a ∈ xs.filterMap toF, UsedC ct a → Rch (UsedC ct) (EF E0) (fun x => M x ∨ R x) a) :
    Calls Tryz.prog 61 #[v, .func (.func 93) #[] #[.pointer (some ⟨mv, 0, none⟩)]] W0 fun e W => (∃ u, e = .returned u) ∧ ∃ bs' s', DSt S p m mb fw capw lim ct E0 M R c0 w0 ex bs' s' W ∧ Stp bs s bs' s' ∧ s'.todo = [] ∧ (∀ a ∈ xs.filterMap toF, UsedC ct a → MarkX bs' a) ∧ Upd (fun b => S b ∨ b = mb) W0 W := by
  refine (each_any (f := 93) (bnd := #[]) (cap := #[.pointer (some ⟨mv, 0, none⟩)]) (fun _ _ => by kernel_rfl) v xs (fun pre W => ∃ bs' s', DSt S p m mb fw capw lim ct E0 M R c0 w0 ex bs' s' W ∧ Stp bs s bs' s' ∧ s'.todo = [] ∧ (∀ a ∈ pre, UsedC ct a → MarkX bs' a) ∧ Upd (fun b => S b ∨ b = mb) W0 W) ?_ hx hl ?_ W0 ⟨bs, s, h, .refl _ _, ht, fun a ha => by simp at ha, Upd.refl _ _⟩).mono fun e W hp => hp
  · rintro pre W ⟨bs', s', hd, _, _, _, hu⟩
    exact ⟨hv W hu, (V.tab W hd.upd).1⟩
  · rintro pre a W ha ⟨bs', s', hd, hst, _, hpre, hu⟩
    refine (root_any V hd (hu.cell_some hmv hU) hU a (toF_lt ha) (hr a ha)).mono ?_
    rintro e W' ⟨he, bs2, s2, h1, h2, h3, h4, h5⟩
    refine ⟨he, bs2, s2, h1, hst.trans h2, h3, fun b hb hub => ?_, hu.trans' h5⟩
    rcases List.mem_append.1 hb with hb | hb
    · exact h2.mono b (hpre b hb hub)
    · rw [List.mem_singleton] at hb; subst hb; exact h4 hub
end
section
variable {ct : List (Nat × List Nat × Bool)} {EF : Nat → List Nat} {M R : Nat → Prop} {c0 : Nat} {ex : Nat → Prop} {bs : List Blk} {s : Mk}
theorem MInv.begin (h : MInv ct EF M R c0 ex bs s) (_ : s.todo = []) : MInv ct EF M R c0 (MarkX bs) bs ⟨s.many, false, []⟩ :=
  ⟨h.same, ⟨h.mk'.old, h.mk'.sub, fun a ha => ha.elim (fun q => by simp at q) id, fun _ a ha hn => absurd (.inr ha) hn⟩, h.cnt⟩
theorem MInv.start (hc : content bs = ct) (hu : ∀ a, MarkX bs a → UsedC ct a) (b : Bool) (hb : b = true ↔ ∃ a, MarkX bs a) : MInv ct EF (MarkX bs) R (cntM bs) (fun _ => False) bs ⟨0, b, []⟩ :=
  ⟨hc, ⟨fun _ h => h, fun a ha => .root (.inl ha) (hu a ha), fun a ha => ha.elim (fun q => by simp at q) (fun q => q.elim), fun hl a ha _ => by
    have : b = true := hb.2 ⟨a, ha⟩
    rw [show b = false from hl] at this; cases this⟩, rfl⟩
theorem MInv.done (h : MInv ct EF M R c0 (fun _ => False) bs s) (hl : s.left = false) (ht : s.todo = []) (hr : ∀ a, R a → UsedC ct a → MarkX bs a) (hM : ∀ a, M a → UsedC ct a) (a : Nat) : MarkX bs a ↔ Rch (UsedC ct) EF (fun x => M x ∨ R x) a := by
  have h1 := h.mk'
  rw [hl] at h1
  exact h1.done (fun a ha => ha.elim (fun q => by rw [ht] at q; simp at q) id) hr hM a
def measL (s : Mk) : Nat := 2 * (1048576 - s.many) + (if s.left then 1 else 0)
theorem measL_lt {bs' : List Blk} {s s' : Mk} {bs : List Blk} (hl : s.left = true) (k : Stp bs ⟨s.many, false, []⟩ bs' s') (hm : s'.many + 1 ≤ 1048576) : measL s' < measL s := by
  unfold measL
  rw [hl]
  have h1 := k.many
  dsimp only at h1
  cases h : s'.left
  · simp; omega
  · rcases k.left1 h with h2 | h2
    · cases h2
    · dsimp only at h2; simp; omega
end
section
open Go.RowKit
def mkrCells (p : Nat) (wf : Value) (lim : Nat) : Array Value := #[.pointer (some ⟨p, 0, none⟩), wf, .int .i64 (lim : Nat), .int .i64 0, .bool false, .int .i64 0] ++ Array.replicate 1024 (.int .i64 0)
theorem mark_idle (a b : Addr) (w : World) :
    CallsD Tryz.prog 91 #[.pointer (some a), .pointer (some b)] .returning w fun e u' w' => e = .returned (.tuple #[]) ∧ u' = .returning ∧ w' = w := by
  refine callsD_of_wpS Tryz.func91 rfl fun c₀ cs hu => ?_
  apply wpS_seq
  apply wpS_region
  simp [wpOpsS, go_sem, recoverD, hu, Tryz.ntmps91, Exit.thenS]
  refine wpS_cond (t := false) (by simp [Act.eval, Array.replicate]) ?_
  simp only [Bool.false_eq_true, if_false]
  refine wpS_of_wp (wp_skip ?_)
  cases c₀
  simp_all [bodyPostS, results, Tryz.results91]
variable {S : Nat → Prop} {w : World} {p m : Nat} {bs : List Blk}
theorem mkr_at {p : Nat} {wf : Value} {lim mb : Nat} {W : World} (h : W.heap[mb]? = some (.cells (mkrCells p wf lim) 166 (0, 0))) (h1 : 1 ≤ lim) (h2 : lim ≤ 1024) : MkrAt mb p wf lim 0 false [] W := by
  have c : ∀ k, W.cell? ⟨mb, k, none⟩ = (mkrCells p wf lim)[k]? := fun k => heap_cell h k
  have e : ∀ k, k < 1024 → (mkrCells p wf lim)[6 + k]? = some (.int .i64 0) := fun k hk => by
    unfold mkrCells
    rw [Array.getElem?_append_right (by simp)]
    simp [hk]
  have e0 : ∀ k, k < 6 → (mkrCells p wf lim)[k]? = (#[.pointer (some ⟨p, 0, none⟩), wf, .int .i64 (lim : Nat), .int .i64 0, .bool false, .int .i64 0] : Array Value)[k]? := fun k hk => by
    unfold mkrCells
    rw [Array.getElem?_append_left (by simpa using hk)]
  exact ⟨by rw [c, e0 0 (by decide)]; rfl, by rw [c, e0 1 (by decide)]; rfl, by rw [c, e0 2 (by decide)]; rfl, by rw [c, e0 3 (by decide)]; rfl, by rw [c, e0 4 (by decide)]; rfl, by rw [c, e0 5 (by decide)]; rfl, fun k x hk => by simp at hk, fun k hk => ⟨0, by rw [c, e k hk]⟩, fun k => heap_frozen h k, h1, h2, by simp, by omega⟩
def LeftPost (bs : List Blk) (mb : Nat) (W0 wx : World) : Prop := ∃ b : Bool, (b = true ↔ ∃ a, MarkX bs a) ∧ ∃ w1, Below W0.heap.size W0 w1 ∧ wx = w1.setCell ⟨mb, 4, none⟩ (.bool b)
def MarkPost (S : Nat → Prop) (w : World) (p m : Nat) (bs : List Blk) (ct : List (Nat × List Nat × Bool)) (E0 : Nat → List Nat) (xs : List Nat) (e : Ending) (W : World) : Prop :=
  ∃ bs' n, e = .returned (.tuple #[.int .i64 (n : Nat), .int .i64 0]) ∧ ArV S W p m bs' ∧ content bs' = ct ∧ cntM bs' = cntM bs + n ∧ (∀ a, MarkX bs' a ↔ Rch (UsedC ct) (EF E0) (fun x => MarkX bs x ∨ x ∈ xs.filterMap toF) a) ∧ Upd S w W
def flagOf (W : World) (b i : Nat) : Nat := match W.cell? ⟨b, i, none⟩ with
  | some (.bool true) => 1
  | _ => 0
def measM (mb : Nat) (W : World) : Nat := 2 * (1048576 - cellNat W mb 3) + flagOf W mb 4
theorem measM_of {p m mb lim : Nat} {wf : Value} {bs : List Blk} {s : Mk} {W : World} (h : MSt S p m mb wf lim bs s W) : measM mb W = measL s := by
  unfold measM measL flagOf
  rw [cellNat_of h.mr.c3, h.mr.c4]
  cases s.left <;> rfl
structure MLoop (S : Nat → Prop) (p m mb mv r0 r1 : Nat) (fw : FuncId) (capw : Array Value) (lim : Nat) (ct : List (Nat × List Nat × Bool)) (E0 : Nat → List Nat) (bs0 : List Blk) (xs : List Nat) (w0 : World) (bs : List Blk) (s : Mk) (W : World) : Prop where
  d : DSt S p m mb fw capw lim ct E0 (MarkX bs0) (fun x => x ∈ xs.filterMap toF) (cntM bs0) w0 (fun _ => False) bs s W
  td : s.todo = []
  rt : ∀ a ∈ xs.filterMap toF, UsedC ct a → MarkX bs a
  v : W.cell? ⟨mv, 0, none⟩ = some (.pointer (some ⟨mb, 0, none⟩))
  c0 : ∃ u : Int, W.cell? ⟨r0, 0, none⟩ = some (.int .i64 u)
  c1 : ∃ u : Int, W.cell? ⟨r1, 0, none⟩ = some (.int .i64 u)
  f0 : W.frozen? ⟨r0, 0, none⟩ = false
  f1 : W.frozen? ⟨r1, 0, none⟩ = false
theorem MLoop.on {mb mv r0 r1 : Nat} {fw : FuncId} {capw : Array Value} {lim : Nat} {ct : List (Nat × List Nat × Bool)} {E0 : Nat → List Nat} {bs0 : List Blk} {xs : List Nat} {w0 : World} {bs bs' : List Blk} {s s' : Mk} {W W' : World} (h : MLoop S p m mb mv r0 r1 fw capw lim ct E0 bs0 xs w0 bs s W) (hn : ∀ b, S b ∨ b = mb → b ≠ mv ∧ b ≠ r0 ∧ b ≠ r1)
    (d : DSt S p m mb fw capw lim ct E0 (MarkX bs0) (fun x => x ∈ xs.filterMap toF) (cntM bs0) w0 (fun _ => False) bs' s' W') (ht : s'.todo = []) (hm : ∀ a, MarkX bs a → MarkX bs' a) (u : Upd (fun b => S b ∨ b = mb) W W') : MLoop S p m mb mv r0 r1 fw capw lim ct E0 bs0 xs w0 bs' s' W' := by
  have hf : ∀ b v, ¬ (S b ∨ b = mb) → W.cell? ⟨b, 0, none⟩ = some v → W'.frozen? ⟨b, 0, none⟩ = W.frozen? ⟨b, 0, none⟩ := fun b v hb hc => by
    unfold World.frozen?; rw [u.block b (World.block_lt_of_cell? _ _ hc) hb]
  obtain ⟨u0, k0⟩ := h.c0
  obtain ⟨u1, k1⟩ := h.c1
  exact ⟨d, ht, fun a ha hu => hm a (h.rt a ha hu), u.cell_some h.v (fun hh => (hn _ hh).1 rfl), ⟨u0, u.cell_some k0 (fun hh => (hn _ hh).2.1 rfl)⟩, ⟨u1, u.cell_some k1 (fun hh => (hn _ hh).2.2 rfl)⟩, (hf _ _ (fun hh => (hn _ hh).2.1 rfl) k0).trans h.f0, (hf _ _ (fun hh => (hn _ hh).2.2 rfl) k1).trans h.f1⟩
theorem off {W : World} {b c i j : Nat} {v u : Value} (h : W.cell? ⟨b, i, none⟩ = some v) (hbc : b ≠ c) : (W.setCell ⟨c, j, none⟩ u).cell? ⟨b, i, none⟩ = some v := by
  rw [World.cell?_setCell_other]
  · exact h
  · intro e; exact hbc (congrArg Addr.block e).symm
set_option maxRecDepth 100000 in
set_option maxHeartbeats 4000000 in
theorem mark_any {fw : FuncId} {capw : Array Value} {ct : List (Nat × List Nat × Bool)} {E0 : Nat → List Nat} (hA : ArV S w p m bs) (hct : content bs = ct) (hS : ∀ b, S b → b < w.heap.size)
    (hV : ∀ mb W0, w.heap.size ≤ mb → mb < W0.heap.size → Below w.heap.size w W0 → MEnv S p m mb fw capw ct E0 W0)
    (k : Nat) (hk : k < 9223372036854775808) (hk1 : 1 ≤ k) (v : Value) (xs : List Nat) (hv : ∀ W, Upd S w W → U64At W v xs) (hx : ∀ x ∈ xs, x < 18446744073709551616) (hl : xs.length ≤ 1000000) :
    Calls Tryz.prog 52 #[.pointer (some ⟨p, 0, none⟩), .int .i64 k, v, .func (.func fw) #[] capw] w (MarkPost S w p m bs ct E0 xs) := by
  obtain ⟨lim, hlim⟩ : ∃ lim, min k 1024 = lim := ⟨_, rfl⟩
  have hmin : min (k : Int) 1024 = (lim : Int) := by omega
  have hl1 : 1 ≤ lim := by omega
  have hl2 : lim ≤ 1024 := by omega
  have hnf : ∀ w : World, (binOp BinOp.eql 95 (.func (.func fw) #[] capw) .nilFunc).run Tryz.prog w = .ok (.bool false) w := fun _ => by rfl
  have hmf : ∀ (fn : Fn) (first cap : Array Value) (w : World), (Instr.makeFunc fn first cap).run Tryz.prog w = .ok (.func fn first cap) w := fun _ _ _ _ => rfl
  have hlt : ¬ (k : Int) < 1 := by omega
  have HA := hid hA; have HCT := hid hct; have HS := hid hS; have HV := hid hV; have HVV := hid hv; have HX := hid hx; have HL := hid hl; have HL1 := hid hl1; have HL2 := hid hl2
  clear hlim hA hct hS hV hv hx hl hl1 hl2 hk hk1
  go_enter_defers Tryz.func52, Tryz.ntmps52
  go_upto_region 7 with fail
  obtain ⟨C, hC⟩ : ∃ C, C = ((Tryz.zeroCells166.setIfInBounds 0 (Value.pointer (some { block := p, off := 0 }))).setIfInBounds 1 (Value.func (Fn.func fw) #[] capw)).setIfInBounds 2 (Value.int IntKind.i64 ↑lim) := ⟨_, rfl⟩
  rw [← hC]
  have hC2 : C = mkrCells p (.func (.func fw) #[] capw) lim := by rw [hC]; kernel_rfl
  obtain ⟨W0, hW0⟩ : ∃ W0, W0 = (((w.alloc (.cells #[.int .i64 0] 3)).alloc (.cells #[.int .i64 0] 26)).alloc (.cells C 166)).alloc (.cells #[.pointer (some ⟨w.heap.size + 1 + 1, 0, none⟩)] 163) := ⟨_, rfl⟩
  rw [← hW0]
  have q0 := heap_alloc_keep (heap_alloc_keep (heap_alloc_keep (heap_alloc_at w (.cells #[.int .i64 0] 3) rfl) (.cells #[.int .i64 0] 26)) (.cells C 166)) (.cells #[.pointer (some ⟨w.heap.size + 1 + 1, 0, none⟩)] 163)
  have q1 := heap_alloc_keep (heap_alloc_keep (heap_alloc_at (w.alloc (.cells #[.int .i64 0] 3)) (.cells #[.int .i64 0] 26) (b := w.heap.size + 1) (by simp)) (.cells C 166)) (.cells #[.pointer (some ⟨w.heap.size + 1 + 1, 0, none⟩)] 163)
  have q2 := heap_alloc_keep (heap_alloc_at ((w.alloc (.cells #[.int .i64 0] 3)).alloc (.cells #[.int .i64 0] 26)) (.cells C 166) (b := w.heap.size + 1 + 1) (by simp)) (.cells #[.pointer (some ⟨w.heap.size + 1 + 1, 0, none⟩)] 163)
  have q3 := heap_alloc_at (((w.alloc (.cells #[.int .i64 0] 3)).alloc (.cells #[.int .i64 0] 26)).alloc (.cells C 166)) (.cells #[.pointer (some ⟨w.heap.size + 1 + 1, 0, none⟩)] 163) (b := w.heap.size + 1 + 1 + 1) (by simp)
  rw [← hW0] at q0 q1 q2 q3
  have hb : Below w.heap.size w W0 := by rw [hW0]; exact ((((Below.refl _ _).alloc (Nat.le_refl _) _).alloc (by simp) _).alloc (by simp; omega) _).alloc (by simp; omega) _
  have hz : W0.heap.size = w.heap.size + 4 := by rw [hW0]; simp
  rw [hC2] at q2
  clear hW0 hC hC2
  obtain ⟨mv, hmv⟩ : ∃ q, w.heap.size + 1 + 1 + 1 = q := ⟨_, rfl⟩
  obtain ⟨mb, hmb⟩ : ∃ q, w.heap.size + 1 + 1 = q := ⟨_, rfl⟩
  obtain ⟨r1, hr1⟩ : ∃ q, w.heap.size + 1 = q := ⟨_, rfl⟩
  obtain ⟨r0, hr0⟩ : ∃ q, w.heap.size = q := ⟨_, rfl⟩
  rw [hmv] at q3 ⊢
  rw [hmb] at q2 q3 ⊢
  rw [hr1] at q1 ⊢
  have hKr := mkr_at q2 HL1.out HL2.out
  have hAr : ArV S W0 p m bs := HA.out.below hb
  have k0 := heap_cell q0 0; have k1 := heap_cell q1 0; have k3 := heap_cell q3 0
  have f0 := heap_frozen q0 0; have f1 := heap_frozen q1 0
  simp at k0 k1 k3
  have HQ := hid (And.intro hmv (And.intro hmb (And.intro hr1 hr0)))
  have CM := hid (marked_any (w := W0.drew) (mb := mb) (hAr.below (Below.refl _ _).drew) hKr.c0 ((HV.out mb W0 (by omega) (by omega) hb).tab W0.drew (Upd.refl _ _).drew).2)
  have m4 := hKr.c4; have g4 := hKr.fr 4
  have HKr := hid hKr; have HAr := hid hAr; have HB := hid hb; have HZ := hid hz
  clear hKr hAr hb hz q0 q1 q2 q3 hmv hmb hr1 hr0
  have HK0 := hid k0; have HK1 := hid k1; have HF0 := hid f0; have HF1 := hid f1
  clear k0 k1 f0 f1
  go_cut [] from 26 (fun wx => LeftPost bs mb W0 wx)
  case first =>
    refine wp_onlyN ?_
    go_region_with (refine CM.out.mono ?_; rintro e w1 ⟨⟨b, rfl, hbb⟩, hbe⟩; have HBB := hid hbb; have HBE := hid hbe; have y3 := below_cell hbe k3; have y4 := below_cell hbe m4; have z4 := (hbe.frozen (World.block_lt_of_cell? _ _ m4)).trans g4; clear hbb hbe)
    all_goals dsimp only [OnlyN, Exit.then]
    all_goals (go_wp2_with fail)
    all_goals go_meet
    all_goals exact ⟨b, HBB.out, w1, (Below.refl _ _).drew.trans HBE.out, rfl⟩
  case rest =>
    obtain ⟨b, hbb, w1, hbe, hwc⟩ := hcut
    have hq := HQ.out
    have hS0 : ∀ x, S x → x < r0 := fun x hx => by have := HS.out x hx; omega
    have uc : Upd (fun x => x = mb) W0 wc := by rw [hwc]; exact (Upd.of_below (S := fun x => x = mb) hbe).setCell (p := ⟨mb, 4, none⟩) (.inl rfl) _
    have hbw : Below w.heap.size w wc := by rw [hwc]; exact (HB.out.trans (hbe.mono HB.out.size)).setCell (by dsimp only; omega) _
    have hV := HV.out mb wc (by omega) (by have := uc.size; have := HZ.out; omega) hbw
    have hnm : ¬ S mb := fun h => by have := hS0 _ h; omega
    have hms : MSt S p m mb (.func (.func fw) #[] capw) lim bs ⟨0, b, []⟩ wc := ⟨HA.out.below hbw, by rw [hwc]; exact (HKr.out.upd (S := fun _ => False) (Upd.of_below hbe) (fun h => h)).set4 b, hnm⟩
    have hus : ∀ a, MarkX bs a → UsedC ct a := fun a ha => by
      obtain ⟨c, hc, hm, e⟩ := markedAt_iff.1 ha
      have hu : c.u = true := by
        cases hu : c.u
        · rw [HA.out.wf.unm c hc hu] at hm; cases hm
        · rfl
      rw [← HCT.out, ← e]
      exact usedC_iff.2 (usedAt_of hc hu)
    have hd : DSt S p m mb fw capw lim ct E0 (MarkX bs) (fun x => x ∈ xs.filterMap toF) (cntM bs) wc (fun _ => False) bs ⟨0, b, []⟩ wc := ⟨hms, MInv.start HCT.out hus b hbb, Upd.refl _ _⟩
    have hmv := uc.cell_some k3 (fun h => by dsimp only at h; omega)
    have hk0 := uc.cell_some HK0.out (fun h => by dsimp only at h; omega)
    have hk1 := uc.cell_some HK1.out (fun h => by dsimp only at h; omega)
    have hf : ∀ x, x ≠ mb → x < W0.heap.size → wc.frozen? ⟨x, 0, none⟩ = W0.frozen? ⟨x, 0, none⟩ := fun x hx hl => by
      unfold World.frozen?; rw [uc.block x hl hx]
    have hf0 := (hf w.heap.size (by omega) (World.block_lt_of_cell? _ _ HK0.out)).trans HF0.out
    have hf1 := (hf r1 (by omega) (World.block_lt_of_cell? _ _ HK1.out)).trans HF1.out
    have hn : ∀ x, S x ∨ x = mb → x ≠ mv ∧ x ≠ w.heap.size ∧ x ≠ r1 := fun x hx => by
      rcases hx with hx | hx
      · have := hS0 _ hx; omega
      · omega
    have hsw : ∀ W, Upd (fun x => S x ∨ x = mb) wc W → Upd S w W := fun W hu => (Upd.of_below hbw).trans (S1 := fun x => S x ∨ x = mb) (fun x hx => hx.imp id (fun h => by omega)) hu
    have CR := hid (roots_any (mv := mv) hV hd rfl hmv (fun h => (hn mv h).1 rfl) v xs (fun W hu => HVV.out W (hsw W hu)) HX.out HL.out (fun a ha hu => .root (.inr ha) hu))
    have HN := hid hn; have HSW := hid hsw; have HD := hid hd; have HV2 := hid hV
    have HM := hid hmv; have G0 := hid hk0; have G1 := hid hk1; have GF0 := hid hf0; have GF1 := hid hf1; have HUS := hid hus
    clear hbb hbe hwc hq hS0 uc hbw hV hnm hms hus hd hmv hk0 hk1 hf hf0 hf1 hn hsw k3 m4 g4
    clear HK0 HK1 HF0 HF1 CM HKr HAr HB HZ
    go_wp2_with fail
    refine CR.out.mono ?_
    rintro e w2 ⟨⟨u, rfl⟩, bs1, s1, d1, st1, t1, rt1, u1⟩
    have hL : MLoop S p m mb mv w.heap.size r1 fw capw lim ct E0 bs xs wc bs1 s1 w2 := ⟨d1, t1, rt1, u1.cell_some HM.out (fun h => (HN.out mv h).1 rfl), ⟨0, u1.cell_some G0.out (fun h => (HN.out _ h).2.1 rfl)⟩, ⟨0, u1.cell_some G1.out (fun h => (HN.out _ h).2.2 rfl)⟩,
      by unfold World.frozen?; rw [u1.block _ (World.block_lt_of_cell? _ _ G0.out) (fun h => (HN.out _ h).2.1 rfl)]; exact GF0.out, by unfold World.frozen?; rw [u1.block _ (World.block_lt_of_cell? _ _ G1.out) (fun h => (HN.out _ h).2.2 rfl)]; exact GF1.out⟩
    have HLP := hid hL
    clear d1 st1 t1 rt1 u1 hL CR G0 G1 GF0 GF1 HM
    go_wp2
    go_loopw [] (fun wr => ∃ bs1 s1, MLoop S p m mb mv w.heap.size r1 fw capw lim ct E0 bs xs wc bs1 s1 wr) (fun wr => measM mb wr)
    case atStart => exact ⟨bs1, s1, HLP.out⟩
    case round =>
      clear HLP
      obtain ⟨bs2, ⟨many, left, todo⟩, hl⟩ := hrel
      have k3 := hl.v
      have hmr := hl.d.st.mr
      have m3 := hmr.c3; have m4 := hmr.c4; have g4 := hmr.fr 4
      dsimp only at m3 m4
      have htd : todo = [] := hl.td
      subst htd
      obtain ⟨u0, k0⟩ := hl.c0
      obtain ⟨u1, k1⟩ := hl.c1
      have f0 := hl.f0; have f1 := hl.f1
      have HLL := hid hl
      clear hl hmr
      cases left
      · have HC := hid (HLL.out.d.inv.done rfl rfl HLL.out.rt HUS.out)
        have n0 : w.heap.size ≠ r1 := by have := HQ.out; omega
        clear HV2
        go_wp2
        obtain ⟨W3, hW3⟩ : ∃ W3, W3 = (wr.setCell ⟨w.heap.size, 0, none⟩ (.int .i64 (many : Nat))).setCell ⟨r1, 0, none⟩ (.int .i64 0) := ⟨_, rfl⟩
        rw [← hW3]
        have y1 : W3.cell? ⟨r1, 0, none⟩ = some (.int .i64 0) := by rw [hW3]; exact sam (off k1 (fun e => n0 e.symm))
        have y0 : W3.cell? ⟨w.heap.size, 0, none⟩ = some (.int .i64 (many : Nat)) := by rw [hW3]; exact off (sam k0) n0
        have uf : Upd (fun x => x = w.heap.size ∨ x = r1) wr W3 := by rw [hW3]; exact ((Upd.refl (fun x => x = w.heap.size ∨ x = r1) wr).setCell (p := ⟨w.heap.size, 0, none⟩) (.inl (.inl rfl)) _).setCell (p := ⟨r1, 0, none⟩) (.inl (.inr rfl)) _
        have hq := HQ.out
        have hfin : MarkPost S w p m bs ct E0 xs (.returned (.tuple #[.int .i64 (many : Nat), .int .i64 0])) W3 := by
          have hl := HLL.out
          refine ⟨bs2, many, rfl, hl.d.st.ar.upd uf (fun b hb _ e => ?_), hl.d.inv.same, hl.d.inv.cnt, HC.out, (HSW.out wr hl.d.upd).trans (S1 := fun x => x = w.heap.size ∨ x = r1) (fun x hx => .inr ?_) uf⟩
          · have := HS.out b hb; omega
          · omega
        refine leaves_cons (f := 91) (args := #[.pointer (some ⟨w.heap.size, 0, none⟩), .pointer (some ⟨r1, 0, none⟩)]) (by simp) (by simp [go_sem]) ?_
        refine (mark_idle ⟨w.heap.size, 0, none⟩ ⟨r1, 0, none⟩ _).mono ?_
        rintro e u' w5 ⟨rfl, rfl, hw5⟩
        rw [hw5]
        simp [Leaves, settle, results, Tryz.results52, go_sem, y0, y1]
        exact hfin
      · clear k0 k1 f0 f1 m3
        obtain ⟨W2, hW2⟩ : ∃ W2, wr.setCell ⟨mb, 4, none⟩ (.bool false) = W2 := ⟨_, rfl⟩
        have hl := HLL.out
        have uw : Upd (fun x => x = mb) wr W2 := by rw [← hW2]; exact (Upd.refl (fun x => x = mb) _).setCell (p := ⟨mb, 4, none⟩) (.inl rfl) _
        have uw' : Upd (fun x => S x ∨ x = mb) wr W2 := uw.mono (fun b _ hb => .inr hb)
        have hms : MSt S p m mb (.func (.func fw) #[] capw) lim bs2 ⟨many, false, []⟩ W2 := ⟨hl.d.st.ar.upd uw (fun b hb _ e => hl.d.st.nS (e ▸ hb)), by rw [← hW2]; exact hl.d.st.mr.set4 false, hl.d.st.nS⟩
        have hd : DSt S p m mb fw capw lim ct E0 (MarkX bs) (fun x => x ∈ xs.filterMap toF) (cntM bs) W2 (MarkX bs2) bs2 ⟨many, false, []⟩ W2 := ⟨hms, hl.d.inv.begin rfl, Upd.refl _ _⟩
        have ub : Upd (fun x => S x ∨ x = mb) wc W2 := hl.d.upd.trans' uw'
        have CO := hid (over_any (HV2.out.at ub) hd rfl)
        have hk3 := uw'.cell_some k3 (fun h => (HN.out mv h).1 rfl)
        have HW2 := hid hW2; have HUW := hid uw'; have HUB := hid ub
        clear hW2 uw uw' hms hd ub hl
        go_wp2_with fail
        rw [HW2.out]
        refine CO.out.mono ?_
        rintro e w3 ⟨⟨u3, rfl⟩, bs3, s3, d3, st3, t3⟩
        have HD3 := hid d3; have HST3 := hid st3; have HT3 := hid t3
        clear d3 st3 t3 CO
        go_wp2
        go_roundw
        case rel => exact ⟨bs3, s3, HLL.out.on HN.out (HD3.out.from HUB.out) HT3.out HST3.out.mono (HUW.out.trans' HD3.out.upd)⟩
        case measure =>
          rw [measM_of HD3.out.st, measM_of HLL.out.d.st]
          exact measL_lt rfl HST3.out (HD3.out.inv.many_le HD3.out.st.ar.wf)
end
end Go.Proofs.YtlcfkfijomnmnaaGreatDoor
