import Derived.Test.YtlcfkfijomnmnaaGreatDoorQMkReach
namespace Go.Proofs.YtlcfkfijomnmnaaGreatDoor
open Lib (hid)
section
open Go.RowKit Go.Maps Go.WideMaps
variable {w0 w w' : World} {hb : Nat} {x : Sb} {hk hn : Int} {kn : Bool} {tn : Int} {m : Nat} {bs bs1 bs2 : List Blk} {t p kb : Nat} {S R Sa T Z : Nat → Prop} {q l a cb : Nat}
theorem refs_any (w : World) :
    Calls Tryz.prog 32 #[.pointer (some ⟨hb, 0, none⟩)] w fun e w' => e = .returned (.func (.func 63) #[] #[.pointer (some ⟨w.heap.size, 0, none⟩)]) ∧ w' = w.alloc (.cells #[.pointer (some ⟨hb, 0, none⟩)] 49) := by
  go_enter Tryz.func32, Tryz.ntmps32
  have hmf : ∀ (fn : Fn) (first cap : Array Value) (w : World), (Instr.makeFunc fn first cap).run Tryz.prog w = .ok (.func fn first cap) w := fun _ _ _ _ => rfl
  go_wp2
  go_ret
  exact ⟨rfl, rfl⟩
set_option maxRecDepth 100000 in
set_option maxHeartbeats 8000000 in
theorem refs1_any (h : HpZ Z w0 hb x hk hn true tn m bs w) (ht : ThAt bs q l) (hc : w.heap[cb]? = some (.cells #[.pointer (some ⟨hb, 0, none⟩)] 49 (0, 0))) :
    Calls Tryz.prog 63 #[.int .i64 q, .pointer (some ⟨cb, 0, none⟩)] w fun e w' => ∃ v, e = .returned v ∧ U64New w w' v [l] ∧ Below w.heap.size w w' := by
  obtain ⟨t, p, kb, S, R, Sa, T, hw, hd⟩ := h.ex
  have k1 := heap_cell hw.box 1
  have c0 := heap_cell hc 0
  simp at k1 c0
  have hlt := heap_lt hw.box
  have hlc := heap_lt hc
  have H := hid h; have HW := hid hw; have HT := hid ht
  obtain ⟨i0, hi, hz0, hz1, hz2⟩ := info_parts Tryz.infoU64
  have Hi := hid hi; have Hz0 := hid hz0; have Hz1 := hid hz1; have Hz2 := hid hz2
  have hfn : ∀ (args : Array Value) (w : World), (callFunc 101 args).run Tryz.prog w = .ok (.enter 101 args) w := fun _ _ => by kernel_rfl
  have hq2 : (q : Int) < 9223372036854775808 := by have := HT.out.q64; omega
  have HQ2 := hid hq2
  clear h hw hd ht hc hi hz0 hz1 hz2 hq2
  go_enter Tryz.func63, Tryz.ntmps63
  go_wp2_with fail
  refine (head_r HW.out.arR 0 0 1 (by decide) q HT.out.hd (by omega) HQ2.out).mono ?_
  rintro e w2 ⟨rfl, hb2⟩
  have HB2 := hid hb2
  have c0 := below_cell hb2 c0
  have k1 := below_cell hb2 k1
  have hlc := World.block_lt_of_cell? _ _ c0
  have hlt := World.block_lt_of_cell? _ _ k1
  dsimp only at hlc hlt
  clear hb2
  go_wp2_with fail
  obtain ⟨xb, hxb⟩ : ∃ xb, w2.heap.size = xb := ⟨_, rfl⟩
  obtain ⟨W3, hW3⟩ : ∃ W3, W3 = w2.alloc (.cells #[.int .i64 0, .int .i64 0, .int .i64 1] 54) := ⟨_, rfl⟩
  rw [← hW3, hxb]
  have b3 : Below w.heap.size w W3 := by rw [hW3]; exact HB2.out.alloc HB2.out.size _
  have b23 : Below w2.heap.size w2 W3 := by rw [hW3]; exact (Below.refl _ _).alloc (Nat.le_refl _) _
  have q3 : W3.heap[xb]? = some (.cells #[.int .i64 0, .int .i64 0, .int .i64 1] 54 (0, 0)) := by rw [hW3]; exact heap_alloc_at _ _ hxb.symm
  have c0 := below_cell b23 c0
  have k1 := below_cell b23 k1
  have HB3 := hid b3; have HQ3 := hid q3
  clear hxb hW3 b3 b23 q3 HB2
  refine (stores_b (H.out.below HB3.out)).mono ?_
  rintro e w4 ⟨lb, g, c, rfl, hlam, hb4⟩
  have q4 := (Upd.of_below (S := fun _ => False) hb4).heap_some HQ3.out (fun h => h)
  have d0 := heap_cell q4 0
  have d2 := heap_cell q4 2
  simp at d0 d2
  have c0 := below_cell hb4 c0
  have k1 := below_cell hb4 k1
  have hl4 := heap_lt q4
  have hlc := World.block_lt_of_cell? _ _ c0
  have hlt := World.block_lt_of_cell? _ _ k1
  dsimp only at hlc hlt
  have HB4 := hid (HB3.out.trans (hb4.mono HB3.out.size))
  have HLAM := hid hlam
  clear hb4 q4 hlam HB3
  go_wp2_with fail
  go_loopw [7, 48] (fun t7 t48 wr => (t48 = .int .i64 0 ∧ t7 = .slice none 0 0 ∧ wr = w4) ∨ (t48 = .int .i64 1 ∧ ∃ g9 c9, t7 = .slice (some ⟨g9, 0, none⟩) 1 c9 ∧ w.heap.size ≤ g9 ∧ wr.cell? ⟨g9, 0, none⟩ = some (.int .u64 l) ∧ Below w.heap.size w wr)) (fun _ t48 _ => 1 - (intOf t48).toNat)
  case atStart => exact .inl ⟨rfl, rfl, rfl⟩
  case round =>
    rcases hrel with ⟨rfl, rfl, rfl⟩ | ⟨rfl, g9, c9, rfl, h1, h2, h3⟩
    · go_wp2_with fail
      refine (of_h HLAM.out).mono ?_
      rintro e w5 ⟨rfl, hb5⟩
      have HB5 := hid (HB4.out.trans (hb5.mono HB4.out.size))
      have c0 := below_cell hb5 c0
      have k1 := below_cell hb5 k1
      clear hb5
      go_wp2_with fail
      refine (isRef_h w5).mono ?_
      rintro e w6 ⟨rfl, hb6⟩
      have HB6 := hid (HB5.out.trans (hb6.mono HB5.out.size))
      have c0 := below_cell hb6 c0
      have k1 := below_cell hb6 k1
      clear hb6
      go_wp2_with fail
      refine (Get_r (HW.out.below HB6.out).arR HT.out.it (l : Int) rfl (by omega) HQ2.out).mono ?_
      rintro e w7 ⟨rfl, rfl⟩
      have HNEWS := hid (show ∀ (j : Nat) (v : Value), ([Value.int .u64 l] : List Value)[j]? = some v → (w6.alloc (.cells #[.int .u64 l] 56)).cell? ((⟨w6.heap.size, 0, none⟩ : Addr).add j) = some v from by
        intro j v hj
        rw [Addr.add_lit, Nat.zero_add, heap_cell (heap_alloc_at w6 (.cells #[.int .u64 l] 56) rfl)]
        simpa using hj)
      have HONE := hid (show ∀ v ∈ ([Value.int .u64 l] : List Value), v.oneCell' = true by
        intro v hv
        rw [List.mem_singleton.1 hv]; rfl)
      have HNIL := hid (show (w6.alloc (.cells #[.int .u64 l] 56)).ownsRow w.heap.size 56 1 (.slice none 0 0) 0 [] from ⟨rfl, .inl ⟨rfl, rfl⟩⟩)
      have HSV := hid (show w.heap.size ≤ (w6.alloc (.cells #[.int .u64 l] 56)).heap.size by have := HB6.out.size; simp; omega)
      go_wp2_with (at_builtin; refine wpList_append_own2 _ rfl _ _ 60 rfl w.heap.size 56 i0 _ 1 8 Tryz.underlying60 Hi.out Hz0.out Hz1.out Hz2.out rfl (by decide) _ _ _ rfl HNIL.out ⟨w6.heap.size, 0, none⟩ 1 1 [.int .u64 l] rfl rfl HNEWS.out HONE.out (by decide) (by decide) HSV.out (by decide) ?_; intro v4 V4 r4 g4 mu4; have g4 : (w6.alloc (.cells #[.int .u64 l] 56)).grownBy V4 none := g4; obtain ⟨g9, c9, rfl⟩ := row_g r4; have HR4 := hid r4; have HG4 := hid g4; clear r4 g4 mu4)
      have r0 := HR4.out.cells (g := g9) rfl 0
      simp [Addr.add] at r0
      have b9 : Below w.heap.size w V4 := (HB6.out.alloc HB6.out.size _).grown HG4.out HSV.out (fun k hk => by cases hk)
      exact ⟨.inr ⟨rfl, g9, c9, rfl, (HR4.out.lt g9 (by simp [Value.ownBlock])).1, r0, b9⟩, by simp [intOf]⟩
    · go_wp2
      go_ret
      exact ⟨_, rfl, ⟨_, c9, rfl, .inr ⟨g9, rfl, h1, World.block_lt_of_cell? _ _ h2, fun k y hk => by
        cases k with
        | zero => simp at hk; subst hk; simpa [Addr.add] using h2
        | succ k => simp at hk⟩⟩, h3⟩
end
section
open Go.RowKit Go.Maps Go.WideMaps
variable {w0 w w' W : World} {hb : Nat} {x : Sb} {hk hn : Int} {kn : Bool} {tn : Int} {m : Nat} {bs bs' bs1 bs2 : List Blk} {t p kb : Nat} {S R Sa T Z : Nat → Prop} {q l a cb : Nat}
def gc (ct : List (Nat × List Nat × Bool)) (q i : Int) : Nat × Int := match ct.find? fun t => t.2.2 && ((t.1 : Int) == q) with
  | none => (0, 4)
  | some t => if 0 ≤ i ∧ i < t.2.1.length then (t.2.1.getD i.toNat 0, 0) else (0, 2)
theorem getF_gc (bs : List Blk) (q i : Int) : getF bs q i = gc (content bs) q i := by
  unfold getF gc content blkAt
  rw [List.find?_map]
  have e : ((fun t : Nat × List Nat × Bool => t.2.2 && ((t.1 : Int) == q)) ∘ fun b : Blk => (b.a, b.ws, b.u)) = fun b : Blk => b.u && ((b.a : Int) == q) := rfl
  rw [e]
  cases bs.find? fun b => b.u && ((b.a : Int) == q) <;> rfl
theorem ThAt.ct (h : ThAt bs q l) (hc : content bs' = content bs) : ThAt bs' q l :=
  ⟨by rw [getF_gc, hc, ← getF_gc]; exact h.hd, by rw [getF_gc, hc, ← getF_gc]; exact h.it, h.l64, h.q64⟩
def lkF (bs : List Blk) (q : Nat) : Nat := (getF bs (q : Int) 1).1
def Things (bs : List Blk) : Prop := ∀ q, UsedC (content bs) q → ThAt bs q (lkF bs q)
def edF (bs : List Blk) (q : Nat) : List Nat := if (usedAt bs (q : Int)) then [lkF bs q] else []
theorem HpW.turnA (h : HpW w0 hb x hk hn kn tn m bs t p kb S R Sa T w) (u : Upd (fun b => Sa b ∨ w.heap.size ≤ b) w W) (a : ArV Sa W p m bs') : HpW w0 hb x hk hn kn tn m bs' t p kb S R Sa T W := by
  have no : ∀ b, (b = hb ∨ b = kb ∨ S b ∨ R b ∨ T b) → ¬ (Sa b ∨ w.heap.size ≤ b) := fun b q k => by
    have := (h.low b (by rcases q with q | q | q | q | q <;> simp [q])).2
    rcases k with k | k
    · exact h.out b q k
    · omega
  have hl : ∀ b, (Sa b ∨ w.heap.size ≤ b) → w0.heap.size ≤ b := fun b k => by
    rcases k with k | k
    · exact (h.low b (.inr (.inr (.inr (.inr (.inr k)))))).1
    · have := h.be.size; omega
  exact ⟨u.heap_some h.box (no _ (.inl rfl)), h.tab.upd u (fun b k => ⟨fun s => no b (.inr (.inr (.inl s))) k, fun s => no b (.inr (.inr (.inr (.inl s)))) k, hl b k⟩), a,
    h.kn.keep u (no _ (.inr (.inl rfl))) (fun b s => no b (.inr (.inr (.inr (.inr s))))), h.out, h.ne, h.stq, fun b q => ⟨(h.low b q).1, Nat.lt_of_lt_of_le (h.low b q).2 u.size⟩, h.be.trans (u.below hl h.be.size)⟩
theorem wtab_on {w w' : World} (h : WTab w) (hb : Below w.heap.size w w') : WTab w' :=
  ⟨below_cell hb h.c0, below_cell hb h.c1, below_cell hb h.c2, below_cell hb h.c3, below_cell hb h.c4, below_cell hb h.c5, below_cell hb h.c6, below_cell hb h.c7, below_cell hb h.c8, below_cell hb h.c9, below_cell hb h.c10, below_cell hb h.c11⟩
theorem HpW.env (h : HpW w0 hb x hk hn true tn m bs t p kb S R Sa T w) (ht : Things bs) (htab : WTab w0 ∧ TzTab w0) (hc : w.heap[cb]? = some (.cells #[.pointer (some ⟨hb, 0, none⟩)] 49 (0, 0))) (hcs : ¬ Sa cb)
    (mb : Nat) (W0 : World) (h1 : w.heap.size ≤ mb) (h2 : mb < W0.heap.size) (h3 : Below w.heap.size w W0) :
    MEnv Sa p m mb 63 #[.pointer (some ⟨cb, 0, none⟩)] (content bs) (edF bs) W0 := by
  have hsa : ∀ b, Sa b → w0.heap.size ≤ b ∧ b < w.heap.size := fun b q => h.low b (.inr (.inr (.inr (.inr (.inr q)))))
  have hs := h3.size
  have hs0 := h.be.size
  refine ⟨fun b q => Nat.lt_of_lt_of_le (hsa b q).2 hs, h2, fun _ _ => by kernel_rfl, fun bs' W hct ha u q hq => ?_, fun W u => ?_, fun q y hy => ?_, fun q => ?_⟩
  · have u' : Upd (fun b => Sa b ∨ w.heap.size ≤ b) w W := (Upd.of_below (S := fun b => Sa b ∨ w.heap.size ≤ b) h3).trans' (u.mono fun k hk s => s.imp id (fun e => by rw [e]; exact h1))
    have hw := h.turnA u' ha
    have hth := (ht q hq).ct hct
    have hcb : W.heap[cb]? = some (.cells #[.pointer (some ⟨hb, 0, none⟩)] 49 (0, 0)) := u'.heap_some hc (fun k => k.elim hcs (fun k => by have := heap_lt hc; omega))
    refine (refs1_any (Z := fun _ => False) ⟨t, p, kb, S, R, Sa, T, hw, fun _ _ q => q⟩ hth hcb).mono ?_
    rintro e W' ⟨v, he, hv, hbl⟩
    have e1 : edF bs q = [lkF bs q] := by unfold edF; rw [if_pos (usedC_iff.1 hq)]
    rw [e1]
    exact ⟨v, he, hv, hbl⟩
  · have hb' : Below w0.heap.size w0 W := (h.be.trans (h3.mono hs0)).trans (u.below (fun k s => by rcases s with s | s; exact (hsa k s).1; omega) (by omega))
    exact ⟨wtab_on htab.1 hb', htab.2.on hb'⟩
  · unfold edF at hy
    split at hy
    · rename_i hu
      simp at hy
      rw [hy]
      exact (ht q (usedC_iff.2 hu)).l64
    · simp at hy
  · unfold edF
    split <;> simp
theorem ArV.self {S : Nat → Prop} {w : World} {p m : Nat} {bs : List Blk} (h : ArV S w p m bs) : S p := by
  obtain ⟨SL, wb, tb, kb, mc, lv, ws, L, T, K, used, tk, mk, tbs, kbs, a, i, o⟩ := h
  exact o p (by simp [Own])
theorem HpW.env0 (h : HpW w0 hb x hk hn true tn m bs t p kb S R Sa T w) (ht : Things bs) (htab : WTab w0 ∧ TzTab w0) (hc : w.heap[cb]? = some (.cells #[.pointer (some ⟨hb, 0, none⟩)] 49 (0, 0))) (hcs : ¬ Sa cb) :
    MEnv Sa p m p 63 #[.pointer (some ⟨cb, 0, none⟩)] (content bs) (edF bs) w := by
  have hb2 : Below w.heap.size w ((w.alloc (.cells #[] 3))) := (Below.refl _ _).alloc (Nat.le_refl _) _
  have E := h.env ht htab hc hcs w.heap.size (w.alloc (.cells #[] 3)) (Nat.le_refl _) (by simp) hb2
  have hsa : ∀ b, Sa b → w0.heap.size ≤ b ∧ b < w.heap.size := fun b q => h.low b (.inr (.inr (.inr (.inr (.inr q)))))
  have hp := h.ar.self
  refine ⟨fun b q => (hsa b q).2, (hsa p hp).2, E.enter, fun bs' W hct ha u q hq => ?_, fun W u => ?_, E.e64, E.len⟩
  · have u' : Upd (fun b => Sa b ∨ w.heap.size ≤ b) w W := u.mono fun k hk s => .inl (s.elim id (fun e => by rw [e]; exact hp))
    have hw := h.turnA u' ha
    have hth := (ht q hq).ct hct
    have hcb : W.heap[cb]? = some (.cells #[.pointer (some ⟨hb, 0, none⟩)] 49 (0, 0)) := u.heap_some hc (fun k => k.elim hcs (fun e => hcs (by rw [e]; exact hp)))
    refine (refs1_any (Z := fun _ => False) ⟨t, p, kb, S, R, Sa, T, hw, fun _ _ q => q⟩ hth hcb).mono ?_
    rintro e W' ⟨v, he, hv, hbl⟩
    have e1 : edF bs q = [lkF bs q] := by unfold edF; rw [if_pos (usedC_iff.1 hq)]
    rw [e1]
    exact ⟨v, he, hv, hbl⟩
  · have hb' : Below w0.heap.size w0 W := h.be.trans (u.below (fun k s => by rcases s with s | s; exact (hsa k s).1; rw [s]; exact (hsa p hp).1) h.be.size)
    exact ⟨wtab_on htab.1 hb', htab.2.on hb'⟩
end
section
open Go.RowKit Go.Maps Go.WideMaps
variable {w0 w w' W : World} {hb : Nat} {x : Sb} {hk hn : Int} {kn : Bool} {tn : Int} {m : Nat} {bs bs' bs1 bs2 : List Blk} {t p kb : Nat} {S R Sa T Z : Nat → Prop} {q l a cb : Nat}
theorem HpW.count (h : HpW w0 hb x hk hn kn tn m bs t p kb S R Sa T w) (n : Int) : HpW w0 hb x hk hn kn n m bs t p kb S R Sa T (w.setCell ⟨hb, 3, none⟩ (.int .i64 n)) := by
  obtain ⟨n1, n2, n3, n4, n5, n6, n7⟩ := h.ne
  have u : Upd (fun b => b = hb) w (w.setCell ⟨hb, 3, none⟩ (.int .i64 n)) := upd_set _ _ _ _
  have hs := heap_set_at h.box 3 (.int .i64 n)
  have hlo := (h.low hb (.inl rfl)).1
  exact ⟨by simpa using hs, h.tab.upd u (fun b e => by subst e; exact ⟨n2, n3, hlo⟩), h.ar.upd u (fun b s _ e => h.out b (.inl e) s), h.kn.keep u (fun e => n1 e.symm) (fun b s e => by subst e; exact n4 s), h.out, h.ne, h.stq,
    fun b q => ⟨(h.low b q).1, Nat.lt_of_lt_of_le (h.low b q).2 u.size⟩, h.be.trans (u.below (fun b e => by subst e; exact hlo) h.be.size)⟩
def CollOf (bs : List Blk) (xs : List Nat) (bs' : List Blk) : Prop := content bs' = content bs ∧ ∀ a, MarkX bs' a ↔ Rch (UsedC (content bs)) (EF (edF bs)) (fun y => y ∈ xs.filterMap toF) a
set_option maxRecDepth 100000 in
set_option maxHeartbeats 4000000 in
theorem collect_h (h : HpZ Z w0 hb x hk hn true tn m bs w) (ht : Things bs) (htab : WTab w0 ∧ TzTab w0) (hZ : ∀ b, Z b → b < w.heap.size) (hnm : ∀ a, ¬ MarkX bs a)
    (v : Value) (xs : List Nat) (hv : ∀ W, (∀ b, Z b → W.heap[b]? = w.heap[b]?) → U64At W v xs) (hx : ∀ y ∈ xs, y < 18446744073709551616) (hl : xs.length ≤ 1000000) :
    Calls Tryz.prog 26 #[.pointer (some ⟨hb, 0, none⟩), v] w fun e w' => ∃ bs', CollOf bs xs bs' ∧ e = .returned (.int .i64 ((usedSum bs' : Int) - (usedSum (sweepF bs') : Int))) ∧ HpZ Z w0 hb x hk hn true (wrap64 (tn + 1)) m (sweepF bs') w' ∧ Kept Z w w' := by
  obtain ⟨t, p, kb, S, R, Sa, T, hw, hd⟩ := h.ex
  have k3 := heap_cell hw.box 3
  have f3 := heap_frozen hw.box 3
  have k1 := heap_cell hw.box 1
  simp at k1 k3
  have HW := hid hw; have HD := hid hd; have HTH := hid ht; have HTB := hid htab; have HZ := hid hZ; have HNM := hid hnm; have HV := hid hv; have HX := hid hx; have HL := hid hl
  clear h hw hd ht htab hZ hnm hv hx hl
  go_enter Tryz.func26, Tryz.ntmps26
  go_wp2_with fail
  have hw1 := HW.out.count (wrap64 (tn + 1))
  have u1 : Upd (fun b => b = hb) w (w.setCell ⟨hb, 3, none⟩ (.int .i64 (wrap64 (tn + 1)))) := upd_set _ _ _ _
  obtain ⟨W1, hW1⟩ : ∃ W1, w.setCell ⟨hb, 3, none⟩ (.int .i64 (wrap64 (tn + 1))) = W1 := ⟨_, rfl⟩
  rw [hW1] at hw1 u1 ⊢
  have HW1 := hid hw1; have HU1 := hid u1
  have k1 := heap_cell hw1.box 1
  simp at k1
  clear hw1 u1 hW1 k3 f3
  have f1 := ExtU.cells (R := fun _ => False) k1 (fun h => h)
  refine wp_region_midX (fun x : ExtU (fun _ => False) W1 => x.val) 7 [0, 1, 2, 3, 4, 5] [6] (by kernel_rfl) (by kernel_rfl) (by kernel_rfl) (by kernel_rfl) (by rintro c a (_ | d) v w h <;> exact h) ⟨⟨_, (Upd.refl _ _).drew⟩, rfl⟩ ?_
  simp only [pickO, List.getD_cons_succ, List.getD_cons_zero, List.drop_succ_cons, List.drop_zero]
  repeat (go_big_quiet_step (fail))
  refine wpQuiet_nil ?_
  unfold wpMids
  go_wp2_with fail
  refine (refs_any W1.drew).mono ?_
  rintro e w2 ⟨rfl, hw2⟩
  have b2 : Below W1.heap.size W1 w2 := by rw [hw2]; exact ((Below.refl _ _).drew).alloc (Nat.le_refl _) _
  have q2 : w2.heap[W1.heap.size]? = some (.cells #[.pointer (some ⟨hb, 0, none⟩)] 49 (0, 0)) := by rw [hw2]; exact heap_alloc_at W1.drew _ rfl
  obtain ⟨cb, hcb⟩ : ∃ cb, W1.heap.size = cb := ⟨_, rfl⟩
  rw [hcb] at q2
  have HB2 := hid b2; have HQ2 := hid q2; have HCB := hid hcb
  have HW2 := hid (HW1.out.below b2)
  clear hw2 b2 q2
  go_wp2_with fail
  refine ⟨⟨⟨_, Upd.of_below HB2.out⟩, rfl⟩, ?_⟩
  unfold wpMids
  go_wp2_with fail
  have hcs : ¬ Sa cb := fun k => by
    have h1 := (HW.out.low cb (.inr (.inr (.inr (.inr (.inr k)))))).2
    have h2 := HU1.out.size
    have := HCB.out; omega
  have hvv : ∀ W, Upd Sa w2 W → U64At W v xs := fun W u => HV.out W (fun b z => by
    have hb1 := HZ.out b z
    have hsz := HU1.out.size
    have hsz2 := HB2.out.size
    rw [u.block b (by omega) (fun k => HD.out b (.inr (.inr (.inr (.inr (.inr k))))) z), HB2.out.block b (by omega), HU1.out.block b hb1 (fun e => HD.out b (.inl e) z)])
  refine (mark_any HW2.out.ar rfl (fun b k => (HW2.out.low b (.inr (.inr (.inr (.inr (.inr k)))))).2) (fun mb W0 h1 h2 h3 => HW2.out.env HTH.out HTB.out HQ2.out hcs mb W0 h1 h2 h3) 1024 (by decide) (by decide) v xs hvv HX.out HL.out).mono ?_
  rintro e w3 ⟨bs', n, rfl, ha3, hct3, _, hmk3, hu3⟩
  have hw3 := HW2.out.turnA (hu3.mono fun k _ s => .inl s) ha3
  have HW3 := hid hw3; have HU3 := hid hu3
  have hco : CollOf bs xs bs' := ⟨hct3, fun a => by
    rw [hmk3 a]
    exact ⟨Rch.mono (fun y h => h.resolve_left (HNM.out y)), Rch.mono (fun y h => .inr h)⟩⟩
  have HCO := hid hco
  have k3 := heap_cell hw3.box 1
  simp at k3
  have HA3 := hid ha3
  clear hcs hvv ha3 hct3 hmk3 hu3 hw3 hco k1
  go_wp2_with fail
  refine (Sweep_at HA3.out).mono ?_
  rintro e w4 ⟨rfl, hp4⟩
  have ht4 := HW3.out.turn HD.out (fun b z => by have := HZ.out b z; have := HU1.out.size; have := HB2.out.size; have := HU3.out.size; omega) hp4
  have HZ4 := hid ht4.1; have HK4 := hid ht4.2
  clear hp4 ht4
  go_wp2
  go_ret
  refine ⟨bs', HCO.out, rfl, HZ4.out, ⟨by have := HU1.out.size; have := HB2.out.size; have := HU3.out.size; have := HK4.out.size; omega, fun b z => ?_⟩⟩
  have hb1 := HZ.out b z
  have hsz := HU1.out.size
  have hsz2 := HB2.out.size
  rw [HK4.out.blk b z, HU3.out.block b (by omega) (fun k => HD.out b (.inr (.inr (.inr (.inr (.inr k))))) z), HB2.out.block b (by omega), HU1.out.block b hb1 (fun e => HD.out b (.inl e) z)]
end
section
open Go.RowKit Go.Maps Go.WideMaps
variable {w0 w w' W : World} {q l a cb sb : Nat} {xs : List Nat}
def encU (y : Nat) : Array Value := #[.int .u64 (y : Nat)]
theorem seq_any (ao : Option Addr) (n c : Nat) (w : World) :
    Calls Tryz.prog 11 #[.slice ao n c] w fun e w' => e = .returned (.func (.func 29) #[] #[.pointer (some ⟨w.heap.size, 0, none⟩)]) ∧ w' = w.alloc (.cells #[.slice ao n c] 60) := by
  go_enter Tryz.func11, Tryz.ntmps11
  have hmf : ∀ (fn : Fn) (first cap : Array Value) (w : World), (Instr.makeFunc fn first cap).run Tryz.prog w = .ok (.func fn first cap) w := fun _ _ _ _ => rfl
  go_wp2
  go_ret
  exact ⟨rfl, rfl⟩
set_option maxRecDepth 100000 in
set_option maxHeartbeats 4000000 in
theorem seq_iter (n sb : Nat) (v : Value) (xs : List Nat) (hn : 1 ≤ n) (hl : xs.length ≤ 1000000) (w : World) (Kp : World → World → Prop) (I : List Nat → World → Prop) (Ix : Code → List Nat → World → Prop) (hI : ∀ pre W, I pre W → W.cell? ⟨sb, 0, none⟩ = some v ∧ U64At W v xs) :
    IterAtG Fence.wide n Tryz.prog 29 #[.pointer (some ⟨sb, 0, none⟩)] encU w Kp I Ix
      (fun ys => ys = xs) (fun pre => pre <+: xs) (fun pre y => pre ++ [y] <+: xs) := by
  intro l L L' W1 hL hL' hbel hY h0 hL0
  have HI := hid hI; have HL := hid hl
  clear hbel hI hl
  obtain ⟨ln, hln⟩ : ∃ ln, xs.length = ln := ⟨_, rfl⟩
  have HLN := hid hln
  clear hln
  refine callsIn_of_wp Tryz.func29 rfl trivial ?_ rfl
  simp only [Tryz.ntmps29, List.size_toArray, List.length_cons, List.length_nil, Nat.reduceAdd, Nat.reduceSub, Array.replicate_succ, Array.replicate_zero, List.push_toArray, List.append_toArray, List.nil_append, List.cons_append]
  gi_wp2
  gi_loopw [3] (fun t2 wr => ∃ (pre rest : List Nat), t2 = .int .i64 (pre.length : Nat) ∧ pre ++ rest = xs ∧ I pre wr ∧ L wr) (fun t2 _ => ln - (intOf t2).toNat)
  case atStart => exact ⟨[], xs, rfl, rfl, h0, hL0⟩
  case round =>
    obtain ⟨pre, rest, rfl, hp, hi, hl⟩ := hrel
    obtain ⟨hc, ao, c, rfl, hcell⟩ := HI.out _ _ hi
    rw [HLN.out] at hc
    obtain ⟨pn, hpn⟩ : ∃ pn, pre.length = pn := ⟨_, rfl⟩
    rw [hpn]
    have HPN := hid hpn
    cases rest with
    | nil =>
      have hpl : pn = ln := by rw [← hpn, ← HLN.out, ← hp]; simp
      have HP := hid hp
      subst hpl
      have h1 : ¬ (pn : Int) < pn := by omega
      clear hp hY hpn hcell
      gi_wp2
      go_end0
      have e : pre = xs := by have := HP.out; simpa using this
      rw [e] at hi
      exact ⟨⟨_, rfl⟩, .inl ⟨hi, hl⟩⟩
    | cons y rest' =>
      have hpl : pn < ln := by rw [← hpn, ← HLN.out, ← hp]; simp
      have hy : xs[pn]? = some y := by rw [← hp, ← hpn]; simp
      obtain ⟨b, o, rfl, hcl⟩ : ∃ b o, ao = some ⟨b, o, none⟩ ∧ ∀ k x : Nat, xs[k]? = some x → wr.cell? ((⟨b, o, none⟩ : Addr).add k) = some (.int .u64 x) := by
        rcases hcell with h | h
        · rw [h] at hy; simp at hy
        · exact h
      have hcy := hcl pn y hy
      rw [Addr.add_lit] at hcy
      have HP := hid hp
      obtain ⟨fn, tmps, assign, body, hyy, hR⟩ := hY pre y _ hi hl ⟨rest', by rw [← hp]; simp⟩
      dsimp only [encU] at hyy
      have h1 : (pn : Int) < ln := by omega
      have h0 : (0 : Int) ≤ pn := by omega
      have h6 : (pn : Int) < 1000001 := by have := HL.out; have := HLN.out; omega
      have HPL := hid hpl
      clear hY hp hi hl hy hcl hcell hpn
      gi_wp2_with fail
      refine hR.mono ?_
      rintro e W' (⟨rfl, hJ', hk', hl'⟩ | ⟨rfl, c', hx, hl'⟩)
      · gi_wp2
        go_roundw
        case rel => exact ⟨pre ++ [y], rest', by rw [List.length_append, HPN.out]; rfl, by rw [← HP.out]; simp, hJ', hl'⟩
        case measure => have := HPL.out; simp [intOf]; omega
      · gi_wp2
        refine bodyPost_ret (results_none rfl _ _ _) rfl ?_
        exact ⟨⟨_, rfl⟩, .inr ⟨pre ++ [y], c', ⟨rest', by have := HP.out; rw [← this]; simp⟩, hx, hl'⟩⟩
theorem gather_idle (n : Nat) (a b : Addr) (w : World) :
    CallsDIn Fence.wide n Tryz.prog 51 #[.pointer (some a), .pointer (some b)] .returning w fun e u' w' => e = .returned (.tuple #[]) ∧ u' = .returning ∧ w' = w := by
  refine callsDIn_of_wpSIn Tryz.func51 rfl trivial (fun c₀ cs hu => ?_)
  apply wpSIn_seq
  apply wpSIn_region
  simp [wpOpsSIn, go_sem, recoverD, hu, Tryz.ntmps51, Exit.thenS]
  refine wpSIn_cond (t := false) (by simp [Act.eval, Array.replicate]) ?_
  simp only [Bool.false_eq_true, if_false]
  refine wpSIn_of_wpIn rfl (Go.wpIn_skip ?_)
  cases c₀
  simp_all [bodyPostS, results, Tryz.results51]
end
end Go.Proofs.YtlcfkfijomnmnaaGreatDoor
