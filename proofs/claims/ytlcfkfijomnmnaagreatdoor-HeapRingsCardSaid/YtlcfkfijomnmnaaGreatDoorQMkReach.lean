import Derived.Test.YtlcfkfijomnmnaaGreatDoorQMkRefuseBd
import Derived.RecoverIn
namespace Go.Proofs.YtlcfkfijomnmnaaGreatDoor
open Lib (hid)
open Go.RowKit Go.Maps Go.Shelf
attribute [local go_sem] Oper.semAt_some
theorem reach_idle (n : Nat) (a : Addr) (w : World) :
    CallsDIn Fence.wide n Tryz.prog 59 #[.pointer (some a)] .returning w fun e u' w' => e = .returned (.tuple #[]) ∧ u' = .returning ∧ w' = w := by
  refine callsDIn_of_wpSIn Tryz.func59 rfl trivial (fun c₀ cs hu => ?_)
  apply wpSIn_seq
  apply wpSIn_region
  simp [wpOpsSIn, go_sem, recoverD, hu, Tryz.ntmps59, Exit.thenS]
  refine wpSIn_cond (t := false) (by simp [Act.eval, Array.replicate]) ?_
  simp only [Bool.false_eq_true, if_false]
  refine wpSIn_of_wpIn rfl (Go.wpIn_skip ?_)
  cases c₀
  simp_all [bodyPostS, results, Tryz.results59]
variable {S : Nat → Prop} {w : World} {p m : Nat} {bs : List Blk}
theorem U64At.below {W W' : World} {v : Value} {xs : List Nat} (h : U64At W v xs) (hb : Below W.heap.size W W') : U64At W' v xs := by
  obtain ⟨ao, c, rfl, h⟩ := h
  exact ⟨ao, c, rfl, h.imp id (fun ⟨b, o, e, hc⟩ => ⟨b, o, e, fun k x hk => below_cell hb (hc k x hk)⟩)⟩
def ReachPost (w : World) (ct : List (Nat × List Nat × Bool)) (E0 : Nat → List Nat) (xs : List Nat) (e : Ending) (W : World) : Prop :=
  ∃ rv l, e = .returned rv ∧ W.ownsRow w.heap.size 3 1 rv l.length (ints l) ∧ l.Pairwise (· < ·) ∧ (∀ a, a ∈ l ↔ Rch (UsedC ct) (EF E0) (fun x => x ∈ xs.filterMap toF) a) ∧ Below w.heap.size w W
theorem RS.below {B A0 Mv Mo Tv : Nat} {X todo : List Nat} {g : Option Nat} {W W' : World} (h : RS B S p m A0 Mv Mo Tv bs X todo g W) (hb : Below W.heap.size W W') : RS B S p m A0 Mv Mo Tv bs X todo g W' := by
  have u : Upd (fun _ => False) W W' := Upd.of_below hb
  obtain ⟨tv, h1, h2, h3⟩ := h.td
  exact ⟨h.ar.below hb, u.heap_some h.a0 (fun h => h), u.heap_some h.mv (fun h => h), h.met.upd u (fun h => h), ⟨tv, u.heap_some h1 (fun h => h), ownsRow_upd h2 u (fun _ _ h => h), h3⟩, h.hB, h.hS, Nat.le_trans h.bw u.size⟩
theorem RS.pop {B A0 Mv Mo Tv : Nat} {X t : List Nat} {x : Nat} {g : Option Nat} {W : World} (h : RS B S p m A0 Mv Mo Tv bs X (t ++ [x]) g W) : ∃ gb cap, g = some gb ∧ W.heap[Tv]? = some (.cells #[.slice (some ⟨gb, 0, none⟩) (t.length + 1) cap] 25 (0, 0)) ∧ W.cell? ⟨gb, t.length, none⟩ = some (.int .i64 (x : Nat)) ∧ t.length + 1 ≤ cap ∧ RS B S p m A0 Mv Mo Tv bs X t g (W.setCell ⟨Tv, 0, none⟩ (.slice (some ⟨gb, 0, none⟩) t.length cap)) := by
  obtain ⟨hap, hfa, hfm, hmt, hgm, hgt⟩ := h.apart
  obtain ⟨tv, h1, h2, h3⟩ := h.td
  rw [List.length_append, List.length_cons, List.length_nil] at h2
  obtain ⟨gb, cap, cur, rfl, hg, hcap, _, hcell⟩ := ownsRow_some h2 (by omega)
  have hgb : g = some gb := h3.symm
  have hx := hcell t.length (by omega)
  have u : Upd (fun b => b = Tv) W (W.setCell ⟨Tv, 0, none⟩ (.slice (some ⟨gb, 0, none⟩) t.length cap)) := (Upd.refl (fun b => b = Tv) W).setCell (p := ⟨Tv, 0, none⟩) (.inl rfl) _
  refine ⟨gb, cap, hgb, h1, by rw [hx]; simp [ints], hcap, h.ar.upd u (fun b hb _ e => hap b hb (.inr (.inl e))), u.heap_some h.a0 (fun e => hfa (.inr (.inl e))), u.heap_some h.mv (fun e => hfm (.inr (.inl e))), h.met.upd u (fun e => hmt e), ⟨_, heap_set_at h1 0 _, ?_, h3⟩, h.hB, h.hS, Nat.le_trans h.bw u.size⟩
  have h4 := ownsRow_take h2 t.length (by omega)
  rw [show (ints (t ++ [x])).take (t.length * 1) = ints t by simp [ints]] at h4
  exact ownsRow_upd h4 u (fun b hb e => hgt (by rw [hgb]; simp [Value.ownBlock] at hb; rw [hb, e]))
theorem RS.notL {B A0 Mv Mo Tv : Nat} {X todo : List Nat} {g : Option Nat} {W : World} (h : RS B S p m A0 Mv Mo Tv bs X todo g W) {L0 : Nat} {cs : Array Value} (hL : W.heap[L0]? = some (.cells cs 25 (0, 0))) (h1 : L0 ≠ Tv) : ¬ Foot Mo Tv g L0 := by
  obtain ⟨tv, _, h2, h3⟩ := h.td
  obtain ⟨es, ck, hm⟩ := h.met.heap
  rintro (e | e | e)
  · rw [e, hm] at hL; cases hL
  · exact h1 e
  · rcases h2.2 with ⟨rfl, _⟩ | ⟨q, cap, cur, rfl, _, hq, _⟩
    · rw [e] at h3; simp [Value.ownBlock] at h3
    · rw [e] at h3; simp [Value.ownBlock] at h3; subst h3
      rw [hL] at hq; simp at hq
structure RLoop (w : World) (S : Nat → Prop) (p m L0 Mv Mo Tv : Nat) (bs : List Blk) (E0 : Nat → List Nat) (xs : List Nat) (s : List Nat × List Nat) (W : World) : Prop where
  rs : ∃ g, RS w.heap.size S p m w.heap.size Mv Mo Tv bs s.1 s.2 g W
  ri : RI (content bs) (EF E0) (fun x => x ∈ xs.filterMap toF) (fun _ => False) s
  rt : ∀ a ∈ xs.filterMap toF, UsedC (content bs) a → a ∈ s.1
  l0 : W.heap[L0]? = some (.cells #[.slice none 0 0] 25 (0, 0))
  be : Below w.heap.size w W
theorem RLoop.foot {w : World} {Mv Mo Tv : Nat} {X t : List Nat} {g : Option Nat} {W W' : World} (h : RS w.heap.size S p m w.heap.size Mv Mo Tv bs X t g W) (hb : Below w.heap.size w W) (u : Upd (Foot Mo Tv g) W W') : Below w.heap.size w W' := by
  have hB := h.hB
  refine hb.trans (u.below (fun k hk => ?_) hb.size)
  rcases hk with hk | hk | hk
  · omega
  · omega
  · exact h.row_ge hk
def selL (X : List Nat) (pre : List (Nat × Nat)) : List Nat := (pre.map Prod.fst).filter (fun a => X.contains a)
structure CollI (w : World) (S : Nat → Prop) (p m cb L0 Mv Mo : Nat) (bs : List Blk) (X : List Nat) (l : List Nat) (W : World) : Prop where
  ar : ArV S W p m bs
  hS : ∀ b, S b → b < w.heap.size
  ge : w.heap.size ≤ cb ∧ w.heap.size ≤ L0 ∧ w.heap.size ≤ Mv ∧ w.heap.size ≤ Mo
  cbh : W.heap[cb]? = some (.cells #[.pointer (some ⟨p, 0, none⟩)] 79 (0, 0))
  mv : W.heap[Mv]? = some (.cells #[.map (some Mo)] 134 (0, 0))
  met : MetAt W Mo X
  l0 : ∃ lv, W.heap[L0]? = some (.cells #[lv] 25 (0, 0)) ∧ W.ownsRow w.heap.size 3 1 lv l.length (ints l)
  be : Below w.heap.size w W
theorem CollI.apart {cb L0 Mv Mo : Nat} {X l : List Nat} {W : World} (h : CollI w S p m cb L0 Mv Mo bs X l W) : Mo ≠ L0 ∧ cb ≠ L0 ∧ Mv ≠ L0 ∧ ∀ lv, W.heap[L0]? = some (.cells #[lv] 25 (0, 0)) → W.ownsRow w.heap.size 3 1 lv l.length (ints l) → ∀ g, lv.ownBlock = some g → w.heap.size ≤ g ∧ g ≠ Mo ∧ g ≠ cb ∧ g ≠ Mv ∧ g ≠ L0 := by
  obtain ⟨es, ck, hm⟩ := h.met.heap
  obtain ⟨lv, h1, h2⟩ := h.l0
  refine ⟨fun e => ?_, fun e => ?_, fun e => ?_, fun lv' k1 k2 g hg => ⟨(k2.lt g hg).1, ?_⟩⟩
  · rw [e, h1] at hm; cases hm
  · have := h.cbh; rw [e, h1] at this; simp at this
  · have := h.mv; rw [e, h1] at this; simp at this
  · rcases k2.2 with ⟨rfl, _⟩ | ⟨q, cap, cur, rfl, _, hq, _⟩
    · simp [Value.ownBlock] at hg
    · simp [Value.ownBlock] at hg; subst hg
      refine ⟨fun e => ?_, fun e => ?_, fun e => ?_, fun e => ?_⟩
      · rw [e, hm] at hq; cases hq
      · have := h.cbh; rw [← e, hq] at this; simp at this
      · have := h.mv; rw [← e, hq] at this; simp at this
      · rw [e, h1] at hq; simp at hq
theorem CollI.put {cb L0 Mv Mo : Nat} {X l : List Nat} {W : World} (h : CollI w S p m cb L0 Mv Mo bs X l W) {k : Nat} {o : Obj} (o' : Obj) (hk : w.heap.size ≤ k ∧ Mo < k) (hh : W.heap[k]? = some o) (ho : o.isCells = false) : CollI w S p m cb L0 Mv Mo bs X l (W.putObj k o') := by
  have u := upd_putObj W k o'
  have hc : ∀ b cs t fr, W.heap[b]? = some (.cells cs t fr) → ¬ b = k := fun b cs t fr hb e => by rw [e, hh] at hb; injection hb with hb; subst hb; simp [Obj.isCells] at ho
  obtain ⟨lv, h1, h2⟩ := h.l0
  refine ⟨h.ar.upd u (fun b hb _ e => by have := h.hS b hb; omega), h.hS, h.ge, u.heap_some h.cbh (hc _ _ _ _ h.cbh), u.heap_some h.mv (hc _ _ _ _ h.mv), h.met.upd u (fun e => by omega), ⟨lv, u.heap_some h1 (hc _ _ _ _ h1), ownsRow_upd h2 u (fun b hb => ?_)⟩, h.be.grown (grownBy_putObj' W k o') h.be.size (fun q e => by cases e; exact hk.1)⟩
  rcases h2.2 with ⟨rfl, _⟩ | ⟨q, cap, cur, rfl, _, hq, _⟩
  · simp [Value.ownBlock] at hb
  · simp [Value.ownBlock] at hb; subst hb; exact hc _ _ _ _ hq
set_option maxRecDepth 100000 in
set_option maxHeartbeats 4000000 in
theorem reach_any {fw : FuncId} {capw : Array Value} {ct : List (Nat × List Nat × Bool)} {E0 : Nat → List Nat} (hA : ArV S w p m bs) (hct : content bs = ct) {mb : Nat} (V : MEnv S p m mb fw capw ct E0 w)
    (v : Value) (xs : List Nat) (hv : U64At w v xs) (hx : ∀ x ∈ xs, x < 18446744073709551616) (hl : xs.length ≤ 1000000) :
    Calls Tryz.prog 31 #[.pointer (some ⟨p, 0, none⟩), v, .func (.func fw) #[] capw] w (ReachPost w ct E0 xs) := by
  have hnf : ∀ w : World, (binOp BinOp.eql 95 (.func (.func fw) #[] capw) .nilFunc).run Tryz.prog w = .ok (.bool false) w := fun _ => by rfl
  have hmf : ∀ (fn : Fn) (first cap : Array Value) (w : World), (Instr.makeFunc fn first cap).run Tryz.prog w = .ok (.func fn first cap) w := fun _ _ _ _ => rfl
  have hmm := @run_makeMap Tryz.prog
  subst hct
  have HA := hid hA; have HV := hid V; have HVV := hid hv; have HX := hid hx; have HL := hid hl
  clear hA V hv hx hl
  refine (callsIn_wide (n := 7)).1 ?_
  refine callsIn_of_wp_marks Tryz.func31 rfl trivial ?_ rfl
  refine wpIn_wide.2 ?_
  simp only [Tryz.ntmps31, List.size_toArray, List.length_cons, List.length_nil, Nat.reduceAdd, Nat.reduceSub, Array.replicate_succ, Array.replicate_zero, List.push_toArray, List.append_toArray, List.nil_append, List.cons_append]
  go_wp2_with fail
  obtain ⟨W0, hW0⟩ : ∃ W0, W0 = ((((w.alloc (.cells #[.pointer (some ⟨p, 0, none⟩)] 79)).alloc (.cells #[.slice none 0 0] 25)).alloc (.map #[] 0)).alloc (.cells #[.map (some (w.heap.size + 1 + 1))] 134)).alloc (.cells #[.slice none 0 0] 25) := ⟨_, rfl⟩
  rw [← hW0]
  have q0 := heap_alloc_keep (heap_alloc_keep (heap_alloc_keep (heap_alloc_keep (heap_alloc_at w (.cells #[.pointer (some ⟨p, 0, none⟩)] 79) rfl) (.cells #[.slice none 0 0] 25)) (.map #[] 0)) (.cells #[.map (some (w.heap.size + 1 + 1))] 134)) (.cells #[.slice none 0 0] 25)
  have q1 := heap_alloc_keep (heap_alloc_keep (heap_alloc_keep (heap_alloc_at (w.alloc (.cells #[.pointer (some ⟨p, 0, none⟩)] 79)) (.cells #[.slice none 0 0] 25) (b := w.heap.size + 1) (by simp)) (.map #[] 0)) (.cells #[.map (some (w.heap.size + 1 + 1))] 134)) (.cells #[.slice none 0 0] 25)
  have q3 := heap_alloc_keep (heap_alloc_at (((w.alloc (.cells #[.pointer (some ⟨p, 0, none⟩)] 79)).alloc (.cells #[.slice none 0 0] 25)).alloc (.map #[] 0)) (.cells #[.map (some (w.heap.size + 1 + 1))] 134) (b := w.heap.size + 1 + 1 + 1) (by simp)) (.cells #[.slice none 0 0] 25)
  have q4 := heap_alloc_at ((((w.alloc (.cells #[.pointer (some ⟨p, 0, none⟩)] 79)).alloc (.cells #[.slice none 0 0] 25)).alloc (.map #[] 0)).alloc (.cells #[.map (some (w.heap.size + 1 + 1))] 134)) (.cells #[.slice none 0 0] 25) (b := w.heap.size + 1 + 1 + 1 + 1) (by simp)
  have qm := ((World.ownsMap_made ((w.alloc (.cells #[.pointer (some ⟨p, 0, none⟩)] 79)).alloc (.cells #[.slice none 0 0] 25)) Tryz.prog 3 (plainElem (H := Unit) Tryz.prog 3)).alloc (.cells #[.map (some (w.heap.size + 1 + 1))] 134)).alloc (.cells #[.slice none 0 0] 25)
  rw [← hW0] at q0 q1 q3 q4 qm
  rw [show ((w.alloc (.cells #[.pointer (some ⟨p, 0, none⟩)] 79)).alloc (.cells #[.slice none 0 0] 25)).heap.size = w.heap.size + 1 + 1 by simp] at qm
  have hb : Below w.heap.size w W0 := by rw [hW0]; exact (((((Below.refl _ _).alloc (Nat.le_refl _) _).alloc (by simp) _).alloc (by simp; omega) _).alloc (by simp; omega) _).alloc (by simp; omega) _
  have hz : W0.heap.size = w.heap.size + 5 := by rw [hW0]; simp
  clear hW0
  obtain ⟨Tv, hTv⟩ : ∃ q, w.heap.size + 1 + 1 + 1 + 1 = q := ⟨_, rfl⟩
  obtain ⟨Mv, hMv⟩ : ∃ q, w.heap.size + 1 + 1 + 1 = q := ⟨_, rfl⟩
  obtain ⟨Mo, hMo⟩ : ∃ q, w.heap.size + 1 + 1 = q := ⟨_, rfl⟩
  obtain ⟨L0, hL0⟩ : ∃ q, w.heap.size + 1 = q := ⟨_, rfl⟩
  rw [hTv] at q4 ⊢
  rw [hMv] at q3 ⊢
  rw [hMo] at q3 qm ⊢
  rw [hL0] at q1 ⊢
  have hS0 : ∀ x, S x → x < w.heap.size := HV.out.hS
  have hRS : RS w.heap.size S p m w.heap.size Mv Mo Tv bs [] [] none W0 := ⟨HA.out.below hb, q0, q3, ⟨_, 0, qm, Nat.le_refl _, MetD.nil⟩, ⟨_, q4, ⟨by simp [ints], .inl ⟨rfl, rfl⟩⟩, rfl⟩, by omega, hS0, by omega⟩
  have hfw : ∀ g W, (∀ k, g = some k → w.heap.size ≤ k) → Upd (Foot Mo Tv g) W0 W → Below w.heap.size w W := fun g W hg hu => hb.trans (hu.below (fun k hk => by
    rcases hk with hk | hk | hk
    · omega
    · omega
    · exact hg k hk) (by omega))
  have hc : (content bs).length ≤ 1048576 := by
    have h1 := HA.out.wf.span.count
    have h2 := HA.out.wf.small
    have h3 : endOf m ≤ m + 1 := by unfold endOf; split <;> omega
    unfold content; rw [List.length_map]; omega
  have CR := hid (each_reach (E := EF E0) (R := fun x => x ∈ xs.filterMap toF) (ex := fun _ => False) hRS RI.start hc v xs (fun W hu => U64At.below HVV.out (hfw none W (fun k hk => by cases hk) hu)) (fun W hu => (HV.out.tab W (Upd.of_below (hfw none W (fun k hk => by cases hk) hu))).1) HX.out HL.out (fun a ha hu => .root ha hu))
  have HQ := hid (And.intro hTv (And.intro hMv (And.intro hMo hL0)))
  have HB := hid hb; have HZ := hid hz; have HQ1 := hid q1; have HC := hid hc
  clear q0 q1 q3 q4 qm hb hz hTv hMv hMo hL0 hS0 hRS hfw hc
  refine CR.out.mono ?_
  rintro e w1 ⟨⟨u, rfl⟩, ⟨X1, t1⟩, i1, st1, rt1, g1, rs1, up1, hg1⟩
  have hq := HQ.out
  have nL := HQ1.out
  have hlp : RLoop w S p m L0 Mv Mo Tv bs E0 xs (X1, t1) w1 := ⟨⟨g1, rs1⟩, i1, rt1, up1.heap_some nL (fun h => by
    rcases h with h | h | h
    · omega
    · omega
    · cases h), HB.out.trans (up1.below (fun k hk => by
    rcases hk with hk | hk | hk
    · omega
    · omega
    · cases hk) (by have := HZ.out; omega))⟩
  have HLP := hid hlp
  clear i1 st1 rt1 rs1 up1 hg1 hq nL hlp CR
  go_wp2
  go_loopg [10] (muR (content bs) (X1, t1)) (fun k t10 wr => ∃ s, muR (content bs) s ≤ k ∧ RLoop w S p m L0 Mv Mo Tv bs E0 xs s wr)
  case atStart => exact ⟨_, Nat.le_refl _, HLP.out⟩
  case round =>
    obtain ⟨⟨X, t⟩, hk, hl⟩ := hrel
    obtain ⟨g, hrs⟩ := hl.rs
    have HK := hid hk; have HLL := hid hl; have HRS := hid hrs
    rcases List.eq_nil_or_concat t with rfl | ⟨t0, x, hx⟩
    · obtain ⟨tv, h1, h2, h3⟩ := hrs.td
      obtain ⟨ao, c, rfl, _⟩ := ownsRow_form h2
      have k4 := heap_cell h1 0
      simp at k4
      have k0 := heap_cell hrs.a0 0
      simp at k0
      clear hk hl hrs h1 h2 h3
      have hb5 : Below wr.heap.size wr (wr.alloc (.cells #[.pointer (some ⟨p, 0, none⟩)] 79)) := (Below.refl _ _).alloc (Nat.le_refl _) _
      have hI0 : CollI w S p m wr.heap.size L0 Mv Mo bs X [] (wr.alloc (.cells #[.pointer (some ⟨p, 0, none⟩)] 79)) := by
        have r5 := HRS.out.below hb5
        exact ⟨r5.ar, r5.hS, ⟨HRS.out.bw, by have := HQ.out; omega, r5.hB.2.1, r5.hB.2.2.1⟩, heap_alloc_at wr _ rfl, r5.mv, r5.met, ⟨_, heap_alloc_keep HLL.out.l0 _, ⟨by simp [ints], .inl ⟨rfl, rfl⟩⟩⟩, HLL.out.be.trans (hb5.mono HRS.out.bw)⟩
      obtain ⟨W5, hW5⟩ : ∃ W5, wr.alloc (.cells #[.pointer (some ⟨p, 0, none⟩)] 79) = W5 := ⟨_, rfl⟩
      have hz5 : W5.heap.size = wr.heap.size + 1 := by rw [← hW5]; simp
      have hmo : Mo < wr.heap.size := by
        obtain ⟨es, ck, hm⟩ := HRS.out.met.heap
        exact heap_lt hm
      rw [hW5] at hI0
      obtain ⟨cb, hcb⟩ : ∃ cb, wr.heap.size = cb := ⟨_, rfl⟩
      rw [hcb] at hI0
      have HI0 := hid hI0; have HW5 := hid hW5; have HZ5 := hid hz5; have HMO := hid hmo
      have HCB := hid hcb
      clear hb5 hI0 hW5 hz5 hmo hcb
      go_wp2_with (go_at_call 62; refine (blocks_any p _).mono ?_; rintro e w1 ⟨rfl, rfl⟩)
      rw [HW5.out, HCB.out]
      refine (wpIn_wide (n := 7)).1 ?_
      have hsz : w.heap.size ≤ cb := HI0.out.ge.1
      have hlt : ∀ l, W5.heap.size ≤ l → w.heap.size ≤ l ∧ Mo < l := fun l hl => by
        have h1 := HZ5.out; have h2 := HCB.out; have h3 := HMO.out
        omega
      have HLT := hid hlt
      have hin : ∀ o o', CollI w S p m cb L0 Mv Mo bs X [] ((W5.alloc o).alloc o') := fun o o' => by
        have hbb : Below W5.heap.size W5 ((W5.alloc o).alloc o') := ((Below.refl _ _).alloc (Nat.le_refl _) _).alloc (by simp) _
        have h := HI0.out
        obtain ⟨lv, h1, h2⟩ := h.l0
        have ub : Upd (fun _ => False) W5 ((W5.alloc o).alloc o') := Upd.of_below hbb
        exact ⟨h.ar.below hbb, h.hS, h.ge, ub.heap_some h.cbh (fun h => h), ub.heap_some h.mv (fun h => h), h.met.upd ub (fun h => h), ⟨lv, ub.heap_some h1 (fun h => h), ownsRow_upd h2 ub (fun _ _ h => h)⟩, h.be.trans (hbb.mono h.be.size)⟩
      have HIN := hid hin
      have HIT := hid (blocks_iter 6 cb p m (shape bs) (by omega) W5 (fun _ _ => True) (fun pre W => CollI w S p m cb L0 Mv Mo bs X (selL X pre) W) (fun _ _ _ => False) (fun pre W h => ⟨heap_cell h.cbh 0, ⟨S, bs, rfl, h.ar⟩, (HV.out.tab W (Upd.of_below h.be)).2⟩))
      clear hsz hlt hin k0 k4
      refine wpIn_range_atG (F := Fence.wide) (n := 7) rfl (by omega) (gf := 104) (lb := #[.pointer (some ⟨cb, 0, none⟩)]) rfl trivial (enters_of Tryz.func104 (by kernel_rfl) rfl)
        (encs := fun x : Nat × Nat => #[.int .i64 (x.1 : Nat), .int .i64 (x.2 : Nat)]) (fun _ => rfl) (fun _ _ => True) (fun pre W => CollI w S p m cb L0 Mv Mo bs X (selL X pre) W) (fun _ _ _ => False)
        (fun _ _ => trivial) (fun _ _ _ _ _ _ _ => trivial)
        (fun pre W l o o' hl h ho hi => hi.put o' (HLT.out l hl) h ho) (fun c pre W l o o' hl h ho hi => hi)
        (fun o o' => HIN.out o o') (fun x => { tmps := #[.pointer (some ⟨p, 0, none⟩), v, .func (.func fw) #[] capw, .pointer (some ⟨w.heap.size, 0, none⟩), undef, undef, .pointer (some ⟨L0, 0, none⟩), .pointer (some ⟨Mv, 0, none⟩), .pointer (some ⟨Tv, 0, none⟩), .func (.func 60) #[] #[.pointer (some ⟨Mv, 0, none⟩), .pointer (some ⟨w.heap.size, 0, none⟩), .pointer (some ⟨Tv, 0, none⟩)], u10, .int .i64 (x.1 : Nat), .pointer (some ⟨p, 0, none⟩), .bool false, .bool false, .func (.func fw) #[] capw, .bool false, .bool false, .func (.func 59) #[] #[.pointer (some ⟨L0, 0, none⟩)], .map (some Mo), .func (.func 60) #[] #[.pointer (some ⟨Mv, 0, none⟩), .pointer (some ⟨w.heap.size, 0, none⟩), .pointer (some ⟨Tv, 0, none⟩)], v, .func (.func 60) #[] #[.pointer (some ⟨Mv, 0, none⟩), .pointer (some ⟨w.heap.size, 0, none⟩), .pointer (some ⟨Tv, 0, none⟩)], u, .slice ao 0 c, .int .i64 0, .bool false, u27, u28, u29, u30, u31, u32, u33, u34, u35, u36, u37, u38, u39, u40, u41, u42, .pointer (some ⟨p, 0, none⟩), .func (.func 104) #[] #[.pointer (some ⟨cb, 0, none⟩)], .int .i64 (x.1 : Nat), .int .i64 (x.2 : Nat), undef, undef, undef, undef, undef, undef, undef, undef, undef], defers := [] })
        HIT.out ?assign ?body ?done ?stop
      case assign =>
        intro l x W K hK
        gi_wp2
        exact hK
      case body =>
        rintro l pre x W hi hG
        dsimp only
        obtain ⟨a, ha⟩ : ∃ a, x.1 = a := ⟨_, rfl⟩
        obtain ⟨l0, hl0⟩ : ∃ l0, selL X pre = l0 := ⟨_, rfl⟩
        have hxm : x ∈ usedsF (shape bs) := hG.subset (by simp)
        obtain ⟨b, hb, hbu, hba, _⟩ := usedsF_mem.1 hxm
        have ha6 : a ≤ 1048577 := by
          have h1 := HA.out.wf.span.mem b hb
          have h2 := HA.out.wf.small
          have h3 : endOf m ≤ m + 1 := by unfold endOf; split <;> omega
          omega
        have hll : l0.length ≤ 1048576 := by
          have h1 := HC.out
          have h2 : pre.length ≤ (usedsF (shape bs)).length := by have := hG.length_le; simp at this; omega
          have h3 : (usedsF (shape bs)).length ≤ (content bs).length := by
            unfold usedsF shape content
            rw [List.length_map, List.length_map]
            exact Nat.le_trans (List.length_filter_le _ _) (by rw [List.length_map]; exact Nat.le_refl _)
          have h4 : l0.length ≤ pre.length := by rw [← hl0]; unfold selL; exact Nat.le_trans (List.length_filter_le _ _) (by rw [List.length_map]; exact Nat.le_refl _)
          omega
        rw [hl0] at hi
        rw [ha]
        obtain ⟨D, n, hD, hn, hM⟩ := hi.met
        have km := heap_cell hi.mv 0
        simp at km
        have hat := hM.2 a
        have HD := hid hD; have HKY := hid (key_mk (a : Int) ⟨by omega, by omega⟩)
        have HI := hid hi; have HA2 := hid ha; have HL2 := hid hl0; have HLL2 := hid hll
        clear hi hG hxm hb hbu hba ha6 ha hl0 hD hn hM hll
        refine Go.wpIn_block ?_
        refine Go.wpIn_seq ?_
        refine wpIn_region_plain (by simp) (fun _ _ h => h) ?_
        simp only
        cases hc : X.contains a
        · have hmem : ¬ a ∈ X := fun hh => by rw [List.contains_iff_mem.2 hh] at hc; cases hc
          rw [if_neg hmem] at hat
          have HAT := hid hat; have HCX := hid hc
          clear hmem hat hc
          go_wp2_with (at_lookup; refine wpList_lookup_own_int _ rfl _ _ 134 rfl 3 3 .i64 keyed_int Tryz.underlying134 Tryz.underlying3 (zero_int _) Mo n _ rfl HD.out _ _ rfl HKY.out ?_; rw [HAT.out]; intro c hcc _; obtain rfl : c = 0 := by injection hcc with hcc; injection hcc with _ hcc; exact hcc.symm)
          dsimp only [OnlyN, Exit.then]
          gi_wp2
          refine ⟨KeepsFrom.refl _ _, trivial, ?_⟩
          have e0 : selL X (pre ++ [x]) = l0 := by
            unfold selL at HL2 ⊢
            rw [List.map_append, List.filter_append, HL2.out]
            simp only [List.map_cons, List.map_nil, List.filter_cons, List.filter_nil, HA2.out, HCX.out]
            simp
          show CollI w S p m cb L0 Mv Mo bs X (selL X (pre ++ [x])) W
          rw [e0]; exact HI.out
        · have hmem : a ∈ X := List.contains_iff_mem.1 hc
          rw [if_pos hmem] at hat
          have HAT := hid hat; have HCX := hid hc
          have e0 : selL X (pre ++ [x]) = l0 ++ [a] := by
            unfold selL at HL2 ⊢
            rw [List.map_append, List.filter_append, HL2.out]
            simp only [List.map_cons, List.map_nil, List.filter_cons, List.filter_nil, HA2.out, HCX.out]
            simp
          have HE0 := hid e0
          clear hmem hat hc e0
          go_wp2_with (at_lookup; refine wpList_lookup_own_int _ rfl _ _ 134 rfl 3 3 .i64 keyed_int Tryz.underlying134 Tryz.underlying3 (zero_int _) Mo n _ rfl HD.out _ _ rfl HKY.out ?_; rw [HAT.out]; intro c hcc _; obtain rfl : c = 1 := by injection hcc with hcc; injection hcc with _ hcc; exact hcc.symm)
          dsimp only [OnlyN, Exit.then]
          refine Go.wpIn_cond_true rfl ?_
          refine wpIn_region_plain (by simp) (fun _ _ h => h) ?_
          simp only
          obtain ⟨lv, h1, h2⟩ := HI.out.l0
          obtain ⟨a1, a2, a3, a4⟩ := HI.out.apart
          have a5 := a4 lv h1 h2
          obtain ⟨ao3, c3, rfl, _⟩ := ownsRow_form h2
          have k6 := heap_cell h1 0
          have f6 := heap_frozen h1 0
          simp at k6
          obtain ⟨i0, hi, hz0, hz1, hz2⟩ := info_parts Tryz.infoIntM
          have Hi := hid hi; have Hz0 := hid hz0; have Hz1 := hid hz1; have Hz2 := hid hz2
          have H1 := hid h1; have H2 := hid h2; have HA1 := hid (And.intro a1 (And.intro a2 a3)); have HA5 := hid a5
          clear h1 h2 a1 a2 a3 a4 a5 hi hz0 hz1 hz2
          go_wp2_with (at_builtin; refine wpList_append_own_at _ rfl _ _ 25 rfl w.heap.size 3 i0 _ 1 8 Tryz.underlying25 Hi.out Hz0.out Hz1.out Hz2.out rfl (by decide) _ _ _ rfl (H2.out.alloc _) ⟨W.heap.size, 0, none⟩ 1 1 [.int .i64 (a : Nat)] rfl rfl (row_one _ _ _) (fun u hu => by simp at hu; subst hu; rfl) (by have := HLL2.out; simp [maxLen]; omega) (by have := HLL2.out; omega) (by have := HI.out.be.size; simp; omega) ?_)
          intro v2 w2 o2 gr2 _ mv2
          have u2 : Upd (fun b => (Value.slice ao3 l0.length c3).ownBlock = some b) W w2 := ((Upd.refl (fun b => (Value.slice ao3 l0.length c3).ownBlock = some b) W).alloc _).grown gr2 (fun k hk => .inl hk)
          have hL2 := u2.heap_some H1.out (fun e => (HA5.out _ e).2.2.2.2 rfl)
          have k7 := heap_cell hL2 0
          have f7 := heap_frozen hL2 0
          simp at k7
          obtain ⟨ao4, c4, rfl, _⟩ := ownsRow_form o2
          have HO2 := hid o2; have HU2 := hid u2; have HL3 := hid hL2; have HMV := hid mv2
          clear o2 u2 hL2 mv2 gr2 k6 f6 km
          go_wp2
          have hI := HI.out
          obtain ⟨b1, b2, b3⟩ := HA1.out
          have a5 := HA5.out
          obtain ⟨W3, hW3⟩ : ∃ W3, W3 = w2.setCell ⟨L0, 0, none⟩ (.slice ao4 (l0.length + 1) c4) := ⟨_, rfl⟩
          rw [← hW3]
          have u3 : Upd (fun b => b = L0) w2 W3 := by rw [hW3]; exact (Upd.refl (fun b => b = L0) w2).setCell (p := ⟨L0, 0, none⟩) (.inl rfl) _
          have uA : Upd (fun b => b = L0 ∨ (Value.slice ao3 l0.length c3).ownBlock = some b) W W3 := (HU2.out.mono (fun b _ hb => .inr hb)).trans' (u3.mono (fun b _ hb => .inl hb))
          have hne : ∀ b, (Value.slice ao4 (l0.length + 1) c4).ownBlock = some b → b ≠ L0 := fun b hb e => by
            rcases HMV.out with h1 | h1
            · rw [h1] at hb; exact (a5 _ hb).2.2.2.2 e
            · rw [h1] at hb
              have hb : W.heap.size + 1 = b := by simpa using hb
              have := heap_lt H1.out
              omega
          have hcl : ∀ k o, (k = L0 ∨ (Value.slice ao3 l0.length c3).ownBlock = some k) → W.heap[k]? = some o → o.isCells = true := fun k o hk ho => by
            rcases hk with rfl | hk
            · rw [H1.out] at ho; injection ho with ho; subst ho; rfl
            · rcases H2.out.2 with ⟨h, _⟩ | ⟨q, cap, cur, h, _, hq, _⟩
              · rw [h] at hk; simp [Value.ownBlock] at hk
              · rw [h] at hk; simp [Value.ownBlock] at hk; subst hk
                rw [hq] at ho; injection ho with ho; subst ho; rfl
          show KeepsFrom W5.heap.size W W3 ∧ True ∧ CollI w S p m cb L0 Mv Mo bs X (selL X (pre ++ [x])) W3
          rw [HE0.out]
          refine ⟨⟨uA.size, fun k o _ hk ho => uA.heap_some hk (fun h => by rw [hcl k o h hk] at ho; cases ho)⟩, trivial, hI.ar.upd uA (fun b hb _ h => ?_), hI.hS, hI.ge, uA.heap_some hI.cbh (fun h => ?_), uA.heap_some hI.mv (fun h => ?_), hI.met.upd uA (fun h => ?_), ⟨.slice ao4 (l0.length + 1) c4, ?_, ?_⟩, hI.be.trans (uA.below (fun k hk => ?_) hI.be.size)⟩
          · have h1 := hI.hS b hb; have h2 := hI.ge
            rcases h with h | h
            · omega
            · have := (a5 _ h).1; omega
          · rcases h with h | h
            · exact b2 h
            · exact (a5 _ h).2.2.1 rfl
          · rcases h with h | h
            · exact b3 h
            · exact (a5 _ h).2.2.2.1 rfl
          · rcases h with h | h
            · exact b1 h
            · exact (a5 _ h).2.1 rfl
          · rw [hW3]; exact heap_set_at HL3.out 0 _
          · have h1 := ownsRow_upd HO2.out u3 (fun b hb e => hne b hb e)
            rw [List.length_append]
            unfold ints at h1 ⊢
            rw [List.map_append]
            exact h1
          · rcases hk with h | h
            · have := hI.ge; omega
            · exact (a5 _ h).1
      case done =>
        rintro D xs2 W hxs hi hK hle
        obtain ⟨lv, h1, h2⟩ := hi.l0
        obtain ⟨ao6, c6, rfl, _⟩ := ownsRow_form h2
        have k6 := heap_cell h1 0
        have f6 := heap_frozen h1 0
        simp at k6
        have HXS := hid hxs; have HI := hid hi; have H1 := hid h1; have H2 := hid h2; have HKD := hid hK; have HLE := hid hle
        clear hi h1 h2 hK hxs hle
        dsimp only [Exit.inBlock, Exit.then]
        obtain ⟨nn, hnn⟩ : ∃ nn, (selL X xs2).length = nn := ⟨_, rfl⟩
        rw [hnn] at k6
        have HNN := hid hnn
        clear hnn
        go_wp2
        have hI := HI.out
        obtain ⟨W3, hW3⟩ : ∃ W3, W3 = W.setCell ⟨L0, 0, none⟩ (.slice ao6 nn c6) := ⟨_, rfl⟩
        rw [← hW3]
        have u3 : Upd (fun b => b = L0) W W3 := by rw [hW3]; exact (Upd.refl (fun b => b = L0) W).setCell (p := ⟨L0, 0, none⟩) (.inl rfl) _
        have hK3 : W3.heap[D]? = some (.deferred (some [])) := u3.heap_some HKD.out (fun e => by have := HKD.out; rw [e, H1.out] at this; cases this)
        obtain ⟨W4, hW4⟩ : ∃ W4, W4 = W3.putObj D (.deferred none) := ⟨_, rfl⟩
        have u4 : Upd (fun b => b = D) W3 W4 := by rw [hW4]; exact upd_putObj W3 D _
        have hd3 : ∀ b, (W3.heap[b]? = some (.deferred (some [])) → False) → ¬ b = D := fun b hb e => hb (by rw [e]; exact hK3)
        have l3 : W3.heap[L0]? = some (.cells #[.slice ao6 nn c6] 25 (0, 0)) := by rw [hW3]; exact heap_set_at H1.out 0 _
        have l4 := u4.heap_some l3 (hd3 L0 (fun h => by rw [l3] at h; cases h))
        have c4' := heap_cell l4 0
        simp at c4'
        have r3 : W3.ownsRow w.heap.size 3 1 (.slice ao6 (selL X xs2).length c6) (selL X xs2).length (ints (selL X xs2)) := by
          refine ownsRow_upd H2.out u3 (fun b hb e => ?_)
          exact (hI.apart.2.2.2 _ H1.out H2.out b hb).2.2.2.2 e
        have r4 : W4.ownsRow w.heap.size 3 1 (.slice ao6 (selL X xs2).length c6) (selL X xs2).length (ints (selL X xs2)) := by
          refine ownsRow_upd r3 u4 (fun b hb => ?_)
          rcases r3.2 with ⟨h, _⟩ | ⟨q, cap, cur, h, _, hq, _⟩
          · rw [h] at hb; simp [Value.ownBlock] at hb
          · rw [h] at hb; simp [Value.ownBlock] at hb; subst hb
            exact hd3 _ (fun h => by rw [hq] at h; cases h)
        have hbe : Below w.heap.size w W4 := by
          have h1 := hI.be.trans (u3.below (fun k hk => by have := hI.ge; omega) hI.be.size)
          have h2 := HLE.out; have h3 := HZ5.out; have h4 := hI.ge; have h5 := HCB.out
          exact h1.trans (u4.below (fun k hk => by omega) h1.size)
        have hfin : ReachPost w (content bs) E0 xs (.returned (.slice ao6 nn c6)) W4 := by
          have hl := HLL.out
          have hmem : ∀ a, a ∈ selL X xs2 ↔ a ∈ X := fun a => by
            unfold selL
            rw [List.mem_filter, HXS.out]
            constructor
            · exact fun h => List.contains_iff_mem.1 h.2
            · intro h
              refine ⟨?_, List.contains_iff_mem.2 h⟩
              have hu := usedC_iff.1 (hl.ri.us a h)
              obtain ⟨b, hb, hbu, hq⟩ := usedAt_mem hu
              exact List.mem_map.2 ⟨(b.a, b.n), usedsF_mem.2 ⟨b, hb, hbu, rfl, rfl⟩, by show b.a = a; omega⟩
          refine ⟨.slice ao6 nn c6, selL X xs2, rfl, by rw [← HNN.out]; exact r4, ?_, fun a => (hmem a).trans (RI.done hl.ri hl.rt a), hbe⟩
          unfold selL
          rw [HXS.out]
          exact ((usedsF_sorted HA.out.wf.span).1.map Prod.fst (fun _ _ h => h)).filter _
        refine ⟨by simp, .inl ⟨_, _, rfl, run_takeDeferred hK3, ?_⟩⟩
        rw [← hW4]
        refine ⟨by simp, .inr ⟨fun h => by simp [Fence.wide] at h, _, _, 59, #[.pointer (some ⟨L0, 0, none⟩)], rfl, by simp [go_sem], fun _ _ => trivial, ?_⟩⟩
        refine (reach_idle _ ⟨L0, 0, none⟩ W4).mono ?_
        rintro e u' w5 ⟨rfl, rfl, hw5⟩
        rw [hw5]
        refine ⟨.slice ao6 nn c6, ?_, hfin⟩
        simp [results, Tryz.results31, go_sem, c4']
      case stop =>
        rintro D c pre W _ h
        exact h.elim
    · rw [List.concat_eq_append] at hx
      subst hx
      obtain ⟨gb, cap, hg, h1, h2, h3, h4⟩ := RS.pop hrs
      obtain ⟨n, hn⟩ : ∃ n, t0.length = n := ⟨_, rfl⟩
      rw [hn] at h1 h2 h3 h4
      have hlen := hl.ri.len
      have hle := hl.ri.le
      have hcc := HC.out
      rw [List.length_append, hn] at hlen
      dsimp only [List.length_cons, List.length_nil] at hlen hle
      have hn6 : n < 1048576 := by omega
      have k4 := heap_cell h1 0
      have f4 := heap_frozen h1 0
      simp at k4
      have hpos : (0 : Int) < ((n + 1 : Nat) : Int) := by omega
      have e1 : IntKind.i64.wrap (((n + 1 : Nat) : Int) - 1) = (n : Int) := by rw [IntWalk.i64_in _ ⟨by omega, by omega⟩]; omega
      obtain ⟨W2, hW2⟩ : ∃ W2, wr.setCell ⟨Tv, 0, none⟩ (.slice (some ⟨gb, 0, none⟩) n cap) = W2 := ⟨_, rfl⟩
      rw [hW2] at h4
      obtain ⟨p1, p2, p3, p4⟩ := RI.pop hl.ri
      have u2 : Upd (Foot Mo Tv g) wr W2 := by rw [← hW2]; exact (Upd.refl (Foot Mo Tv g) wr).setCell (p := ⟨Tv, 0, none⟩) (.inl (.inr (.inl rfl))) _
      have hb2 := RLoop.foot hrs hl.be u2
      have CW := hid (HV.out.words bs W2 rfl h4.ar (Upd.of_below hb2) x p4.used)
      have HW2 := hid hW2; have HR2 := hid h4; have HP1 := hid p1; have HP2 := hid p2; have HP4 := hid p4; have HU2 := hid u2; have HB2 := hid hb2; have HN := hid hn; have HG := hid hg; have HH1 := hid h1
      have hen := HV.out.enter
      clear hk hl hrs hg h1 h4 hlen hle hcc hW2 p1 p2 p3 p4 u2 hb2 hn
      go_wp2_with fail
      rw [HW2.out]
      refine CW.out.mono ?_
      rintro e w3 ⟨v3, rfl, hv3, hb3⟩
      have rs3 := HR2.out.below hb3
      have hlt : ∀ b, Foot Mo Tv g b → b < W2.heap.size := fun b hb => by
        obtain ⟨tv, y1, y2, y3⟩ := HR2.out.td
        obtain ⟨es, ck, hm⟩ := HR2.out.met.heap
        rcases hb with rfl | rfl | hb
        · exact heap_lt hm
        · exact heap_lt y1
        · exact (y2.lt b (y3.trans hb)).2
      have bw3 : Below w.heap.size w w3 := HB2.out.trans (hb3.mono HB2.out.size)
      have CE := hid (each_reach rs3 HP1.out HC.out v3 (E0 x) (fun W hu => hv3.at hlt hu) (fun W hu => (HV.out.tab W (Upd.of_below (RLoop.foot rs3 bw3 hu))).1) (HV.out.e64 x) (HV.out.len x) (fun a ha hu => .step HP4.out ha hu))
      have HB3 := hid hb3; have HRS3 := hid rs3; have HBW3 := hid bw3
      clear hv3 hb3 rs3 hlt bw3 h2 h3 k4 f4 hen
      go_wp2_with fail
      refine CE.out.mono ?_
      rintro e w4 ⟨⟨u4, rfl⟩, ⟨X', t'⟩, i4, st4, rt4, g4, rs4, up4, hg4⟩
      have HI4 := hid i4; have HST4 := hid st4; have HRT4 := hid rt4; have HRS4 := hid rs4; have HUP4 := hid up4
      clear i4 st4 rt4 rs4 up4 hg4 CE CW
      go_wp2
      go_roundg (muR (content bs) (X', t'))
      case measure =>
        have h1 := HST4.out.mu; have h2 := HP2.out; have h3 := HK.out
        omega
      case rel =>
        have hl := HLL.out
        have hq := HQ.out
        have hn1 := HRS.out.notL hl.l0 (by omega)
        have l2 := HU2.out.heap_some hl.l0 hn1
        have l3 := (Upd.of_below (S := fun _ => False) HB3.out).heap_some l2 (fun h => h)
        exact ⟨_, Nat.le_refl _, ⟨g4, HRS4.out⟩, HI4.out.close HRT4.out, fun a ha hu => HST4.out.mono a (hl.rt a ha hu), HUP4.out.heap_some l3 (HRS3.out.notL l3 (by omega)), RLoop.foot HRS3.out HBW3.out HUP4.out⟩
end Go.Proofs.YtlcfkfijomnmnaaGreatDoor
