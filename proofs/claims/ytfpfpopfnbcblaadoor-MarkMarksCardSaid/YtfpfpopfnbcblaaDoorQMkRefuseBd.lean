/- package mark: Mark. -/
import Derived.Test.YtfpfpopfnbcblaaDoorQMkLoopBd
import Derived.Recover
import Derived.Laws.Tables
import Derived.Deep.Cut
namespace Go.Proofs.YtfpfpopfnbcblaaDoor
open Go.RowKit

/-- The cells of a new marker. -/
def mkrCells (p : Nat) (wf : Value) (lim : Nat) : Array Value := #[.pointer (some ⟨p, 0, none⟩), wf, .int .i64 (lim : Nat), .int .i64 0, .bool false, .int .i64 0] ++ Array.replicate 1024 (.int .i64 0)
theorem built_mkr (p : Nat) (f : Fn) (bnd capw : Array Value) (lim : Nat) : Tryd.prog.built 68 [(0, .pointer (some ⟨p, 0, none⟩)), (1, .func f bnd capw), (2, .int .i64 (lim : Nat))] = some (mkrCells p (.func f bnd capw) lim) := by kernel_rfl
theorem mark_idle (a b : Addr) (w : World) :
    CallsD Tryd.prog 29 #[.pointer (some a), .pointer (some b)] .returning w fun e u' w' => e = .returned (.tuple #[]) ∧ u' = .returning ∧ w' = w := by
  refine callsD_of_wpS Tryd.func29 rfl fun c₀ cs hu => ?_
  apply wpS_seq
  apply wpS_region
  simp [wpOpsS, go_sem, recoverD, hu, Tryd.ntmps29, Exit.thenS]
  refine wpS_cond (t := false) (by simp [Act.eval, Array.replicate]) ?_
  simp only [Bool.false_eq_true, if_false]
  refine wpS_of_wp (wp_skip ?_)
  cases c₀
  simp_all [bodyPostS, results, Tryd.results29]
variable {S : Nat → Prop} {w : World} {p m : Nat} {bs : List Blk}
theorem mkr_at {p : Nat} {wf : Value} {lim mb : Nat} {W : World} (h : W.heap[mb]? = some (.cells (mkrCells p wf lim) 68 (0, 0))) (h1 : 1 ≤ lim) (h2 : lim ≤ 1024) : MkrAt mb p wf lim 0 false [] W := by
  have c : ∀ k, W.cell? ⟨mb, k, none⟩ = (mkrCells p wf lim)[k]? := fun k => heap_cell h k
  have e : ∀ k, k < 1024 → (mkrCells p wf lim)[6 + k]? = some (.int .i64 0) := fun k hk => by
    unfold mkrCells
    rw [Array.getElem?_append_right (by simp)]
    simp [hk]
  have e0 : ∀ k, k < 6 → (mkrCells p wf lim)[k]? = (#[.pointer (some ⟨p, 0, none⟩), wf, .int .i64 (lim : Nat), .int .i64 0, .bool false, .int .i64 0] : Array Value)[k]? := fun k hk => by
    unfold mkrCells
    rw [Array.getElem?_append_left (by simpa using hk)]
  exact ⟨by rw [c, e0 0 (by decide)]; rfl, by rw [c, e0 1 (by decide)]; rfl, by rw [c, e0 2 (by decide)]; rfl, by rw [c, e0 3 (by decide)]; rfl, by rw [c, e0 4 (by decide)]; rfl, by rw [c, e0 5 (by decide)]; rfl, fun k x hk => by simp at hk, fun k hk => ⟨0, by rw [c, e k hk]⟩, fun k => heap_frozen h k, h1, h2, by simp, by omega⟩
/-- Whether any block was marked stands in the marker. -/
def LeftPost (bs : List Blk) (mb : Nat) (W0 wx : World) : Prop := ∃ b : Bool, (b = true ↔ ∃ a, MarkX bs a) ∧ ∃ w1, Below W0.heap.size W0 w1 ∧ wx = w1.setCell ⟨mb, 4, none⟩ (.bool b)
/-- What Mark leaves. -/
def MarkPost (S : Nat → Prop) (w : World) (p m : Nat) (bs : List Blk) (ct : List (Nat × List Nat × Bool)) (E0 : Nat → List Nat) (xs : List Nat) (e : Ending) (W : World) : Prop :=
  ∃ bs' n, e = .returned (.tuple #[.int .i64 (n : Nat), .int .i64 0]) ∧ ArV S W p m bs' ∧ content bs' = ct ∧ cntM bs' = cntM bs + n ∧ (∀ a, MarkX bs' a ↔ Rch (UsedC ct) (EF E0) (fun x => MarkX bs x ∨ x ∈ xs.filterMap toF) a) ∧ Upd S w W
def flagOf (W : World) (b i : Nat) : Nat := match W.cell? ⟨b, i, none⟩ with
  | some (.bool true) => 1
  | _ => 0
def measM (mb : Nat) (W : World) : Nat := 2 * (1048576 - cellNat W mb 3) + flagOf W mb 4
theorem measM_of {p m mb lim : Nat} {wf : Value} {bs : List Blk} {s : Mk} {W : World} (h : MSt S p m mb wf lim bs s W) : measM mb W = measL s := by
  unfold measM measL flagOf
  rw [cellNat_of h.mr.c3, h.mr.c4]
  cases s.left <;> rfl
/-- Between two turns of Mark's loop. -/
structure MLoop (S : Nat → Prop) (p m mb mv r0 r1 : Nat) (fw : FuncId) (capw : Array Value) (lim : Nat) (ct : List (Nat × List Nat × Bool)) (E0 : Nat → List Nat) (bs0 : List Blk) (xs : List Nat) (w0 : World) (bs : List Blk) (s : Mk) (W : World) : Prop where
  d : DSt S p m mb fw capw lim ct E0 (MarkX bs0) (fun x => x ∈ xs.filterMap toF) (cntM bs0) w0 (fun _ => False) bs s W
  td : s.todo = []
  rt : ∀ a ∈ xs.filterMap toF, UsedC ct a → MarkX bs a
  v : W.cell? ⟨mv, 0, none⟩ = some (.pointer (some ⟨mb, 0, none⟩))
  c0 : ∃ u : Int, W.cell? ⟨r0, 0, none⟩ = some (.int .i64 u)
  c1 : ∃ u : Int, W.cell? ⟨r1, 0, none⟩ = some (.int .i64 u)
  f0 : W.frozen? ⟨r0, 0, none⟩ = false
  f1 : W.frozen? ⟨r1, 0, none⟩ = false
theorem MLoop.on {mb mv r0 r1 : Nat} {fw : FuncId} {capw : Array Value} {lim : Nat} {ct : List (Nat × List Nat × Bool)} {E0 : Nat → List Nat} {bs0 : List Blk} {xs : List Nat} {w0 : World} {bs bs' : List Blk} {s s' : Mk} {W W' : World} (h : MLoop S p m mb mv r0 r1 fw capw lim ct E0 bs0 xs w0 bs s W) (hn : ∀ b, S b ∨ b = mb → b ≠ mv ∧ b ≠ r0 ∧ b ≠ r1)
    (d : DSt S p m mb fw capw lim ct E0 (MarkX bs0) (fun x => x ∈ xs.filterMap toF) (cntM bs0) w0 (fun _ => False) bs' s' W') (ht : s'.todo = []) (hm : ∀ a, MarkX bs a → MarkX bs' a) (u : Upd (fun b => S b ∨ b = mb) W W') : MLoop S p m mb mv r0 r1 fw capw lim ct E0 bs0 xs w0 bs' s' W' := by
  have hf : ∀ b v, ¬ (S b ∨ b = mb) → W.cell? ⟨b, 0, none⟩ = some v → W'.frozen? ⟨b, 0, none⟩ = W.frozen? ⟨b, 0, none⟩ := fun b v hb hc => by
    unfold World.frozen?; rw [u.block b (World.block_lt_of_cell? _ _ hc) hb]
  obtain ⟨u0, k0⟩ := h.c0
  obtain ⟨u1, k1⟩ := h.c1
  exact ⟨d, ht, fun a ha hu => hm a (h.rt a ha hu), u.cell_some h.v (fun hh => (hn _ hh).1 rfl), ⟨u0, u.cell_some k0 (fun hh => (hn _ hh).2.1 rfl)⟩, ⟨u1, u.cell_some k1 (fun hh => (hn _ hh).2.2 rfl)⟩, (hf _ _ (fun hh => (hn _ hh).2.1 rfl) k0).trans h.f0, (hf _ _ (fun hh => (hn _ hh).2.2 rfl) k1).trans h.f1⟩
theorem off {W : World} {b c i j : Nat} {v u : Value} (h : W.cell? ⟨b, i, none⟩ = some v) (hbc : b ≠ c) : (W.setCell ⟨c, j, none⟩ u).cell? ⟨b, i, none⟩ = some v := by
  rw [World.cell?_setCell_other]
  · exact h
  · intro e; exact hbc (congrArg Addr.block e).symm
set_option maxRecDepth 100000 in
set_option maxHeartbeats 4000000 in
theorem mark_any {fw : FuncId} {capw : Array Value} {ct : List (Nat × List Nat × Bool)} {E0 : Nat → List Nat} (hA : ArV S w p m bs) (hct : content bs = ct) (hS : ∀ b, S b → b < w.heap.size)
    (hV : ∀ mb W0, w.heap.size ≤ mb → mb < W0.heap.size → Below w.heap.size w W0 → MEnv S p m mb fw capw ct E0 W0)
    (k : Nat) (hk : k < 9223372036854775808) (hk1 : 1 ≤ k) (v : Value) (xs : List Nat) (hv : ∀ W, Upd S w W → U64At W v xs) (hx : ∀ x ∈ xs, x < 18446744073709551616) (hl : xs.length ≤ 1000000) : 
    Calls Tryd.prog 11 #[.pointer (some ⟨p, 0, none⟩), .int .i64 k, v, .func (.func fw) #[] capw] w (MarkPost S w p m bs ct E0 xs) := by
  obtain ⟨lim, hlim⟩ : ∃ lim, min k 1024 = lim := ⟨_, rfl⟩
  have hmin : min (k : Int) 1024 = (lim : Int) := by omega
  have hl1 : 1 ≤ lim := by omega
  have hl2 : lim ≤ 1024 := by omega
  have hnf : ∀ w : World, (binOp BinOp.eql 33 (.func (.func fw) #[] capw) .nilFunc).run Tryd.prog w = .ok (.bool false) w := fun _ => by rfl
  have hmf : ∀ (fn : Fn) (first cap : Array Value) (w : World), (Instr.makeFunc fn first cap).run Tryd.prog w = .ok (.func fn first cap) w := fun _ _ _ _ => rfl
  have hlt : ¬ (k : Int) < 1 := by omega
  have HA := Lib.hid hA; have HCT := Lib.hid hct; have HS := Lib.hid hS; have HV := Lib.hid hV; have HVV := Lib.hid hv; have HX := Lib.hid hx; have HL := Lib.hid hl; have HL1 := Lib.hid hl1; have HL2 := Lib.hid hl2
  clear hlim hA hct hS hV hv hx hl hl1 hl2 hk hk1
  go_enter_defers Tryd.func11, Tryd.ntmps11
  go_upto_region 7 with fail
  obtain ⟨C, hC⟩ : ∃ C, C = ((Tryd.zeroCells68.setIfInBounds 0 (Value.pointer (some { block := p, off := 0 }))).setIfInBounds 1 (Value.func (Fn.func fw) #[] capw)).setIfInBounds 2 (Value.int IntKind.i64 ↑lim) := ⟨_, rfl⟩
  rw [← hC]
  have hC2 : C = mkrCells p (.func (.func fw) #[] capw) lim := by rw [hC]; kernel_rfl
  obtain ⟨W0, hW0⟩ : ∃ W0, W0 = (((w.alloc (.cells #[.int .i64 0] 3)).alloc (.cells #[.int .i64 0] 40)).alloc (.cells C 68)).alloc (.cells #[.pointer (some ⟨w.heap.size + 1 + 1, 0, none⟩)] 65) := ⟨_, rfl⟩
  rw [← hW0]
  have q0 := heap_alloc_keep (heap_alloc_keep (heap_alloc_keep (heap_alloc_at w (.cells #[.int .i64 0] 3) rfl) (.cells #[.int .i64 0] 40)) (.cells C 68)) (.cells #[.pointer (some ⟨w.heap.size + 1 + 1, 0, none⟩)] 65)
  have q1 := heap_alloc_keep (heap_alloc_keep (heap_alloc_at (w.alloc (.cells #[.int .i64 0] 3)) (.cells #[.int .i64 0] 40) (b := w.heap.size + 1) (by simp)) (.cells C 68)) (.cells #[.pointer (some ⟨w.heap.size + 1 + 1, 0, none⟩)] 65)
  have q2 := heap_alloc_keep (heap_alloc_at ((w.alloc (.cells #[.int .i64 0] 3)).alloc (.cells #[.int .i64 0] 40)) (.cells C 68) (b := w.heap.size + 1 + 1) (by simp)) (.cells #[.pointer (some ⟨w.heap.size + 1 + 1, 0, none⟩)] 65)
  have q3 := heap_alloc_at (((w.alloc (.cells #[.int .i64 0] 3)).alloc (.cells #[.int .i64 0] 40)).alloc (.cells C 68)) (.cells #[.pointer (some ⟨w.heap.size + 1 + 1, 0, none⟩)] 65) (b := w.heap.size + 1 + 1 + 1) (by simp)
  rw [← hW0] at q0 q1 q2 q3
  have hb : Below w.heap.size w W0 := by rw [hW0]; exact ((((Below.refl _ _).alloc (Nat.le_refl _) _).alloc (by simp) _).alloc (by simp; omega) _).alloc (by simp; omega) _
  have hz : W0.heap.size = w.heap.size + 4 := by rw [hW0]; simp
  rw [hC2] at q2
  clear hW0 hC hC2
  obtain ⟨mv, hmv⟩ : ∃ q, w.heap.size + 1 + 1 + 1 = q := ⟨_, rfl⟩
  obtain ⟨mb, hmb⟩ : ∃ q, w.heap.size + 1 + 1 = q := ⟨_, rfl⟩
  obtain ⟨r1, hr1⟩ : ∃ q, w.heap.size + 1 = q := ⟨_, rfl⟩
  obtain ⟨r0, hr0⟩ : ∃ q, w.heap.size = q := ⟨_, rfl⟩
  rw [hmv] at q3 ⊢
  rw [hmb] at q2 q3 ⊢
  rw [hr1] at q1 ⊢
  have hKr := mkr_at q2 HL1.out HL2.out
  have hAr : ArV S W0 p m bs := HA.out.below hb
  have k0 := heap_cell q0 0; have k1 := heap_cell q1 0; have k3 := heap_cell q3 0
  have f0 := heap_frozen q0 0; have f1 := heap_frozen q1 0
  simp at k0 k1 k3
  have HQ := Lib.hid (And.intro hmv (And.intro hmb (And.intro hr1 hr0)))
  have CM := Lib.hid (marked_any (w := W0.drew) (mb := mb) (hAr.below (Below.refl _ _).drew) hKr.c0 ((HV.out mb W0 (by omega) (by omega) hb).tab W0.drew (Upd.refl _ _).drew).2)
  have m4 := hKr.c4; have g4 := hKr.fr 4
  have HKr := Lib.hid hKr; have HAr := Lib.hid hAr; have HB := Lib.hid hb; have HZ := Lib.hid hz
  clear hKr hAr hb hz q0 q1 q2 q3 hmv hmb hr1 hr0
  have HK0 := Lib.hid k0; have HK1 := Lib.hid k1; have HF0 := Lib.hid f0; have HF1 := Lib.hid f1
  clear k0 k1 f0 f1
  go_cut [] from 26 (fun wx => LeftPost bs mb W0 wx)
  case first =>
    refine wp_onlyN ?_
    go_region_with (refine CM.out.mono ?_; rintro e w1 ⟨⟨b, rfl, hbb⟩, hbe⟩; have HBB := Lib.hid hbb; have HBE := Lib.hid hbe; have y3 := below_cell hbe k3; have y4 := below_cell hbe m4; have z4 := (hbe.frozen (World.block_lt_of_cell? _ _ m4)).trans g4; clear hbb hbe)
    all_goals dsimp only [OnlyN, Exit.then]
    all_goals (go_wp2_with fail)
    all_goals go_meet
    all_goals exact ⟨b, HBB.out, w1, (Below.refl _ _).drew.trans HBE.out, rfl⟩
  case rest =>
    obtain ⟨b, hbb, w1, hbe, hwc⟩ := hcut
    have hq := HQ.out
    have hS0 : ∀ x, S x → x < r0 := fun x hx => by have := HS.out x hx; omega
    have uc : Upd (fun x => x = mb) W0 wc := by rw [hwc]; exact (Upd.of_below (S := fun x => x = mb) hbe).setCell (p := ⟨mb, 4, none⟩) (.inl rfl) _
    have hbw : Below w.heap.size w wc := by rw [hwc]; exact (HB.out.trans (hbe.mono HB.out.size)).setCell (by dsimp only; omega) _
    have hV := HV.out mb wc (by omega) (by have := uc.size; have := HZ.out; omega) hbw
    have hnm : ¬ S mb := fun h => by have := hS0 _ h; omega
    have hms : MSt S p m mb (.func (.func fw) #[] capw) lim bs ⟨0, b, []⟩ wc := ⟨HA.out.below hbw, by rw [hwc]; exact (HKr.out.upd (S := fun _ => False) (Upd.of_below hbe) (fun h => h)).set4 b, hnm⟩
    have hus : ∀ a, MarkX bs a → UsedC ct a := fun a ha => by
      obtain ⟨c, hc, hm, e⟩ := markedAt_iff.1 ha
      have hu : c.u = true := by
        cases hu : c.u
        · rw [HA.out.wf.unm c hc hu] at hm; cases hm
        · rfl
      rw [← HCT.out, ← e]
      exact usedC_iff.2 (usedAt_of hc hu)
    have hd : DSt S p m mb fw capw lim ct E0 (MarkX bs) (fun x => x ∈ xs.filterMap toF) (cntM bs) wc (fun _ => False) bs ⟨0, b, []⟩ wc := ⟨hms, MInv.start HCT.out hus b hbb, Upd.refl _ _⟩
    have hmv := uc.cell_some k3 (fun h => by dsimp only at h; omega)
    have hk0 := uc.cell_some HK0.out (fun h => by dsimp only at h; omega)
    have hk1 := uc.cell_some HK1.out (fun h => by dsimp only at h; omega)
    have hf : ∀ x, x ≠ mb → x < W0.heap.size → wc.frozen? ⟨x, 0, none⟩ = W0.frozen? ⟨x, 0, none⟩ := fun x hx hl => by
      unfold World.frozen?; rw [uc.block x hl hx]
    have hf0 := (hf w.heap.size (by omega) (World.block_lt_of_cell? _ _ HK0.out)).trans HF0.out
    have hf1 := (hf r1 (by omega) (World.block_lt_of_cell? _ _ HK1.out)).trans HF1.out
    have hn : ∀ x, S x ∨ x = mb → x ≠ mv ∧ x ≠ w.heap.size ∧ x ≠ r1 := fun x hx => by
      rcases hx with hx | hx
      · have := hS0 _ hx; omega
      · omega
    have hsw : ∀ W, Upd (fun x => S x ∨ x = mb) wc W → Upd S w W := fun W hu => (Upd.of_below hbw).trans (S1 := fun x => S x ∨ x = mb) (fun x hx => hx.imp id (fun h => by omega)) hu
    have CR := Lib.hid (roots_any (mv := mv) hV hd rfl hmv (fun h => (hn mv h).1 rfl) v xs (fun W hu => HVV.out W (hsw W hu)) HX.out HL.out (fun a ha hu => .root (.inr ha) hu))
    have HN := Lib.hid hn; have HSW := Lib.hid hsw; have HD := Lib.hid hd; have HV2 := Lib.hid hV
    have HM := Lib.hid hmv; have G0 := Lib.hid hk0; have G1 := Lib.hid hk1; have GF0 := Lib.hid hf0; have GF1 := Lib.hid hf1; have HUS := Lib.hid hus
    clear hbb hbe hwc hq hS0 uc hbw hV hnm hms hus hd hmv hk0 hk1 hf hf0 hf1 hn hsw k3 m4 g4
    clear HK0 HK1 HF0 HF1 CM HKr HAr HB HZ
    go_wp2_with fail
    refine CR.out.mono ?_
    rintro e w2 ⟨⟨u, rfl⟩, bs1, s1, d1, st1, t1, rt1, u1⟩
    have hL : MLoop S p m mb mv w.heap.size r1 fw capw lim ct E0 bs xs wc bs1 s1 w2 := ⟨d1, t1, rt1, u1.cell_some HM.out (fun h => (HN.out mv h).1 rfl), ⟨0, u1.cell_some G0.out (fun h => (HN.out _ h).2.1 rfl)⟩, ⟨0, u1.cell_some G1.out (fun h => (HN.out _ h).2.2 rfl)⟩,
      by unfold World.frozen?; rw [u1.block _ (World.block_lt_of_cell? _ _ G0.out) (fun h => (HN.out _ h).2.1 rfl)]; exact GF0.out, by unfold World.frozen?; rw [u1.block _ (World.block_lt_of_cell? _ _ G1.out) (fun h => (HN.out _ h).2.2 rfl)]; exact GF1.out⟩
    have HLP := Lib.hid hL
    clear d1 st1 t1 rt1 u1 hL CR G0 G1 GF0 GF1 HM
    go_wp2
    go_loopw [] (fun wr => ∃ bs1 s1, MLoop S p m mb mv w.heap.size r1 fw capw lim ct E0 bs xs wc bs1 s1 wr) (fun wr => measM mb wr)
    case atStart => exact ⟨bs1, s1, HLP.out⟩
    case round =>
      clear HLP
      obtain ⟨bs2, ⟨many, left, todo⟩, hl⟩ := hrel
      have k3 := hl.v
      have hmr := hl.d.st.mr
      have m3 := hmr.c3; have m4 := hmr.c4; have g4 := hmr.fr 4
      dsimp only at m3 m4
      have htd : todo = [] := hl.td
      subst htd
      obtain ⟨u0, k0⟩ := hl.c0
      obtain ⟨u1, k1⟩ := hl.c1
      have f0 := hl.f0; have f1 := hl.f1
      have HLL := Lib.hid hl
      clear hl hmr
      cases left
      · have HC := Lib.hid (HLL.out.d.inv.done rfl rfl HLL.out.rt HUS.out)
        have n0 : w.heap.size ≠ r1 := by have := HQ.out; omega
        clear HV2
        go_wp2
        obtain ⟨W3, hW3⟩ : ∃ W3, W3 = (wr.setCell ⟨w.heap.size, 0, none⟩ (.int .i64 (many : Nat))).setCell ⟨r1, 0, none⟩ (.int .i64 0) := ⟨_, rfl⟩
        rw [← hW3]
        have y1 : W3.cell? ⟨r1, 0, none⟩ = some (.int .i64 0) := by rw [hW3]; exact sam (off k1 (fun e => n0 e.symm))
        have y0 : W3.cell? ⟨w.heap.size, 0, none⟩ = some (.int .i64 (many : Nat)) := by rw [hW3]; exact off (sam k0) n0
        have uf : Upd (fun x => x = w.heap.size ∨ x = r1) wr W3 := by rw [hW3]; exact ((Upd.refl (fun x => x = w.heap.size ∨ x = r1) wr).setCell (p := ⟨w.heap.size, 0, none⟩) (.inl (.inl rfl)) _).setCell (p := ⟨r1, 0, none⟩) (.inl (.inr rfl)) _
        have hq := HQ.out
        have hfin : MarkPost S w p m bs ct E0 xs (.returned (.tuple #[.int .i64 (many : Nat), .int .i64 0])) W3 := by
          have hl := HLL.out
          refine ⟨bs2, many, rfl, hl.d.st.ar.upd uf (fun b hb _ e => ?_), hl.d.inv.same, hl.d.inv.cnt, HC.out, (HSW.out wr hl.d.upd).trans (S1 := fun x => x = w.heap.size ∨ x = r1) (fun x hx => .inr ?_) uf⟩
          · have := HS.out b hb; omega
          · omega
        refine leaves_cons (f := 29) (args := #[.pointer (some ⟨w.heap.size, 0, none⟩), .pointer (some ⟨r1, 0, none⟩)]) (by simp) (by simp [go_sem]) ?_
        refine (mark_idle ⟨w.heap.size, 0, none⟩ ⟨r1, 0, none⟩ _).mono ?_
        rintro e u' w5 ⟨rfl, rfl, hw5⟩
        rw [hw5]
        simp [Leaves, settle, results, Tryd.results11, go_sem, y0, y1]
        exact hfin
      · clear k0 k1 f0 f1 m3
        obtain ⟨W2, hW2⟩ : ∃ W2, wr.setCell ⟨mb, 4, none⟩ (.bool false) = W2 := ⟨_, rfl⟩
        have hl := HLL.out
        have uw : Upd (fun x => x = mb) wr W2 := by rw [← hW2]; exact (Upd.refl (fun x => x = mb) _).setCell (p := ⟨mb, 4, none⟩) (.inl rfl) _
        have uw' : Upd (fun x => S x ∨ x = mb) wr W2 := uw.mono (fun b _ hb => .inr hb)
        have hms : MSt S p m mb (.func (.func fw) #[] capw) lim bs2 ⟨many, false, []⟩ W2 := ⟨hl.d.st.ar.upd uw (fun b hb _ e => hl.d.st.nS (e ▸ hb)), by rw [← hW2]; exact hl.d.st.mr.set4 false, hl.d.st.nS⟩
        have hd : DSt S p m mb fw capw lim ct E0 (MarkX bs) (fun x => x ∈ xs.filterMap toF) (cntM bs) W2 (MarkX bs2) bs2 ⟨many, false, []⟩ W2 := ⟨hms, hl.d.inv.begin rfl, Upd.refl _ _⟩
        have ub : Upd (fun x => S x ∨ x = mb) wc W2 := hl.d.upd.trans' uw'
        have CO := Lib.hid (over_any (HV2.out.at ub) hd rfl)
        have hk3 := uw'.cell_some k3 (fun h => (HN.out mv h).1 rfl)
        have HW2 := Lib.hid hW2; have HUW := Lib.hid uw'; have HUB := Lib.hid ub
        clear hW2 uw uw' hms hd ub hl
        go_wp2_with fail
        rw [HW2.out]
        refine CO.out.mono ?_
        rintro e w3 ⟨⟨u3, rfl⟩, bs3, s3, d3, st3, t3⟩
        have HD3 := Lib.hid d3; have HST3 := Lib.hid st3; have HT3 := Lib.hid t3
        clear d3 st3 t3 CO
        go_wp2
        go_roundw
        case rel => exact ⟨bs3, s3, HLL.out.on HN.out (HD3.out.from HUB.out) HT3.out HST3.out.mono (HUW.out.trans' HD3.out.upd)⟩
        case measure =>
          rw [measM_of HD3.out.st, measM_of HLL.out.d.st]
          exact measL_lt rfl HST3.out (HD3.out.inv.many_le HD3.out.st.ar.wf)
end Go.Proofs.YtfpfpopfnbcblaaDoor

/- package mark: what Mark and Reach refuse. -/
namespace Go.Proofs.YtfpfpopfnbcblaaDoor
open Go.RowKit

theorem two_below (w : World) (a b : Value) (t u : TypeId) : Below w.heap.size w (((w.alloc (.cells #[a] t)).alloc (.cells #[b] u))) := ((Below.refl _ _).alloc (Nat.le_refl _) _).alloc (by simp) _
def Refused (w : World) (c : Int) (e : Ending) (W : World) : Prop := e = .returned (.tuple #[.int .i64 0, .int .i64 c]) ∧ Below w.heap.size w W
theorem two_cells (w : World) (a b : Value) (t u : TypeId) : ((w.alloc (.cells #[a] t)).alloc (.cells #[b] u)).cell? ⟨w.heap.size, 0, none⟩ = some a ∧ ((w.alloc (.cells #[a] t)).alloc (.cells #[b] u)).cell? ⟨w.heap.size + 1, 0, none⟩ = some b := by
  have h0 := heap_cell (heap_alloc_keep (heap_alloc_at w (.cells #[a] t) rfl) (.cells #[b] u)) 0
  have h1 := heap_cell (heap_alloc_at (w.alloc (.cells #[a] t)) (.cells #[b] u) (b := w.heap.size + 1) (by simp)) 0
  exact ⟨h0.trans rfl, h1.trans rfl⟩
set_option maxRecDepth 100000 in
theorem mark_low (w : World) (p : Nat) (fw : FuncId) (capw : Array Value) (k : Int) (hk : k < 1) (v : Value) :
    Calls Tryd.prog 11 #[.pointer (some ⟨p, 0, none⟩), .int .i64 k, v, .func (.func fw) #[] capw] w (Refused w 2) := by
  have hnf : ∀ w : World, (binOp BinOp.eql 33 (.func (.func fw) #[] capw) .nilFunc).run Tryd.prog w = .ok (.bool false) w := fun _ => by rfl
  have hbelow := Lib.hid (two_below w (.int .i64 0) (.int .i64 2) 3 40)
  have hcells := Lib.hid (two_cells w (.int .i64 0) (.int .i64 2) 3 40)
  go_enter_defers Tryd.func11, Tryd.ntmps11
  go_wp2
  obtain ⟨W1, hW1⟩ : ∃ W1, W1 = (w.alloc (.cells #[.int .i64 0] 3)).alloc (.cells #[.int .i64 2] 40) := ⟨_, rfl⟩
  rw [← hW1]
  have y := hcells.out
  have z := hbelow.out
  rw [← hW1] at y z
  have y0 := y.1; have y1 := y.2
  have hfin : Refused w 2 (.returned (.tuple #[.int .i64 0, .int .i64 2])) W1 := ⟨rfl, z⟩
  simp [bodyPostD, Leaves, results, Tryd.results11, go_sem, y0, y1]
  exact hfin
set_option maxRecDepth 100000 in
theorem mark_nila (w : World) (fv : Value) (k : Int) (v : Value) :
    Calls Tryd.prog 11 #[.pointer none, .int .i64 k, v, fv] w (Refused w 1) := by
  have hbelow := Lib.hid (two_below w (.int .i64 0) (.int .i64 1) 3 40)
  have hcells := Lib.hid (two_cells w (.int .i64 0) (.int .i64 1) 3 40)
  go_enter_defers Tryd.func11, Tryd.ntmps11
  go_wp2
  obtain ⟨W1, hW1⟩ : ∃ W1, W1 = (w.alloc (.cells #[.int .i64 0] 3)).alloc (.cells #[.int .i64 1] 40) := ⟨_, rfl⟩
  rw [← hW1]
  have y := hcells.out
  have z := hbelow.out
  rw [← hW1] at y z
  have y0 := y.1; have y1 := y.2
  have hfin : Refused w 1 (.returned (.tuple #[.int .i64 0, .int .i64 1])) W1 := ⟨rfl, z⟩
  simp [bodyPostD, Leaves, results, Tryd.results11, go_sem, y0, y1]
  exact hfin
set_option maxRecDepth 100000 in
theorem mark_nilw (w : World) (p : Nat) (k : Int) (v : Value) :
    Calls Tryd.prog 11 #[.pointer (some ⟨p, 0, none⟩), .int .i64 k, v, .nilFunc] w (Refused w 1) := by
  have hnf : ∀ w : World, (binOp BinOp.eql 33 .nilFunc .nilFunc).run Tryd.prog w = .ok (.bool true) w := fun _ => by rfl
  have hbelow := Lib.hid (two_below w (.int .i64 0) (.int .i64 1) 3 40)
  have hcells := Lib.hid (two_cells w (.int .i64 0) (.int .i64 1) 3 40)
  go_enter_defers Tryd.func11, Tryd.ntmps11
  go_wp2
  obtain ⟨W1, hW1⟩ : ∃ W1, W1 = (w.alloc (.cells #[.int .i64 0] 3)).alloc (.cells #[.int .i64 1] 40) := ⟨_, rfl⟩
  rw [← hW1]
  have y := hcells.out
  have z := hbelow.out
  rw [← hW1] at y z
  have y0 := y.1; have y1 := y.2
  have hfin : Refused w 1 (.returned (.tuple #[.int .i64 0, .int .i64 1])) W1 := ⟨rfl, z⟩
  simp [bodyPostD, Leaves, results, Tryd.results11, go_sem, y0, y1]
  exact hfin
end Go.Proofs.YtfpfpopfnbcblaaDoor
