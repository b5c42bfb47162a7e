import Derived.Test.YtlcfkfijomnmnaaGreatDoorQRoMapBd
namespace Go.Proofs.YtlcfkfijomnmnaaGreatDoor
open Lib (hid)
section
open Go.RowKit
structure FoundJ (p B : Nat) (s : List Hp) (n : Nat) (T : Nat → Prop) (w : World) : Prop where
  ex : ∃ v, w.heap[p]? = some (.cells #[v] 44 (0, 0)) ∧ w.ownsRow B 33 2 v s.length (flatH s) ∧ v.ownBlock ≠ some p ∧ (∀ b, T b ↔ (b = p ∨ v.ownBlock = some b))
  cnt : s.length + n ≤ 1000000
  le : B ≤ w.heap.size
def gather (s : List Hp) (h : Hp) : Hp × List Hp := (h, s ++ [h])
set_option maxRecDepth 100000 in
set_option maxHeartbeats 8000000 in
theorem found_ok (p B : Nat) (hp : B ≤ p) : FnOk Tryz.prog cellsH (fun _ => True) 153 #[.pointer (some ⟨p, 0, none⟩)] gather (FoundJ p B) B where
  enter := fun _ _ => rfl
  lt := fun h => ⟨fun b hb => by
    obtain ⟨v, h1, h2, h3, h4⟩ := h.ex
    rcases (h4 b).1 hb with rfl | e
    · exact heap_lt h1
    · exact (h2.lt b e).2, h.le⟩
  keep := fun h u => ⟨by
    obtain ⟨v, h1, h2, h3, h4⟩ := h.ex
    exact ⟨v, u.heap_some h1 (fun hk => hk.2 ((h4 p).2 (.inl rfl))), ownsRow_upd h2 u (fun b hb hk => hk.2 ((h4 b).2 (.inr hb))), h3, h4⟩, h.cnt, Nat.le_trans h.le u.size⟩
  less := fun h hm => ⟨h.ex, by have := h.cnt; omega, h.le⟩
  call := by
    intro s n T w x _ hj
    obtain ⟨v, hb, ho, hne, hT⟩ := hj.ex
    obtain ⟨i0, hi, hz0, hz1, hz2⟩ := info_parts Tryz.infoHeap
    have Hi := hid hi; have Hz0 := hid hz0; have Hz1 := hid hz1; have Hz2 := hid hz2
    rw [show cellsH x = [.int .i64 x.k, .int .i64 x.n] from rfl]
    show Calls Tryz.prog 153 #[.agg #[.int .i64 x.k, .int .i64 x.n], .pointer (some ⟨p, 0, none⟩)] w _
    obtain ⟨W0, hW⟩ : ∃ W0 : World, W0 = (((w.alloc (.cells #[.int .i64 x.k, .int .i64 x.n] 33)).alloc (.cells #[.int .i64 0, .int .i64 0] 33)).alloc (.cells #[.int .i64 x.k, .int .i64 x.n] 33)) := ⟨_, rfl⟩
    have hsz : W0.heap.size = w.heap.size + 3 := by rw [hW]; simp
    have z0 : W0.heap[w.heap.size]? = some (.cells #[.int .i64 x.k, .int .i64 x.n] 33 (0, 0)) := by rw [hW]; exact heap_alloc_keep (heap_alloc_keep (heap_alloc_at _ _ rfl) _) _
    have z1 : W0.heap[w.heap.size + 1]? = some (.cells #[.int .i64 0, .int .i64 0] 33 (0, 0)) := by rw [hW]; exact heap_alloc_keep (heap_alloc_at _ _ (by simp)) _
    have z2 : W0.heap[w.heap.size + 1 + 1]? = some (.cells (cellsH x).toArray 33 (0, 0)) := by rw [hW]; exact heap_alloc_at _ _ (by simp)
    have zp : W0.heap[p]? = some (.cells #[v] 44 (0, 0)) := by rw [hW]; exact heap_alloc_keep (heap_alloc_keep (heap_alloc_keep hb _) _) _
    have u0 : Upd T w W0 := by rw [hW]; exact (((Upd.refl _ w).alloc _).alloc _).alloc _
    have ho0 : W0.ownsRow B 33 2 v s.length (flatH s) := by rw [hW]; exact ((ho.alloc _).alloc _).alloc _
    have hcp := heap_cell hb 0
    simp at hcp
    obtain ⟨ao, cap, rfl, _⟩ := ownsRow_form ho
    have hcq := cell_alloc (cell_alloc hcp (.cells #[.int .i64 x.k, .int .i64 x.n] 33)) (.cells #[.int .i64 0, .int .i64 0] 33)
    have hpw := heap_lt hb
    have hlen := hj.cnt
    have HO := hid ho0; have HW := hid hW; have HSZ := hid hsz; have Z0 := hid z0; have Z1 := hid z1; have Z2 := hid z2; have ZP := hid zp; have HU := hid u0; have HJ := hid hj; have HNE := hid hne; have HT := hid hT; have HPW := hid hpw; have HOw := hid ho
    have HR := hid (row_cells (cs := cellsH x) z2)
    clear hb ho hne hT hi hz0 hz1 hz2 hW hsz z0 z1 z2 zp u0 ho0 hj hpw
    go_enter Tryz.func153, Tryz.ntmps153
    go_wp2_with (at_builtin; rw [← HW.out]; refine wpList_append_own2 _ rfl _ _ 44 rfl B 33 i0 _ 2 16 Tryz.underlying44 Hi.out Hz0.out Hz1.out Hz2.out rfl (by decide) _ _ _ rfl HO.out ⟨w.heap.size + 1 + 1, 0, none⟩ 1 1 (cellsH x) rfl rfl HR.out (one_H x) (by simp [maxLen]; omega) (by omega) (by have := HJ.out.le; rw [HSZ.out]; omega) (by decide) ?_)
    intro v2 w2 o2 gr2 mv2
    have g0 := gr2.block (w.heap.size) (by rw [HSZ.out]; omega) (fun e => by have := (HOw.out.lt _ e.symm).2; omega)
    have g1 := gr2.block (w.heap.size + 1) (by rw [HSZ.out]; omega) (fun e => by have := (HOw.out.lt _ e.symm).2; omega)
    have gp := gr2.block p (by rw [HSZ.out]; have := HPW.out; omega) (fun e => HNE.out e.symm)
    rw [Z0.out] at g0
    rw [Z1.out] at g1
    rw [ZP.out] at gp
    have c00 := heap_cell g0 0; have c01 := heap_cell g0 1
    have c10 := heap_cell g1 0; have c11 := heap_cell g1 1
    have cp0 := heap_cell gp 0
    have f1 := fun i => heap_frozen g1 i
    have fp := fun i => heap_frozen gp i
    simp at c00 c01 c10 c11 cp0
    obtain ⟨ao2, cap2, rfl, _⟩ := ownsRow_form o2
    have HO2 := hid o2; have HG := hid gr2; have HM := hid mv2; have G0 := hid g0; have G1 := hid g1; have GP := hid gp
    clear o2 gr2 mv2 g0 g1 gp hcp hcq
    have hn0 : ¬ p = w.heap.size := by have := HPW.out; omega
    have hn0' : ¬ w.heap.size = p := by have := HPW.out; omega
    have hn1 : ¬ p = w.heap.size + 1 := by have := HPW.out; omega
    have hn1' : ¬ w.heap.size + 1 = p := by have := HPW.out; omega
    go_wp2
    refine bodyPost_ret (v := .agg #[.int .i64 x.k, .int .i64 x.n]) (by simp [results, Tryz.results153, go_sem, c10, c11]) rfl ?_
    have q1 : p < w.heap.size := HPW.out
    have hT := HT.out
    have u2 : Upd T w w2 := HU.out.grown HG.out (fun k hk => .inl ((hT k).2 (.inr hk)))
    have uf := ((u2.setCell (p := ⟨p, 0, none⟩) (.inl ((hT p).2 (.inl rfl))) (.slice ao2 (s.length + 1) cap2)).setCell (p := ⟨w.heap.size + 1, 0, none⟩) (.inr (by simp)) (.int .i64 x.k)).setCell (p := ⟨w.heap.size + 1, 1, none⟩) (.inr (by simp)) (.int .i64 x.n)
    have zp := heap_set_off (heap_set_off (heap_set_at GP.out 0 (.slice ao2 (s.length + 1) cap2)) (a := ⟨w.heap.size + 1, 0, none⟩) hn1 (.int .i64 x.k)) (a := ⟨w.heap.size + 1, 1, none⟩) hn1 (.int .i64 x.n)
    have hmv := HM.out
    have hb2 : ∀ b, (Value.slice ao2 (s.length + 1) cap2).ownBlock = some b → b ≠ p ∧ b ≠ w.heap.size + 1 := fun b hb => by
      rcases hmv with e | e
      · rw [e] at hb
        exact ⟨fun e1 => HNE.out (by rw [← e1]; exact hb), fun e1 => by have := (HOw.out.lt b hb).2; omega⟩
      · have := e b hb; rw [HSZ.out] at this; omega
    have us : Upd (fun b => b = p ∨ b = w.heap.size + 1) w2 (((w2.setCell ⟨p, 0, none⟩ (.slice ao2 (s.length + 1) cap2)).setCell ⟨w.heap.size + 1, 0, none⟩ (.int .i64 x.k)).setCell ⟨w.heap.size + 1, 1, none⟩ (.int .i64 x.n)) :=
      (((Upd.refl _ w2).setCell (.inl (.inl rfl)) _).setCell (.inl (.inr rfl)) _).setCell (.inl (.inr rfl)) _
    refine ⟨fun b => b = p ∨ (Value.slice ao2 (s.length + 1) cap2).ownBlock = some b, rfl, ⟨⟨.slice ao2 (s.length + 1) cap2, by simpa using zp, ?_, fun e => (hb2 p e).1 rfl, fun b => Iff.rfl⟩, by simp [gather]; omega, Nat.le_trans HJ.out.le uf.size⟩, uf, fun b hb => ?_⟩
    · have h := ownsRow_upd HO2.out us (fun b hb hk => by rcases hk with hk | hk; exact (hb2 b hb).1 hk; exact (hb2 b hb).2 hk)
      simpa [gather, flatH] using h
    · rcases hb with rfl | hb
      · exact .inl ((hT _).2 (.inl rfl))
      · rcases hmv with e | e
        · rw [e] at hb; exact .inl ((hT _).2 (.inr hb))
        · have := e b hb; rw [HSZ.out] at this; exact .inr (by omega)
def heapsOf (x : Sb) : List Hp := (mapSub gather [] x).2
set_option maxRecDepth 100000 in
set_option maxHeartbeats 8000000 in
theorem heaps_any (cs : List Value) (x : Sb) (w : World) (hs : SubAt w cs x) (hm : Small x) (hc : cnt x ≤ 1000000) :
    Calls Tryz.prog 139 #[.agg cs.toArray] w fun e w' => ∃ p, e = .returned (.func (.func 154) #[] #[.pointer (some ⟨p, 0, none⟩)]) ∧ w.heap.size ≤ p ∧ Below w.heap.size w w' ∧ ∃ v, w'.heap[p]? = some (.cells #[v] 44 (0, 0)) ∧ w'.ownsRow w.heap.size 33 2 v (heapsOf x).length (flatH (heapsOf x)) ∧ v.ownBlock ≠ some p := by
  obtain ⟨vs, vp, vr, vf, rfl, _, _, _, _⟩ := hs.ex
  have hmf : ∀ (fn : Fn) (first cap : Array Value) (w : World), (Instr.makeFunc fn first cap).run Tryz.prog w = .ok (.func fn first cap) w := fun _ _ _ _ => rfl
  obtain ⟨W0, hW⟩ : ∃ W0 : World, W0 = ((w.alloc (.cells #[.bool x.fin, vs, .int .i64 x.k, vp, vr, vf] 46)).alloc (.cells #[.slice none 0 0] 44)) := ⟨_, rfl⟩
  have hb0 : Below w.heap.size w W0 := by rw [hW]; exact ((Below.refl _ _).alloc (Nat.le_refl _) _).alloc (by simp) _
  have hsz : W0.heap.size = w.heap.size + 2 := by rw [hW]; simp
  have z1 : W0.heap[w.heap.size + 1]? = some (.cells #[.slice none 0 0] 44 (0, 0)) := by rw [hW]; exact heap_alloc_at _ _ (by simp)
  have hj : FoundJ (w.heap.size + 1) (w.heap.size + 1) [] (cnt x + 0) (fun b => b = w.heap.size + 1) W0 :=
    ⟨⟨_, z1, owns_zero _ _ _ _, by simp [Value.ownBlock], fun b => by simp [Value.ownBlock]⟩, by simpa using hc, by omega⟩
  have hmap := map_any (found_ok (w.heap.size + 1) (w.heap.size + 1) (Nat.le_refl _)) [.bool x.fin, vs, .int .i64 x.k, vp, vr, vf] x [] 0 (fun b => b = w.heap.size + 1) W0
    (fun w' hu => hs.below (hb0.trans (hu.below (B := w.heap.size) (fun k hk => by omega) hb0.size)) (Nat.le_refl _)) hm ⟨fun _ _ => trivial, fun _ _ _ => trivial, fun _ _ _ => trivial, fun _ _ _ => trivial⟩ hj
  have HM := hid hmap; have HW := hid hW; have HB := hid hb0; have HSZ := hid hsz
  clear hmap hW hb0 hsz z1 hj hs hm hc
  go_enter Tryz.func139, Tryz.ntmps139
  go_wp2_with fail
  rw [← HW.out]
  refine HM.out.mono ?_
  rintro e w1 ⟨ds, rfl, T1, _, hj1, hu1, _⟩
  have hbw : Below w.heap.size w w1 := HB.out.trans (hu1.below (B := w.heap.size) (fun k hk => by omega) HB.out.size)
  obtain ⟨v, b1, o1, n1, _⟩ := hj1.ex
  have HBW := hid hbw; have B1 := hid b1; have O1 := hid o1; have N1 := hid n1
  clear hj1 hu1 hbw b1 o1 n1
  go_wp2
  go_ret
  exact ⟨w.heap.size + 1, rfl, by omega, HBW.out, v, B1.out, ownsRow_low O1.out (by omega), N1.out⟩
end
section
open Go.RowKit Go.Shelf
variable {F : Fence} {n : Nat} {P : Program}
theorem wpIn_range_box {α : Type} {g : Operand} {ps : Array Tmp} {assign body : Code} {Q : Exit → Act → World → Prop} {a : Act} {w : World}
    (hro : F.round = none) (h1 : 1 ≤ n) {gf : Nat} {lb : Array Value} (hg : a.eval g = .func (.func gf) #[] lb) (hFg : F.fn gf) (eg : ∀ args w, (callFunc gf args).run P w = .ok (.enter gf args) w)
    {encs : α → Array Value} (hps : ∀ x, (encs x).size = ps.size) {S Sp : List α → Prop} {G : List α → α → Prop} (Kp : World → World → Prop) (I : List α → World → Prop) (Ix : Code → List α → World → Prop)
    (hKt : ∀ {A B C : World}, Kp A B → Kp B C → Kp A C) (hKp : ∀ W l o o', w.heap.size ≤ l → W.heap[l]? = some o → o.isCells = false → Kp W (W.putObj l o'))
    (hIp : ∀ pre W l o o', w.heap.size ≤ l → W.heap[l]? = some o → o.isCells = false → I pre W → I pre (W.putObj l o'))
    (hIxp : ∀ c pre W l o o', w.heap.size ≤ l → W.heap[l]? = some o → o.isCells = false → Ix c pre W → Ix c pre (W.putObj l o'))
    (h0 : ∀ o o', I [] ((w.alloc o).alloc o')) (bx : α → Obj) (hIa : ∀ pre W x, I pre W → I pre (W.alloc (bx x))) (hKa : ∀ W x, Kp W (W.alloc (bx x))) (a₁ : α → Nat → Act)
    (hiter : IterAt F (n - 1) P gf lb encs w Kp I Ix S Sp G)
    (hassign : ∀ (l : Nat) (x : α) (W : World) (K : Act → World → Prop), K (a₁ x W.heap.size) (W.alloc (bx x)) →
      assign.wpIn (F.inRound l) (n - 1 - 1) P (Exit.then K (fun _ _ _ => False)) { tmps := (ps.zip (encs x)).foldl (fun t (p, v) => t.setIfInBounds p v) a.tmps, defers := [] } W)
    (hbody : ∀ (l : Nat) (pre : List α) (x : α) (W : World) (B : Nat), I pre W → G pre x → W.heap[B]? = some (bx x) → w.heap.size ≤ B → body.wpIn (F.inRound l) (n - 1 - 1) P (roundWay Kp I Ix (pre ++ [x]) W) (a₁ x B) W)
    (hdone : ∀ (D : Nat) (xs : List α) (W : World), S xs → I xs W → W.heap[D]? = some (.deferred (some [])) → w.heap.size ≤ D → Q .normal { a with defers := { target := .collected D, args := #[] } :: a.defers } W)
    (hstop : ∀ (D : Nat) (c : Code) (pre : List α) (W : World), Sp pre → Ix c pre W → W.heap[D]? = some (.deferred (some [])) → w.heap.size ≤ D → c.wpIn F n P Q { a with defers := { target := .collected D, args := #[] } :: a.defers } W) :
    (Code.rangeFunc g ps assign body).wpIn F n P Q a w := by
  refine wpIn_rangeFunc fun fn hfn => ?_
  rw [hro]
  -- the loop's record in its states, its block and the block of the deferred calls
  let mk : LoopState → Option Code → Loop := fun st pe => { state := st, pending := pe, fn, tmps := a.tmps, params := ps, assign, body, defers := w.heap.size }
  let R : LoopState → Option Code → World → Prop := fun st pe W => W.heap[w.heap.size + 1]? = some (.loop (mk st pe)) ∧ W.heap[w.heap.size]? = some (.deferred (some []))
  have keep : ∀ st pe W W', KeepsOthers W W' → R st pe W → R st pe W' := fun st pe W W' hk h => ⟨hk.same _ _ h.1 rfl, hk.same _ _ h.2 rfl⟩
  have turn : ∀ st pe st' pe' W, R st pe W → R st' pe' (W.putObj (w.heap.size + 1) (.loop (mk st' pe'))) := fun st pe st' pe' W h =>
    ⟨World.putObj_heap_same (Array.getElem?_eq_some_iff.1 h.1).1, (World.putObj_heap_other (by omega)).trans h.2⟩
  have start : R .ready none ((w.alloc (.deferred (some []))).alloc (.loop (mk .ready none))) := by
    constructor
    · have := World.alloc_heap_new (w.alloc (.deferred (some []))) (.loop (mk .ready none))
      rwa [World.size_alloc] at this
    · exact (Below.heap_alloc _ _ _ (by simp)).trans (World.alloc_heap_new w _)
  refine ⟨w.heap.size + 1, [{ target := .collected w.heap.size, args := #[] }], (w.alloc (.deferred (some []))).alloc (.loop (mk .ready none)), { target := .fn (.func gf) lb, args := #[.func (.yield (w.heap.size + 1)) #[] #[]] }, (w.alloc (.deferred (some []))).alloc (.loop (mk .ready none)), gf,
    #[.func (.yield (w.heap.size + 1)) #[] #[]] ++ lb, (w.alloc (.deferred (some []))).alloc (.loop (mk .ready none)), run_enterLoop_outer _ _ _ _ _, ?_, ?_, ?_, fun _ => h1, ?_⟩
  · simp only [resolve, hg]
    simp [go_sem]
  · intro f' hf'
    simp [Target.leads] at hf'
    subst hf'
    exact hFg
  · simp [invoke, go_sem, eg]
  refine (hiter (w.heap.size + 1) (R .ready none) (fun c => R .done (some c)) _ (keep _ _) (fun c => keep _ _) (((Below.refl _ w).alloc (Nat.le_refl _) _).alloc (by simp) _) ?_ (h0 _ _) start).mono ?_
  · intro pre x W hi hl hlen
    have hla := keep _ _ _ _ (KeepsOthers.alloc W (bx x)) hl
    refine ⟨fn, _, assign, body, run_yield hl.1 (hps x), roundIn_of_wpIn hfn (hassign _ x W _ ⟨_, run_beginRound hla.1 rfl, ?_⟩)⟩
    have hb := turn _ _ .busy none _ hla
    have hls : w.heap.size + 1 < W.heap.size := (Array.getElem?_eq_some_iff.1 hl.1).1
    refine wpIn_mono (hbody _ pre x _ W.heap.size (hIp _ _ _ _ _ (by omega) hla.1 rfl (hIa _ _ _ hi)) hlen ((World.putObj_heap_other (by omega)).trans (World.alloc_heap_new W _)) (by omega)) ?_
    rintro e a3 W3 hp
    cases e with
    | normal =>
      have h3 := keep _ _ _ _ hp.1 hb
      exact ⟨_, _, run_endRound none h3.1, .inl ⟨rfl, hIp _ _ _ _ _ (by omega) h3.1 rfl hp.2.2, hKt (hKt (hKa _ _) (hKt (hKp _ _ _ _ (by omega) hla.1 rfl) hp.2.1)) (hKp _ _ _ _ (by omega) h3.1 rfl), turn _ _ .ready none W3 h3⟩⟩
    | ret =>
      have h3 := keep _ _ _ _ hp.1 hb
      exact ⟨_, _, run_endRound (some .ret) h3.1, .inr ⟨rfl, .ret, hIxp _ _ _ _ _ _ (by omega) h3.1 rfl hp.2, turn _ _ .done (some .ret) W3 h3⟩⟩
    | exit id =>
      have h3 := keep _ _ _ _ hp.1 hb
      exact ⟨_, _, run_endRound (some (.exit id)) h3.1, .inr ⟨rfl, .exit id, hIxp _ _ _ _ _ _ (by omega) h3.1 rfl hp.2, turn _ _ .done (some (.exit id)) W3 h3⟩⟩
    | goto t =>
      have h3 := keep _ _ _ _ hp.1 hb
      exact ⟨_, _, run_endRound (some (.goto t)) h3.1, .inr ⟨rfl, .goto t, hIxp _ _ _ _ _ _ (by omega) h3.1 rfl hp.2, turn _ _ .done (some (.goto t)) W3 h3⟩⟩
    | panic ch => exact hp.elim
    | outgrown => exact hp.elim
  · rintro e W2 ⟨⟨v, rfl⟩, (⟨xs, hS, hi, hl⟩ | ⟨pre, c, hSp, hi, hl⟩)⟩
    · exact ⟨none, _, run_endLoop hl.1 (by simp [mk]), hdone _ xs _ hS (hIp _ _ _ _ _ (by omega) hl.1 rfl hi) ((World.putObj_heap_other (by omega)).trans hl.2) (Nat.le_refl _)⟩
    · exact ⟨some c, _, run_endLoop hl.1 (by simp [mk]), hstop _ c pre _ hSp (hIxp _ _ _ _ _ _ (by omega) hl.1 rfl hi) ((World.putObj_heap_other (by omega)).trans hl.2) (Nat.le_refl _)⟩
end
section
open Go.RowKit Go.Shelf
attribute [local go_sem] Oper.semAt_some
structure Gathered (p : Nat) (v : Value) (l : List Hp) (W : World) : Prop where
  box : W.heap[p]? = some (.cells #[v] 44 (0, 0))
  row : HpsAt W v l
set_option maxRecDepth 100000 in
set_option maxHeartbeats 4000000 in
theorem heaps_iter (n p : Nat) (hn : 1 ≤ n) (v : Value) (l : List Hp) (hl : l.length ≤ 1000000) (w : World) (Kp : World → World → Prop) (I : List Hp → World → Prop) (Ix : Code → List Hp → World → Prop)
    (hG : ∀ pre W, I pre W → Gathered p v l W) (hI : ∀ pre W x, I pre W → I pre (W.alloc (.cells (cellsH x).toArray 33))) :
    IterAt Fence.wide n Tryz.prog 154 #[.pointer (some ⟨p, 0, none⟩)] (fun x : Hp => #[.agg (cellsH x).toArray]) w Kp I Ix
      (fun xs => xs = l) (fun pre => pre <+: l) (fun pre x => pre ++ [x] <+: l) := by
  intro lp L L' W1 hL hL' hbel hY h0 hL0
  have hg := hG _ _ h0
  clear hbel
  obtain ⟨ao, ca, rfl⟩ := RowAt.form hg.row
  have c0 := heap_cell hg.box 0
  simp at c0
  have HG := hid hg; have HLL := hid hl
  clear hg hl
  refine callsIn_of_wp Tryz.func154 rfl trivial ?_ rfl
  simp only [Tryz.ntmps154, List.size_toArray, List.length_cons, List.length_nil, Nat.reduceAdd, Nat.reduceSub, Array.replicate_succ, Array.replicate_zero, List.push_toArray, List.append_toArray, List.nil_append, List.cons_append]
  gi_wp2
  gi_loopw [7] (fun t7 wr => ∃ i : Nat, t7 = .int .i64 i ∧ i ≤ l.length ∧ Gathered p (.slice ao l.length ca) l wr ∧ I (l.take i) wr ∧ L wr) (fun t7 _ => l.length - (intOf t7).toNat)
  case atStart => exact ⟨0, rfl, Nat.zero_le _, HG.out, h0, hL0⟩
  case round =>
    obtain ⟨i, rfl, hi, hgr, hI0, hl⟩ := hrel
    by_cases hlt : i < l.length
    · obtain ⟨x, hx⟩ : ∃ x, l[i]? = some x := ⟨l[i], by simp [hlt]⟩
      obtain ⟨b1, o1, e1, hb1, p0, p1⟩ := hps_at hgr.row hx
      subst e1
      have htk : l.take (i + 1) = l.take i ++ [x] := by rw [List.take_add_one, hx]; rfl
      have hpre : l.take i ++ [x] <+: l := by rw [← htk]; exact List.take_prefix _ _
      have hlt' : (i : Int) < l.length := by omega
      have hi6 : (i : Int) < 1000000 := by have := HLL.out; omega
      have HX := hid htk; have HPR := hid hpre; have HGR := hid hgr; have HI := hid hI0; have HLT := hid hlt
      obtain ⟨fn, tmps, assign, body, hy, hR⟩ := hY (l.take i) x (wr.alloc (.cells (cellsH x).toArray 33)) (hI _ _ _ hI0) (hL _ _ (KeepsOthers.alloc _ _) hl) hpre
      rw [show (cellsH x).toArray = #[.int .i64 x.k, .int .i64 x.n] from rfl] at hy hR
      clear htk hpre hgr hI0 hx hlt hi
      try dsimp only at hy
      gi_wp2
      refine hR.mono ?_
      rintro e W' (⟨rfl, hJ', hk, hl'⟩ | ⟨rfl, c', hx, hl'⟩)
      · have hgr' := hG _ _ hJ'
        have HG2 := hid hgr'
        clear hgr' hy hR hY
        gi_wp2
        go_roundw
        case rel => exact ⟨i + 1, by go_num, HLT.out, HG2.out, by rw [HX.out]; exact hJ', hl'⟩
        case measure => have := HLT.out; simp [intOf]; omega
      · clear hy hR hY
        gi_wp2
        refine bodyPost_ret (results_none rfl _ _ _) rfl ?_
        exact ⟨⟨_, rfl⟩, .inr ⟨_, c', HPR.out, hx, hl'⟩⟩
    · obtain rfl : i = l.length := by omega
      have hlt' : ¬ (l.length : Int) < l.length := by omega
      clear hY
      rw [List.take_length] at hI0
      gi_wp2
      first | go_end0 | refine bodyPost_ret (results_none rfl _ _ _) rfl ?_
      exact ⟨⟨_, rfl⟩, .inl ⟨hI0, hl⟩⟩
structure ColI (w : World) (Z : Nat) (pre : List Hp) (W : World) : Prop where
  ex : ∃ v, W.heap[Z]? = some (.cells #[v] 44 (0, 0)) ∧ W.ownsRow Z 33 2 v pre.length (flatH pre) ∧ v.ownBlock ≠ some Z
  be : Below w.heap.size w W
theorem ColI.alloc {w : World} {Z : Nat} {pre : List Hp} {W : World} (h : ColI w Z pre W) (o : Obj) : ColI w Z pre (W.alloc o) := by
  obtain ⟨⟨v, h1, h2, h3⟩, hb⟩ := h
  exact ⟨⟨v, heap_alloc_keep h1 _, h2.alloc _, h3⟩, hb.alloc hb.size _⟩
theorem ownsRow_putObj {W : World} {p : Nat} {o : Obj} (o' : Obj) (h : W.heap[p]? = some o) (ho : o.isCells = false) {B : Nat} {e : TypeId} {size : Nat} {v : Value} {n : Nat} {xs : List Value} (hv : W.ownsRow B e size v n xs) : (W.putObj p o').ownsRow B e size v n xs := by
  obtain ⟨h1, (h2 | ⟨g, cap, cur, rfl, hg, hr, h3⟩)⟩ := hv
  · exact ⟨h1, .inl h2⟩
  · exact ⟨h1, .inr ⟨g, cap, cur, rfl, hg, heap_putObj o' h ho hr, h3⟩⟩
theorem ColI.putObj {w : World} {Z : Nat} {pre : List Hp} {W : World} {p : Nat} {o : Obj} (o' : Obj) (hl : w.heap.size ≤ p) (h : W.heap[p]? = some o) (ho : o.isCells = false) (hi : ColI w Z pre W) : ColI w Z pre (W.putObj p o') := by
  obtain ⟨⟨v, h1, h2, h3⟩, hb⟩ := hi
  exact ⟨⟨v, heap_putObj o' h ho h1, ownsRow_putObj o' h ho h2, h3⟩, hb.trans (putObj_below o' hl hb.size)⟩
theorem RangeFuncBoxed {W : World} {Z n₀ : Nat} {v : Value} {k : Nat} {xs : List Value} {tmp : Obj} (hv : W.heap[Z]? = some (.cells #[v] 44 (0, 0))) (hr : W.ownsRow n₀ 33 2 v k xs) (hn : n₀ ≤ W.heap.size) (hB : n₀ ≤ Z) (w1 : World) (v' : Value) (m : Nat) (ys : List Value) (ho : w1.ownsRow n₀ 33 2 v' m ys) (hg : (W.alloc tmp).grownBy w1 v.ownBlock) :
    _root_.Go.Boxed w1 Z 44 v ∧ _root_.Go.Boxed (w1.setCell ⟨Z, 0, none⟩ v') Z 44 v' ∧ (w1.setCell ⟨Z, 0, none⟩ v').ownsRow n₀ 33 2 v' m ys ∧ KeepsOthers W (w1.setCell ⟨Z, 0, none⟩ v') ∧ Below n₀ W (w1.setCell ⟨Z, 0, none⟩ v') :=
  _root_.Go.Boxed.appended hv (by decide) hr hn hB ho hg
set_option maxRecDepth 100000 in
set_option maxHeartbeats 4000000 in
theorem appendSeq_any (p : Nat) (v : Value) (l : List Hp) (hl : l.length ≤ 1000000) (w : World) (hg : ∀ W, Below w.heap.size w W → Gathered p v l W) :
    Calls Tryz.prog 152 #[.slice none 0 0, .func (.func 154) #[] #[.pointer (some ⟨p, 0, none⟩)]] w fun e w' => ∃ u, e = .returned u ∧ w'.ownsRow w.heap.size 33 2 u l.length (flatH l) ∧ Below w.heap.size w w' := by
  obtain ⟨i0, hi, hz0, hz1, hz2⟩ := info_parts Tryz.infoHeap
  have Hi := hid hi; have Hz0 := hid hz0; have Hz1 := hid hz1; have Hz2 := hid hz2
  clear hi hz0 hz1 hz2
  refine (callsIn_wide (n := 6)).1 ?_
  refine callsIn_of_wp_marks Tryz.func152 rfl trivial ?_ rfl
  simp only [Tryz.ntmps152, List.size_toArray, List.length_cons, List.length_nil, Nat.reduceAdd, Nat.reduceSub, Array.replicate_succ, Array.replicate_zero, List.push_toArray, List.append_toArray, List.nil_append, List.cons_append]
  gi_wp2
  obtain ⟨Z, hZ⟩ : ∃ Z, Z = w.heap.size := ⟨_, rfl⟩
  obtain ⟨wl, hwl⟩ : ∃ wl, wl = w.alloc (.cells #[.slice none 0 0] 44) := ⟨_, rfl⟩
  have hI0 : ColI w Z [] wl := ⟨⟨_, by rw [hwl, hZ]; exact heap_alloc_at _ _ rfl, owns_zero _ _ _ _, by simp [Value.ownBlock]⟩, by rw [hwl]; exact (Below.refl _ _).alloc (Nat.le_refl _) _⟩
  have hle : w.heap.size ≤ wl.heap.size := hI0.be.size
  have HZ := hid hZ
  simp only [← hZ]
  rw [← hwl]
  clear hZ hwl
  refine wpIn_range_box (F := Fence.wide) (n := 6) rfl (by omega) (gf := 154) (lb := #[.pointer (some ⟨p, 0, none⟩)]) rfl trivial (enters_of Tryz.func154 (by kernel_rfl) rfl)
    (encs := fun x : Hp => #[.agg (cellsH x).toArray]) (fun _ => rfl) (fun _ _ => True) (ColI w Z) (fun _ _ _ => False)
    (fun _ _ => trivial) (fun _ _ _ _ _ _ _ => trivial)
    (fun pre W q o o' hl h ho hi => hi.putObj o' (by omega) h ho) (fun c pre W q o o' hl h ho hi => hi)
    (fun o o' => (hI0.alloc o).alloc o') (fun x => .cells (cellsH x).toArray 33) (fun pre W x hi => hi.alloc _) (fun _ _ => trivial)
    (fun x B => { tmps := #[.slice none 0 0, .func (.func 154) #[] #[.pointer (some ⟨p, 0, none⟩)], .pointer (some ⟨Z, 0, none⟩), undef, .slice none 0 0, .pointer (some ⟨B, 0, none⟩), .func (.func 154) #[] #[.pointer (some ⟨p, 0, none⟩)], .agg (cellsH x).toArray, undef, undef, undef, undef, undef], defers := [] })
    (heaps_iter 5 p (by omega) v l hl wl _ _ _ (fun pre W hi => hg W hi.be) (fun pre W x hi => hi.alloc _)) ?assign ?body ?done ?stop
  case assign =>
    clear hI0
    intro q x W K hK
    rw [show (cellsH x).toArray = #[.int .i64 x.k, .int .i64 x.n] from rfl] at hK ⊢
    gi_wp2
    exact hK
  case body =>
    rintro q pre x W B hi hlen hB hBl
    obtain ⟨v0, hb0, ho0, hne⟩ := hi.ex
    obtain ⟨ao, cap, rfl, _⟩ := ownsRow_form ho0
    have hpl : pre.length + 1 ≤ l.length := by have := hlen.length_le; simpa using this
    have hZs := heap_lt hb0
    have cz := heap_cell hb0 0
    have cb0 := heap_cell hB 0; have cb1 := heap_cell hB 1
    have hbx := RangeFuncBoxed hb0 ho0 (by omega) (Nat.le_refl Z) (tmp := .cells (cellsH x).toArray 33)
    simp [cellsH] at cz cb0 cb1
    have HR := hid (row_cells (cs := cellsH x) (heap_alloc_at W (.cells (cellsH x).toArray 33) rfl))
    have HO := hid (ho0.alloc (.cells (cellsH x).toArray 33)); have HI := hid hi; have HP := hid hpl; have HZS := hid hZs; have HBX := hid hbx
    clear hI0 hi hlen hB hBl hb0 ho0 hne hpl hZs hbx hg
    rw [show (cellsH x).toArray = #[.int .i64 x.k, .int .i64 x.n] from rfl]
    gi_wp2_with (gi_at_builtin; refine wpListIn_append_own _ rfl _ _ 44 rfl Z 33 i0 _ 2 16 Tryz.underlying44 Hi.out Hz0.out Hz1.out Hz2.out rfl (by decide) _ _ _ rfl HO.out ⟨W.heap.size, 0, none⟩ 1 1 (cellsH x) rfl rfl HR.out (one_H x) (by have := HP.out; simp [maxLen]; omega) (by have := HP.out; omega) (by have := HZS.out; simp; omega) ?_)
    intro v2 w2 o2 gr2 _
    obtain ⟨x1, x2, x3, x4, x5⟩ := HBX.out _ _ _ _ o2 gr2
    have d0 := x1.cell
    have d1 := x1.frozen
    obtain ⟨ao2, cap2, rfl, _⟩ := ownsRow_form o2
    have X2 := hid x2; have X3 := hid x3; have X4 := hid x4; have X5 := hid x5
    clear x1 x2 x3 x4 x5 o2 gr2
    gi_wp2
    refine ⟨X4.out, trivial, ⟨⟨_, X2.out, by simpa [flatH] using X3.out, ?_⟩, HI.out.be.trans (X5.out.mono (by rw [HZ.out]; exact Nat.le_refl _))⟩⟩
    intro e
    have := X2.out.not_row (by decide) X3.out
    exact this e.symm
  case done =>
    clear hI0
    rintro D xs W hxs hi hK hle
    obtain rfl : xs = l := hxs
    obtain ⟨v0, hb0, ho0, _⟩ := hi.ex
    have cz := heap_cell hb0 0
    simp at cz
    have HO := hid ho0; have HI := hid hi; have HKD := hid hK
    obtain ⟨ao, cap, rfl, _⟩ := ownsRow_form ho0
    clear hi hK hb0 ho0 hg
    gi_wp2
    refine ⟨by simp, .inl ⟨_, _, rfl, run_takeDeferred HKD.out, ?_⟩⟩
    refine ⟨.slice ao xs.length cap, by simp [results, Tryz.results152, go_sem], _, rfl, ?_, ?_⟩
    · exact ownsRow_putObj _ HKD.out rfl (ownsRow_low HO.out (by rw [HZ.out]; exact Nat.le_refl _))
    · exact HI.out.be.trans (putObj_below _ (by omega) HI.out.be.size)
  case stop => rintro D c pre W hpre h hK hle; exact h.elim
set_option maxRecDepth 100000 in
theorem collect_any (p : Nat) (v : Value) (l : List Hp) (hl : l.length ≤ 1000000) (w : World) (hg : ∀ W, Below w.heap.size w W → Gathered p v l W) :
    Calls Tryz.prog 138 #[.func (.func 154) #[] #[.pointer (some ⟨p, 0, none⟩)]] w fun e w' => ∃ u, e = .returned u ∧ w'.ownsRow w.heap.size 33 2 u l.length (flatH l) ∧ Below w.heap.size w w' := by
  have HC := hid (appendSeq_any p v l hl w hg)
  clear hg hl
  go_enter Tryz.func138, Tryz.ntmps138
  go_wp2_with fail
  refine HC.out.mono ?_
  rintro e w1 ⟨u, rfl, o1, hb⟩
  have HO := hid o1; have HB := hid hb
  clear o1 hb
  go_wp2
  go_ret
  exact ⟨_, rfl, HO.out, HB.out⟩
end
section
open Go.RowKit Go.Shelf
attribute [local go_sem] Oper.semAt_some
structure AlI (w : World) (q r p2 : Nat) (v2 u : Value) (l : List Hp) (pre : List Hp) (W : World) : Prop where
  left : ∃ ao c, (pre.length < l.length → (∃ g cap, u = .slice (some ⟨g, 0, none⟩) l.length cap ∧ ao = some ⟨g, pre.length * 2, none⟩) ∧ l.length - pre.length ≤ c) ∧ W.heap[q]? = some (.cells #[.slice ao (l.length - pre.length) c] 44 (0, 0))
  own : W.ownsRow 0 33 2 u l.length (flatH l)
  told : W.heap[r]? = some (.cells #[.bool false] 4 (0, 0))
  box : W.heap[p2]? = some (.cells #[v2] 44 (0, 0))
  own2 : W.ownsRow 0 33 2 v2 l.length (flatH l)
  ne : q ≠ p2
  le : w.heap.size ≤ q
  be : Below w.heap.size w W
section
variable {w : World} {q r p2 : Nat} {v2 u : Value} {l pre : List Hp} {W : World}
theorem AlI.g (h : AlI w q r p2 v2 u l pre W) : Gathered p2 v2 l W := ⟨h.box, RowAt.of_own h.own2⟩
theorem AlI.alloc (h : AlI w q r p2 v2 u l pre W) (o : Obj) : AlI w q r p2 v2 u l pre (W.alloc o) := by
  obtain ⟨⟨o1, c, h1, h2⟩, h3, h4, h5, h6, h7, h8, h9⟩ := h
  exact ⟨⟨o1, c, h1, heap_alloc_keep h2 _⟩, h3.alloc _, heap_alloc_keep h4 _, heap_alloc_keep h5 _, h6.alloc _, h7, h8, h9.alloc h9.size _⟩
theorem AlI.putObj {p : Nat} {o : Obj} (o' : Obj) (hl : w.heap.size ≤ p) (hp : W.heap[p]? = some o) (ho : o.isCells = false) (h : AlI w q r p2 v2 u l pre W) : AlI w q r p2 v2 u l pre (W.putObj p o') := by
  obtain ⟨⟨o1, c, h1, h2⟩, h3, h4, h5, h6, h7, h8, h9⟩ := h
  exact ⟨⟨o1, c, h1, heap_putObj o' hp ho h2⟩, ownsRow_putObj o' hp ho h3, heap_putObj o' hp ho h4, heap_putObj o' hp ho h5, ownsRow_putObj o' hp ho h6, h7, h8, h9.trans (putObj_below o' hl h9.size)⟩
theorem AlI.step (h : AlI w q r p2 v2 u l pre W) {y : Hp} {m : Nat} (hm : l.length - pre.length = m + 1) {ao : Option Addr} {c : Nat} (ha : 0 < m → (∃ g cap, u = .slice (some ⟨g, 0, none⟩) l.length cap ∧ ao = some ⟨g, pre.length * 2 + 2, none⟩) ∧ m ≤ c) : AlI w q r p2 v2 u l (pre ++ [y]) ((W.setCell ⟨q, 0, none⟩ (.slice ao m c)).drew) := by
  obtain ⟨⟨o1, c1, h1, h2⟩, h3, h4, h5, h6, h7, h8, h9⟩ := h
  have hq := heap_set_at h2 0 (.slice ao m c)
  have us : Upd (fun k => k = q) W ((W.setCell ⟨q, 0, none⟩ (.slice ao m c)).drew) := ((Upd.refl (fun k => k = q) W).setCell (p := ⟨q, 0, none⟩) (.inl rfl) _).drew
  have n1 := _root_.Go.Boxed.not_row h2 (by decide) h3
  have n2 := _root_.Go.Boxed.not_row h2 (by decide) h6
  refine ⟨⟨ao, c, fun hlt => ?_, ?_⟩, ownsRow_upd h3 us (fun k hk (e : k = q) => n1 (by rw [hk, e])), us.heap_some h4 (fun e => ne_of_types h2 h4 (by decide) e.symm), us.heap_some h5 (fun e => h7 e.symm), ownsRow_upd h6 us (fun k hk (e : k = q) => n2 (by rw [hk, e])), h7, h8, (h9.setCell (by simpa using h8) _).drew⟩
  · simp at hlt
    obtain ⟨⟨g, cap, e1, e2⟩, e3⟩ := ha (by omega)
    exact ⟨⟨g, cap, e1, by rw [e2]; simp [Nat.add_mul]⟩, by simp; omega⟩
  · rw [show l.length - (pre ++ [y]).length = m by simp; omega]
    have hq2 : (W.setCell ⟨q, 0, none⟩ (.slice ao m c)).heap[q]? = some (.cells #[.slice ao m c] 44 (0, 0)) := by simpa using hq
    exact hq2
end
set_option maxRecDepth 100000 in
set_option maxHeartbeats 4000000 in
theorem alike1_any (cs ds : List Value) (x : Sb) (w : World) (hs : SubAt w cs x) (ht : SubAt w ds x) (hm : Small x) (hc : cnt x ≤ 1000000) (hl : (heapsOf x).length ≤ 1000000) :
    Calls Tryz.prog 137 #[.agg cs.toArray, .agg ds.toArray] w fun e w' => e = .returned (.bool true) ∧ Below w.heap.size w w' := by
  obtain ⟨vs, vp, vr, vf, rfl, _, _, _, _⟩ := hs.ex
  obtain ⟨us, up, ur, uf, rfl, _, _, _, _⟩ := ht.ex
  refine (callsIn_wide (n := 6)).1 ?_
  refine callsIn_of_wp_marks Tryz.func137 rfl trivial ?_ rfl
  simp only [Tryz.ntmps137, List.size_toArray, List.length_cons, List.length_nil, Nat.reduceAdd, Nat.reduceSub, Array.replicate_succ, Array.replicate_zero, List.push_toArray, List.append_toArray, List.nil_append, List.cons_append]
  obtain ⟨W0, hW⟩ : ∃ W0, W0 = (((w.alloc (.cells #[.bool x.fin, vs, .int .i64 x.k, vp, vr, vf] 46)).alloc (.cells #[.bool x.fin, us, .int .i64 x.k, up, ur, uf] 46)).alloc (.cells #[.bool false] 4)) := ⟨_, rfl⟩
  have hb0 : Below w.heap.size w W0 := by rw [hW]; exact ((((Below.refl _ _).alloc (Nat.le_refl _) _).alloc (by simp) _).alloc (by simp; omega) _)
  have z0 : W0.heap[w.heap.size]? = some (.cells #[.bool x.fin, vs, .int .i64 x.k, vp, vr, vf] 46 (0, 0)) := by rw [hW]; exact heap_alloc_keep (heap_alloc_keep (heap_alloc_at _ _ rfl) _) _
  have z2 : W0.heap[w.heap.size + 1 + 1]? = some (.cells #[.bool false] 4 (0, 0)) := by rw [hW]; exact heap_alloc_at _ _ (by simp)
  have C1 := hid (heaps_any _ x W0 (ht.below hb0 (Nat.le_refl _)) hm hc)
  have HW := hid hW; have HB := hid hb0; have Z0 := hid z0; have Z2 := hid z2; have HS := hid hs; have HM := hid hm; have HCN := hid hc; have HL := hid hl
  clear hW hb0 z0 z2 hs ht hm hc hl
  gi_wp2
  rw [← HW.out]
  refine ⟨trivial, (callsIn_wide.2 C1.out).mono ?_⟩
  rintro e w1 ⟨p1, rfl, hp1, hb1, v1, hv1, ho1, _⟩
  obtain ⟨l, hl⟩ : ∃ l, heapsOf x = l := ⟨_, rfl⟩
  have hll := HL.out
  rw [hl] at ho1 hll
  have C2 := hid (collect_any p1 v1 l hll w1 (fun W hW => ⟨by rw [hW.block p1 (heap_lt hv1)]; exact hv1, (RowAt.of_own ho1).below hW (Nat.le_refl _)⟩))
  have HB1 := hid hb1; have HP1 := hid hp1; have HLL := hid hll; have HE := hid hl
  clear hv1 ho1 hb1 hp1 hll hl C1
  gi_wp2
  refine ⟨trivial, (callsIn_wide.2 C2.out).mono ?_⟩
  rintro e w2 ⟨u, rfl, ho2, hb2⟩
  obtain ⟨au, cu, rfl, _⟩ := ownsRow_form ho2
  have hbw2 : Below w.heap.size w w2 := (HB.out.trans (HB1.out.mono HB.out.size)).trans (hb2.mono (Nat.le_trans HB.out.size HB1.out.size))
  have y0 : w2.heap[w.heap.size]? = some (.cells #[.bool x.fin, vs, .int .i64 x.k, vp, vr, vf] 46 (0, 0)) := by
    have h := heap_lt Z0.out
    rw [hb2.block _ (by have := HB1.out.size; omega), HB1.out.block _ h]; exact Z0.out
  have y2 : w2.heap[w.heap.size + 1 + 1]? = some (.cells #[.bool false] 4 (0, 0)) := by
    have h := heap_lt Z2.out
    rw [hb2.block _ (by have := HB1.out.size; omega), HB1.out.block _ h]; exact Z2.out
  have HW2S := hid hbw2.size
  obtain ⟨q, hq⟩ : ∃ q, q = w2.heap.size := ⟨_, rfl⟩
  obtain ⟨W3, hW3⟩ : ∃ W3, W3 = w2.alloc (.cells #[.slice au l.length cu] 44) := ⟨_, rfl⟩
  have hb3 : Below w.heap.size w W3 := by rw [hW3]; exact hbw2.alloc hbw2.size _
  have x0 : W3.heap[w.heap.size]? = some (.cells #[.bool x.fin, vs, .int .i64 x.k, vp, vr, vf] 46 (0, 0)) := by rw [hW3]; exact heap_alloc_keep y0 _
  have x2 : W3.heap[w.heap.size + 1 + 1]? = some (.cells #[.bool false] 4 (0, 0)) := by rw [hW3]; exact heap_alloc_keep y2 _
  have xq : W3.heap[q]? = some (.cells #[.slice au l.length cu] 44 (0, 0)) := by rw [hW3, hq]; exact heap_alloc_at _ _ rfl
  have o3 : W3.ownsRow w1.heap.size 33 2 (.slice au l.length cu) l.length (flatH l) := by rw [hW3]; exact ho2.alloc _
  have C3 := hid (heaps_any _ x W3 (HS.out.below hb3 (Nat.le_refl _)) HM.out HCN.out)
  have c00 := heap_cell x0 0; have c01 := heap_cell x0 1; have c02 := heap_cell x0 2; have c03 := heap_cell x0 3; have c04 := heap_cell x0 4; have c05 := heap_cell x0 5
  simp at c00 c01 c02 c03 c04 c05
  have HB3 := hid hb3; have X2 := hid x2; have XQ := hid xq; have O3 := hid o3; have HW3 := hid hW3; have HQ := hid hq
  rw [hW3] at c00 c01 c02 c03 c04 c05
  clear hbw2 y0 y2 hb3 x0 x2 xq o3 hW3 hq ho2 hb2 C2 HB1 Z0 Z2
  gi_wp2
  rw [← HW3.out]
  refine ⟨trivial, (callsIn_wide.2 C3.out).mono ?_⟩
  rintro e w4 ⟨p2, rfl, hp2, hb4, v2, hv2, ho4, _⟩
  gi_wp2
  rw [HE.out] at ho4
  have hbe : Below w.heap.size w w4 := HB3.out.trans (hb4.mono HB3.out.size)
  have hq4 := HW2S.out
  have hI0 : AlI w w2.heap.size (w.heap.size + 1 + 1) p2 v2 (.slice au l.length cu) l [] w4 := by
    refine ⟨⟨au, cu, fun hz => ?_, by rw [← HQ.out, hb4.block _ (heap_lt XQ.out)]; simpa using XQ.out⟩, ownsRow_low (ownsRow_upd O3.out (Upd.of_below hb4 : Upd (fun _ => False) _ _) (fun _ _ h => h)) (Nat.zero_le _), by rw [hb4.block _ (heap_lt X2.out)]; exact X2.out, hv2, ownsRow_low ho4 (Nat.zero_le _), by have h := heap_lt XQ.out; have := HQ.out; omega, hq4, hbe⟩
    obtain ⟨g, cap, cur, e, _, hcap, _⟩ := ownsRow_some O3.out hz
    simp only [Value.slice.injEq, true_and] at e
    obtain ⟨rfl, rfl⟩ := e
    exact ⟨⟨g, _, rfl, by simp⟩, by simpa using hcap⟩
  have hle : w.heap.size ≤ w4.heap.size := hbe.size
  clear hbe hv2 ho4 hb4 c00 c01 c02 c03 c04 c05
  refine wpIn_range_box (F := Fence.wide) (n := 6) rfl (by omega) (gf := 154) (lb := #[.pointer (some ⟨p2, 0, none⟩)]) rfl trivial (enters_of Tryz.func154 (by kernel_rfl) rfl)
    (encs := fun x : Hp => #[.agg (cellsH x).toArray]) (fun _ => rfl) (fun _ _ => True) (AlI w w2.heap.size (w.heap.size + 1 + 1) p2 v2 (.slice au l.length cu) l) (fun _ _ _ => False)
    (fun _ _ => trivial) (fun _ _ _ _ _ _ _ => trivial)
    (fun pre W q o o' hl h ho hi => hi.putObj o' (by omega) h ho) (fun c pre W q o o' hl h ho hi => hi)
    (fun o o' => (hI0.alloc o).alloc o') (fun x => .cells (cellsH x).toArray 33) (fun pre W x hi => hi.alloc _) (fun _ _ => trivial)
    (fun y B => { tmps := #[.agg #[.bool x.fin, vs, .int .i64 x.k, vp, vr, vf], .agg #[.bool x.fin, us, .int .i64 x.k, up, ur, uf], .pointer (some ⟨w.heap.size, 0, none⟩), .pointer (some ⟨w.heap.size + 1, 0, none⟩), .pointer (some ⟨w.heap.size + 1 + 1, 0, none⟩), .pointer (some ⟨w2.heap.size, 0, none⟩), .pointer (some ⟨B, 0, none⟩), .agg #[.bool x.fin, us, .int .i64 x.k, up, ur, uf], .func (.func 154) #[] #[.pointer (some ⟨p1, 0, none⟩)], .slice au l.length cu, .agg #[.bool x.fin, vs, .int .i64 x.k, vp, vr, vf], .func (.func 154) #[] #[.pointer (some ⟨p2, 0, none⟩)], .agg (cellsH y).toArray, undef, undef, undef, undef, undef, undef, undef, undef, undef, undef, undef, undef, undef, undef, undef], defers := [] })
    (heaps_iter 5 p2 (by omega) v2 l HLL.out w4 _ _ _ (fun pre W hi => hi.g) (fun pre W x hi => hi.alloc _)) ?assign ?body ?done ?stop
  case assign =>
    clear hI0
    intro q x W K hK
    rw [show (cellsH x).toArray = #[.int .i64 x.k, .int .i64 x.n] from rfl] at hK ⊢
    gi_wp2
    exact hK
  case body =>
    rintro q pre y W B hi hlen hB hBl
    obtain ⟨ao, c, hlt, hbq⟩ := hi.left
    have hpl : pre.length + 1 ≤ l.length := by have := hlen.length_le; simpa using this
    obtain ⟨⟨b, cap, eu, rfl⟩, hc⟩ := hlt (by omega)
    simp only [Value.slice.injEq, true_and] at eu
    obtain ⟨rfl, rfl⟩ := eu
    have hy : l[pre.length]? = some y := by
      obtain ⟨r, hr⟩ := hlen
      rw [← hr]; simp
    obtain ⟨b', off', e1, _, r0, r1⟩ := hps_at (RowAt.of_own hi.own) hy
    simp only [Option.some.injEq, Addr.mk.injEq, and_true] at e1
    obtain ⟨rfl, rfl⟩ := e1
    simp only [Nat.zero_add] at r0 r1
    have cq := heap_cell hbq 0
    have fq := heap_frozen hbq 0
    have cb0 := heap_cell hB 0; have cb1 := heap_cell hB 1
    simp [cellsH] at cq cb0 cb1
    obtain ⟨m, hm⟩ : ∃ m, l.length - pre.length = m + 1 := ⟨l.length - pre.length - 1, by omega⟩
    rw [hm] at cq hc
    have h0 : ((m : Int) + 1 = 0) = False := by simp; omega
    have h1 : (((m : Int) + 1) == 0) = false := by simp; omega
    have h2 : (0 : Int) < (m : Int) + 1 := by omega
    have HI := hid hi; have HBQ := hid hbq; have HM1 := hid hm; have HPL := hid hpl; have HBL := hid hBl
    clear hI0 hi hbq hm hpl hlen hB hy hBl
    gi_wp2
    gi_region
    all_goals (clear cb0 cb1 r0 r1 h0 h1; gi_wp2)
    all_goals refine ⟨?_, trivial, HI.out.step HM1.out fun hm0 => ?_⟩
    all_goals first
      | exact (KeepsOthers.setCell _ _ _).trans (KeepsOthers.drew _)
      | exact ⟨⟨_, _, rfl, rfl⟩, by omega⟩
      | (exfalso; omega)
  case done =>
    clear hI0
    rintro D xs W hxs hi hK hle
    obtain rfl : xs = l := hxs
    obtain ⟨ao, c, _, hbq⟩ := hi.left
    have cq := heap_cell hbq 0
    have ct := heap_cell hi.told 0
    have ft := heap_frozen hi.told 0
    simp at cq ct
    have HI := hid hi; have HKD := hid hK
    clear hi hK hbq
    gi_wp2
    have hK2 := (KeepsOthers.setCell W ⟨w.heap.size + 1 + 1, 0, none⟩ (.bool true)).same D _ HKD.out rfl
    refine ⟨by simp, .inl ⟨_, _, rfl, run_takeDeferred hK2, ?_⟩⟩
    have z4 := heap_set_at HI.out.told 0 (.bool true)
    have z5 := heap_putObj (.deferred none) hK2 rfl z4
    have c5 := heap_cell z5 0
    simp at c5
    refine ⟨.bool true, by simp [results, Tryz.results137, go_sem, c5], rfl, ?_⟩
    have h1 := Below.setCell (p := ⟨w.heap.size + 1 + 1, 0, none⟩) HI.out.be (by simp; omega) (.bool true)
    exact h1.trans (putObj_below _ (by omega) h1.size)
  case stop => rintro D c pre W hpre h hK hle; exact h.elim
end
end Go.Proofs.YtlcfkfijomnmnaaGreatDoor
