/- package kind: Heaps: the closure that gathers, and what is handed back. -/
import Derived.Test.YtkgmfbfpmlnfcaaGreatDoorQRoMap
import Derived.RangeFuncKeeps
import Derived.RangeFuncNested
import Derived.RangeFuncBound
import Derived.RangeFuncCalls
import Derived.RangeFuncLeaves
import Derived.Shelf.Abstract
import Derived.Shelf.RegionOpen
import Derived.WalkKit
import Derived.OwnWalkIn
import Derived.TacticsInMore
import Derived.LoopNIn
import Derived.LoopIn
import Derived.Test.YtkgmfbfpmlnfcaaGreatDoorRows
namespace Go.Proofs.YtkgmfbfpmlnfcaaGreatDoor
open Go.RowKit

/-- What the gathering closure keeps: a box p with a row of its own. -/
structure FoundJ (p B : Nat) (s : List Hp) (n : Nat) (T : Nat → Prop) (w : World) : Prop where
  ex : ∃ v, w.heap[p]? = some (.cells #[v] 37 (0, 0)) ∧ w.ownsRow B 49 2 v s.length (flatH s) ∧ v.ownBlock ≠ some p ∧ (∀ b, T b ↔ (b = p ∨ v.ownBlock = some b))
  cnt : s.length + n ≤ 1000000
  le : B ≤ w.heap.size
def gather (s : List Hp) (h : Hp) : Hp × List Hp := (h, s ++ [h])
set_option maxRecDepth 100000 in
set_option maxHeartbeats 8000000 in
theorem found_ok (p B : Nat) (hp : B ≤ p) : FnOk Tryz.prog cellsH (fun _ => True) 82 #[.pointer (some ⟨p, 0, none⟩)] gather (FoundJ p B) B where
  enter := fun _ _ => rfl
  lt := fun h => ⟨fun b hb => by
    obtain ⟨v, h1, h2, h3, h4⟩ := h.ex
    rcases (h4 b).1 hb with rfl | e
    · exact heap_lt h1
    · exact (h2.lt b e).2, h.le⟩
  keep := fun h u => ⟨by
    obtain ⟨v, h1, h2, h3, h4⟩ := h.ex
    exact ⟨v, u.heap_some h1 (fun hk => hk.2 ((h4 p).2 (.inl rfl))), ownsRow_upd h2 u (fun b hb hk => hk.2 ((h4 b).2 (.inr hb))), h3, h4⟩, h.cnt, Nat.le_trans h.le u.size⟩
  less := fun h hm => ⟨h.ex, by have := h.cnt; omega, h.le⟩
  call := by
    intro s n T w x _ hj
    obtain ⟨v, hb, ho, hne, hT⟩ := hj.ex
    obtain ⟨i0, hi, hz0, hz1, hz2⟩ := info_parts Tryz.infoHeap
    have Hi := Lib.hid hi; have Hz0 := Lib.hid hz0; have Hz1 := Lib.hid hz1; have Hz2 := Lib.hid hz2
    rw [show cellsH x = [.int .i64 x.k, .int .i64 x.n] from rfl]
    show Calls Tryz.prog 82 #[.agg #[.int .i64 x.k, .int .i64 x.n], .pointer (some ⟨p, 0, none⟩)] w _
    obtain ⟨W0, hW⟩ : ∃ W0 : World, W0 = (((w.alloc (.cells #[.int .i64 x.k, .int .i64 x.n] 49)).alloc (.cells #[.int .i64 0, .int .i64 0] 49)).alloc (.cells #[.int .i64 x.k, .int .i64 x.n] 49)) := ⟨_, rfl⟩
    have hsz : W0.heap.size = w.heap.size + 3 := by rw [hW]; simp
    have z0 : W0.heap[w.heap.size]? = some (.cells #[.int .i64 x.k, .int .i64 x.n] 49 (0, 0)) := by rw [hW]; exact heap_alloc_keep (heap_alloc_keep (heap_alloc_at _ _ rfl) _) _
    have z1 : W0.heap[w.heap.size + 1]? = some (.cells #[.int .i64 0, .int .i64 0] 49 (0, 0)) := by rw [hW]; exact heap_alloc_keep (heap_alloc_at _ _ (by simp)) _
    have z2 : W0.heap[w.heap.size + 1 + 1]? = some (.cells (cellsH x).toArray 49 (0, 0)) := by rw [hW]; exact heap_alloc_at _ _ (by simp)
    have zp : W0.heap[p]? = some (.cells #[v] 37 (0, 0)) := by rw [hW]; exact heap_alloc_keep (heap_alloc_keep (heap_alloc_keep hb _) _) _
    have u0 : Upd T w W0 := by rw [hW]; exact (((Upd.refl _ w).alloc _).alloc _).alloc _
    have ho0 : W0.ownsRow B 49 2 v s.length (flatH s) := by rw [hW]; exact ((ho.alloc _).alloc _).alloc _
    have hcp := heap_cell hb 0
    simp at hcp
    obtain ⟨ao, cap, rfl, _⟩ := ownsRow_form ho
    have hcq := cell_alloc (cell_alloc hcp (.cells #[.int .i64 x.k, .int .i64 x.n] 49)) (.cells #[.int .i64 0, .int .i64 0] 49)
    have hpw := heap_lt hb
    have hlen := hj.cnt
    have HO := Lib.hid ho0; have HW := Lib.hid hW; have HSZ := Lib.hid hsz; have Z0 := Lib.hid z0; have Z1 := Lib.hid z1; have Z2 := Lib.hid z2; have ZP := Lib.hid zp; have HU := Lib.hid u0; have HJ := Lib.hid hj; have HNE := Lib.hid hne; have HT := Lib.hid hT; have HPW := Lib.hid hpw; have HOw := Lib.hid ho
    have HR := Lib.hid (row_cells (cs := cellsH x) z2)
    clear hb ho hne hT hi hz0 hz1 hz2 hW hsz z0 z1 z2 zp u0 ho0 hj hpw
    go_enter Tryz.func82, Tryz.ntmps82
    go_wp2_with (at_builtin; rw [← HW.out]; refine wpList_append_own2 _ rfl _ _ 37 rfl B 49 i0 _ 2 16 Tryz.underlying37 Hi.out Hz0.out Hz1.out Hz2.out rfl (by decide) _ _ _ rfl HO.out ⟨w.heap.size + 1 + 1, 0, none⟩ 1 1 (cellsH x) rfl rfl HR.out (one_H x) (by simp [maxLen]; omega) (by omega) (by have := HJ.out.le; rw [HSZ.out]; omega) (by decide) ?_)
    intro v2 w2 o2 gr2 mv2
    have g0 := gr2.block (w.heap.size) (by rw [HSZ.out]; omega) (fun e => by have := (HOw.out.lt _ e.symm).2; omega)
    have g1 := gr2.block (w.heap.size + 1) (by rw [HSZ.out]; omega) (fun e => by have := (HOw.out.lt _ e.symm).2; omega)
    have gp := gr2.block p (by rw [HSZ.out]; have := HPW.out; omega) (fun e => HNE.out e.symm)
    rw [Z0.out] at g0
    rw [Z1.out] at g1
    rw [ZP.out] at gp
    have c00 := heap_cell g0 0; have c01 := heap_cell g0 1
    have c10 := heap_cell g1 0; have c11 := heap_cell g1 1
    have cp0 := heap_cell gp 0
    have f1 := fun i => heap_frozen g1 i
    have fp := fun i => heap_frozen gp i
    simp at c00 c01 c10 c11 cp0
    obtain ⟨ao2, cap2, rfl, _⟩ := ownsRow_form o2
    have HO2 := Lib.hid o2; have HG := Lib.hid gr2; have HM := Lib.hid mv2; have G0 := Lib.hid g0; have G1 := Lib.hid g1; have GP := Lib.hid gp
    clear o2 gr2 mv2 g0 g1 gp hcp hcq
    have hn0 : ¬ p = w.heap.size := by have := HPW.out; omega
    have hn0' : ¬ w.heap.size = p := by have := HPW.out; omega
    have hn1 : ¬ p = w.heap.size + 1 := by have := HPW.out; omega
    have hn1' : ¬ w.heap.size + 1 = p := by have := HPW.out; omega
    go_wp2
    refine bodyPost_ret (v := .agg #[.int .i64 x.k, .int .i64 x.n]) (by simp [results, Tryz.results82, go_sem, c10, c11]) rfl ?_
    have q1 : p < w.heap.size := HPW.out
    have hT := HT.out
    have u2 : Upd T w w2 := HU.out.grown HG.out (fun k hk => .inl ((hT k).2 (.inr hk)))
    have uf := ((u2.setCell (p := ⟨p, 0, none⟩) (.inl ((hT p).2 (.inl rfl))) (.slice ao2 (s.length + 1) cap2)).setCell (p := ⟨w.heap.size + 1, 0, none⟩) (.inr (by simp)) (.int .i64 x.k)).setCell (p := ⟨w.heap.size + 1, 1, none⟩) (.inr (by simp)) (.int .i64 x.n)
    have zp := heap_set_off (heap_set_off (heap_set_at GP.out 0 (.slice ao2 (s.length + 1) cap2)) (a := ⟨w.heap.size + 1, 0, none⟩) hn1 (.int .i64 x.k)) (a := ⟨w.heap.size + 1, 1, none⟩) hn1 (.int .i64 x.n)
    have hmv := HM.out
    have hb2 : ∀ b, (Value.slice ao2 (s.length + 1) cap2).ownBlock = some b → b ≠ p ∧ b ≠ w.heap.size + 1 := fun b hb => by
      rcases hmv with e | e
      · rw [e] at hb
        exact ⟨fun e1 => HNE.out (by rw [← e1]; exact hb), fun e1 => by have := (HOw.out.lt b hb).2; omega⟩
      · have := e b hb; rw [HSZ.out] at this; omega
    have us : Upd (fun b => b = p ∨ b = w.heap.size + 1) w2 (((w2.setCell ⟨p, 0, none⟩ (.slice ao2 (s.length + 1) cap2)).setCell ⟨w.heap.size + 1, 0, none⟩ (.int .i64 x.k)).setCell ⟨w.heap.size + 1, 1, none⟩ (.int .i64 x.n)) :=
      (((Upd.refl _ w2).setCell (.inl (.inl rfl)) _).setCell (.inl (.inr rfl)) _).setCell (.inl (.inr rfl)) _
    refine ⟨fun b => b = p ∨ (Value.slice ao2 (s.length + 1) cap2).ownBlock = some b, rfl, ⟨⟨.slice ao2 (s.length + 1) cap2, by simpa using zp, ?_, fun e => (hb2 p e).1 rfl, fun b => Iff.rfl⟩, by simp [gather]; omega, Nat.le_trans HJ.out.le uf.size⟩, uf, fun b hb => ?_⟩
    · have h := ownsRow_upd HO2.out us (fun b hb hk => by rcases hk with hk | hk; exact (hb2 b hb).1 hk; exact (hb2 b hb).2 hk)
      simpa [gather, flatH] using h
    · rcases hb with rfl | hb
      · exact .inl ((hT _).2 (.inl rfl))
      · rcases hmv with e | e
        · rw [e] at hb; exact .inl ((hT _).2 (.inr hb))
        · have := e b hb; rw [HSZ.out] at this; exact .inr (by omega)
/-- All heap types of a declared type, as Map meets them. -/
def heapsOf (x : Sb) : List Hp := (mapSub gather [] x).2
set_option maxRecDepth 100000 in
set_option maxHeartbeats 8000000 in
theorem heaps_any (cs : List Value) (x : Sb) (w : World) (hs : SubAt w cs x) (hm : Small x) (hc : cnt x ≤ 1000000) :
    Calls Tryz.prog 77 #[.agg cs.toArray] w fun e w' => ∃ p, e = .returned (.func (.func 83) #[] #[.pointer (some ⟨p, 0, none⟩)]) ∧ w.heap.size ≤ p ∧ Below w.heap.size w w' ∧ ∃ v, w'.heap[p]? = some (.cells #[v] 37 (0, 0)) ∧ w'.ownsRow w.heap.size 49 2 v (heapsOf x).length (flatH (heapsOf x)) ∧ v.ownBlock ≠ some p := by
  obtain ⟨vs, vp, vr, vf, rfl, _, _, _, _⟩ := hs.ex
  have hmf : ∀ (fn : Fn) (first cap : Array Value) (w : World), (Instr.makeFunc fn first cap).run Tryz.prog w = .ok (.func fn first cap) w := fun _ _ _ _ => rfl
  obtain ⟨W0, hW⟩ : ∃ W0 : World, W0 = ((w.alloc (.cells #[.bool x.fin, vs, .int .i64 x.k, vp, vr, vf] 44)).alloc (.cells #[.slice none 0 0] 37)) := ⟨_, rfl⟩
  have hb0 : Below w.heap.size w W0 := by rw [hW]; exact ((Below.refl _ _).alloc (Nat.le_refl _) _).alloc (by simp) _
  have hsz : W0.heap.size = w.heap.size + 2 := by rw [hW]; simp
  have z1 : W0.heap[w.heap.size + 1]? = some (.cells #[.slice none 0 0] 37 (0, 0)) := by rw [hW]; exact heap_alloc_at _ _ (by simp)
  have hj : FoundJ (w.heap.size + 1) (w.heap.size + 1) [] (cnt x + 0) (fun b => b = w.heap.size + 1) W0 :=
    ⟨⟨_, z1, owns_zero _ _ _ _, by simp [Value.ownBlock], fun b => by simp [Value.ownBlock]⟩, by simpa using hc, by omega⟩
  have hmap := map_any (found_ok (w.heap.size + 1) (w.heap.size + 1) (Nat.le_refl _)) [.bool x.fin, vs, .int .i64 x.k, vp, vr, vf] x [] 0 (fun b => b = w.heap.size + 1) W0
    (fun w' hu => hs.below (hb0.trans (hu.below (B := w.heap.size) (fun k hk => by omega) hb0.size)) (Nat.le_refl _)) hm ⟨fun _ _ => trivial, fun _ _ _ => trivial, fun _ _ _ => trivial, fun _ _ _ => trivial⟩ hj
  have HM := Lib.hid hmap; have HW := Lib.hid hW; have HB := Lib.hid hb0; have HSZ := Lib.hid hsz
  clear hmap hW hb0 hsz z1 hj hs hm hc
  go_enter Tryz.func77, Tryz.ntmps77
  go_wp2_with fail
  rw [← HW.out]
  refine HM.out.mono ?_
  rintro e w1 ⟨ds, rfl, T1, _, hj1, hu1, _⟩
  have hbw : Below w.heap.size w w1 := HB.out.trans (hu1.below (B := w.heap.size) (fun k hk => by omega) HB.out.size)
  obtain ⟨v, b1, o1, n1, _⟩ := hj1.ex
  have HBW := Lib.hid hbw; have B1 := Lib.hid b1; have O1 := Lib.hid o1; have N1 := Lib.hid n1
  clear hj1 hu1 hbw b1 o1 n1
  go_wp2
  go_ret
  exact ⟨w.heap.size + 1, rfl, by omega, HBW.out, v, B1.out, ownsRow_low O1.out (by omega), N1.out⟩
end Go.Proofs.YtkgmfbfpmlnfcaaGreatDoor

/- Of no program: a range over a function whose iterator keeps state of its own in cells: the iterator's contract is asked at the caller's own invariant; what is known of the next element is handed to the body. -/
namespace Go.Proofs.YtkgmfbfpmlnfcaaGreatDoor
open Go.RowKit Go.Shelf

/-- How a round's body may be left: on it goes, or by a jump. -/
def roundWay {α : Type} (Kp : World → World → Prop) (I : List α → World → Prop) (Ix : Code → List α → World → Prop) (xs : List α) (W : World) : Exit → Act → World → Prop
  | .normal, _, W' => KeepsOthers W W' ∧ Kp W W' ∧ I xs W'
  | .ret, _, W' => KeepsOthers W W' ∧ Ix .ret xs W'
  | .exit id, _, W' => KeepsOthers W W' ∧ Ix (.exit id) xs W'
  | .goto t, _, W' => KeepsOthers W W' ∧ Ix (.goto t) xs W'
  | .panic _, _, _ => False
  | .outgrown, _, _ => False

/-- What is asked of the iterator, at the loop's own invariant; L and L' stand for the loop's record, which whatever turns cells alone keeps. -/
def IterAt {α : Type} (F : Fence) (n : Nat) (P : Program) (gf : Nat) (lb : Array Value) (encs : α → Array Value) (w : World) (Kp : World → World → Prop) (I : List α → World → Prop) (Ix : Code → List α → World → Prop) (S Sp : List α → Prop) (G : List α → α → Prop) : Prop :=
  ∀ (l : Nat) (L : World → Prop) (L' : Code → World → Prop) (W1 : World), (∀ W W', KeepsOthers W W' → L W → L W') → (∀ c W W', KeepsOthers W W' → L' c W → L' c W') → Below w.heap.size w W1 →
    (∀ pre x W, I pre W → L W → G pre x → YieldAt F (n - 1) P l (encs x) W fun e W' =>
      (e = .returned (.bool true) ∧ I (pre ++ [x]) W' ∧ Kp W W' ∧ L W') ∨ (e = .returned (.bool false) ∧ ∃ c, Ix c (pre ++ [x]) W' ∧ L' c W')) →
    I [] W1 → L W1 →
    CallsIn F n P gf (#[.func (.yield l) #[] #[]] ++ lb) W1 fun e W' => (∃ v, e = .returned v) ∧ ((∃ xs, S xs ∧ I xs W' ∧ L W') ∨ (∃ pre c, Sp pre ∧ Ix c pre W' ∧ L' c W'))

variable {F : Fence} {n : Nat} {P : Program}

theorem wpIn_range_at {α : Type} {g : Operand} {ps : Array Tmp} {assign body : Code} {Q : Exit → Act → World → Prop} {a : Act} {w : World}
    (hro : F.round = none) (h1 : 1 ≤ n) {gf : Nat} {lb : Array Value} (hg : a.eval g = .func (.func gf) #[] lb) (hFg : F.fn gf) (eg : ∀ args w, (callFunc gf args).run P w = .ok (.enter gf args) w)
    {encs : α → Array Value} (hps : ∀ x, (encs x).size = ps.size) {S Sp : List α → Prop} {G : List α → α → Prop} (Kp : World → World → Prop) (I : List α → World → Prop) (Ix : Code → List α → World → Prop)
    (hKt : ∀ {A B C : World}, Kp A B → Kp B C → Kp A C) (hKp : ∀ W l o o', w.heap.size ≤ l → W.heap[l]? = some o → o.isCells = false → Kp W (W.putObj l o'))
    (hIp : ∀ pre W l o o', w.heap.size ≤ l → W.heap[l]? = some o → o.isCells = false → I pre W → I pre (W.putObj l o'))
    (hIxp : ∀ c pre W l o o', w.heap.size ≤ l → W.heap[l]? = some o → o.isCells = false → Ix c pre W → Ix c pre (W.putObj l o'))
    (h0 : ∀ o o', I [] ((w.alloc o).alloc o')) (a₁ : α → Act)
    (hiter : IterAt F (n - 1) P gf lb encs w Kp I Ix S Sp G)
    (hassign : ∀ (l : Nat) (x : α) (W : World) (K : Act → World → Prop), K (a₁ x) W →
      assign.wpIn (F.inRound l) (n - 1 - 1) P (Exit.then K (fun _ _ _ => False)) { tmps := (ps.zip (encs x)).foldl (fun t (p, v) => t.setIfInBounds p v) a.tmps, defers := [] } W)
    (hbody : ∀ (l : Nat) (pre : List α) (x : α) (W : World), I pre W → G pre x → body.wpIn (F.inRound l) (n - 1 - 1) P (roundWay Kp I Ix (pre ++ [x]) W) (a₁ x) W)
    (hdone : ∀ (D : Nat) (xs : List α) (W : World), S xs → I xs W → W.heap[D]? = some (.deferred (some [])) → w.heap.size ≤ D → Q .normal { a with defers := { target := .collected D, args := #[] } :: a.defers } W)
    (hstop : ∀ (D : Nat) (c : Code) (pre : List α) (W : World), Sp pre → Ix c pre W → W.heap[D]? = some (.deferred (some [])) → w.heap.size ≤ D → c.wpIn F n P Q { a with defers := { target := .collected D, args := #[] } :: a.defers } W) :
    (Code.rangeFunc g ps assign body).wpIn F n P Q a w := by
  refine wpIn_rangeFunc fun fn hfn => ?_
  rw [hro]
  -- the loop's record in its states, its block and the block of the deferred calls
  let mk : LoopState → Option Code → Loop := fun st pe => { state := st, pending := pe, fn, tmps := a.tmps, params := ps, assign, body, defers := w.heap.size }
  let R : LoopState → Option Code → World → Prop := fun st pe W => W.heap[w.heap.size + 1]? = some (.loop (mk st pe)) ∧ W.heap[w.heap.size]? = some (.deferred (some []))
  have keep : ∀ st pe W W', KeepsOthers W W' → R st pe W → R st pe W' := fun st pe W W' hk h => ⟨hk.same _ _ h.1 rfl, hk.same _ _ h.2 rfl⟩
  have turn : ∀ st pe st' pe' W, R st pe W → R st' pe' (W.putObj (w.heap.size + 1) (.loop (mk st' pe'))) := fun st pe st' pe' W h =>
    ⟨World.putObj_heap_same (Array.getElem?_eq_some_iff.1 h.1).1, (World.putObj_heap_other (by omega)).trans h.2⟩
  have start : R .ready none ((w.alloc (.deferred (some []))).alloc (.loop (mk .ready none))) := by
    constructor
    · have := World.alloc_heap_new (w.alloc (.deferred (some []))) (.loop (mk .ready none))
      rwa [World.size_alloc] at this
    · exact (Below.heap_alloc _ _ _ (by simp)).trans (World.alloc_heap_new w _)
  refine ⟨w.heap.size + 1, [{ target := .collected w.heap.size, args := #[] }], (w.alloc (.deferred (some []))).alloc (.loop (mk .ready none)), { target := .fn (.func gf) lb, args := #[.func (.yield (w.heap.size + 1)) #[] #[]] }, (w.alloc (.deferred (some []))).alloc (.loop (mk .ready none)), gf,
    #[.func (.yield (w.heap.size + 1)) #[] #[]] ++ lb, (w.alloc (.deferred (some []))).alloc (.loop (mk .ready none)), run_enterLoop_outer _ _ _ _ _, ?_, ?_, ?_, fun _ => h1, ?_⟩
  · simp only [resolve, hg]
    simp [go_sem]
  · intro f' hf'
    simp [Target.leads] at hf'
    subst hf'
    exact hFg
  · simp [invoke, go_sem, eg]
  refine (hiter (w.heap.size + 1) (R .ready none) (fun c => R .done (some c)) _ (keep _ _) (fun c => keep _ _) (((Below.refl _ w).alloc (Nat.le_refl _) _).alloc (by simp) _) ?_ (h0 _ _) start).mono ?_
  · intro pre x W hi hl hlen
    refine ⟨fn, _, assign, body, run_yield hl.1 (hps x), roundIn_of_wpIn hfn (hassign _ x W _ ⟨_, run_beginRound hl.1 rfl, ?_⟩)⟩
    have hb := turn _ _ .busy none W hl
    refine wpIn_mono (hbody _ pre x _ (hIp _ _ _ _ _ (by omega) hl.1 rfl hi) hlen) ?_
    rintro e a3 W3 hp
    cases e with
    | normal =>
      have h3 := keep _ _ _ _ hp.1 hb
      exact ⟨_, _, run_endRound none h3.1, .inl ⟨rfl, hIp _ _ _ _ _ (by omega) h3.1 rfl hp.2.2, hKt (hKt (hKp _ _ _ _ (by omega) hl.1 rfl) hp.2.1) (hKp _ _ _ _ (by omega) h3.1 rfl), turn _ _ .ready none W3 h3⟩⟩
    | ret =>
      have h3 := keep _ _ _ _ hp.1 hb
      exact ⟨_, _, run_endRound (some .ret) h3.1, .inr ⟨rfl, .ret, hIxp _ _ _ _ _ _ (by omega) h3.1 rfl hp.2, turn _ _ .done (some .ret) W3 h3⟩⟩
    | exit id =>
      have h3 := keep _ _ _ _ hp.1 hb
      exact ⟨_, _, run_endRound (some (.exit id)) h3.1, .inr ⟨rfl, .exit id, hIxp _ _ _ _ _ _ (by omega) h3.1 rfl hp.2, turn _ _ .done (some (.exit id)) W3 h3⟩⟩
    | goto t =>
      have h3 := keep _ _ _ _ hp.1 hb
      exact ⟨_, _, run_endRound (some (.goto t)) h3.1, .inr ⟨rfl, .goto t, hIxp _ _ _ _ _ _ (by omega) h3.1 rfl hp.2, turn _ _ .done (some (.goto t)) W3 h3⟩⟩
    | panic ch => exact hp.elim
    | outgrown => exact hp.elim
  · rintro e W2 ⟨⟨v, rfl⟩, (⟨xs, hS, hi, hl⟩ | ⟨pre, c, hSp, hi, hl⟩)⟩
    · exact ⟨none, _, run_endLoop hl.1 (by simp [mk]), hdone _ xs _ hS (hIp _ _ _ _ _ (by omega) hl.1 rfl hi) ((World.putObj_heap_other (by omega)).trans hl.2) (Nat.le_refl _)⟩
    · exact ⟨some c, _, run_endLoop hl.1 (by simp [mk]), hstop _ c pre _ hSp (hIxp _ _ _ _ _ _ (by omega) hl.1 rfl hi) ((World.putObj_heap_other (by omega)).trans hl.2) (Nat.le_refl _)⟩
end Go.Proofs.YtkgmfbfpmlnfcaaGreatDoor

/- Of no program: a range over a function whose iterator keeps state of its own in cells, where each round's variable lies in a box of its own. -/
namespace Go.Proofs.YtkgmfbfpmlnfcaaGreatDoor
open Go.RowKit Go.Shelf

variable {F : Fence} {n : Nat} {P : Program}

theorem wpIn_range_box {α : Type} {g : Operand} {ps : Array Tmp} {assign body : Code} {Q : Exit → Act → World → Prop} {a : Act} {w : World}
    (hro : F.round = none) (h1 : 1 ≤ n) {gf : Nat} {lb : Array Value} (hg : a.eval g = .func (.func gf) #[] lb) (hFg : F.fn gf) (eg : ∀ args w, (callFunc gf args).run P w = .ok (.enter gf args) w)
    {encs : α → Array Value} (hps : ∀ x, (encs x).size = ps.size) {S Sp : List α → Prop} {G : List α → α → Prop} (Kp : World → World → Prop) (I : List α → World → Prop) (Ix : Code → List α → World → Prop)
    (hKt : ∀ {A B C : World}, Kp A B → Kp B C → Kp A C) (hKp : ∀ W l o o', w.heap.size ≤ l → W.heap[l]? = some o → o.isCells = false → Kp W (W.putObj l o'))
    (hIp : ∀ pre W l o o', w.heap.size ≤ l → W.heap[l]? = some o → o.isCells = false → I pre W → I pre (W.putObj l o'))
    (hIxp : ∀ c pre W l o o', w.heap.size ≤ l → W.heap[l]? = some o → o.isCells = false → Ix c pre W → Ix c pre (W.putObj l o'))
    (h0 : ∀ o o', I [] ((w.alloc o).alloc o')) (bx : α → Obj) (hIa : ∀ pre W x, I pre W → I pre (W.alloc (bx x))) (hKa : ∀ W x, Kp W (W.alloc (bx x))) (a₁ : α → Nat → Act)
    (hiter : IterAt F (n - 1) P gf lb encs w Kp I Ix S Sp G)
    (hassign : ∀ (l : Nat) (x : α) (W : World) (K : Act → World → Prop), K (a₁ x W.heap.size) (W.alloc (bx x)) →
      assign.wpIn (F.inRound l) (n - 1 - 1) P (Exit.then K (fun _ _ _ => False)) { tmps := (ps.zip (encs x)).foldl (fun t (p, v) => t.setIfInBounds p v) a.tmps, defers := [] } W)
    (hbody : ∀ (l : Nat) (pre : List α) (x : α) (W : World) (B : Nat), I pre W → G pre x → W.heap[B]? = some (bx x) → w.heap.size ≤ B → body.wpIn (F.inRound l) (n - 1 - 1) P (roundWay Kp I Ix (pre ++ [x]) W) (a₁ x B) W)
    (hdone : ∀ (D : Nat) (xs : List α) (W : World), S xs → I xs W → W.heap[D]? = some (.deferred (some [])) → w.heap.size ≤ D → Q .normal { a with defers := { target := .collected D, args := #[] } :: a.defers } W)
    (hstop : ∀ (D : Nat) (c : Code) (pre : List α) (W : World), Sp pre → Ix c pre W → W.heap[D]? = some (.deferred (some [])) → w.heap.size ≤ D → c.wpIn F n P Q { a with defers := { target := .collected D, args := #[] } :: a.defers } W) :
    (Code.rangeFunc g ps assign body).wpIn F n P Q a w := by
  refine wpIn_rangeFunc fun fn hfn => ?_
  rw [hro]
  -- the loop's record in its states, its block and the block of the deferred calls
  let mk : LoopState → Option Code → Loop := fun st pe => { state := st, pending := pe, fn, tmps := a.tmps, params := ps, assign, body, defers := w.heap.size }
  let R : LoopState → Option Code → World → Prop := fun st pe W => W.heap[w.heap.size + 1]? = some (.loop (mk st pe)) ∧ W.heap[w.heap.size]? = some (.deferred (some []))
  have keep : ∀ st pe W W', KeepsOthers W W' → R st pe W → R st pe W' := fun st pe W W' hk h => ⟨hk.same _ _ h.1 rfl, hk.same _ _ h.2 rfl⟩
  have turn : ∀ st pe st' pe' W, R st pe W → R st' pe' (W.putObj (w.heap.size + 1) (.loop (mk st' pe'))) := fun st pe st' pe' W h =>
    ⟨World.putObj_heap_same (Array.getElem?_eq_some_iff.1 h.1).1, (World.putObj_heap_other (by omega)).trans h.2⟩
  have start : R .ready none ((w.alloc (.deferred (some []))).alloc (.loop (mk .ready none))) := by
    constructor
    · have := World.alloc_heap_new (w.alloc (.deferred (some []))) (.loop (mk .ready none))
      rwa [World.size_alloc] at this
    · exact (Below.heap_alloc _ _ _ (by simp)).trans (World.alloc_heap_new w _)
  refine ⟨w.heap.size + 1, [{ target := .collected w.heap.size, args := #[] }], (w.alloc (.deferred (some []))).alloc (.loop (mk .ready none)), { target := .fn (.func gf) lb, args := #[.func (.yield (w.heap.size + 1)) #[] #[]] }, (w.alloc (.deferred (some []))).alloc (.loop (mk .ready none)), gf,
    #[.func (.yield (w.heap.size + 1)) #[] #[]] ++ lb, (w.alloc (.deferred (some []))).alloc (.loop (mk .ready none)), run_enterLoop_outer _ _ _ _ _, ?_, ?_, ?_, fun _ => h1, ?_⟩
  · simp only [resolve, hg]
    simp [go_sem]
  · intro f' hf'
    simp [Target.leads] at hf'
    subst hf'
    exact hFg
  · simp [invoke, go_sem, eg]
  refine (hiter (w.heap.size + 1) (R .ready none) (fun c => R .done (some c)) _ (keep _ _) (fun c => keep _ _) (((Below.refl _ w).alloc (Nat.le_refl _) _).alloc (by simp) _) ?_ (h0 _ _) start).mono ?_
  · intro pre x W hi hl hlen
    have hla := keep _ _ _ _ (KeepsOthers.alloc W (bx x)) hl
    refine ⟨fn, _, assign, body, run_yield hl.1 (hps x), roundIn_of_wpIn hfn (hassign _ x W _ ⟨_, run_beginRound hla.1 rfl, ?_⟩)⟩
    have hb := turn _ _ .busy none _ hla
    have hls : w.heap.size + 1 < W.heap.size := (Array.getElem?_eq_some_iff.1 hl.1).1
    refine wpIn_mono (hbody _ pre x _ W.heap.size (hIp _ _ _ _ _ (by omega) hla.1 rfl (hIa _ _ _ hi)) hlen ((World.putObj_heap_other (by omega)).trans (World.alloc_heap_new W _)) (by omega)) ?_
    rintro e a3 W3 hp
    cases e with
    | normal =>
      have h3 := keep _ _ _ _ hp.1 hb
      exact ⟨_, _, run_endRound none h3.1, .inl ⟨rfl, hIp _ _ _ _ _ (by omega) h3.1 rfl hp.2.2, hKt (hKt (hKa _ _) (hKt (hKp _ _ _ _ (by omega) hla.1 rfl) hp.2.1)) (hKp _ _ _ _ (by omega) h3.1 rfl), turn _ _ .ready none W3 h3⟩⟩
    | ret =>
      have h3 := keep _ _ _ _ hp.1 hb
      exact ⟨_, _, run_endRound (some .ret) h3.1, .inr ⟨rfl, .ret, hIxp _ _ _ _ _ _ (by omega) h3.1 rfl hp.2, turn _ _ .done (some .ret) W3 h3⟩⟩
    | exit id =>
      have h3 := keep _ _ _ _ hp.1 hb
      exact ⟨_, _, run_endRound (some (.exit id)) h3.1, .inr ⟨rfl, .exit id, hIxp _ _ _ _ _ _ (by omega) h3.1 rfl hp.2, turn _ _ .done (some (.exit id)) W3 h3⟩⟩
    | goto t =>
      have h3 := keep _ _ _ _ hp.1 hb
      exact ⟨_, _, run_endRound (some (.goto t)) h3.1, .inr ⟨rfl, .goto t, hIxp _ _ _ _ _ _ (by omega) h3.1 rfl hp.2, turn _ _ .done (some (.goto t)) W3 h3⟩⟩
    | panic ch => exact hp.elim
    | outgrown => exact hp.elim
  · rintro e W2 ⟨⟨v, rfl⟩, (⟨xs, hS, hi, hl⟩ | ⟨pre, c, hSp, hi, hl⟩)⟩
    · exact ⟨none, _, run_endLoop hl.1 (by simp [mk]), hdone _ xs _ hS (hIp _ _ _ _ _ (by omega) hl.1 rfl hi) ((World.putObj_heap_other (by omega)).trans hl.2) (Nat.le_refl _)⟩
    · exact ⟨some c, _, run_endLoop hl.1 (by simp [mk]), hstop _ c pre _ hSp (hIxp _ _ _ _ _ _ (by omega) hl.1 rfl hi) ((World.putObj_heap_other (by omega)).trans hl.2) (Nat.le_refl _)⟩
end Go.Proofs.YtkgmfbfpmlnfcaaGreatDoor
