/- Of no program: a range over a function whose iterator keeps state of its own in cells: the iterator's contract is asked at the caller's own invariant. -/
import Derived.RangeFuncKeeps
import Derived.RangeFuncNested
import Derived.RangeFuncBound
import Derived.RangeFuncCalls
import Derived.RangeFuncLeaves
import Derived.Shelf.Abstract
import Derived.Shelf.RegionOpen
import Derived.WalkKit
import Derived.OwnWalkIn
import Derived.TacticsInMore
import Derived.LoopNIn
import Derived.LoopIn
import Derived.Test.YtelohkppbmahnaaDoorRows
import Derived.Test.YtelohkppbmahnaaDoorQArKnownPBd
import Derived.Outline
import Derived.WalkSpells
namespace Go.Proofs.YtelohkppbmahnaaDoor
open Go.RowKit Go.Shelf

/-- How a round's body may be left: on it goes, or by a jump. -/
def roundWay {α : Type} (Kp : World → World → Prop) (I : List α → World → Prop) (Ix : Code → List α → World → Prop) (xs : List α) (W : World) : Exit → Act → World → Prop
  | .normal, _, W' => KeepsOthers W W' ∧ Kp W W' ∧ I xs W'
  | .ret, _, W' => KeepsOthers W W' ∧ Ix .ret xs W'
  | .exit id, _, W' => KeepsOthers W W' ∧ Ix (.exit id) xs W'
  | .goto t, _, W' => KeepsOthers W W' ∧ Ix (.goto t) xs W'
  | .panic _, _, _ => False
  | .outgrown, _, _ => False

/-- What is asked of the iterator, at the loop's own invariant; L and L' stand for the loop's record, which whatever turns cells alone keeps. -/
def IterAt {α : Type} (F : Fence) (n : Nat) (P : Program) (gf : Nat) (lb : Array Value) (encs : α → Array Value) (w : World) (Kp : World → World → Prop) (I : List α → World → Prop) (Ix : Code → List α → World → Prop) (S Sp : List α → Prop) (N : Nat) : Prop :=
  ∀ (l : Nat) (L : World → Prop) (L' : Code → World → Prop) (W1 : World), (∀ W W', KeepsOthers W W' → L W → L W') → (∀ c W W', KeepsOthers W W' → L' c W → L' c W') → Below w.heap.size w W1 →
    (∀ pre x W, I pre W → L W → pre.length < N → YieldAt F (n - 1) P l (encs x) W fun e W' =>
      (e = .returned (.bool true) ∧ I (pre ++ [x]) W' ∧ Kp W W' ∧ L W') ∨ (e = .returned (.bool false) ∧ ∃ c, Ix c (pre ++ [x]) W' ∧ L' c W')) →
    I [] W1 → L W1 →
    CallsIn F n P gf (#[.func (.yield l) #[] #[]] ++ lb) W1 fun e W' => (∃ v, e = .returned v) ∧ ((∃ xs, S xs ∧ I xs W' ∧ L W') ∨ (∃ pre c, Sp pre ∧ Ix c pre W' ∧ L' c W'))

variable {F : Fence} {n : Nat} {P : Program}

theorem wpIn_range_at {α : Type} {g : Operand} {ps : Array Tmp} {assign body : Code} {Q : Exit → Act → World → Prop} {a : Act} {w : World}
    (hro : F.round = none) (h1 : 1 ≤ n) {gf : Nat} {lb : Array Value} (hg : a.eval g = .func (.func gf) #[] lb) (hFg : F.fn gf) (eg : ∀ args w, (callFunc gf args).run P w = .ok (.enter gf args) w)
    {encs : α → Array Value} (hps : ∀ x, (encs x).size = ps.size) {S Sp : List α → Prop} {N : Nat} (Kp : World → World → Prop) (I : List α → World → Prop) (Ix : Code → List α → World → Prop)
    (hKt : ∀ {A B C : World}, Kp A B → Kp B C → Kp A C) (hKp : ∀ W l o o', w.heap.size ≤ l → W.heap[l]? = some o → o.isCells = false → Kp W (W.putObj l o'))
    (hIp : ∀ pre W l o o', w.heap.size ≤ l → W.heap[l]? = some o → o.isCells = false → I pre W → I pre (W.putObj l o'))
    (hIxp : ∀ c pre W l o o', w.heap.size ≤ l → W.heap[l]? = some o → o.isCells = false → Ix c pre W → Ix c pre (W.putObj l o'))
    (h0 : ∀ o o', I [] ((w.alloc o).alloc o')) (a₁ : α → Act)
    (hiter : IterAt F (n - 1) P gf lb encs w Kp I Ix S Sp N)
    (hassign : ∀ (l : Nat) (x : α) (W : World) (K : Act → World → Prop), K (a₁ x) W →
      assign.wpIn (F.inRound l) (n - 1 - 1) P (Exit.then K (fun _ _ _ => False)) { tmps := (ps.zip (encs x)).foldl (fun t (p, v) => t.setIfInBounds p v) a.tmps, defers := [] } W)
    (hbody : ∀ (l : Nat) (pre : List α) (x : α) (W : World), I pre W → pre.length < N → body.wpIn (F.inRound l) (n - 1 - 1) P (roundWay Kp I Ix (pre ++ [x]) W) (a₁ x) W)
    (hdone : ∀ (D : Nat) (xs : List α) (W : World), S xs → I xs W → W.heap[D]? = some (.deferred (some [])) → w.heap.size ≤ D → Q .normal { a with defers := { target := .collected D, args := #[] } :: a.defers } W)
    (hstop : ∀ (D : Nat) (c : Code) (pre : List α) (W : World), Sp pre → Ix c pre W → W.heap[D]? = some (.deferred (some [])) → w.heap.size ≤ D → c.wpIn F n P Q { a with defers := { target := .collected D, args := #[] } :: a.defers } W) :
    (Code.rangeFunc g ps assign body).wpIn F n P Q a w := by
  refine wpIn_rangeFunc fun fn hfn => ?_
  rw [hro]
  -- the loop's record in its states, its block and the block of the deferred calls
  let mk : LoopState → Option Code → Loop := fun st pe => { state := st, pending := pe, fn, tmps := a.tmps, params := ps, assign, body, defers := w.heap.size }
  let R : LoopState → Option Code → World → Prop := fun st pe W => W.heap[w.heap.size + 1]? = some (.loop (mk st pe)) ∧ W.heap[w.heap.size]? = some (.deferred (some []))
  have keep : ∀ st pe W W', KeepsOthers W W' → R st pe W → R st pe W' := fun st pe W W' hk h => ⟨hk.same _ _ h.1 rfl, hk.same _ _ h.2 rfl⟩
  have turn : ∀ st pe st' pe' W, R st pe W → R st' pe' (W.putObj (w.heap.size + 1) (.loop (mk st' pe'))) := fun st pe st' pe' W h =>
    ⟨World.putObj_heap_same (Array.getElem?_eq_some_iff.1 h.1).1, (World.putObj_heap_other (by omega)).trans h.2⟩
  have start : R .ready none ((w.alloc (.deferred (some []))).alloc (.loop (mk .ready none))) := by
    constructor
    · have := World.alloc_heap_new (w.alloc (.deferred (some []))) (.loop (mk .ready none))
      rwa [World.size_alloc] at this
    · exact (Below.heap_alloc _ _ _ (by simp)).trans (World.alloc_heap_new w _)
  refine ⟨w.heap.size + 1, [{ target := .collected w.heap.size, args := #[] }], (w.alloc (.deferred (some []))).alloc (.loop (mk .ready none)), { target := .fn (.func gf) lb, args := #[.func (.yield (w.heap.size + 1)) #[] #[]] }, (w.alloc (.deferred (some []))).alloc (.loop (mk .ready none)), gf,
    #[.func (.yield (w.heap.size + 1)) #[] #[]] ++ lb, (w.alloc (.deferred (some []))).alloc (.loop (mk .ready none)), run_enterLoop_outer _ _ _ _ _, ?_, ?_, ?_, fun _ => h1, ?_⟩
  · simp only [resolve, hg]
    simp [go_sem]
  · intro f' hf'
    simp [Target.leads] at hf'
    subst hf'
    exact hFg
  · simp [invoke, go_sem, eg]
  refine (hiter (w.heap.size + 1) (R .ready none) (fun c => R .done (some c)) _ (keep _ _) (fun c => keep _ _) (((Below.refl _ w).alloc (Nat.le_refl _) _).alloc (by simp) _) ?_ (h0 _ _) start).mono ?_
  · intro pre x W hi hl hlen
    refine ⟨fn, _, assign, body, run_yield hl.1 (hps x), roundIn_of_wpIn hfn (hassign _ x W _ ⟨_, run_beginRound hl.1 rfl, ?_⟩)⟩
    have hb := turn _ _ .busy none W hl
    refine wpIn_mono (hbody _ pre x _ (hIp _ _ _ _ _ (by omega) hl.1 rfl hi) hlen) ?_
    rintro e a3 W3 hp
    cases e with
    | normal =>
      have h3 := keep _ _ _ _ hp.1 hb
      exact ⟨_, _, run_endRound none h3.1, .inl ⟨rfl, hIp _ _ _ _ _ (by omega) h3.1 rfl hp.2.2, hKt (hKt (hKp _ _ _ _ (by omega) hl.1 rfl) hp.2.1) (hKp _ _ _ _ (by omega) h3.1 rfl), turn _ _ .ready none W3 h3⟩⟩
    | ret =>
      have h3 := keep _ _ _ _ hp.1 hb
      exact ⟨_, _, run_endRound (some .ret) h3.1, .inr ⟨rfl, .ret, hIxp _ _ _ _ _ _ (by omega) h3.1 rfl hp.2, turn _ _ .done (some .ret) W3 h3⟩⟩
    | exit id =>
      have h3 := keep _ _ _ _ hp.1 hb
      exact ⟨_, _, run_endRound (some (.exit id)) h3.1, .inr ⟨rfl, .exit id, hIxp _ _ _ _ _ _ (by omega) h3.1 rfl hp.2, turn _ _ .done (some (.exit id)) W3 h3⟩⟩
    | goto t =>
      have h3 := keep _ _ _ _ hp.1 hb
      exact ⟨_, _, run_endRound (some (.goto t)) h3.1, .inr ⟨rfl, .goto t, hIxp _ _ _ _ _ _ (by omega) h3.1 rfl hp.2, turn _ _ .done (some (.goto t)) W3 h3⟩⟩
    | panic ch => exact hp.elim
    | outgrown => exact hp.elim
  · rintro e W2 ⟨⟨v, rfl⟩, (⟨xs, hS, hi, hl⟩ | ⟨pre, c, hSp, hi, hl⟩)⟩
    · exact ⟨none, _, run_endLoop hl.1 (by simp [mk]), hdone _ xs _ hS (hIp _ _ _ _ _ (by omega) hl.1 rfl hi) ((World.putObj_heap_other (by omega)).trans hl.2) (Nat.le_refl _)⟩
    · exact ⟨some c, _, run_endLoop hl.1 (by simp [mk]), hstop _ c pre _ hSp (hIxp _ _ _ _ _ _ (by omega) hl.1 rfl hi) ((World.putObj_heap_other (by omega)).trans hl.2) (Nat.le_refl _)⟩
end Go.Proofs.YtelohkppbmahnaaDoor

/- package arena: Room. -/
namespace Go.Proofs.YtelohkppbmahnaaDoor
open Go.RowKit Go.Shelf
attribute [local go_sem] Oper.semAt_some

theorem back_any (gb n c : Nat) (w : World) :
    Calls Tryd.prog 49 #[.slice (some ⟨gb, 0, none⟩) n c] w fun e w' => e = .returned (.func (.func 62) #[] #[.pointer (some ⟨w.heap.size, 0, none⟩)]) ∧ w' = w.alloc (.cells #[.slice (some ⟨gb, 0, none⟩) n c] 49) := by
  go_enter Tryd.func49, Tryd.ntmps49
  go_wp2
  go_ret
  exact ⟨rfl, rfl⟩
/-- The cells that Backward's iterator reads. -/
structure BackAt (cb gb ln lc : Nat) (M : Nat → Value) (W : World) : Prop where
  cap : W.cell? ⟨cb, 0, none⟩ = some (.slice (some ⟨gb, 0, none⟩) ln lc)
  row : ∀ i, i < ln → W.cell? ⟨gb, i, none⟩ = some (M i)
theorem BackAt.below {cb gb ln lc : Nat} {M : Nat → Value} {w W : World} (h : BackAt cb gb ln lc M w) (hb : Below w.heap.size w W) : BackAt cb gb ln lc M W :=
  ⟨below_cell hb h.cap, fun i hi => below_cell hb (h.row i hi)⟩
set_option maxHeartbeats 1000000 in
theorem back_iter (n cb gb ln lc : Nat) (hn : 1 ≤ n) (hln : ln ≤ 64) (hlc : ln ≤ lc) (M : Nat → Value) (hM : ∀ i, i < ln → ∃ ao k c, M i = .slice ao k c) (w : World) (hw : BackAt cb gb ln lc M w) (Kp : World → World → Prop) (I : List (Fin ln) → World → Prop) (Ix : Code → List (Fin ln) → World → Prop)
    (hKp : ∀ W W', Kp W W' → BackAt cb gb ln lc M W → BackAt cb gb ln lc M W') :
    IterAt Fence.wide n Tryd.prog 62 #[.pointer (some ⟨cb, 0, none⟩)] (fun x : Fin ln => #[.int .i64 (x.val : Nat), M x.val]) w Kp I Ix
      (fun xs => ∀ i : Fin ln, i ∈ xs) (fun pre => ∃ p x, pre = p ++ [x] ∧ ∀ i : Fin ln, x.val < i.val → i ∈ p) ln := by
  intro l L L' W1 hL hL' hbel hY h0 hL0
  have hc1 := hw.below hbel
  have q0 := hc1.cap
  have e0 : IntKind.i64.wrap ((ln : Int) - 1) = (ln : Int) - 1 := IntWalk.i64_in _ ⟨by omega, by omega⟩
  have HC1 := Lib.hid hc1; have HM := Lib.hid hM
  clear hbel hw hc1 hM
  refine callsIn_of_wp Tryd.func62 rfl trivial ?_ rfl
  simp only [Tryd.ntmps62, List.size_toArray, List.length_cons, List.length_nil, Nat.reduceAdd, Nat.reduceSub, Array.replicate_succ, Array.replicate_zero, List.push_toArray, List.append_toArray, List.nil_append, List.cons_append]
  gi_wp2
  gi_loopw [3] (fun t3 wr => ∃ (k : Nat) (pre : List (Fin ln)), k ≤ ln ∧ t3 = .int .i64 ((ln : Int) - k - 1) ∧ pre.length = k ∧ (∀ i : Fin ln, ln ≤ i.val + k → i ∈ pre) ∧ BackAt cb gb ln lc M wr ∧ I pre wr ∧ L wr) (fun t3 _ => (intOf t3 + 1).toNat)
  case atStart => exact ⟨0, [], Nat.zero_le _, by simp, rfl, fun i hi => by have := i.isLt; omega, HC1.out, h0, hL0⟩
  case round =>
    obtain ⟨k, pre, hk, rfl, hpl, hall, hb, hi, hl⟩ := hrel
    by_cases hkl : k < ln
    · obtain ⟨j, hj⟩ : ∃ j : Nat, j + k + 1 = ln := ⟨ln - k - 1, by omega⟩
      have ej : (ln : Int) - k - 1 = (j : Int) := by omega
      rw [ej]
      have hjl : j < ln := by omega
      have k0 := hb.cap
      have k1 := hb.row j hjl
      obtain ⟨fn, tmps, assign, body, hy, hR⟩ := hY pre ⟨j, hjl⟩ wr hi hl (by omega)
      dsimp only at hy
      obtain ⟨ao, mk, mc, hMj⟩ := HM.out j hjl
      rw [hMj] at k1 hy
      have e1 : IntKind.i64.wrap ((j : Int) - 1) = (j : Int) - 1 := IntWalk.i64_in _ ⟨by omega, by omega⟩
      have hj0 : (0 : Int) ≤ j := by omega
      have HALL := Lib.hid hall; have HB := Lib.hid hb; have HJ := Lib.hid hj
      clear hall hb hj ej hY hi hl q0
      gi_wp2
      refine hR.mono ?_
      rintro e W' (⟨rfl, hJ', hk', hl'⟩ | ⟨rfl, c', hx, hl'⟩)
      · gi_wp2
        go_roundw
        case rel =>
          exact ⟨k + 1, pre ++ [⟨j, hjl⟩], by omega, by rw [show (ln : Int) - ((k + 1 : Nat) : Int) - 1 = (j : Int) - 1 from by have := HJ.out; omega], by simp [hpl], fun i hi => by
            by_cases e : i.val = j
            · simp only [List.mem_append, List.mem_singleton]; exact .inr (Fin.ext e)
            · simp only [List.mem_append]; exact .inl (HALL.out i (by have := HJ.out; omega)), hKp _ _ hk' HB.out, hJ', hl'⟩
        case measure => first | (simp [intOf]; done) | (simp [intOf]; omega)
      · gi_wp2
        refine bodyPost_ret (results_none rfl _ _ _) rfl ?_
        exact ⟨⟨_, rfl⟩, .inr ⟨pre ++ [⟨j, hjl⟩], c', ⟨pre, ⟨j, hjl⟩, rfl, fun i hi => HALL.out i (by have := HJ.out; have : j < i.val := hi; omega)⟩, hx, hl'⟩⟩
    · obtain rfl : k = ln := by omega
      have ej : (k : Int) - k - 1 = -1 := by omega
      rw [ej]
      have HALL := Lib.hid hall; have HB := Lib.hid hb
      clear hall hb ej hY q0
      gi_wp2
      go_end0
      exact ⟨⟨_, rfl⟩, .inl ⟨pre, fun i => HALL.out i (by omega), hi, hl⟩⟩
/-- Between two rounds of Room. -/
def RoomI (w : World) (A ln : Nat) (L : List (Value × List (Ent Value))) (pre : List (Fin ln)) (W : World) : Prop :=
  W.cell? ⟨A, 0, none⟩ = some (.int .i64 0) ∧ W.frozen? ⟨A, 0, none⟩ = false ∧ (∀ i ∈ pre, ∀ pr, L[i.val]? = some pr → pr.2 = []) ∧ Below w.heap.size w W
def RoomX (w : World) (A ln : Nat) (L : List (Value × List (Ent Value))) (c : Code) (pre : List (Fin ln)) (W : World) : Prop :=
  c = .ret ∧ (∃ pre' x mv l e, pre = pre' ++ [x] ∧ L[x.val]? = some (mv, l ++ [e]) ∧ (∀ i ∈ pre', ∀ pr, L[i.val]? = some pr → pr.2 = []) ∧ W.cell? ⟨A, 0, none⟩ = some (.int .i64 (e.s : Nat))) ∧ Below w.heap.size w W
theorem cell_putObj {W : World} {l : Nat} {o : Obj} (o' : Obj) {a : Addr} {v : Value} (h : W.heap[l]? = some o) (ho : o.isCells = false) (hc : W.cell? a = some v) : (W.putObj l o').cell? a = some v :=
  cell_kept hc (grownBy_putObj' W l o') (fun r e => by cases e; exact ⟨_, h, ho⟩)
theorem frozen_putObj {W : World} {l : Nat} {o : Obj} (o' : Obj) {a : Addr} {v : Value} (h : W.heap[l]? = some o) (ho : o.isCells = false) (hc : W.cell? a = some v) (hf : W.frozen? a = false) : (W.putObj l o').frozen? a = false :=
  (frozen_kept hc (grownBy_putObj' W l o') (fun r e => by cases e; exact ⟨_, h, ho⟩)).trans hf
theorem RoomI.putObj {w : World} {A ln : Nat} {L : List (Value × List (Ent Value))} {pre : List (Fin ln)} {W : World} {l : Nat} {o : Obj} (o' : Obj) (hl : w.heap.size ≤ l) (h : W.heap[l]? = some o) (ho : o.isCells = false) (hi : RoomI w A ln L pre W) : RoomI w A ln L pre (W.putObj l o') := by
  obtain ⟨i1, i2, i5, i6⟩ := hi
  exact ⟨cell_putObj o' h ho i1, frozen_putObj o' h ho i1 i2, i5, i6.grown (grownBy_putObj' W l o') i6.size (fun k e => by cases e; exact hl)⟩
theorem RoomX.putObj {w : World} {A ln : Nat} {L : List (Value × List (Ent Value))} {c : Code} {pre : List (Fin ln)} {W : World} {l : Nat} {o : Obj} (o' : Obj) (hl : w.heap.size ≤ l) (h : W.heap[l]? = some o) (ho : o.isCells = false) (hi : RoomX w A ln L c pre W) : RoomX w A ln L c pre (W.putObj l o') := by
  obtain ⟨i1, ⟨pre', x, mv, lst, e, i2, i3, i4, i5⟩, i6⟩ := hi
  exact ⟨i1, ⟨pre', x, mv, lst, e, i2, i3, i4, cell_putObj o' h ho i5⟩, i6.grown (grownBy_putObj' W l o') i6.size (fun k e => by cases e; exact hl)⟩
theorem RoomI.alloc2 {w : World} {A ln : Nat} {L : List (Value × List (Ent Value))} {pre : List (Fin ln)} {W : World} (hi : RoomI w A ln L pre W) (o o' : Obj) : RoomI w A ln L pre ((W.alloc o).alloc o') := by
  obtain ⟨i1, i2, i5, i6⟩ := hi
  have hb : Below W.heap.size W ((W.alloc o).alloc o') := ((Below.refl _ _).alloc (Nat.le_refl _) _).alloc (by simp) _
  have hA : A < W.heap.size := World.block_lt_of_cell? _ _ i1
  exact ⟨(hb.cell hA).trans i1, (hb.frozen hA).trans i2, i5, i6.trans (hb.mono i6.size)⟩
theorem BackAt.putObj {cb gb ln lc : Nat} {M : Nat → Value} {W : World} {l : Nat} {o : Obj} (o' : Obj) (h : W.heap[l]? = some o) (ho : o.isCells = false) (hi : BackAt cb gb ln lc M W) : BackAt cb gb ln lc M (W.putObj l o') :=
  ⟨cell_putObj o' h ho hi.cap, fun i hl => cell_putObj o' h ho (hi.row i hl)⟩
theorem flatE_last (l : List (Ent Value)) (e : Ent Value) : (flatE (l ++ [e]))[l.length * 2]? = some (.int .i64 (e.s : Nat)) := (flatE_at (l ++ [e]) l.length e (by simp)).1
set_option maxRecDepth 100000 in
set_option maxHeartbeats 2000000 in
theorem room_core {SL : Nat → Prop} {w : World} {p wb m mc : Nat} {tv kv uv lv : Value} {ws : List Nat} {L : List (Value × List (Ent Value))} {T K : Nat → Nat} {F : Nat → Nat → Prop} (c : Core SL w p wb m mc tv kv uv lv ws L T K) (ok : ListsOk (L.map (·.2)) ws F) (h0 : 0 < L.length) (hL : L.length ≤ 64) (hF : ∀ x s, F x s → s < 1048576) :
    Calls Tryd.prog 24 #[.pointer (some ⟨p, 0, none⟩)] w fun e w' => (∃ r : Nat, RoomR F r ∧ e = .returned (.int .i64 r)) ∧ Below w.heap.size w w' := by
  obtain ⟨gb, lc, lcur, rfl, _, hlc1, hlc2, hlcell⟩ := ownsRow_some c.ls.row h0
  unfold maxLen at hlc2
  obtain ⟨ln, hln⟩ : ∃ ln, L.length = ln := ⟨_, rfl⟩
  have c4 := heap_cell c.blk 4
  simp at c4
  rw [hln] at c4 hlc1 h0 hL hlcell
  obtain ⟨A, hA⟩ : ∃ A, A = w.heap.size := ⟨_, rfl⟩
  obtain ⟨W1, hW1⟩ : ∃ W1, W1 = w.alloc (.cells #[.int .i64 0] 3) := ⟨_, rfl⟩
  have hb1 : Below w.heap.size w W1 := by rw [hW1]; exact (Below.refl _ _).alloc (Nat.le_refl _) _
  have b0 := heap_alloc_at w (.cells #[.int .i64 0] 3) (b := A) hA
  rw [← hW1] at b0
  have a1 := heap_cell b0 0
  have a2 := heap_frozen b0 0
  simp at a1
  have d4 := below_cell hb1 c4
  have hs1 : W1.heap.size = A + 1 := by rw [hW1, hA]; simp
  let M : Nat → Value := fun i => ((L.map (·.1))[i]?).getD (.slice none 0 0)
  obtain ⟨wl, hwl⟩ : ∃ wl, wl = W1.alloc (.cells #[.slice (some ⟨gb, 0, none⟩) ln lc] 49) := ⟨_, rfl⟩
  have hbl : Below W1.heap.size W1 wl := by rw [hwl]; exact (Below.refl _ _).alloc (Nat.le_refl _) _
  have bl := heap_alloc_at W1 (.cells #[.slice (some ⟨gb, 0, none⟩) ln lc] 49) (b := A + 1) hs1.symm
  rw [← hwl] at bl
  have hbw : Below w.heap.size w wl := hb1.trans (hbl.mono hb1.size)
  have hrow : ∀ i, i < ln → w.cell? ⟨gb, i, none⟩ = some (M i) := fun i hi => by
    have h := hlcell i (by omega)
    have hi2 : i < (L.map (·.1)).length := by rw [List.length_map]; omega
    show _ = some (((L.map (·.1))[i]?).getD _)
    rw [List.getElem?_eq_getElem hi2] at h ⊢
    simpa using h
  have hB : BackAt (A + 1) gb ln lc M wl := by
    have q := heap_cell bl 0
    simp at q
    exact ⟨q, fun i hi => below_cell hbw (hrow i hi)⟩
  have hM : ∀ i, i < ln → ∃ ao k c, M i = .slice ao k c := fun i hi => by
    obtain ⟨⟨mv, l⟩, hat⟩ : ∃ pr, L[i]? = some pr := ⟨_, List.getElem?_eq_getElem (by omega)⟩
    obtain ⟨mao, mcap, hmv, _⟩ := ownsRow_form (c.ls.mrow _ _ hat)
    refine ⟨mao, l.length, mcap, ?_⟩
    show ((L.map (·.1))[i]?).getD (.slice none 0 0) = _
    rw [List.getElem?_map, hat]
    exact hmv
  have hI0 : RoomI w A ln L [] wl := by
    have i1 := heap_cell b0 0
    simp at i1
    refine ⟨below_cell hbl i1, (hbl.frozen (by simp; omega)).trans (heap_frozen b0 0), fun i hi => by simp at hi, hbw⟩
  have hsz : wl.heap.size = A + 2 := by rw [hwl]; simp; omega
  have C := Lib.hid c; have OK := Lib.hid ok; have HW := Lib.hid hW1; have HLN := Lib.hid hln; have HF := Lib.hid hF; have HI0 := Lib.hid hI0; have HB := Lib.hid hB; have HM := Lib.hid hM; have HBW := Lib.hid hbw
  clear c ok hb1 hlcell hln hF c4 b0 bl hrow hbl hI0 hB hM hbw
  refine (callsIn_wide (n := 7)).1 ?_
  refine callsIn_of_wp_marks Tryd.func24 rfl trivial ?_ rfl
  simp only [Tryd.ntmps24, List.size_toArray, List.length_cons, List.length_nil, Nat.reduceAdd, Nat.reduceSub, Array.replicate_succ, Array.replicate_zero, List.push_toArray, List.append_toArray, List.nil_append, List.cons_append]
  rw [hW1] at d4
  gi_wp2_with (refine ⟨trivial, ?_⟩; gi_at_call 27; refine (callsIn_wide.2 (absent_at p _)).mono ?_; rintro e w1 ⟨rfl, rfl⟩)
  refine ⟨trivial, ?_⟩
  refine (callsIn_wide.2 (back_any gb ln lc _)).mono ?_
  rintro e w2 ⟨rfl, rfl⟩
  gi_wp2
  rw [← hA, ← hW1, ← hwl]
  have hAw : w.heap.size = A := hA.symm
  refine wpIn_range_at (F := Fence.wide) (n := 7) rfl (by omega) (gf := 62) (lb := #[.pointer (some ⟨A + 1, 0, none⟩)]) rfl trivial (enters_of Tryd.func62 (by kernel_rfl) rfl)
    (encs := fun x : Fin ln => #[.int .i64 (x.val : Nat), M x.val]) (fun _ => rfl) (fun W W' => BackAt (A + 1) gb ln lc M W → BackAt (A + 1) gb ln lc M W') (RoomI w A ln L) (RoomX w A ln L)
    (fun h k r => k (h r)) (fun W l o o' hl h ho r => r.putObj o' h ho)
    (fun pre W l o o' hl h ho hi => hi.putObj o' (by omega) h ho) (fun c pre W l o o' hl h ho hi => hi.putObj o' (by omega) h ho)
    (fun o o' => HI0.out.alloc2 o o') (fun x => { tmps := #[.pointer (some ⟨p, 0, none⟩), undef, .pointer (some ⟨A, 0, none⟩), undef, M x.val, .pointer (some ⟨p, 0, none⟩), .bool false, .pointer (some ⟨p, 0, none⟩), .pointer (some ⟨p, 0, none⟩), .pointer (some ⟨p, 4, none⟩), .slice (some ⟨gb, 0, none⟩) ln lc, .func (.func 62) #[] #[.pointer (some ⟨A + 1, 0, none⟩)], .int .i64 (x.val : Nat), M x.val, undef, undef, undef, undef, undef, undef, undef, undef, undef, undef], defers := [] })
    (back_iter 6 (A + 1) gb ln lc (by omega) hL hlc1 M HM.out wl HB.out _ _ _ (fun W W' h => h)) ?assign ?body ?done ?stop
  case assign =>
    clear hA hW1 hwl hsz
    intro l x W K hK
    gi_wp2
    exact hK
  case body =>
    rintro l pre x W ⟨i1, i2, i5, i6⟩ hlen
    have hx := x.isLt
    obtain ⟨⟨mv, lst⟩, hat⟩ : ∃ pr, L[x.val]? = some pr := ⟨_, List.getElem?_eq_getElem (by rw [HLN.out]; exact hx)⟩
    have hMx : M x.val = mv := by
      show ((L.map (·.1))[x.val]?).getD (.slice none 0 0) = _
      rw [List.getElem?_map, hat]; rfl
    rw [hMx]
    have hmr := ownsRow_upd (S := fun _ => False) (C.out.ls.mrow _ _ hat) (Upd.of_below i6) (fun _ _ h => h)
    dsimp only at hmr
    obtain ⟨mao, mcap, hmv, _⟩ := ownsRow_form hmr
    have hll := OK.out.len_le HF.out x.val lst (by rw [List.getElem?_map, hat]; rfl)
    have HI6 := Lib.hid i6
    have HI5 := Lib.hid i5
    have HAT := Lib.hid hat
    clear i5 i6 hA hW1 hwl hMx hx
    rcases List.eq_nil_or_concat lst with h | ⟨l0, e, h⟩
    · subst h
      simp only [List.length_nil] at hmv
      subst hmv
      clear hmr hat
      gi_wp2
      refine ⟨KeepsOthers.refl _, fun h => h, i1, i2, fun i hi pr hpr => ?_, HI6.out⟩
      rcases List.mem_append.1 hi with h | h
      · exact HI5.out i h pr hpr
      · rw [List.mem_singleton.1 h, HAT.out] at hpr
        simp only [Option.some.injEq] at hpr
        rw [← hpr]
    · rw [List.concat_eq_append] at h
      subst h
      obtain ⟨k, hk⟩ : ∃ k, l0.length = k := ⟨_, rfl⟩
      have hk1 : (l0 ++ [e]).length = k + 1 := by simp [hk]
      obtain ⟨g, cap, cur, hv, _, hcap, _, hcell⟩ := ownsRow_some hmr (by omega)
      have hc := hcell (k * 2) (by omega)
      rw [← hk, flatE_last] at hc
      rw [hk] at hc
      rw [hk1] at hv hcap
      subst hv
      have e1 : IntKind.i64.wrap (((k + 1 : Nat) : Int) - 1) = (k : Int) := by rw [IntWalk.i64_in _ ⟨by omega, by omega⟩]; omega
      have hk0 : (0 : Int) < ((k + 1 : Nat) : Int) := by omega
      clear hmr hat hmv hcell
      gi_wp2
      exact ⟨KeepsOthers.setCell _ _ _, rfl, ⟨pre, x, _, l0, e, rfl, HAT.out, HI5.out, World.cell?_setCell_same' _ _ _ (by rw [i1]; rfl)⟩, HI6.out.setCell (by simp; omega) _⟩
  case done =>
    clear hA hW1 hwl hsz
    rintro D xs W hxs ⟨i1, i2, i5, i6⟩ hK hle
    have HI5 := Lib.hid i5
    have HI6 := Lib.hid i6
    clear i5 i6
    gi_wp2
    have hK2 := (KeepsOthers.setCell W ⟨A, 0, none⟩ (.int .i64 0)).same D _ hK rfl
    refine ⟨by simp, .inl ⟨_, _, rfl, run_takeDeferred hK2, ?_⟩⟩
    have c1 : (W.setCell ⟨A, 0, none⟩ (.int .i64 0)).cell? ⟨A, 0, none⟩ = some (.int .i64 0) := World.cell?_setCell_same' _ _ _ (by rw [i1]; rfl)
    have c2 := cell_putObj (.deferred none) hK2 rfl c1
    refine ⟨.int .i64 0, by simp [results, Tryd.results24, go_sem, c2], ⟨0, room_none OK.out (fun j l hj => ?_), rfl⟩, ?_⟩
    · rw [List.getElem?_map] at hj
      obtain ⟨pr, h1, h2⟩ := Option.map_eq_some_iff.1 hj
      have hjl : j < ln := by rw [← HLN.out]; exact (List.getElem?_eq_some_iff.1 h1).1
      rw [← h2]
      exact HI5.out ⟨j, hjl⟩ (hxs _) pr h1
    · exact (HI6.out.setCell (by simp; omega) _).grown (grownBy_putObj' _ D _) (by have := HI6.out.size; simp; omega) (fun k e => by cases e; have := HBW.out.size; omega)
  case stop =>
    clear hA hW1 hwl hsz
    rintro D c pre W ⟨p0, x0, hp0, hall⟩ ⟨rfl, ⟨pre', x, mv, l0, e, rfl, hat, hall2, i1⟩, i6⟩ hK hle
    obtain ⟨rfl, rfl⟩ : pre' = p0 ∧ x = x0 := by
      have := List.append_inj' hp0 rfl
      exact ⟨this.1, by simpa using this.2⟩
    have HAT := Lib.hid hat
    have HI6 := Lib.hid i6
    have HALL := Lib.hid hall
    have HALL2 := Lib.hid hall2
    clear hat i6 hall hall2
    gi_wp2
    refine ⟨by simp, .inl ⟨_, _, rfl, run_takeDeferred hK, ?_⟩⟩
    have c2 := cell_putObj (.deferred none) hK rfl i1
    refine ⟨.int .i64 (e.s : Nat), by simp [results, Tryd.results24, go_sem, c2], ⟨e.s, room_last (k := x.val) (l := l0) OK.out (by rw [List.getElem?_map, HAT.out]; rfl) (fun j l hlt hj => ?_), rfl⟩, ?_⟩
    · rw [List.getElem?_map] at hj
      obtain ⟨pr, h1, h2⟩ := Option.map_eq_some_iff.1 hj
      have hjl : j < ln := by rw [← HLN.out]; exact (List.getElem?_eq_some_iff.1 h1).1
      rw [← h2]
      exact HALL2.out ⟨j, hjl⟩ (HALL.out ⟨j, hjl⟩ hlt) pr h1
    · rw [← hAw]
      exact HI6.out.grown (grownBy_putObj' _ D _) HI6.out.size (fun k e => by cases e; have := HBW.out.size; omega)
theorem Room_at {S : Nat → Prop} {w : World} {p m : Nat} {bs : List Blk} (A0 : ArV S w p m bs) :
    Calls Tryd.prog 24 #[.pointer (some ⟨p, 0, none⟩)] w fun e w' => e = .returned (.int .i64 (roomOf bs : Nat)) ∧ Below w.heap.size w w' := by
  obtain ⟨SL, wb, tb, kb, mc, lv, ws, L, T, K, used, tk, mk, tbs, kbs, A, I, O⟩ := A0
  have hl := I.lens
  have hl2 := I.L_le
  rw [List.length_map] at hl hl2
  refine (room_core A.core I.lists (by omega) hl2 I.fr_lt).mono ?_
  rintro e w' ⟨⟨r, hr, rfl⟩, hb⟩
  have := roomR_eq hr (fun b hb => (I.end_le b hb).2.1)
  exact ⟨by rw [this], hb⟩
end Go.Proofs.YtelohkppbmahnaaDoor
