/- Of no program: a range over a function whose iterator keeps state of its own in cells: the iterator's contract is asked at the caller's own invariant; what is known of the next element is handed to the body. -/
import Derived.RangeFuncKeeps
import Derived.RangeFuncNested
import Derived.RangeFuncBound
import Derived.RangeFuncCalls
import Derived.RangeFuncLeaves
import Derived.Shelf.Abstract
import Derived.Shelf.RegionOpen
import Derived.WalkKit
import Derived.OwnWalkIn
import Derived.TacticsInMore
import Derived.LoopNIn
import Derived.LoopIn
import Derived.Test.YtmjehnjodaicfaaDoorRows
namespace Go.Proofs.YtmjehnjodaicfaaDoor
open Go.RowKit Go.Shelf

/-- How a round's body may be left: on it goes, or by a jump. -/
def roundWay {α : Type} (Kp : World → World → Prop) (I : List α → World → Prop) (Ix : Code → List α → World → Prop) (xs : List α) (W : World) : Exit → Act → World → Prop
  | .normal, _, W' => KeepsOthers W W' ∧ Kp W W' ∧ I xs W'
  | .ret, _, W' => KeepsOthers W W' ∧ Ix .ret xs W'
  | .exit id, _, W' => KeepsOthers W W' ∧ Ix (.exit id) xs W'
  | .goto t, _, W' => KeepsOthers W W' ∧ Ix (.goto t) xs W'
  | .panic _, _, _ => False
  | .outgrown, _, _ => False

/-- What is asked of the iterator, at the loop's own invariant; L and L' stand for the loop's record, which whatever turns cells alone keeps. -/
def IterAt {α : Type} (F : Fence) (n : Nat) (P : Program) (gf : Nat) (lb : Array Value) (encs : α → Array Value) (w : World) (Kp : World → World → Prop) (I : List α → World → Prop) (Ix : Code → List α → World → Prop) (S Sp : List α → Prop) (G : List α → α → Prop) : Prop :=
  ∀ (l : Nat) (L : World → Prop) (L' : Code → World → Prop) (W1 : World), (∀ W W', KeepsOthers W W' → L W → L W') → (∀ c W W', KeepsOthers W W' → L' c W → L' c W') → Below w.heap.size w W1 →
    (∀ pre x W, I pre W → L W → G pre x → YieldAt F (n - 1) P l (encs x) W fun e W' =>
      (e = .returned (.bool true) ∧ I (pre ++ [x]) W' ∧ Kp W W' ∧ L W') ∨ (e = .returned (.bool false) ∧ ∃ c, Ix c (pre ++ [x]) W' ∧ L' c W')) →
    I [] W1 → L W1 →
    CallsIn F n P gf (#[.func (.yield l) #[] #[]] ++ lb) W1 fun e W' => (∃ v, e = .returned v) ∧ ((∃ xs, S xs ∧ I xs W' ∧ L W') ∨ (∃ pre c, Sp pre ∧ Ix c pre W' ∧ L' c W'))

variable {F : Fence} {n : Nat} {P : Program}

theorem wpIn_range_at {α : Type} {g : Operand} {ps : Array Tmp} {assign body : Code} {Q : Exit → Act → World → Prop} {a : Act} {w : World}
    (hro : F.round = none) (h1 : 1 ≤ n) {gf : Nat} {lb : Array Value} (hg : a.eval g = .func (.func gf) #[] lb) (hFg : F.fn gf) (eg : ∀ args w, (callFunc gf args).run P w = .ok (.enter gf args) w)
    {encs : α → Array Value} (hps : ∀ x, (encs x).size = ps.size) {S Sp : List α → Prop} {G : List α → α → Prop} (Kp : World → World → Prop) (I : List α → World → Prop) (Ix : Code → List α → World → Prop)
    (hKt : ∀ {A B C : World}, Kp A B → Kp B C → Kp A C) (hKp : ∀ W l o o', w.heap.size ≤ l → W.heap[l]? = some o → o.isCells = false → Kp W (W.putObj l o'))
    (hIp : ∀ pre W l o o', w.heap.size ≤ l → W.heap[l]? = some o → o.isCells = false → I pre W → I pre (W.putObj l o'))
    (hIxp : ∀ c pre W l o o', w.heap.size ≤ l → W.heap[l]? = some o → o.isCells = false → Ix c pre W → Ix c pre (W.putObj l o'))
    (h0 : ∀ o o', I [] ((w.alloc o).alloc o')) (a₁ : α → Act)
    (hiter : IterAt F (n - 1) P gf lb encs w Kp I Ix S Sp G)
    (hassign : ∀ (l : Nat) (x : α) (W : World) (K : Act → World → Prop), K (a₁ x) W →
      assign.wpIn (F.inRound l) (n - 1 - 1) P (Exit.then K (fun _ _ _ => False)) { tmps := (ps.zip (encs x)).foldl (fun t (p, v) => t.setIfInBounds p v) a.tmps, defers := [] } W)
    (hbody : ∀ (l : Nat) (pre : List α) (x : α) (W : World), I pre W → G pre x → body.wpIn (F.inRound l) (n - 1 - 1) P (roundWay Kp I Ix (pre ++ [x]) W) (a₁ x) W)
    (hdone : ∀ (D : Nat) (xs : List α) (W : World), S xs → I xs W → W.heap[D]? = some (.deferred (some [])) → w.heap.size ≤ D → Q .normal { a with defers := { target := .collected D, args := #[] } :: a.defers } W)
    (hstop : ∀ (D : Nat) (c : Code) (pre : List α) (W : World), Sp pre → Ix c pre W → W.heap[D]? = some (.deferred (some [])) → w.heap.size ≤ D → c.wpIn F n P Q { a with defers := { target := .collected D, args := #[] } :: a.defers } W) :
    (Code.rangeFunc g ps assign body).wpIn F n P Q a w := by
  refine wpIn_rangeFunc fun fn hfn => ?_
  rw [hro]
  -- the loop's record in its states, its block and the block of the deferred calls
  let mk : LoopState → Option Code → Loop := fun st pe => { state := st, pending := pe, fn, tmps := a.tmps, params := ps, assign, body, defers := w.heap.size }
  let R : LoopState → Option Code → World → Prop := fun st pe W => W.heap[w.heap.size + 1]? = some (.loop (mk st pe)) ∧ W.heap[w.heap.size]? = some (.deferred (some []))
  have keep : ∀ st pe W W', KeepsOthers W W' → R st pe W → R st pe W' := fun st pe W W' hk h => ⟨hk.same _ _ h.1 rfl, hk.same _ _ h.2 rfl⟩
  have turn : ∀ st pe st' pe' W, R st pe W → R st' pe' (W.putObj (w.heap.size + 1) (.loop (mk st' pe'))) := fun st pe st' pe' W h =>
    ⟨World.putObj_heap_same (Array.getElem?_eq_some_iff.1 h.1).1, (World.putObj_heap_other (by omega)).trans h.2⟩
  have start : R .ready none ((w.alloc (.deferred (some []))).alloc (.loop (mk .ready none))) := by
    constructor
    · have := World.alloc_heap_new (w.alloc (.deferred (some []))) (.loop (mk .ready none))
      rwa [World.size_alloc] at this
    · exact (Below.heap_alloc _ _ _ (by simp)).trans (World.alloc_heap_new w _)
  refine ⟨w.heap.size + 1, [{ target := .collected w.heap.size, args := #[] }], (w.alloc (.deferred (some []))).alloc (.loop (mk .ready none)), { target := .fn (.func gf) lb, args := #[.func (.yield (w.heap.size + 1)) #[] #[]] }, (w.alloc (.deferred (some []))).alloc (.loop (mk .ready none)), gf,
    #[.func (.yield (w.heap.size + 1)) #[] #[]] ++ lb, (w.alloc (.deferred (some []))).alloc (.loop (mk .ready none)), run_enterLoop_outer _ _ _ _ _, ?_, ?_, ?_, fun _ => h1, ?_⟩
  · simp only [resolve, hg]
    simp [go_sem]
  · intro f' hf'
    simp [Target.leads] at hf'
    subst hf'
    exact hFg
  · simp [invoke, go_sem, eg]
  refine (hiter (w.heap.size + 1) (R .ready none) (fun c => R .done (some c)) _ (keep _ _) (fun c => keep _ _) (((Below.refl _ w).alloc (Nat.le_refl _) _).alloc (by simp) _) ?_ (h0 _ _) start).mono ?_
  · intro pre x W hi hl hlen
    refine ⟨fn, _, assign, body, run_yield hl.1 (hps x), roundIn_of_wpIn hfn (hassign _ x W _ ⟨_, run_beginRound hl.1 rfl, ?_⟩)⟩
    have hb := turn _ _ .busy none W hl
    refine wpIn_mono (hbody _ pre x _ (hIp _ _ _ _ _ (by omega) hl.1 rfl hi) hlen) ?_
    rintro e a3 W3 hp
    cases e with
    | normal =>
      have h3 := keep _ _ _ _ hp.1 hb
      exact ⟨_, _, run_endRound none h3.1, .inl ⟨rfl, hIp _ _ _ _ _ (by omega) h3.1 rfl hp.2.2, hKt (hKt (hKp _ _ _ _ (by omega) hl.1 rfl) hp.2.1) (hKp _ _ _ _ (by omega) h3.1 rfl), turn _ _ .ready none W3 h3⟩⟩
    | ret =>
      have h3 := keep _ _ _ _ hp.1 hb
      exact ⟨_, _, run_endRound (some .ret) h3.1, .inr ⟨rfl, .ret, hIxp _ _ _ _ _ _ (by omega) h3.1 rfl hp.2, turn _ _ .done (some .ret) W3 h3⟩⟩
    | exit id =>
      have h3 := keep _ _ _ _ hp.1 hb
      exact ⟨_, _, run_endRound (some (.exit id)) h3.1, .inr ⟨rfl, .exit id, hIxp _ _ _ _ _ _ (by omega) h3.1 rfl hp.2, turn _ _ .done (some (.exit id)) W3 h3⟩⟩
    | goto t =>
      have h3 := keep _ _ _ _ hp.1 hb
      exact ⟨_, _, run_endRound (some (.goto t)) h3.1, .inr ⟨rfl, .goto t, hIxp _ _ _ _ _ _ (by omega) h3.1 rfl hp.2, turn _ _ .done (some (.goto t)) W3 h3⟩⟩
    | panic ch => exact hp.elim
    | outgrown => exact hp.elim
  · rintro e W2 ⟨⟨v, rfl⟩, (⟨xs, hS, hi, hl⟩ | ⟨pre, c, hSp, hi, hl⟩)⟩
    · exact ⟨none, _, run_endLoop hl.1 (by simp [mk]), hdone _ xs _ hS (hIp _ _ _ _ _ (by omega) hl.1 rfl hi) ((World.putObj_heap_other (by omega)).trans hl.2) (Nat.le_refl _)⟩
    · exact ⟨some c, _, run_endLoop hl.1 (by simp [mk]), hstop _ c pre _ hSp (hIxp _ _ _ _ _ _ (by omega) hl.1 rfl hi) ((World.putObj_heap_other (by omega)).trans hl.2) (Nat.le_refl _)⟩
end Go.Proofs.YtmjehnjodaicfaaDoor

/- Of no program: a range over a function whose iterator keeps state of its own in cells, where each round's variable lies in a box of its own. -/
namespace Go.Proofs.YtmjehnjodaicfaaDoor
open Go.RowKit Go.Shelf

variable {F : Fence} {n : Nat} {P : Program}

theorem wpIn_range_box {α : Type} {g : Operand} {ps : Array Tmp} {assign body : Code} {Q : Exit → Act → World → Prop} {a : Act} {w : World}
    (hro : F.round = none) (h1 : 1 ≤ n) {gf : Nat} {lb : Array Value} (hg : a.eval g = .func (.func gf) #[] lb) (hFg : F.fn gf) (eg : ∀ args w, (callFunc gf args).run P w = .ok (.enter gf args) w)
    {encs : α → Array Value} (hps : ∀ x, (encs x).size = ps.size) {S Sp : List α → Prop} {G : List α → α → Prop} (Kp : World → World → Prop) (I : List α → World → Prop) (Ix : Code → List α → World → Prop)
    (hKt : ∀ {A B C : World}, Kp A B → Kp B C → Kp A C) (hKp : ∀ W l o o', w.heap.size ≤ l → W.heap[l]? = some o → o.isCells = false → Kp W (W.putObj l o'))
    (hIp : ∀ pre W l o o', w.heap.size ≤ l → W.heap[l]? = some o → o.isCells = false → I pre W → I pre (W.putObj l o'))
    (hIxp : ∀ c pre W l o o', w.heap.size ≤ l → W.heap[l]? = some o → o.isCells = false → Ix c pre W → Ix c pre (W.putObj l o'))
    (h0 : ∀ o o', I [] ((w.alloc o).alloc o')) (bx : α → Obj) (hIa : ∀ pre W x, I pre W → I pre (W.alloc (bx x))) (hKa : ∀ W x, Kp W (W.alloc (bx x))) (a₁ : α → Nat → Act)
    (hiter : IterAt F (n - 1) P gf lb encs w Kp I Ix S Sp G)
    (hassign : ∀ (l : Nat) (x : α) (W : World) (K : Act → World → Prop), K (a₁ x W.heap.size) (W.alloc (bx x)) →
      assign.wpIn (F.inRound l) (n - 1 - 1) P (Exit.then K (fun _ _ _ => False)) { tmps := (ps.zip (encs x)).foldl (fun t (p, v) => t.setIfInBounds p v) a.tmps, defers := [] } W)
    (hbody : ∀ (l : Nat) (pre : List α) (x : α) (W : World) (B : Nat), I pre W → G pre x → W.heap[B]? = some (bx x) → w.heap.size ≤ B → body.wpIn (F.inRound l) (n - 1 - 1) P (roundWay Kp I Ix (pre ++ [x]) W) (a₁ x B) W)
    (hdone : ∀ (D : Nat) (xs : List α) (W : World), S xs → I xs W → W.heap[D]? = some (.deferred (some [])) → w.heap.size ≤ D → Q .normal { a with defers := { target := .collected D, args := #[] } :: a.defers } W)
    (hstop : ∀ (D : Nat) (c : Code) (pre : List α) (W : World), Sp pre → Ix c pre W → W.heap[D]? = some (.deferred (some [])) → w.heap.size ≤ D → c.wpIn F n P Q { a with defers := { target := .collected D, args := #[] } :: a.defers } W) :
    (Code.rangeFunc g ps assign body).wpIn F n P Q a w := by
  refine wpIn_rangeFunc fun fn hfn => ?_
  rw [hro]
  -- the loop's record in its states, its block and the block of the deferred calls
  let mk : LoopState → Option Code → Loop := fun st pe => { state := st, pending := pe, fn, tmps := a.tmps, params := ps, assign, body, defers := w.heap.size }
  let R : LoopState → Option Code → World → Prop := fun st pe W => W.heap[w.heap.size + 1]? = some (.loop (mk st pe)) ∧ W.heap[w.heap.size]? = some (.deferred (some []))
  have keep : ∀ st pe W W', KeepsOthers W W' → R st pe W → R st pe W' := fun st pe W W' hk h => ⟨hk.same _ _ h.1 rfl, hk.same _ _ h.2 rfl⟩
  have turn : ∀ st pe st' pe' W, R st pe W → R st' pe' (W.putObj (w.heap.size + 1) (.loop (mk st' pe'))) := fun st pe st' pe' W h =>
    ⟨World.putObj_heap_same (Array.getElem?_eq_some_iff.1 h.1).1, (World.putObj_heap_other (by omega)).trans h.2⟩
  have start : R .ready none ((w.alloc (.deferred (some []))).alloc (.loop (mk .ready none))) := by
    constructor
    · have := World.alloc_heap_new (w.alloc (.deferred (some []))) (.loop (mk .ready none))
      rwa [World.size_alloc] at this
    · exact (Below.heap_alloc _ _ _ (by simp)).trans (World.alloc_heap_new w _)
  refine ⟨w.heap.size + 1, [{ target := .collected w.heap.size, args := #[] }], (w.alloc (.deferred (some []))).alloc (.loop (mk .ready none)), { target := .fn (.func gf) lb, args := #[.func (.yield (w.heap.size + 1)) #[] #[]] }, (w.alloc (.deferred (some []))).alloc (.loop (mk .ready none)), gf,
    #[.func (.yield (w.heap.size + 1)) #[] #[]] ++ lb, (w.alloc (.deferred (some []))).alloc (.loop (mk .ready none)), run_enterLoop_outer _ _ _ _ _, ?_, ?_, ?_, fun _ => h1, ?_⟩
  · simp only [resolve, hg]
    simp [go_sem]
  · intro f' hf'
    simp [Target.leads] at hf'
    subst hf'
    exact hFg
  · simp [invoke, go_sem, eg]
  refine (hiter (w.heap.size + 1) (R .ready none) (fun c => R .done (some c)) _ (keep _ _) (fun c => keep _ _) (((Below.refl _ w).alloc (Nat.le_refl _) _).alloc (by simp) _) ?_ (h0 _ _) start).mono ?_
  · intro pre x W hi hl hlen
    have hla := keep _ _ _ _ (KeepsOthers.alloc W (bx x)) hl
    refine ⟨fn, _, assign, body, run_yield hl.1 (hps x), roundIn_of_wpIn hfn (hassign _ x W _ ⟨_, run_beginRound hla.1 rfl, ?_⟩)⟩
    have hb := turn _ _ .busy none _ hla
    have hls : w.heap.size + 1 < W.heap.size := (Array.getElem?_eq_some_iff.1 hl.1).1
    refine wpIn_mono (hbody _ pre x _ W.heap.size (hIp _ _ _ _ _ (by omega) hla.1 rfl (hIa _ _ _ hi)) hlen ((World.putObj_heap_other (by omega)).trans (World.alloc_heap_new W _)) (by omega)) ?_
    rintro e a3 W3 hp
    cases e with
    | normal =>
      have h3 := keep _ _ _ _ hp.1 hb
      exact ⟨_, _, run_endRound none h3.1, .inl ⟨rfl, hIp _ _ _ _ _ (by omega) h3.1 rfl hp.2.2, hKt (hKt (hKa _ _) (hKt (hKp _ _ _ _ (by omega) hla.1 rfl) hp.2.1)) (hKp _ _ _ _ (by omega) h3.1 rfl), turn _ _ .ready none W3 h3⟩⟩
    | ret =>
      have h3 := keep _ _ _ _ hp.1 hb
      exact ⟨_, _, run_endRound (some .ret) h3.1, .inr ⟨rfl, .ret, hIxp _ _ _ _ _ _ (by omega) h3.1 rfl hp.2, turn _ _ .done (some .ret) W3 h3⟩⟩
    | exit id =>
      have h3 := keep _ _ _ _ hp.1 hb
      exact ⟨_, _, run_endRound (some (.exit id)) h3.1, .inr ⟨rfl, .exit id, hIxp _ _ _ _ _ _ (by omega) h3.1 rfl hp.2, turn _ _ .done (some (.exit id)) W3 h3⟩⟩
    | goto t =>
      have h3 := keep _ _ _ _ hp.1 hb
      exact ⟨_, _, run_endRound (some (.goto t)) h3.1, .inr ⟨rfl, .goto t, hIxp _ _ _ _ _ _ (by omega) h3.1 rfl hp.2, turn _ _ .done (some (.goto t)) W3 h3⟩⟩
    | panic ch => exact hp.elim
    | outgrown => exact hp.elim
  · rintro e W2 ⟨⟨v, rfl⟩, (⟨xs, hS, hi, hl⟩ | ⟨pre, c, hSp, hi, hl⟩)⟩
    · exact ⟨none, _, run_endLoop hl.1 (by simp [mk]), hdone _ xs _ hS (hIp _ _ _ _ _ (by omega) hl.1 rfl hi) ((World.putObj_heap_other (by omega)).trans hl.2) (Nat.le_refl _)⟩
    · exact ⟨some c, _, run_endLoop hl.1 (by simp [mk]), hstop _ c pre _ hSp (hIxp _ _ _ _ _ _ (by omega) hl.1 rfl hi) ((World.putObj_heap_other (by omega)).trans hl.2) (Nat.le_refl _)⟩
end Go.Proofs.YtmjehnjodaicfaaDoor
