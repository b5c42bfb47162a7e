/- Of no program: XRangeG under other names, for seats that have RangeOwn too; the body keeps what is no cells from the loop's own blocks on. -/
import Derived.RangeFuncKeeps
import Derived.RangeFuncWrites
import Derived.RangeFuncNested
import Derived.RangeFuncBound
import Derived.RangeFuncCalls
import Derived.RangeFuncLeaves
import Derived.Shelf.Abstract
import Derived.Shelf.RegionOpen
import Derived.WalkKit
import Derived.OwnWalkIn
import Derived.TacticsInMore
import Derived.LoopNIn
import Derived.LoopIn
import Derived.Test.YtelohkppbmahnaaDoorRows
import Derived.Test.YtelohkppbmahnaaDoorQMkBitsBd
import Derived.Test.YtelohkppbmahnaaDoorQArFreshPBd
import Derived.Lib.Hide
import Derived.Outline
import Derived.WalkSpells
import Derived.Test.YtelohkppbmahnaaDoorQInRoundBd
import Derived.Test.YtelohkppbmahnaaDoorQCalmBd
import Derived.Test.YtelohkppbmahnaaDoorQPlPairBd
namespace Go.Proofs.YtelohkppbmahnaaDoor
open Go.RowKit Go.Shelf

/-- How a round's body may be left: on it goes, or by a jump. -/
def roundWayG {α : Type} (B : Nat) (Kp : World → World → Prop) (I : List α → World → Prop) (Ix : Code → List α → World → Prop) (xs : List α) (W : World) : Exit → Act → World → Prop
  | .normal, _, W' => KeepsFrom B W W' ∧ Kp W W' ∧ I xs W'
  | .ret, _, W' => KeepsFrom B W W' ∧ Ix .ret xs W'
  | .exit id, _, W' => KeepsFrom B W W' ∧ Ix (.exit id) xs W'
  | .goto t, _, W' => KeepsFrom B W W' ∧ Ix (.goto t) xs W'
  | .panic _, _, _ => False
  | .outgrown, _, _ => False

/-- What is asked of the iterator, at the loop's own invariant; L and L' stand for the loop's record, which whatever turns cells alone keeps. -/
def IterAtG {α : Type} (F : Fence) (n : Nat) (P : Program) (gf : Nat) (lb : Array Value) (encs : α → Array Value) (w : World) (Kp : World → World → Prop) (I : List α → World → Prop) (Ix : Code → List α → World → Prop) (S Sp : List α → Prop) (G : List α → α → Prop) : Prop :=
  ∀ (l : Nat) (L : World → Prop) (L' : Code → World → Prop) (W1 : World), (∀ W W', KeepsOthers W W' → L W → L W') → (∀ c W W', KeepsOthers W W' → L' c W → L' c W') → Below w.heap.size w W1 →
    (∀ pre x W, I pre W → L W → G pre x → YieldAt F (n - 1) P l (encs x) W fun e W' =>
      (e = .returned (.bool true) ∧ I (pre ++ [x]) W' ∧ Kp W W' ∧ L W') ∨ (e = .returned (.bool false) ∧ ∃ c, Ix c (pre ++ [x]) W' ∧ L' c W')) →
    I [] W1 → L W1 →
    CallsIn F n P gf (#[.func (.yield l) #[] #[]] ++ lb) W1 fun e W' => (∃ v, e = .returned v) ∧ ((∃ xs, S xs ∧ I xs W' ∧ L W') ∨ (∃ pre c, Sp pre ∧ Ix c pre W' ∧ L' c W'))

variable {F : Fence} {n : Nat} {P : Program}

theorem wpIn_range_atG {α : Type} {g : Operand} {ps : Array Tmp} {assign body : Code} {Q : Exit → Act → World → Prop} {a : Act} {w : World}
    (hro : F.round = none) (h1 : 1 ≤ n) {gf : Nat} {lb : Array Value} (hg : a.eval g = .func (.func gf) #[] lb) (hFg : F.fn gf) (eg : ∀ args w, (callFunc gf args).run P w = .ok (.enter gf args) w)
    {encs : α → Array Value} (hps : ∀ x, (encs x).size = ps.size) {S Sp : List α → Prop} {G : List α → α → Prop} (Kp : World → World → Prop) (I : List α → World → Prop) (Ix : Code → List α → World → Prop)
    (hKt : ∀ {A B C : World}, Kp A B → Kp B C → Kp A C) (hKp : ∀ W l o o', w.heap.size ≤ l → W.heap[l]? = some o → o.isCells = false → Kp W (W.putObj l o'))
    (hIp : ∀ pre W l o o', w.heap.size ≤ l → W.heap[l]? = some o → o.isCells = false → I pre W → I pre (W.putObj l o'))
    (hIxp : ∀ c pre W l o o', w.heap.size ≤ l → W.heap[l]? = some o → o.isCells = false → Ix c pre W → Ix c pre (W.putObj l o'))
    (h0 : ∀ o o', I [] ((w.alloc o).alloc o')) (a₁ : α → Act)
    (hiter : IterAtG F (n - 1) P gf lb encs w Kp I Ix S Sp G)
    (hassign : ∀ (l : Nat) (x : α) (W : World) (K : Act → World → Prop), K (a₁ x) W →
      assign.wpIn (F.inRound l) (n - 1 - 1) P (Exit.then K (fun _ _ _ => False)) { tmps := (ps.zip (encs x)).foldl (fun t (p, v) => t.setIfInBounds p v) a.tmps, defers := [] } W)
    (hbody : ∀ (l : Nat) (pre : List α) (x : α) (W : World), I pre W → G pre x → body.wpIn (F.inRound l) (n - 1 - 1) P (roundWayG w.heap.size Kp I Ix (pre ++ [x]) W) (a₁ x) W)
    (hdone : ∀ (D : Nat) (xs : List α) (W : World), S xs → I xs W → W.heap[D]? = some (.deferred (some [])) → w.heap.size ≤ D → Q .normal { a with defers := { target := .collected D, args := #[] } :: a.defers } W)
    (hstop : ∀ (D : Nat) (c : Code) (pre : List α) (W : World), Sp pre → Ix c pre W → W.heap[D]? = some (.deferred (some [])) → w.heap.size ≤ D → c.wpIn F n P Q { a with defers := { target := .collected D, args := #[] } :: a.defers } W) :
    (Code.rangeFunc g ps assign body).wpIn F n P Q a w := by
  refine wpIn_rangeFunc fun fn hfn => ?_
  rw [hro]
  -- the loop's record in its states, its block and the block of the deferred calls
  let mk : LoopState → Option Code → Loop := fun st pe => { state := st, pending := pe, fn, tmps := a.tmps, params := ps, assign, body, defers := w.heap.size }
  let R : LoopState → Option Code → World → Prop := fun st pe W => W.heap[w.heap.size + 1]? = some (.loop (mk st pe)) ∧ W.heap[w.heap.size]? = some (.deferred (some []))
  have keep : ∀ st pe W W', KeepsOthers W W' → R st pe W → R st pe W' := fun st pe W W' hk h => ⟨hk.same _ _ h.1 rfl, hk.same _ _ h.2 rfl⟩
  have keep2 : ∀ st pe W W', KeepsFrom w.heap.size W W' → R st pe W → R st pe W' := fun st pe W W' hk h => ⟨hk.same _ _ (by omega) h.1 rfl, hk.same _ _ (Nat.le_refl _) h.2 rfl⟩
  have turn : ∀ st pe st' pe' W, R st pe W → R st' pe' (W.putObj (w.heap.size + 1) (.loop (mk st' pe'))) := fun st pe st' pe' W h =>
    ⟨World.putObj_heap_same (Array.getElem?_eq_some_iff.1 h.1).1, (World.putObj_heap_other (by omega)).trans h.2⟩
  have start : R .ready none ((w.alloc (.deferred (some []))).alloc (.loop (mk .ready none))) := by
    constructor
    · have := World.alloc_heap_new (w.alloc (.deferred (some []))) (.loop (mk .ready none))
      rwa [World.size_alloc] at this
    · exact (Below.heap_alloc _ _ _ (by simp)).trans (World.alloc_heap_new w _)
  refine ⟨w.heap.size + 1, [{ target := .collected w.heap.size, args := #[] }], (w.alloc (.deferred (some []))).alloc (.loop (mk .ready none)), { target := .fn (.func gf) lb, args := #[.func (.yield (w.heap.size + 1)) #[] #[]] }, (w.alloc (.deferred (some []))).alloc (.loop (mk .ready none)), gf,
    #[.func (.yield (w.heap.size + 1)) #[] #[]] ++ lb, (w.alloc (.deferred (some []))).alloc (.loop (mk .ready none)), run_enterLoop_outer _ _ _ _ _, ?_, ?_, ?_, fun _ => h1, ?_⟩
  · simp only [resolve, hg]
    simp [go_sem]
  · intro f' hf'
    simp [Target.leads] at hf'
    subst hf'
    exact hFg
  · simp [invoke, go_sem, eg]
  refine (hiter (w.heap.size + 1) (R .ready none) (fun c => R .done (some c)) _ (keep _ _) (fun c => keep _ _) (((Below.refl _ w).alloc (Nat.le_refl _) _).alloc (by simp) _) ?_ (h0 _ _) start).mono ?_
  · intro pre x W hi hl hlen
    refine ⟨fn, _, assign, body, run_yield hl.1 (hps x), roundIn_of_wpIn hfn (hassign _ x W _ ⟨_, run_beginRound hl.1 rfl, ?_⟩)⟩
    have hb := turn _ _ .busy none W hl
    refine wpIn_mono (hbody _ pre x _ (hIp _ _ _ _ _ (by omega) hl.1 rfl hi) hlen) ?_
    rintro e a3 W3 hp
    cases e with
    | normal =>
      have h3 := keep2 _ _ _ _ hp.1 hb
      exact ⟨_, _, run_endRound none h3.1, .inl ⟨rfl, hIp _ _ _ _ _ (by omega) h3.1 rfl hp.2.2, hKt (hKt (hKp _ _ _ _ (by omega) hl.1 rfl) hp.2.1) (hKp _ _ _ _ (by omega) h3.1 rfl), turn _ _ .ready none W3 h3⟩⟩
    | ret =>
      have h3 := keep2 _ _ _ _ hp.1 hb
      exact ⟨_, _, run_endRound (some .ret) h3.1, .inr ⟨rfl, .ret, hIxp _ _ _ _ _ _ (by omega) h3.1 rfl hp.2, turn _ _ .done (some .ret) W3 h3⟩⟩
    | exit id =>
      have h3 := keep2 _ _ _ _ hp.1 hb
      exact ⟨_, _, run_endRound (some (.exit id)) h3.1, .inr ⟨rfl, .exit id, hIxp _ _ _ _ _ _ (by omega) h3.1 rfl hp.2, turn _ _ .done (some (.exit id)) W3 h3⟩⟩
    | goto t =>
      have h3 := keep2 _ _ _ _ hp.1 hb
      exact ⟨_, _, run_endRound (some (.goto t)) h3.1, .inr ⟨rfl, .goto t, hIxp _ _ _ _ _ _ (by omega) h3.1 rfl hp.2, turn _ _ .done (some (.goto t)) W3 h3⟩⟩
    | panic ch => exact hp.elim
    | outgrown => exact hp.elim
  · rintro e W2 ⟨⟨v, rfl⟩, (⟨xs, hS, hi, hl⟩ | ⟨pre, c, hSp, hi, hl⟩)⟩
    · exact ⟨none, _, run_endLoop hl.1 (by simp [mk]), hdone _ xs _ hS (hIp _ _ _ _ _ (by omega) hl.1 rfl hi) ((World.putObj_heap_other (by omega)).trans hl.2) (Nat.le_refl _)⟩
    · exact ⟨some c, _, run_endLoop hl.1 (by simp [mk]), hstop _ c pre _ hSp (hIxp _ _ _ _ _ _ (by omega) hl.1 rfl hi) ((World.putObj_heap_other (by omega)).trans hl.2) (Nat.le_refl _)⟩
end Go.Proofs.YtelohkppbmahnaaDoor

/- package arena: Blocks and what its iterator does. -/
namespace Go.Proofs.YtelohkppbmahnaaDoor
open Go.RowKit Go.Shelf
attribute [local go_sem] Oper.semAt_some

/-- Where blocks lie, how long they are, whether they are used. -/
def shape (bs : List Blk) : List (Nat × Nat × Bool) := bs.map fun b => (b.a, b.n, b.u)
/-- The used blocks: where, how long. -/
def usedsF (sh : List (Nat × Nat × Bool)) : List (Nat × Nat) := (sh.filter (·.2.2)).map fun t => (t.1, t.2.1)
theorem usedsF_mem {bs : List Blk} {x : Nat × Nat} : x ∈ usedsF (shape bs) ↔ ∃ b ∈ bs, b.u = true ∧ b.a = x.1 ∧ b.n = x.2 := by
  unfold usedsF shape
  constructor
  · intro h
    obtain ⟨t, ht, rfl⟩ := List.mem_map.1 h
    obtain ⟨h1, h2⟩ := List.mem_filter.1 ht
    obtain ⟨b, hb, rfl⟩ := List.mem_map.1 h1
    exact ⟨b, hb, h2, rfl, rfl⟩
  · rintro ⟨b, hb, hu, h1, h2⟩
    refine List.mem_map.2 ⟨(b.a, b.n, b.u), List.mem_filter.2 ⟨List.mem_map.2 ⟨b, hb, rfl⟩, hu⟩, Prod.ext h1 h2⟩
theorem usedsF_sorted : ∀ {bs : List Blk} {s t : Nat}, Span s bs t → (usedsF (shape bs)).Pairwise (fun x y => x.1 < y.1) ∧ ∀ x ∈ usedsF (shape bs), s ≤ x.1
  | [], _, _, _ => ⟨.nil, fun x h => by simp [usedsF, shape] at h⟩
  | b :: l, s, t, h => by
    obtain ⟨h1, h2, h3⟩ := h
    obtain ⟨i1, i2⟩ := usedsF_sorted h3
    have e : usedsF (shape (b :: l)) = (if b.u then [(b.a, b.n)] else []) ++ usedsF (shape l) := by
      unfold usedsF shape
      cases hu : b.u <;> simp [hu]
    rw [e]
    cases hu : b.u
    · simp only [Bool.false_eq_true, if_false, List.nil_append]
      exact ⟨i1, fun x hx => by have := i2 x hx; omega⟩
    · simp only [if_true, List.singleton_append, List.pairwise_cons]
      refine ⟨⟨fun x hx => by have := i2 x hx; show b.a < x.1; omega, i1⟩, fun x hx => ?_⟩
      rcases List.mem_cons.1 hx with rfl | hx
      · show s ≤ b.a; omega
      · have := i2 x hx; omega
/-- What stands in the iterator's variable where these are still to come. -/
def AtP (rest : List (Nat × Nat)) (r : Int) : Prop := (rest = [] ∧ r = -1) ∨ ∃ x rest', rest = x :: rest' ∧ r = (x.1 : Nat)
theorem atP_of {bs : List Blk} {s t : Nat} (hs : Span s bs t) {tk : Nat → Bool} (ht : ∀ x, tk x = true ↔ ∃ b ∈ bs, b.u = true ∧ b.a = x) {n i : Nat} {r : Int} (hN : NextP tk n i r) {pre rest : List (Nat × Nat)} (hp : pre ++ rest = usedsF (shape bs))
    (h1 : ∀ x ∈ pre, x.1 < i) (h2 : ∀ x ∈ rest, i ≤ x.1) (hn : ∀ b ∈ bs, b.a < 64 * n) : AtP rest r := by
  have hso := (usedsF_sorted hs).1
  rw [← hp] at hso
  have hin : ∀ x ∈ rest, tk x.1 = true ∧ x.1 < 64 * n := fun x hx => by
    obtain ⟨b, hb, hu, ha, _⟩ := usedsF_mem.1 (show x ∈ usedsF (shape bs) by rw [← hp]; simp [hx])
    exact ⟨(ht _).2 ⟨b, hb, hu, ha⟩, by rw [← ha]; exact hn b hb⟩
  rcases hN with ⟨rfl, hno⟩ | ⟨j, rfl, hj1, hj2, hj3, hj4⟩
  · cases rest with
    | nil => exact .inl ⟨rfl, rfl⟩
    | cons x l =>
      obtain ⟨q1, q2⟩ := hin x (by simp)
      rw [hno x.1 (h2 x (by simp)) q2] at q1; cases q1
  · obtain ⟨b, hb, hu, ha⟩ := (ht j).1 hj3
    have hmem : (j, b.n) ∈ pre ++ rest := by rw [hp]; exact usedsF_mem.2 ⟨b, hb, hu, ha, rfl⟩
    have hmr : (j, b.n) ∈ rest := by
      rcases List.mem_append.1 hmem with h | h
      · have : j < i := h1 _ h; omega
      · exact h
    cases rest with
    | nil => simp at hmr
    | cons x l =>
      refine .inr ⟨x, l, rfl, ?_⟩
      have hxj : x.1 = j := by
        rcases List.mem_cons.1 hmr with e | h
        · rw [← e]
        · have hlt : x.1 < j := by
            have := (List.pairwise_append.1 hso).2.1
            exact (List.pairwise_cons.1 this).1 _ h
          have := hj4 x.1 (h2 x (by simp)) hlt
          rw [(hin x (by simp)).1] at this; cases this
      rw [hxj]
theorem AtP.split {bs : List Blk} {s t : Nat} (hs : Span s bs t) {pre rest : List (Nat × Nat)} {x : Nat × Nat} (hp : pre ++ x :: rest = usedsF (shape bs)) : (∀ y ∈ pre ++ [x], y.1 < x.1 + 1) ∧ ∀ y ∈ rest, x.1 + 1 ≤ y.1 := by
  have hso := (usedsF_sorted hs).1
  rw [← hp] at hso
  obtain ⟨a1, a2, a3⟩ := List.pairwise_append.1 hso
  refine ⟨fun y hy => ?_, fun y hy => (List.pairwise_cons.1 a2).1 _ hy⟩
  rcases List.mem_append.1 hy with h | h
  · have := a3 y h x (by simp); omega
  · simp only [List.mem_singleton] at h; subst h; omega

/-- What is asked of memory ahead of each round: the closure's variable, the arena (its blocks lie where they lay), the table of math/bits. -/
structure BlkAt (cb p m : Nat) (sh : List (Nat × Nat × Bool)) (W : World) : Prop where
  cap : W.cell? ⟨cb, 0, none⟩ = some (.pointer (some ⟨p, 0, none⟩))
  ar : ∃ S bs, shape bs = sh ∧ ArV S W p m bs
  tz : TzTab W
theorem blocks_any (p : Nat) (w : World) :
    Calls Tryd.prog 22 #[.pointer (some ⟨p, 0, none⟩)] w fun e w' => e = .returned (.func (.func 47) #[] #[.pointer (some ⟨w.heap.size, 0, none⟩)]) ∧ w' = w.alloc (.cells #[.pointer (some ⟨p, 0, none⟩)] 24) := by
  go_enter Tryd.func22, Tryd.ntmps22
  go_wp2
  go_ret
  exact ⟨rfl, rfl⟩
/-- next, over the used blocks' row. -/
theorem nextB (cb p m : Nat) (sh : List (Nat × Nat × Bool)) (W : World) (hB : BlkAt cb p m sh W) :
    ∃ tb tc, W.cell? ⟨p, 1, none⟩ = some (bits64 tb m tc) ∧ m ≤ 1048576 ∧ (∀ x ∈ usedsF sh, 1 ≤ x.1 ∧ x.1 ≤ m) ∧
      (∀ (i : Nat) (pre rest : List (Nat × Nat)), i ≤ m + 1 → pre ++ rest = usedsF sh → (∀ x ∈ pre, x.1 < i) → (∀ x ∈ rest, i ≤ x.1) →
        Calls Tryd.prog 48 #[bits64 tb m tc, .int .i64 i] W fun e w' => ∃ r : Int, e = .returned (.int .i64 r) ∧ AtP rest r ∧ W = w') ∧
      (∀ x ∈ usedsF sh, Calls Tryd.prog 29 #[.pointer (some ⟨p, 0, none⟩), .int .i64 x.1] W fun e w' => e = .returned (.int .i64 x.2) ∧ W = w') ∧
      (∀ pre x rest, pre ++ x :: rest = usedsF sh → (∀ y ∈ pre ++ [x], y.1 < x.1 + 1) ∧ ∀ y ∈ rest, x.1 + 1 ≤ y.1) := by
  obtain ⟨S, bs, hsh, SL, wb, tb, kb, mc, lv, ws, L, T, K, used, tk, mk, tbs, kbs, A, I, O⟩ := hB.ar
  subst hsh
  have c1 := heap_cell A.core.blk 1
  simp at c1
  have hlen := A.core.len
  have hsm := I.small
  refine ⟨tb, mc.t, c1, by omega, fun x hx => ?_, fun i pre rest hi hp h1 h2 => ?_, fun x hx => ?_, fun pre x rest hp => AtP.split I.span hp⟩
  · obtain ⟨b, hb, _, ha, _⟩ := usedsF_mem.1 hx
    have := I.end_le b hb
    omega
  · refine (next_at W tb (m / 64 + 1) mc.t tk tbs A.brt i (by omega) (by omega) hB.tz).mono ?_
    rintro e w' ⟨r, rfl, hN, rfl⟩
    refine ⟨r, rfl, atP_of I.span I.taken hN hp h1 h2 (fun b hb => ?_), rfl⟩
    have := I.end_le b hb
    omega
  · obtain ⟨b, hb, _, ha, hn⟩ := usedsF_mem.1 hx
    have h3 := I.end_le b hb
    refine (size_at A.core x.1 (by omega) (by omega)).mono ?_
    rintro e w' ⟨rfl, rfl⟩
    rw [← ha, I.head b hb, hn]
    exact ⟨rfl, rfl⟩

theorem absentB (_ p _ : Nat) (_ : List (Nat × Nat × Bool)) (W : World) : Calls Tryd.prog 27 #[.pointer (some ⟨p, 0, none⟩)] W fun e w' => e = .returned (.bool false) ∧ W = w' := absent_at p W
/-- How far the iterator still has to go. -/
def measB (m : Nat) (r : Int) : Nat := if r < 0 then 0 else ((m : Int) + 1 - r).toNat
theorem measB_lt {m a : Nat} {r : Int} {rest : List (Nat × Nat)} (hr : AtP rest r) (h : ∀ y ∈ rest, a + 1 ≤ y.1) (ha : a ≤ m) : measB m r < measB m (a : Int) := by
  unfold measB
  rcases hr with ⟨_, rfl⟩ | ⟨y, l, rfl, rfl⟩
  · rw [if_pos (by omega), if_neg (by omega)]; omega
  · have := h y (by simp)
    rw [if_neg (by omega), if_neg (by omega)]; omega
def encB (x : Nat × Nat) : Array Value := #[.int .i64 (x.1 : Nat), .int .i64 (x.2 : Nat)]
set_option maxHeartbeats 1000000 in
theorem blocks_iter (n cb p m : Nat) (sh : List (Nat × Nat × Bool)) (hn : 1 ≤ n) (w : World) (Kp : World → World → Prop) (I : List (Nat × Nat) → World → Prop) (Ix : Code → List (Nat × Nat) → World → Prop) (hI : ∀ pre W, I pre W → BlkAt cb p m sh W) :
    IterAtG Fence.wide n Tryd.prog 47 #[.pointer (some ⟨cb, 0, none⟩)] encB w Kp I Ix
      (fun xs => xs = usedsF sh) (fun pre => pre <+: usedsF sh) (fun pre x => pre ++ [x] <+: usedsF sh) := by
  intro l L L' W1 hL hL' hbel hY h0 hL0
  have hB := hI _ _ h0
  obtain ⟨tb, tc, c1, hm, hU, hnx, hsz, hsp⟩ := nextB cb p m sh W1 hB
  have c0 := hB.cap
  have NX := Lib.hid (hnx 0 [] (usedsF sh) (by omega) rfl (fun x h => by simp at h) (fun x _ => Nat.zero_le _))
  have HI := Lib.hid hI
  clear hbel hB hnx hsz hsp hU hI
  refine callsIn_of_wp Tryd.func47 rfl trivial ?_ rfl
  simp only [Tryd.ntmps47, List.size_toArray, List.length_cons, List.length_nil, Nat.reduceAdd, Nat.reduceSub, Array.replicate_succ, Array.replicate_zero, List.push_toArray, List.append_toArray, List.nil_append, List.cons_append]
  gi_wp2_with (refine ⟨trivial, ?_⟩; gi_at_call 27; refine (callsIn_wide.2 (absent_at p _)).mono ?_; rintro e w' ⟨rfl, rfl⟩)
  refine ⟨trivial, ?_⟩
  refine (callsIn_wide.2 NX.out).mono ?_
  rintro e w' ⟨r, rfl, hr, rfl⟩
  gi_wp2
  gi_loopw [3] (fun t3 wr => ∃ (pre rest : List (Nat × Nat)) (r : Int), t3 = .int .i64 r ∧ pre ++ rest = usedsF sh ∧ AtP rest r ∧ I pre wr ∧ L wr) (fun t3 _ => measB m (intOf t3))
  case atStart => exact ⟨[], usedsF sh, r, rfl, rfl, hr, h0, hL0⟩
  case round =>
    obtain ⟨pre, rest, r, rfl, hp, hr, hi, hl⟩ := hrel
    rcases hr with ⟨rfl, rfl⟩ | ⟨x, rest', rfl, rfl⟩
    · have HP := Lib.hid hp
      clear hp hY
      gi_wp2
      go_end0
      exact ⟨⟨_, rfl⟩, .inl ⟨pre, by have := HP.out; rw [← this]; simp, hi, hl⟩⟩
    · have hB := HI.out _ _ hi
      obtain ⟨tb, tc, c1, hm, hU, hnx, hsz, hsp⟩ := nextB cb p m sh _ hB
      have c0 := hB.cap
      have hxm := hU x (by rw [← hp]; simp)
      have SZ := Lib.hid (hsz x (by rw [← hp]; simp))
      have HP := Lib.hid hp
      obtain ⟨fn, tmps, assign, body, hy, hR⟩ := hY pre x _ hi hl ⟨rest', by rw [← hp]; simp⟩
      dsimp only [encB] at hy
      obtain ⟨a, ha⟩ : ∃ a, x.1 = a := ⟨_, rfl⟩
      obtain ⟨sz, hsz'⟩ : ∃ sz, x.2 = sz := ⟨_, rfl⟩
      have HA := Lib.hid ha; have HSZ := Lib.hid hsz'
      rw [ha, hsz'] at hy SZ
      rw [ha] at hxm
      rw [ha]
      have ha0 : (0 : Int) ≤ a := Int.natCast_nonneg _
      clear hnx hsz hU hY hB hp hi hl hsp ha hsz'
      gi_wp2_with (refine ⟨trivial, ?_⟩; gi_at_call 29; refine (callsIn_wide.2 SZ.out).mono ?_; rintro e w' ⟨rfl, rfl⟩)
      refine hR.mono ?_
      rintro e W' (⟨rfl, hJ', hk', hl'⟩ | ⟨rfl, c', hx, hl'⟩)
      · have hB := HI.out _ _ hJ'
        obtain ⟨tb2, tc2, c1', hm', hU, hnx, hsz, hsp⟩ := nextB cb p m sh _ hB
        have c0' := hB.cap
        have hsp1 := hsp pre x rest' HP.out
        have e1 : IntKind.i64.wrap ((a : Int) + 1) = ((a + 1 : Nat) : Int) := by rw [IntWalk.i64_in _ ⟨by omega, by omega⟩]; omega
        have NX := Lib.hid (hnx (a + 1) (pre ++ [x]) rest' (by omega) (by rw [← HP.out]; simp) (fun y hy => by have := hsp1.1 y hy; rw [HA.out] at this; exact this) (fun y hy => by have := hsp1.2 y hy; rw [HA.out] at this; exact this))
        have HSP := Lib.hid hsp1.2; have HU2 := Lib.hid hU
        clear hB hnx hsz hU hsp hsp1
        gi_wp2_with (refine ⟨trivial, ?_⟩; gi_at_call 48; refine (callsIn_wide.2 NX.out).mono ?_; rintro e w' ⟨r2, rfl, hr2, rfl⟩)
        go_roundw
        case rel => exact ⟨pre ++ [x], rest', r2, rfl, by rw [← HP.out]; simp, hr2, hJ', hl'⟩
        case measure => exact measB_lt hr2 (fun y hy => by have := HSP.out y hy; rw [HA.out] at this; exact this) hxm.2
      · gi_wp2
        refine bodyPost_ret (results_none rfl _ _ _) rfl ?_
        exact ⟨⟨_, rfl⟩, .inr ⟨pre ++ [x], c', ⟨rest', by have := HP.out; rw [← this]; simp⟩, hx, hl'⟩⟩
end Go.Proofs.YtelohkppbmahnaaDoor

/- Of no program: an order-free region of reads and calm calls inside a round of a range over a function. -/
namespace Go.Proofs.YtelohkppbmahnaaDoor
open Go.RowKit Go.BigFrame

theorem wpIn_quiet_round {P : Program} {id n lb : Nat} {K : Act → World → Prop} {Q : Exit → Act → World → Prop} {a : Act} {w : World} {l : List Oper} (hm : P.follows .mixedOrders = true) (hnd : ∀ o ∈ l, ∀ c, o.op ≠ .defer c) (hn : ∀ a w, K a w → Q .normal a w)
    (hB : Region.lexB .any l.toArray = true)
    (h : wpQuiet P l.toArray (fun w' => ∃ x : Ext w, w' = x.val) (fun a' => ∀ w', Below w.heap.size w w' → K a' w') l a) : (Code.region id l.toArray true).wpIn (Fence.wide.inRound lb) n P Q a w := by
  refine wpIn_region_calm hm (by simpa using hnd) hn ?_
  simp only [Region.lexB, Bool.and_eq_true] at hB
  refine wpAny_of_quiet (C := fun w' => ∃ x : Ext w, w' = x.val) (Q := fun a' => ∀ w', Below w.heap.size w w' → K a' w') (fun a' w' hw' h => ?_) _ _ _ _ ⟨⟨_, (Below.refl _ _).drew⟩, rfl⟩ ?_
  · obtain ⟨x, rfl⟩ := hw'
    exact h _ x.2
  · have := wpAnyQ_lex (C := fun w' => ∃ x : Ext w, w' = x.val) (md := .any) (ops := l.toArray) hB.1 l 0 (Array.replicate l.toArray.size false) a (by simp) (by simpa using hB.2) h
    simpa using this
end Go.Proofs.YtelohkppbmahnaaDoor

/- The used blocks in their order: the next one behind k (plain). -/
namespace Go.Proofs.YtelohkppbmahnaaDoor

theorem usedsF_cons (b : Blk) (l : List Blk) : usedsF (shape (b :: l)) = (if b.u then [(b.a, b.n)] else []) ++ usedsF (shape l) := by
  unfold usedsF shape
  cases h : b.u <;> simp [h]
theorem usedsF_app (l1 l2 : List Blk) : usedsF (shape (l1 ++ l2)) = usedsF (shape l1) ++ usedsF (shape l2) := by
  unfold usedsF shape
  simp
/-- The next used block. -/
theorem next_used : ∀ (bs : List Blk) (k : Nat) (x : Nat × Nat), k ≤ bs.length → usedsF (shape (bs.take k)) ++ [x] <+: usedsF (shape bs) →
    ∃ j b, k ≤ j ∧ bs[j]? = some b ∧ b.u = true ∧ b.a = x.1 ∧ b.n = x.2 ∧ (∀ i c, k ≤ i → i < j → bs[i]? = some c → c.u = false) ∧ usedsF (shape (bs.take j)) = usedsF (shape (bs.take k)) ∧ usedsF (shape (bs.take (j + 1))) = usedsF (shape (bs.take k)) ++ [x] := by
  intro bs k x hk h
  have hsplit : usedsF (shape bs) = usedsF (shape (bs.take k)) ++ usedsF (shape (bs.drop k)) := by
    rw [← usedsF_app, List.take_append_drop]
  rw [hsplit, List.prefix_append_right_inj] at h
  -- the first used one of the rest
  have go : ∀ (l : List Blk), [x] <+: usedsF (shape l) → ∃ j b, l[j]? = some b ∧ b.u = true ∧ b.a = x.1 ∧ b.n = x.2 ∧ (∀ i c, i < j → l[i]? = some c → c.u = false) ∧ usedsF (shape (l.take j)) = [] := by
    intro l
    induction l with
    | nil => intro h; simp [usedsF, shape] at h
    | cons b l ih =>
      intro h
      rw [usedsF_cons] at h
      cases hu : b.u
      · rw [hu] at h
        obtain ⟨j, c, h1, h2, h3, h4, h5, h6⟩ := ih (by simpa using h)
        refine ⟨j + 1, c, by simpa using h1, h2, h3, h4, fun i d hi hd => ?_, ?_⟩
        · cases i with
          | zero => simp at hd; rw [← hd]; exact hu
          | succ i => exact h5 i d (by omega) (by simpa using hd)
        · rw [List.take_succ_cons, usedsF_cons, hu, h6]; rfl
      · rw [hu] at h
        have hx : x = (b.a, b.n) := by simpa using h
        exact ⟨0, b, rfl, hu, by rw [hx], by rw [hx], fun i d hi => by omega, rfl⟩
  obtain ⟨j, b, h1, h2, h3, h4, h5, h6⟩ := go (bs.drop k) h
  have hj : bs[k + j]? = some b := by rw [List.getElem?_drop] at h1; exact h1
  have ht : bs.take (k + j) = bs.take k ++ (bs.drop k).take j := List.take_add
  refine ⟨k + j, b, by omega, hj, h2, h3, h4, fun i c hi hij hc => ?_, ?_, ?_⟩
  · refine h5 (i - k) c (by omega) ?_
    rw [List.getElem?_drop, show k + (i - k) = i by omega]; exact hc
  · rw [ht, usedsF_app, h6, List.append_nil]
  · rw [List.take_add_one, hj, usedsF_app, ht, usedsF_app, h6, List.append_nil]
    congr 1
    show usedsF (shape [b]) = [x]
    rw [usedsF_cons, h2, h3, h4]; rfl
/-- All were met: those behind k are free. -/
theorem rest_free (bs : List Blk) (k : Nat) (h : usedsF (shape (bs.take k)) = usedsF (shape bs)) : ∀ i c, k ≤ i → bs[i]? = some c → c.u = false := by
  intro i c hi hc
  have hsplit : usedsF (shape bs) = usedsF (shape (bs.take k)) ++ usedsF (shape (bs.drop k)) := by
    rw [← usedsF_app, List.take_append_drop]
  rw [hsplit] at h
  have h0 : usedsF (shape (bs.drop k)) = [] := by simpa using h
  cases hu : c.u
  · rfl
  · have hm : (c.a, c.n) ∈ usedsF (shape (bs.drop k)) := usedsF_mem.2 ⟨c, by
      refine List.mem_of_getElem? (i := i - k) ?_
      rw [List.getElem?_drop, show k + (i - k) = i by omega]; exact hc, hu, rfl, rfl⟩
    rw [h0] at hm; simp at hm
end Go.Proofs.YtelohkppbmahnaaDoor
