import Derived.Test.YtlcfkfijomnmnaaGreatDoorQMkBitsBd
namespace Go.Proofs.YtlcfkfijomnmnaaGreatDoor
open Lib (hid)
section
open Go.RowKit Go.Shelf
def roundWayG {α : Type} (B : Nat) (Kp : World → World → Prop) (I : List α → World → Prop) (Ix : Code → List α → World → Prop) (xs : List α) (W : World) : Exit → Act → World → Prop
  | .normal, _, W' => KeepsFrom B W W' ∧ Kp W W' ∧ I xs W'
  | .ret, _, W' => KeepsFrom B W W' ∧ Ix .ret xs W'
  | .exit id, _, W' => KeepsFrom B W W' ∧ Ix (.exit id) xs W'
  | .goto t, _, W' => KeepsFrom B W W' ∧ Ix (.goto t) xs W'
  | .panic _, _, _ => False
  | .outgrown, _, _ => False
def IterAtG {α : Type} (F : Fence) (n : Nat) (P : Program) (gf : Nat) (lb : Array Value) (encs : α → Array Value) (w : World) (Kp : World → World → Prop) (I : List α → World → Prop) (Ix : Code → List α → World → Prop) (S Sp : List α → Prop) (G : List α → α → Prop) : Prop :=
  ∀ (l : Nat) (L : World → Prop) (L' : Code → World → Prop) (W1 : World), (∀ W W', KeepsOthers W W' → L W → L W') → (∀ c W W', KeepsOthers W W' → L' c W → L' c W') → Below w.heap.size w W1 →
    (∀ pre x W, I pre W → L W → G pre x → YieldAt F (n - 1) P l (encs x) W fun e W' =>
      (e = .returned (.bool true) ∧ I (pre ++ [x]) W' ∧ Kp W W' ∧ L W') ∨ (e = .returned (.bool false) ∧ ∃ c, Ix c (pre ++ [x]) W' ∧ L' c W')) →
    I [] W1 → L W1 →
    CallsIn F n P gf (#[.func (.yield l) #[] #[]] ++ lb) W1 fun e W' => (∃ v, e = .returned v) ∧ ((∃ xs, S xs ∧ I xs W' ∧ L W') ∨ (∃ pre c, Sp pre ∧ Ix c pre W' ∧ L' c W'))
variable {F : Fence} {n : Nat} {P : Program}
theorem wpIn_range_atG {α : Type} {g : Operand} {ps : Array Tmp} {assign body : Code} {Q : Exit → Act → World → Prop} {a : Act} {w : World}
    (hro : F.round = none) (h1 : 1 ≤ n) {gf : Nat} {lb : Array Value} (hg : a.eval g = .func (.func gf) #[] lb) (hFg : F.fn gf) (eg : ∀ args w, (callFunc gf args).run P w = .ok (.enter gf args) w)
    {encs : α → Array Value} (hps : ∀ x, (encs x).size = ps.size) {S Sp : List α → Prop} {G : List α → α → Prop} (Kp : World → World → Prop) (I : List α → World → Prop) (Ix : Code → List α → World → Prop)
    (hKt : ∀ {A B C : World}, Kp A B → Kp B C → Kp A C) (hKp : ∀ W l o o', w.heap.size ≤ l → W.heap[l]? = some o → o.isCells = false → Kp W (W.putObj l o'))
    (hIp : ∀ pre W l o o', w.heap.size ≤ l → W.heap[l]? = some o → o.isCells = false → I pre W → I pre (W.putObj l o'))
    (hIxp : ∀ c pre W l o o', w.heap.size ≤ l → W.heap[l]? = some o → o.isCells = false → Ix c pre W → Ix c pre (W.putObj l o'))
    (h0 : ∀ o o', I [] ((w.alloc o).alloc o')) (a₁ : α → Act)
    (hiter : IterAtG F (n - 1) P gf lb encs w Kp I Ix S Sp G)
    (hassign : ∀ (l : Nat) (x : α) (W : World) (K : Act → World → Prop), K (a₁ x) W →
      assign.wpIn (F.inRound l) (n - 1 - 1) P (Exit.then K (fun _ _ _ => False)) { tmps := (ps.zip (encs x)).foldl (fun t (p, v) => t.setIfInBounds p v) a.tmps, defers := [] } W)
    (hbody : ∀ (l : Nat) (pre : List α) (x : α) (W : World), I pre W → G pre x → body.wpIn (F.inRound l) (n - 1 - 1) P (roundWayG w.heap.size Kp I Ix (pre ++ [x]) W) (a₁ x) W)
    (hdone : ∀ (D : Nat) (xs : List α) (W : World), S xs → I xs W → W.heap[D]? = some (.deferred (some [])) → w.heap.size ≤ D → Q .normal { a with defers := { target := .collected D, args := #[] } :: a.defers } W)
    (hstop : ∀ (D : Nat) (c : Code) (pre : List α) (W : World), Sp pre → Ix c pre W → W.heap[D]? = some (.deferred (some [])) → w.heap.size ≤ D → c.wpIn F n P Q { a with defers := { target := .collected D, args := #[] } :: a.defers } W) :
    (Code.rangeFunc g ps assign body).wpIn F n P Q a w := by
  refine wpIn_rangeFunc fun fn hfn => ?_
  rw [hro]
  -- the loop's record in its states, its block and the block of the deferred calls
  let mk : LoopState → Option Code → Loop := fun st pe => { state := st, pending := pe, fn, tmps := a.tmps, params := ps, assign, body, defers := w.heap.size }
  let R : LoopState → Option Code → World → Prop := fun st pe W => W.heap[w.heap.size + 1]? = some (.loop (mk st pe)) ∧ W.heap[w.heap.size]? = some (.deferred (some []))
  have keep : ∀ st pe W W', KeepsOthers W W' → R st pe W → R st pe W' := fun st pe W W' hk h => ⟨hk.same _ _ h.1 rfl, hk.same _ _ h.2 rfl⟩
  have keep2 : ∀ st pe W W', KeepsFrom w.heap.size W W' → R st pe W → R st pe W' := fun st pe W W' hk h => ⟨hk.same _ _ (by omega) h.1 rfl, hk.same _ _ (Nat.le_refl _) h.2 rfl⟩
  have turn : ∀ st pe st' pe' W, R st pe W → R st' pe' (W.putObj (w.heap.size + 1) (.loop (mk st' pe'))) := fun st pe st' pe' W h =>
    ⟨World.putObj_heap_same (Array.getElem?_eq_some_iff.1 h.1).1, (World.putObj_heap_other (by omega)).trans h.2⟩
  have start : R .ready none ((w.alloc (.deferred (some []))).alloc (.loop (mk .ready none))) := by
    constructor
    · have := World.alloc_heap_new (w.alloc (.deferred (some []))) (.loop (mk .ready none))
      rwa [World.size_alloc] at this
    · exact (Below.heap_alloc _ _ _ (by simp)).trans (World.alloc_heap_new w _)
  refine ⟨w.heap.size + 1, [{ target := .collected w.heap.size, args := #[] }], (w.alloc (.deferred (some []))).alloc (.loop (mk .ready none)), { target := .fn (.func gf) lb, args := #[.func (.yield (w.heap.size + 1)) #[] #[]] }, (w.alloc (.deferred (some []))).alloc (.loop (mk .ready none)), gf,
    #[.func (.yield (w.heap.size + 1)) #[] #[]] ++ lb, (w.alloc (.deferred (some []))).alloc (.loop (mk .ready none)), run_enterLoop_outer _ _ _ _ _, ?_, ?_, ?_, fun _ => h1, ?_⟩
  · simp only [resolve, hg]
    simp [go_sem]
  · intro f' hf'
    simp [Target.leads] at hf'
    subst hf'
    exact hFg
  · simp [invoke, go_sem, eg]
  refine (hiter (w.heap.size + 1) (R .ready none) (fun c => R .done (some c)) _ (keep _ _) (fun c => keep _ _) (((Below.refl _ w).alloc (Nat.le_refl _) _).alloc (by simp) _) ?_ (h0 _ _) start).mono ?_
  · intro pre x W hi hl hlen
    refine ⟨fn, _, assign, body, run_yield hl.1 (hps x), roundIn_of_wpIn hfn (hassign _ x W _ ⟨_, run_beginRound hl.1 rfl, ?_⟩)⟩
    have hb := turn _ _ .busy none W hl
    refine wpIn_mono (hbody _ pre x _ (hIp _ _ _ _ _ (by omega) hl.1 rfl hi) hlen) ?_
    rintro e a3 W3 hp
    cases e with
    | normal =>
      have h3 := keep2 _ _ _ _ hp.1 hb
      exact ⟨_, _, run_endRound none h3.1, .inl ⟨rfl, hIp _ _ _ _ _ (by omega) h3.1 rfl hp.2.2, hKt (hKt (hKp _ _ _ _ (by omega) hl.1 rfl) hp.2.1) (hKp _ _ _ _ (by omega) h3.1 rfl), turn _ _ .ready none W3 h3⟩⟩
    | ret =>
      have h3 := keep2 _ _ _ _ hp.1 hb
      exact ⟨_, _, run_endRound (some .ret) h3.1, .inr ⟨rfl, .ret, hIxp _ _ _ _ _ _ (by omega) h3.1 rfl hp.2, turn _ _ .done (some .ret) W3 h3⟩⟩
    | exit id =>
      have h3 := keep2 _ _ _ _ hp.1 hb
      exact ⟨_, _, run_endRound (some (.exit id)) h3.1, .inr ⟨rfl, .exit id, hIxp _ _ _ _ _ _ (by omega) h3.1 rfl hp.2, turn _ _ .done (some (.exit id)) W3 h3⟩⟩
    | goto t =>
      have h3 := keep2 _ _ _ _ hp.1 hb
      exact ⟨_, _, run_endRound (some (.goto t)) h3.1, .inr ⟨rfl, .goto t, hIxp _ _ _ _ _ _ (by omega) h3.1 rfl hp.2, turn _ _ .done (some (.goto t)) W3 h3⟩⟩
    | panic ch => exact hp.elim
    | outgrown => exact hp.elim
  · rintro e W2 ⟨⟨v, rfl⟩, (⟨xs, hS, hi, hl⟩ | ⟨pre, c, hSp, hi, hl⟩)⟩
    · exact ⟨none, _, run_endLoop hl.1 (by simp [mk]), hdone _ xs _ hS (hIp _ _ _ _ _ (by omega) hl.1 rfl hi) ((World.putObj_heap_other (by omega)).trans hl.2) (Nat.le_refl _)⟩
    · exact ⟨some c, _, run_endLoop hl.1 (by simp [mk]), hstop _ c pre _ hSp (hIxp _ _ _ _ _ _ (by omega) hl.1 rfl hi) ((World.putObj_heap_other (by omega)).trans hl.2) (Nat.le_refl _)⟩
end
section
open Go.RowKit Go.Shelf
attribute [local go_sem] Oper.semAt_some
def shape (bs : List Blk) : List (Nat × Nat × Bool) := bs.map fun b => (b.a, b.n, b.u)
def usedsF (sh : List (Nat × Nat × Bool)) : List (Nat × Nat) := (sh.filter (·.2.2)).map fun t => (t.1, t.2.1)
theorem usedsF_mem {bs : List Blk} {x : Nat × Nat} : x ∈ usedsF (shape bs) ↔ ∃ b ∈ bs, b.u = true ∧ b.a = x.1 ∧ b.n = x.2 := by
  unfold usedsF shape
  constructor
  · intro h
    obtain ⟨t, ht, rfl⟩ := List.mem_map.1 h
    obtain ⟨h1, h2⟩ := List.mem_filter.1 ht
    obtain ⟨b, hb, rfl⟩ := List.mem_map.1 h1
    exact ⟨b, hb, h2, rfl, rfl⟩
  · rintro ⟨b, hb, hu, h1, h2⟩
    refine List.mem_map.2 ⟨(b.a, b.n, b.u), List.mem_filter.2 ⟨List.mem_map.2 ⟨b, hb, rfl⟩, hu⟩, Prod.ext h1 h2⟩
theorem usedsF_sorted : ∀ {bs : List Blk} {s t : Nat}, Span s bs t → (usedsF (shape bs)).Pairwise (fun x y => x.1 < y.1) ∧ ∀ x ∈ usedsF (shape bs), s ≤ x.1
  | [], _, _, _ => ⟨.nil, fun x h => by simp [usedsF, shape] at h⟩
  | b :: l, s, t, h => by
    obtain ⟨h1, h2, h3⟩ := h
    obtain ⟨i1, i2⟩ := usedsF_sorted h3
    have e : usedsF (shape (b :: l)) = (if b.u then [(b.a, b.n)] else []) ++ usedsF (shape l) := by
      unfold usedsF shape
      cases hu : b.u <;> simp [hu]
    rw [e]
    cases hu : b.u
    · simp only [Bool.false_eq_true, if_false, List.nil_append]
      exact ⟨i1, fun x hx => by have := i2 x hx; omega⟩
    · simp only [if_true, List.singleton_append, List.pairwise_cons]
      refine ⟨⟨fun x hx => by have := i2 x hx; show b.a < x.1; omega, i1⟩, fun x hx => ?_⟩
      rcases List.mem_cons.1 hx with rfl | hx
      · show s ≤ b.a; omega
      · have := i2 x hx; omega
def AtP (rest : List (Nat × Nat)) (r : Int) : Prop := (rest = [] ∧ r = -1) ∨ ∃ x rest', rest = x :: rest' ∧ r = (x.1 : Nat)
theorem atP_of {bs : List Blk} {s t : Nat} (hs : Span s bs t) {tk : Nat → Bool} (ht : ∀ x, tk x = true ↔ ∃ b ∈ bs, b.u = true ∧ b.a = x) {n i : Nat} {r : Int} (hN : NextP tk n i r) {pre rest : List (Nat × Nat)} (hp : pre ++ rest = usedsF (shape bs))
    (h1 : ∀ x ∈ pre, x.1 < i) (h2 : ∀ x ∈ rest, i ≤ x.1) (hn : ∀ b ∈ bs, b.a < 64 * n) : AtP rest r := by
  have hso := (usedsF_sorted hs).1
  rw [← hp] at hso
  have hin : ∀ x ∈ rest, tk x.1 = true ∧ x.1 < 64 * n := fun x hx => by
    obtain ⟨b, hb, hu, ha, _⟩ := usedsF_mem.1 (show x ∈ usedsF (shape bs) by rw [← hp]; simp [hx])
    exact ⟨(ht _).2 ⟨b, hb, hu, ha⟩, by rw [← ha]; exact hn b hb⟩
  rcases hN with ⟨rfl, hno⟩ | ⟨j, rfl, hj1, hj2, hj3, hj4⟩
  · cases rest with
    | nil => exact .inl ⟨rfl, rfl⟩
    | cons x l =>
      obtain ⟨q1, q2⟩ := hin x (by simp)
      rw [hno x.1 (h2 x (by simp)) q2] at q1; cases q1
  · obtain ⟨b, hb, hu, ha⟩ := (ht j).1 hj3
    have hmem : (j, b.n) ∈ pre ++ rest := by rw [hp]; exact usedsF_mem.2 ⟨b, hb, hu, ha, rfl⟩
    have hmr : (j, b.n) ∈ rest := by
      rcases List.mem_append.1 hmem with h | h
      · have : j < i := h1 _ h; omega
      · exact h
    cases rest with
    | nil => simp at hmr
    | cons x l =>
      refine .inr ⟨x, l, rfl, ?_⟩
      have hxj : x.1 = j := by
        rcases List.mem_cons.1 hmr with e | h
        · rw [← e]
        · have hlt : x.1 < j := by
            have := (List.pairwise_append.1 hso).2.1
            exact (List.pairwise_cons.1 this).1 _ h
          have := hj4 x.1 (h2 x (by simp)) hlt
          rw [(hin x (by simp)).1] at this; cases this
      rw [hxj]
theorem AtP.split {bs : List Blk} {s t : Nat} (hs : Span s bs t) {pre rest : List (Nat × Nat)} {x : Nat × Nat} (hp : pre ++ x :: rest = usedsF (shape bs)) : (∀ y ∈ pre ++ [x], y.1 < x.1 + 1) ∧ ∀ y ∈ rest, x.1 + 1 ≤ y.1 := by
  have hso := (usedsF_sorted hs).1
  rw [← hp] at hso
  obtain ⟨a1, a2, a3⟩ := List.pairwise_append.1 hso
  refine ⟨fun y hy => ?_, fun y hy => (List.pairwise_cons.1 a2).1 _ hy⟩
  rcases List.mem_append.1 hy with h | h
  · have := a3 y h x (by simp); omega
  · simp only [List.mem_singleton] at h; subst h; omega
structure BlkAt (cb p m : Nat) (sh : List (Nat × Nat × Bool)) (W : World) : Prop where
  cap : W.cell? ⟨cb, 0, none⟩ = some (.pointer (some ⟨p, 0, none⟩))
  ar : ∃ S bs, shape bs = sh ∧ ArV S W p m bs
  tz : TzTab W
theorem blocks_any (p : Nat) (w : World) :
    Calls Tryz.prog 62 #[.pointer (some ⟨p, 0, none⟩)] w fun e w' => e = .returned (.func (.func 104) #[] #[.pointer (some ⟨w.heap.size, 0, none⟩)]) ∧ w' = w.alloc (.cells #[.pointer (some ⟨p, 0, none⟩)] 79) := by
  go_enter Tryz.func62, Tryz.ntmps62
  go_wp2
  go_ret
  exact ⟨rfl, rfl⟩
theorem nextB (cb p m : Nat) (sh : List (Nat × Nat × Bool)) (W : World) (hB : BlkAt cb p m sh W) :
    ∃ tb tc, W.cell? ⟨p, 1, none⟩ = some (bits64 tb m tc) ∧ m ≤ 1048576 ∧ (∀ x ∈ usedsF sh, 1 ≤ x.1 ∧ x.1 ≤ m) ∧
      (∀ (i : Nat) (pre rest : List (Nat × Nat)), i ≤ m + 1 → pre ++ rest = usedsF sh → (∀ x ∈ pre, x.1 < i) → (∀ x ∈ rest, i ≤ x.1) →
        Calls Tryz.prog 105 #[bits64 tb m tc, .int .i64 i] W fun e w' => ∃ r : Int, e = .returned (.int .i64 r) ∧ AtP rest r ∧ W = w') ∧
      (∀ x ∈ usedsF sh, Calls Tryz.prog 66 #[.pointer (some ⟨p, 0, none⟩), .int .i64 x.1] W fun e w' => e = .returned (.int .i64 x.2) ∧ W = w') ∧
      (∀ pre x rest, pre ++ x :: rest = usedsF sh → (∀ y ∈ pre ++ [x], y.1 < x.1 + 1) ∧ ∀ y ∈ rest, x.1 + 1 ≤ y.1) := by
  obtain ⟨S, bs, hsh, SL, wb, tb, kb, mc, lv, ws, L, T, K, used, tk, mk, tbs, kbs, A, I, O⟩ := hB.ar
  subst hsh
  have c1 := heap_cell A.core.blk 1
  simp at c1
  have hlen := A.core.len
  have hsm := I.small
  refine ⟨tb, mc.t, c1, by omega, fun x hx => ?_, fun i pre rest hi hp h1 h2 => ?_, fun x hx => ?_, fun pre x rest hp => AtP.split I.span hp⟩
  · obtain ⟨b, hb, _, ha, _⟩ := usedsF_mem.1 hx
    have := I.end_le b hb
    omega
  · refine (next_at W tb (m / 64 + 1) mc.t tk tbs A.brt i (by omega) (by omega) hB.tz).mono ?_
    rintro e w' ⟨r, rfl, hN, rfl⟩
    refine ⟨r, rfl, atP_of I.span I.taken hN hp h1 h2 (fun b hb => ?_), rfl⟩
    have := I.end_le b hb
    omega
  · obtain ⟨b, hb, _, ha, hn⟩ := usedsF_mem.1 hx
    have h3 := I.end_le b hb
    refine (size_at A.core x.1 (by omega) (by omega)).mono ?_
    rintro e w' ⟨rfl, rfl⟩
    rw [← ha, I.head b hb, hn]
    exact ⟨rfl, rfl⟩
def measB (m : Nat) (r : Int) : Nat := if r < 0 then 0 else ((m : Int) + 1 - r).toNat
theorem measB_lt {m a : Nat} {r : Int} {rest : List (Nat × Nat)} (hr : AtP rest r) (h : ∀ y ∈ rest, a + 1 ≤ y.1) (ha : a ≤ m) : measB m r < measB m (a : Int) := by
  unfold measB
  rcases hr with ⟨_, rfl⟩ | ⟨y, l, rfl, rfl⟩
  · rw [if_pos (by omega), if_neg (by omega)]; omega
  · have := h y (by simp)
    rw [if_neg (by omega), if_neg (by omega)]; omega
def encB (x : Nat × Nat) : Array Value := #[.int .i64 (x.1 : Nat), .int .i64 (x.2 : Nat)]
set_option maxHeartbeats 1000000 in
theorem blocks_iter (n cb p m : Nat) (sh : List (Nat × Nat × Bool)) (hn : 1 ≤ n) (w : World) (Kp : World → World → Prop) (I : List (Nat × Nat) → World → Prop) (Ix : Code → List (Nat × Nat) → World → Prop) (hI : ∀ pre W, I pre W → BlkAt cb p m sh W) :
    IterAtG Fence.wide n Tryz.prog 104 #[.pointer (some ⟨cb, 0, none⟩)] encB w Kp I Ix
      (fun xs => xs = usedsF sh) (fun pre => pre <+: usedsF sh) (fun pre x => pre ++ [x] <+: usedsF sh) := by
  intro l L L' W1 hL hL' hbel hY h0 hL0
  have hB := hI _ _ h0
  obtain ⟨tb, tc, c1, hm, hU, hnx, hsz, hsp⟩ := nextB cb p m sh W1 hB
  have c0 := hB.cap
  have NX := hid (hnx 0 [] (usedsF sh) (by omega) rfl (fun x h => by simp at h) (fun x _ => Nat.zero_le _))
  have HI := hid hI
  clear hbel hB hnx hsz hsp hU hI
  refine callsIn_of_wp Tryz.func104 rfl trivial ?_ rfl
  simp only [Tryz.ntmps104, List.size_toArray, List.length_cons, List.length_nil, Nat.reduceAdd, Nat.reduceSub, Array.replicate_succ, Array.replicate_zero, List.push_toArray, List.append_toArray, List.nil_append, List.cons_append]
  gi_wp2_with (refine ⟨trivial, ?_⟩; gi_at_call 58; refine (callsIn_wide.2 (absent_at p _)).mono ?_; rintro e w' ⟨rfl, rfl⟩)
  refine ⟨trivial, ?_⟩
  refine (callsIn_wide.2 NX.out).mono ?_
  rintro e w' ⟨r, rfl, hr, rfl⟩
  gi_wp2
  gi_loopw [3] (fun t3 wr => ∃ (pre rest : List (Nat × Nat)) (r : Int), t3 = .int .i64 r ∧ pre ++ rest = usedsF sh ∧ AtP rest r ∧ I pre wr ∧ L wr) (fun t3 _ => measB m (intOf t3))
  case atStart => exact ⟨[], usedsF sh, r, rfl, rfl, hr, h0, hL0⟩
  case round =>
    obtain ⟨pre, rest, r, rfl, hp, hr, hi, hl⟩ := hrel
    rcases hr with ⟨rfl, rfl⟩ | ⟨x, rest', rfl, rfl⟩
    · have HP := hid hp
      clear hp hY
      gi_wp2
      go_end0
      exact ⟨⟨_, rfl⟩, .inl ⟨pre, by have := HP.out; rw [← this]; simp, hi, hl⟩⟩
    · have hB := HI.out _ _ hi
      obtain ⟨tb, tc, c1, hm, hU, hnx, hsz, hsp⟩ := nextB cb p m sh _ hB
      have c0 := hB.cap
      have hxm := hU x (by rw [← hp]; simp)
      have SZ := hid (hsz x (by rw [← hp]; simp))
      have HP := hid hp
      obtain ⟨fn, tmps, assign, body, hy, hR⟩ := hY pre x _ hi hl ⟨rest', by rw [← hp]; simp⟩
      dsimp only [encB] at hy
      obtain ⟨a, ha⟩ : ∃ a, x.1 = a := ⟨_, rfl⟩
      obtain ⟨sz, hsz'⟩ : ∃ sz, x.2 = sz := ⟨_, rfl⟩
      have HA := hid ha; have HSZ := hid hsz'
      rw [ha, hsz'] at hy SZ
      rw [ha] at hxm
      rw [ha]
      have ha0 : (0 : Int) ≤ a := Int.natCast_nonneg _
      clear hnx hsz hU hY hB hp hi hl hsp ha hsz'
      gi_wp2_with (refine ⟨trivial, ?_⟩; gi_at_call 66; refine (callsIn_wide.2 SZ.out).mono ?_; rintro e w' ⟨rfl, rfl⟩)
      refine hR.mono ?_
      rintro e W' (⟨rfl, hJ', hk', hl'⟩ | ⟨rfl, c', hx, hl'⟩)
      · have hB := HI.out _ _ hJ'
        obtain ⟨tb2, tc2, c1', hm', hU, hnx, hsz, hsp⟩ := nextB cb p m sh _ hB
        have c0' := hB.cap
        have hsp1 := hsp pre x rest' HP.out
        have e1 : IntKind.i64.wrap ((a : Int) + 1) = ((a + 1 : Nat) : Int) := by rw [IntWalk.i64_in _ ⟨by omega, by omega⟩]; omega
        have NX := hid (hnx (a + 1) (pre ++ [x]) rest' (by omega) (by rw [← HP.out]; simp) (fun y hy => by have := hsp1.1 y hy; rw [HA.out] at this; exact this) (fun y hy => by have := hsp1.2 y hy; rw [HA.out] at this; exact this))
        have HSP := hid hsp1.2; have HU2 := hid hU
        clear hB hnx hsz hU hsp hsp1
        gi_wp2_with (refine ⟨trivial, ?_⟩; gi_at_call 105; refine (callsIn_wide.2 NX.out).mono ?_; rintro e w' ⟨r2, rfl, hr2, rfl⟩)
        go_roundw
        case rel => exact ⟨pre ++ [x], rest', r2, rfl, by rw [← HP.out]; simp, hr2, hJ', hl'⟩
        case measure => exact measB_lt hr2 (fun y hy => by have := HSP.out y hy; rw [HA.out] at this; exact this) hxm.2
      · gi_wp2
        refine bodyPost_ret (results_none rfl _ _ _) rfl ?_
        exact ⟨⟨_, rfl⟩, .inr ⟨pre ++ [x], c', ⟨rest', by have := HP.out; rw [← this]; simp⟩, hx, hl'⟩⟩
end
section
open Go.RowKit
def toF (x : Nat) : Option Nat := if there ((x : Int) % 8) ((x : Int) / 8) && (x % 8 == 2 || x % 8 == 5) then some (x / 8) else none
theorem toF_pos {x a : Nat} (h : toF x = some a) : 1 ≤ a ∧ a < 1099511627776 ∧ a = x / 8 := by
  unfold toF at h
  split at h
  · rename_i hc
    cases h
    simp only [Bool.and_eq_true, Bool.or_eq_true, beq_iff_eq] at hc
    obtain ⟨h1, h2⟩ := hc
    unfold there at h1
    rcases h2 with h2 | h2
    · have e : (x : Int) % 8 = 2 := by omega
      rw [e] at h1
      simp at h1
      omega
    · have e : (x : Int) % 8 = 5 := by omega
      rw [e] at h1
      simp at h1
      omega
  · cases h
theorem ret_tb {k1 : IntKind} {a b : Int} {c : Bool} (h : a = b) : Ending.returned (.tuple #[.int k1 a, .bool c]) = .returned (.tuple #[.int k1 b, .bool c]) := by rw [h]
theorem to_any (x : Nat) (w : World) (h1 : x < 18446744073709551616) (ht : WTab w) :
    Calls Tryz.prog 103 #[.int .u64 x] w fun e w' => e = .returned (.tuple #[.int .i64 ((toF x).getD 0 : Nat), .bool (toF x).isSome]) ∧ w = w' := by
  have C := hid (Of_any (x : Int) w (by omega) (by omega) ht)
  have HT := hid ht
  clear ht
  cases hx : there ((x : Int) % 8) ((x : Int) / 8)
  · have e0 : toF x = none := by simp [toF, hx]
    rw [e0]
    rw [show ofK x = 0 by simp [ofK, hx], show ofN x = 0 by simp [ofN, hx], show ofE x = 2 by simp [ofE, hx]] at C
    clear hx e0
    go_enter Tryz.func103, Tryz.ntmps103
    go_wp2_with fail
    refine C.out.mono ?_
    rintro e w' ⟨rfl, rfl⟩
    go_wp2
    go_ret2
    exact ⟨rfl, rfl⟩
  · rw [show ofK x = (x : Int) % 8 by simp [ofK, hx], show ofN x = (x : Int) / 8 by simp [ofN, hx], show ofE x = 0 by simp [ofE, hx]] at C
    by_cases hk : x % 8 = 2 ∨ x % 8 = 5
    · have e0 : toF x = some (x / 8) := by
        have : (x % 8 == 2 || x % 8 == 5) = true := by simpa using hk
        simp [toF, hx, this]
      rw [e0]
      have e3 : (((x / 8 : Nat)) : Int) = (x : Int) / 8 := by omega
      have e4 : IntKind.i64.wrap ((x : Int) / 8) = (x : Int) / 8 := IntWalk.i64_in _ ⟨by omega, by omega⟩
      have e5 : wrap64 ((x : Int) / 8) = (x : Int) / 8 := IntWalk.wrap64_in _ (by omega)
      rcases hk with hk | hk
      · rw [show (x : Int) % 8 = 2 by omega] at C
        have HE := hid e3
        clear hx e0 hk e3
        go_enter Tryz.func103, Tryz.ntmps103
        go_wp2_with fail
        refine C.out.mono ?_
        rintro e w' ⟨rfl, rfl⟩
        go_wp2
        go_ret2
        exact ⟨ret_tb HE.out.symm, rfl⟩
      · rw [show (x : Int) % 8 = 5 by omega] at C
        have HE := hid e3
        clear hx e0 hk e3
        go_enter Tryz.func103, Tryz.ntmps103
        go_wp2_with fail
        refine C.out.mono ?_
        rintro e w' ⟨rfl, rfl⟩
        go_wp2
        go_ret2
        exact ⟨ret_tb HE.out.symm, rfl⟩
    · have e0 : toF x = none := by
        have : (x % 8 == 2 || x % 8 == 5) = false := by
          have := not_or.1 hk
          simp [this.1, this.2]
        simp [toF, this]
      rw [e0]
      obtain ⟨k, hk'⟩ : ∃ k : Int, (x : Int) % 8 = k := ⟨_, rfl⟩
      have hk2 := not_or.1 hk
      have h2 : ¬ k = 2 := by omega
      have h5 : ¬ k = 5 := by omega
      have h2' : (k == 2) = false := by simpa using h2
      have h5' : (k == 5) = false := by simpa using h5
      have h2'' : (k != 2) = true := by simpa using h2
      have h5'' : (k != 5) = true := by simpa using h5
      rw [hk'] at C
      clear hx e0 hk hk' hk2
      go_enter Tryz.func103, Tryz.ntmps103
      go_wp2_with fail
      refine C.out.mono ?_
      rintro e w' ⟨rfl, rfl⟩
      go_wp2
      go_ret2
      exact ⟨rfl, rfl⟩
def U64At (W : World) (v : Value) (xs : List Nat) : Prop := ∃ ao c, v = .slice ao xs.length c ∧ (xs = [] ∨ ∃ b o, ao = some ⟨b, o, none⟩ ∧ ∀ k x : Nat, xs[k]? = some x → W.cell? ((⟨b, o, none⟩ : Addr).add k) = some (.int .u64 x))
set_option maxRecDepth 100000 in
theorem each_any {f : FuncId} {bnd cap : Array Value} (hent : ∀ args w, (callFunc f args).run Tryz.prog w = .ok (.enter f args) w) (v : Value) (xs : List Nat) (I : List Nat → World → Prop) (hrow : ∀ pre W, I pre W → U64At W v xs ∧ WTab W) (hx : ∀ x ∈ xs, x < 18446744073709551616) (hl : xs.length ≤ 1000000)
    (hcall : ∀ pre a W, a ∈ xs.filterMap toF → I pre W → Calls Tryz.prog f (bnd ++ #[.int .i64 (a : Nat)] ++ cap) W fun e W' => (∃ u, e = .returned u) ∧ I (pre ++ [a]) W') (w : World) (h0 : I [] w) :
    Calls Tryz.prog 61 #[v, .func (.func f) bnd cap] w fun e w' => (∃ u, e = .returned u) ∧ I (xs.filterMap toF) w' := by
  obtain ⟨⟨ao, ca, rfl, _⟩, _⟩ := hrow _ _ h0
  have HR := hid hrow; have HX := hid hx; have HL := hid hl; have HC := hid hcall; have H0 := hid h0
  clear hrow hx hl hcall h0
  go_enter Tryz.func61, Tryz.ntmps61
  go_wp2
  go_loopw [10] (fun t10 wr => ∃ i : Nat, t10 = .int .i64 i ∧ i ≤ xs.length ∧ I ((xs.take i).filterMap toF) wr) (fun t10 _ => xs.length - (intOf t10).toNat)
  case atStart => exact ⟨0, rfl, Nat.zero_le _, by simpa using H0.out⟩
  case round =>
    obtain ⟨i, rfl, hi, hI⟩ := hrel
    by_cases hlt : i < xs.length
    · obtain ⟨x, hx⟩ : ∃ x, xs[i]? = some x := ⟨xs[i], by simp [hlt]⟩
      obtain ⟨⟨ao2, ca2, e, hrow⟩, htab⟩ := HR.out _ _ hI
      rcases hrow with rfl | ⟨b, o, rfl, hc⟩
      · simp at hlt
      · cases e
        have c0 : wr.cell? ⟨b, o + i, none⟩ = some (.int .u64 x) := by have := hc i x hx; rwa [Addr.add_lit] at this
        have hx64 := HX.out x (List.mem_of_getElem? hx)
        have C := hid (to_any x wr hx64 htab)
        have HT := hid (show xs.take (i + 1) = xs.take i ++ [x] by obtain ⟨hk, rfl⟩ := List.getElem?_eq_some_iff.1 hx; exact List.take_succ_eq_append_getElem hk)
        have HIn := hid hI; have HLT := hid hlt; have HMX := hid (List.mem_of_getElem? hx)
        have hlt' : (i : Int) < xs.length := by omega
        have HI6 := hid (show (i : Int) < 1000000 by have := HL.out; omega)
        clear hc hx hI hlt htab hi hx64
        cases ht : toF x with
        | none =>
          rw [ht, Option.getD_none, Option.isSome_none] at C
          have HTX := hid ht
          clear ht
          go_wp2_with fail
          refine C.out.mono ?_
          rintro e w1 ⟨rfl, rfl⟩
          have HI6' := HI6.out
          go_wp2
          go_roundw
          case rel => exact ⟨i + 1, by go_num, HLT.out, by rw [HT.out, List.filterMap_append]; simpa [HTX.out] using HIn.out⟩
          case measure => have := HLT.out; simp [intOf]; omega
        | some a =>
          rw [ht, Option.getD_some, Option.isSome_some] at C
          have HTX := hid ht
          have HC1 := hid (HC.out _ a wr (List.mem_filterMap.2 ⟨x, HMX.out, ht⟩) HIn.out)
          clear ht
          go_wp2_with fail
          refine C.out.mono ?_
          rintro e w1 ⟨rfl, rfl⟩
          go_wp2_with fail
          refine HC1.out.mono ?_
          rintro e w1 ⟨⟨u, rfl⟩, hI1⟩
          have HI1 := hid hI1
          clear hI1
          have HI6' := HI6.out
          go_wp2
          go_roundw
          case rel => exact ⟨i + 1, by go_num, HLT.out, by rw [HT.out, List.filterMap_append]; simpa [HTX.out] using HI1.out⟩
          case measure => have := HLT.out; simp [intOf]; omega
    · obtain rfl : i = xs.length := by omega
      have hlt' : ¬ (xs.length : Int) < xs.length := by omega
      have HIn := hid hI
      clear hI
      go_wp2
      go_end0
      exact ⟨⟨_, rfl⟩, by simpa using HIn.out⟩
end
section
open Go.RowKit
set_option maxRecDepth 100000 in
theorem Mark_s {S : Nat → Prop} {w : World} {p m : Nat} {bs : List Blk} (A0 : ArV S w p m bs) (q : Int) (hq1 : -9223372036854775808 ≤ q) (hq2 : q < 9223372036854775808) :
    Calls Tryz.prog 128 #[.pointer (some ⟨p, 0, none⟩), .int .i64 q] w fun e w' => ∃ r bs', MarkR bs q r bs' ∧ e = .returned (.bool r) ∧ ArV S w' p m bs' ∧ Upd S w w' := by
  have HA0 := hid A0
  obtain ⟨SL, wb, tb, kb, mc, lv, ws, L, T, K, used, tk, mk, tbs, kbs, A, I, O⟩ := A0
  have HA := hid A; have HI := hid I; have HH := hid (has_at A I q hq1 hq2); have HO := hid O
  have hlen := A.core.len
  have c2 := heap_cell A.core.blk 2
  simp at c2
  clear A I O hq1 hq2
  cases hu : usedAt bs q
  · have HU := hid hu
    clear hu hlen
    go_enter Tryz.func128, Tryz.ntmps128
    go_wp2_with fail
    refine (absent_at p w).mono ?_
    rintro e w1 ⟨rfl, rfl⟩
    go_wp2_with fail
    refine HH.out.mono ?_
    rintro e w1 ⟨rfl, rfl⟩
    rw [HU.out]
    go_wp2
    go_ret
    exact ⟨false, bs, .inl ⟨HU.out, rfl, rfl⟩, rfl, HA0.out, Upd.refl _ _⟩
  · obtain ⟨b, hb, hbu, rfl⟩ := usedAt_mem hu
    obtain ⟨pre, post, rfl⟩ := split_mem hb
    have hend := HI.out.end_le b hb
    have hsm := HI.out.small
    have hx64 : b.a < 64 * (m / 64 + 1) := by omega
    have hm20 : m / 64 + 1 ≤ 1048576 := by omega
    have hmk : mk b.a = b.m := by
      rw [Bool.eq_iff_iff, HI.out.marked]
      constructor
      · rintro ⟨c, hc, hcm, h⟩
        rw [← HI.out.span.inj hc hb h]; exact hcm
      · intro h; exact ⟨b, hb, h, rfl⟩
    have hcont := HI.out.cont b hb hbu
    have hI := HI.out.touch (b' := ⟨b.a, b.ws, true, true⟩) hbu rfl rfl rfl (ws' := ws) rfl (fun k hk => rfl) hcont (mk' := turned mk b.a true) (fun x => rfl)
    have HIN := hid hI
    have HU := hid hu; have HB := hid hb; have HBU := hid hbu; have HMK := hid hmk; have HX := hid hx64; have HM := hid hm20
    clear hu hb hbu hend hlen hsm hmk hx64 hm20 hcont hI
    go_enter Tryz.func128, Tryz.ntmps128
    go_wp2_with fail
    refine (absent_at p w).mono ?_
    rintro e w1 ⟨rfl, rfl⟩
    go_wp2_with fail
    refine HH.out.mono ?_
    rintro e w1 ⟨rfl, rfl⟩
    rw [HU.out]
    go_wp2_with fail
    refine (bhas_at w kb _ _ mk kbs HA.out.brk b.a HX.out HM.out).mono ?_
    rintro e w1 ⟨rfl, rfl⟩
    rw [HMK.out]
    cases hm : b.m
    · have HMM := hid hm
      clear hm
      go_wp2_with fail
      refine (bset_at w kb _ _ mk kbs HA.out.brk b.a HX.out HM.out).mono ?_
      rintro e w1 ⟨rfl, ⟨kbs', hk⟩, hu⟩
      have HK := hid hk; have HUU := hid hu
      clear hk hu
      go_wp2
      go_ret
      exact ⟨true, _, .inr ⟨pre, b, post, rfl, HBU.out, rfl, .inr ⟨HMM.out, rfl, rfl⟩⟩, rfl, ⟨SL, wb, tb, kb, mc, lv, ws, L, T, K, used, tk, _, tbs, kbs', HA.out.turnK HUU.out HK.out, HIN.out, HO.out⟩, HUU.out.mono (fun x _ hx => HO.out x (.inr (.inr (.inr (.inl hx)))))⟩
    · have HMM := hid hm
      clear hm
      go_wp2
      go_ret
      exact ⟨false, _, .inr ⟨pre, b, post, rfl, HBU.out, rfl, .inl ⟨HMM.out, rfl, rfl⟩⟩, rfl, HA0.out, Upd.refl _ _⟩
def markedAt (bs : List Blk) (x : Nat) : Bool := bs.any fun b => b.m && b.a == x
theorem markedAt_iff {bs : List Blk} {x : Nat} : markedAt bs x = true ↔ ∃ b ∈ bs, b.m = true ∧ b.a = x := by simp [markedAt, List.any_eq_true]
theorem usedAt_of {bs : List Blk} {b : Blk} (hb : b ∈ bs) (hu : b.u = true) : usedAt bs (b.a : Int) = true := (usedAt_iff bs _).2 ⟨b, hb, hu, rfl⟩
theorem Marked_s {S : Nat → Prop} {w : World} {p m : Nat} {bs : List Blk} (A0 : ArV S w p m bs) (x : Nat) (hx : usedAt bs (x : Int) = true) :
    Calls Tryz.prog 127 #[.pointer (some ⟨p, 0, none⟩), .int .i64 x] w fun e w' => e = .returned (.bool (markedAt bs x)) ∧ w = w' := by
  obtain ⟨SL, wb, tb, kb, mc, lv, ws, L, T, K, used, tk, mk, tbs, kbs, A, I, O⟩ := A0
  obtain ⟨b, hb, hbu, hq⟩ := usedAt_mem hx
  have hend := I.end_le b hb
  have hsm := I.small
  have hlen := A.core.len
  have e : b.a = x := by omega
  have hmk : mk x = markedAt bs x := by rw [Bool.eq_iff_iff, I.marked, markedAt_iff]
  have HA := hid A; have HMK := hid hmk
  have HH := hid (has_at A I (x : Int) (by omega) (by omega)); have HU := hid hx
  have HX := hid (show x < 64 * (m / 64 + 1) by omega); have HM := hid (show m / 64 + 1 ≤ 1048576 by omega)
  have c2 := heap_cell A.core.blk 2
  simp at c2
  clear A I O hb hbu hend hsm hlen e hmk hx hq
  go_enter Tryz.func127, Tryz.ntmps127
  go_wp2_with fail
  refine (absent_at p w).mono ?_
  rintro e w1 ⟨rfl, rfl⟩
  go_wp2_with fail
  refine HH.out.mono ?_
  rintro e w1 ⟨rfl, rfl⟩
  rw [HU.out]
  go_wp2_with fail
  refine (bhas_at w kb _ _ mk kbs HA.out.brk x HX.out HM.out).mono ?_
  rintro e w1 ⟨rfl, rfl⟩
  rw [HMK.out]
  go_wp2
  go_ret
  exact ⟨rfl, rfl⟩
end
end Go.Proofs.YtlcfkfijomnmnaaGreatDoor
