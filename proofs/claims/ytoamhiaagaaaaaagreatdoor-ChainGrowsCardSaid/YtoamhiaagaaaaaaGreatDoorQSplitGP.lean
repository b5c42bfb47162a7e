/- Of no program: a range over a function whose iterator keeps state of its own in cells: the iterator's contract is asked at the caller's own invariant; what is known of the next element is handed to the body. -/
import Derived.RangeFuncKeeps
import Derived.RangeFuncNested
import Derived.RangeFuncBound
import Derived.RangeFuncCalls
import Derived.RangeFuncLeaves
import Derived.Shelf.Abstract
import Derived.Shelf.RegionOpen
import Derived.WalkKit
import Derived.OwnWalkIn
import Derived.TacticsInMore
import Derived.LoopNIn
import Derived.LoopIn
import Derived.Test.YtoamhiaagaaaaaaGreatDoorRows
import Derived.Test.YtoamhiaagaaaaaaGreatDoorQShelf
import Derived.Lib.IndexLaws
import Derived.Lib.IndexBytes
import Derived.Lib.Hide
import Derived.Outline
import Derived.WalkSpells
namespace Go.Proofs.YtoamhiaagaaaaaaGreatDoor
open Go.RowKit Go.Shelf

/-- How a round's body may be left: on it goes, or by a jump. -/
def roundWay {α : Type} (Kp : World → World → Prop) (I : List α → World → Prop) (Ix : Code → List α → World → Prop) (xs : List α) (W : World) : Exit → Act → World → Prop
  | .normal, _, W' => KeepsOthers W W' ∧ Kp W W' ∧ I xs W'
  | .ret, _, W' => KeepsOthers W W' ∧ Ix .ret xs W'
  | .exit id, _, W' => KeepsOthers W W' ∧ Ix (.exit id) xs W'
  | .goto t, _, W' => KeepsOthers W W' ∧ Ix (.goto t) xs W'
  | .panic _, _, _ => False
  | .outgrown, _, _ => False

/-- What is asked of the iterator, at the loop's own invariant; L and L' stand for the loop's record, which whatever turns cells alone keeps. -/
def IterAt {α : Type} (F : Fence) (n : Nat) (P : Program) (gf : Nat) (lb : Array Value) (encs : α → Array Value) (w : World) (Kp : World → World → Prop) (I : List α → World → Prop) (Ix : Code → List α → World → Prop) (S Sp : List α → Prop) (G : List α → α → Prop) : Prop :=
  ∀ (l : Nat) (L : World → Prop) (L' : Code → World → Prop) (W1 : World), (∀ W W', KeepsOthers W W' → L W → L W') → (∀ c W W', KeepsOthers W W' → L' c W → L' c W') → Below w.heap.size w W1 →
    (∀ pre x W, I pre W → L W → G pre x → YieldAt F (n - 1) P l (encs x) W fun e W' =>
      (e = .returned (.bool true) ∧ I (pre ++ [x]) W' ∧ Kp W W' ∧ L W') ∨ (e = .returned (.bool false) ∧ ∃ c, Ix c (pre ++ [x]) W' ∧ L' c W')) →
    I [] W1 → L W1 →
    CallsIn F n P gf (#[.func (.yield l) #[] #[]] ++ lb) W1 fun e W' => (∃ v, e = .returned v) ∧ ((∃ xs, S xs ∧ I xs W' ∧ L W') ∨ (∃ pre c, Sp pre ∧ Ix c pre W' ∧ L' c W'))

variable {F : Fence} {n : Nat} {P : Program}

theorem wpIn_range_at {α : Type} {g : Operand} {ps : Array Tmp} {assign body : Code} {Q : Exit → Act → World → Prop} {a : Act} {w : World}
    (hro : F.round = none) (h1 : 1 ≤ n) {gf : Nat} {lb : Array Value} (hg : a.eval g = .func (.func gf) #[] lb) (hFg : F.fn gf) (eg : ∀ args w, (callFunc gf args).run P w = .ok (.enter gf args) w)
    {encs : α → Array Value} (hps : ∀ x, (encs x).size = ps.size) {S Sp : List α → Prop} {G : List α → α → Prop} (Kp : World → World → Prop) (I : List α → World → Prop) (Ix : Code → List α → World → Prop)
    (hKt : ∀ {A B C : World}, Kp A B → Kp B C → Kp A C) (hKp : ∀ W l o o', w.heap.size ≤ l → W.heap[l]? = some o → o.isCells = false → Kp W (W.putObj l o'))
    (hIp : ∀ pre W l o o', w.heap.size ≤ l → W.heap[l]? = some o → o.isCells = false → I pre W → I pre (W.putObj l o'))
    (hIxp : ∀ c pre W l o o', w.heap.size ≤ l → W.heap[l]? = some o → o.isCells = false → Ix c pre W → Ix c pre (W.putObj l o'))
    (h0 : ∀ o o', I [] ((w.alloc o).alloc o')) (a₁ : α → Act)
    (hiter : IterAt F (n - 1) P gf lb encs w Kp I Ix S Sp G)
    (hassign : ∀ (l : Nat) (x : α) (W : World) (K : Act → World → Prop), K (a₁ x) W →
      assign.wpIn (F.inRound l) (n - 1 - 1) P (Exit.then K (fun _ _ _ => False)) { tmps := (ps.zip (encs x)).foldl (fun t (p, v) => t.setIfInBounds p v) a.tmps, defers := [] } W)
    (hbody : ∀ (l : Nat) (pre : List α) (x : α) (W : World), I pre W → G pre x → body.wpIn (F.inRound l) (n - 1 - 1) P (roundWay Kp I Ix (pre ++ [x]) W) (a₁ x) W)
    (hdone : ∀ (D : Nat) (xs : List α) (W : World), S xs → I xs W → W.heap[D]? = some (.deferred (some [])) → w.heap.size ≤ D → Q .normal { a with defers := { target := .collected D, args := #[] } :: a.defers } W)
    (hstop : ∀ (D : Nat) (c : Code) (pre : List α) (W : World), Sp pre → Ix c pre W → W.heap[D]? = some (.deferred (some [])) → w.heap.size ≤ D → c.wpIn F n P Q { a with defers := { target := .collected D, args := #[] } :: a.defers } W) :
    (Code.rangeFunc g ps assign body).wpIn F n P Q a w := by
  refine wpIn_rangeFunc fun fn hfn => ?_
  rw [hro]
  -- the loop's record in its states, its block and the block of the deferred calls
  let mk : LoopState → Option Code → Loop := fun st pe => { state := st, pending := pe, fn, tmps := a.tmps, params := ps, assign, body, defers := w.heap.size }
  let R : LoopState → Option Code → World → Prop := fun st pe W => W.heap[w.heap.size + 1]? = some (.loop (mk st pe)) ∧ W.heap[w.heap.size]? = some (.deferred (some []))
  have keep : ∀ st pe W W', KeepsOthers W W' → R st pe W → R st pe W' := fun st pe W W' hk h => ⟨hk.same _ _ h.1 rfl, hk.same _ _ h.2 rfl⟩
  have turn : ∀ st pe st' pe' W, R st pe W → R st' pe' (W.putObj (w.heap.size + 1) (.loop (mk st' pe'))) := fun st pe st' pe' W h =>
    ⟨World.putObj_heap_same (Array.getElem?_eq_some_iff.1 h.1).1, (World.putObj_heap_other (by omega)).trans h.2⟩
  have start : R .ready none ((w.alloc (.deferred (some []))).alloc (.loop (mk .ready none))) := by
    constructor
    · have := World.alloc_heap_new (w.alloc (.deferred (some []))) (.loop (mk .ready none))
      rwa [World.size_alloc] at this
    · exact (Below.heap_alloc _ _ _ (by simp)).trans (World.alloc_heap_new w _)
  refine ⟨w.heap.size + 1, [{ target := .collected w.heap.size, args := #[] }], (w.alloc (.deferred (some []))).alloc (.loop (mk .ready none)), { target := .fn (.func gf) lb, args := #[.func (.yield (w.heap.size + 1)) #[] #[]] }, (w.alloc (.deferred (some []))).alloc (.loop (mk .ready none)), gf,
    #[.func (.yield (w.heap.size + 1)) #[] #[]] ++ lb, (w.alloc (.deferred (some []))).alloc (.loop (mk .ready none)), run_enterLoop_outer _ _ _ _ _, ?_, ?_, ?_, fun _ => h1, ?_⟩
  · simp only [resolve, hg]
    simp [go_sem]
  · intro f' hf'
    simp [Target.leads] at hf'
    subst hf'
    exact hFg
  · simp [invoke, go_sem, eg]
  refine (hiter (w.heap.size + 1) (R .ready none) (fun c => R .done (some c)) _ (keep _ _) (fun c => keep _ _) (((Below.refl _ w).alloc (Nat.le_refl _) _).alloc (by simp) _) ?_ (h0 _ _) start).mono ?_
  · intro pre x W hi hl hlen
    refine ⟨fn, _, assign, body, run_yield hl.1 (hps x), roundIn_of_wpIn hfn (hassign _ x W _ ⟨_, run_beginRound hl.1 rfl, ?_⟩)⟩
    have hb := turn _ _ .busy none W hl
    refine wpIn_mono (hbody _ pre x _ (hIp _ _ _ _ _ (by omega) hl.1 rfl hi) hlen) ?_
    rintro e a3 W3 hp
    cases e with
    | normal =>
      have h3 := keep _ _ _ _ hp.1 hb
      exact ⟨_, _, run_endRound none h3.1, .inl ⟨rfl, hIp _ _ _ _ _ (by omega) h3.1 rfl hp.2.2, hKt (hKt (hKp _ _ _ _ (by omega) hl.1 rfl) hp.2.1) (hKp _ _ _ _ (by omega) h3.1 rfl), turn _ _ .ready none W3 h3⟩⟩
    | ret =>
      have h3 := keep _ _ _ _ hp.1 hb
      exact ⟨_, _, run_endRound (some .ret) h3.1, .inr ⟨rfl, .ret, hIxp _ _ _ _ _ _ (by omega) h3.1 rfl hp.2, turn _ _ .done (some .ret) W3 h3⟩⟩
    | exit id =>
      have h3 := keep _ _ _ _ hp.1 hb
      exact ⟨_, _, run_endRound (some (.exit id)) h3.1, .inr ⟨rfl, .exit id, hIxp _ _ _ _ _ _ (by omega) h3.1 rfl hp.2, turn _ _ .done (some (.exit id)) W3 h3⟩⟩
    | goto t =>
      have h3 := keep _ _ _ _ hp.1 hb
      exact ⟨_, _, run_endRound (some (.goto t)) h3.1, .inr ⟨rfl, .goto t, hIxp _ _ _ _ _ _ (by omega) h3.1 rfl hp.2, turn _ _ .done (some (.goto t)) W3 h3⟩⟩
    | panic ch => exact hp.elim
    | outgrown => exact hp.elim
  · rintro e W2 ⟨⟨v, rfl⟩, (⟨xs, hS, hi, hl⟩ | ⟨pre, c, hSp, hi, hl⟩)⟩
    · exact ⟨none, _, run_endLoop hl.1 (by simp [mk]), hdone _ xs _ hS (hIp _ _ _ _ _ (by omega) hl.1 rfl hi) ((World.putObj_heap_other (by omega)).trans hl.2) (Nat.le_refl _)⟩
    · exact ⟨some c, _, run_endLoop hl.1 (by simp [mk]), hstop _ c pre _ hSp (hIxp _ _ _ _ _ _ (by omega) hl.1 rfl hi) ((World.putObj_heap_other (by omega)).trans hl.2) (Nat.le_refl _)⟩
end Go.Proofs.YtoamhiaagaaaaaaGreatDoor

/- strings.SplitSeq at a separator of one byte: what it hands back, and what its iterator does at the caller's own invariant. -/
namespace Go.Proofs.YtoamhiaagaaaaaaGreatDoor
open Go.RowKit Go.Shelf
attribute [local go_sem] Oper.semAt_some

/-- The pieces of a text between the bytes c. -/
def pieces (c : UInt8) : List UInt8 → List (List UInt8)
  | [] => [[]]
  | b :: l => if b == c then [] :: pieces c l else match pieces c l with
    | p :: ps => (b :: p) :: ps
    | [] => [[b]]

theorem pieces_ne (c : UInt8) : ∀ l, pieces c l ≠ []
  | [] => by simp [pieces]
  | b :: l => by
    unfold pieces
    split
    · simp
    · split <;> simp

theorem pieces_none (c : UInt8) : ∀ l, Lib.indexByte l c = -1 → pieces c l = [l]
  | [], _ => rfl
  | b :: l, h => by
    unfold Lib.indexByte at h
    split at h
    · cases h
    · rename_i hb
      split at h
      · rename_i h1
        have ih := pieces_none c l (by simpa using h1)
        unfold pieces
        rw [if_neg hb, ih]
      · rename_i h1
        have := Lib.indexByte_ge l c
        simp at h1
        omega

theorem pieces_some (c : UInt8) : ∀ (l : List UInt8) (i : Nat), Lib.indexByte l c = i → i < l.length ∧ pieces c l = l.take i :: pieces c (l.drop (i + 1))
  | [], i, h => by unfold Lib.indexByte at h; omega
  | b :: l, i, h => by
    unfold Lib.indexByte at h
    split at h
    · rename_i hb
      obtain rfl : i = 0 := by omega
      refine ⟨by simp, ?_⟩
      rw [pieces, if_pos hb]
      simp
    · rename_i hb
      split at h
      · omega
      · rename_i h1
        have hge := Lib.indexByte_ge l c
        obtain ⟨j, hj⟩ : ∃ j : Nat, Lib.indexByte l c = j := ⟨(Lib.indexByte l c).toNat, by simp at h1; omega⟩
        obtain rfl : i = j + 1 := by omega
        obtain ⟨hl, hp⟩ := pieces_some c l j hj
        refine ⟨by simp; omega, ?_⟩
        rw [pieces, if_neg hb, hp]
        simp

/-- What SplitSeq hands back: a closure over the text, the separator and a 0, each in a block of its own. -/
theorem splitSeq_any (s sep : ByteArray) (w : World) :
    Calls Tryz.prog 128 #[.string s, .string sep] w fun e w' => e = .returned (.func (.func 135) #[] #[.pointer (some ⟨w.heap.size + 1, 0, none⟩), .pointer (some ⟨w.heap.size, 0, none⟩), .pointer (some ⟨w.heap.size + 2, 0, none⟩)]) ∧
      ∃ S : ByteArray, Hid (S = s) ∧ w' = ((w.alloc (.cells #[.string S] 9)).alloc (.cells #[.string sep] 9)).alloc (.cells #[.int .i64 0] 3) := by
  go_enter Tryz.func128, Tryz.ntmps128
  go_wp2
  go_ret
  exact ⟨rfl, s, Lib.hid rfl, rfl⟩

/-- The iterator's three captured variables, in the blocks b (the text), b + 1 (the separator), b + 2 (a 0). -/
structure Capt (b : Nat) (c : UInt8) (r : ByteArray) (W : World) : Prop where
  txt : W.cell? ⟨b, 0, none⟩ = some (.string r)
  free : W.frozen? ⟨b, 0, none⟩ = false
  sep : W.cell? ⟨b + 1, 0, none⟩ = some (.string ⟨#[c]⟩)
  sav : W.cell? ⟨b + 2, 0, none⟩ = some (.int .i64 0)
def lenAt (b : Nat) (W : World) : Nat := match W.cell? ⟨b, 0, none⟩ with
  | some (.string s) => s.size
  | _ => 0

theorem Capt.set {b : Nat} {c : UInt8} {r r' : ByteArray} {W : World} (h : Capt b c r W) : Capt b c r' (W.setCell ⟨b, 0, none⟩ (.string r')) := by
  refine ⟨World.cell?_setCell_same' _ _ _ (by rw [h.txt]; rfl), by rw [World.frozen?_setCell]; exact h.free, ?_, ?_⟩
  · rw [World.cell?_setCell_other]
    · exact h.sep
    · intro e; have := congrArg Addr.block e; simp at this
  · rw [World.cell?_setCell_other]
    · exact h.sav
    · intro e; have := congrArg Addr.block e; simp at this
theorem lenAt_of {b : Nat} {c : UInt8} {r : ByteArray} {W : World} (h : Capt b c r W) : lenAt b W = r.size := by
  unfold lenAt; rw [h.txt]

set_option maxHeartbeats 1000000 in
theorem splitSeq_iter (n b : Nat) (hn : 1 ≤ n) (c : UInt8) (s : ByteArray) (hs : s.size ≤ 9223372036854775807) (w : World) (hb : b + 2 < w.heap.size) (hc : Capt b c s w) (Kp : World → World → Prop) (I : List ByteArray → World → Prop) (Ix : Code → List ByteArray → World → Prop)
    (hKp : ∀ W W' r, Kp W W' → Capt b c r W → Capt b c r W') (hI : ∀ pre W r, I pre W → I pre (W.setCell ⟨b, 0, none⟩ (.string r))) :
    IterAt Fence.wide n Tryz.prog 135 #[.pointer (some ⟨b + 1, 0, none⟩), .pointer (some ⟨b, 0, none⟩), .pointer (some ⟨b + 2, 0, none⟩)] (fun x : ByteArray => #[.string x]) w Kp I Ix
      (fun xs => xs.map (·.data.toList) = pieces c s.data.toList) (fun pre => pre.map (·.data.toList) <+: pieces c s.data.toList) (fun pre x => (pre ++ [x]).map (·.data.toList) <+: pieces c s.data.toList) := by
  intro l L L' W1 hL hL' hbel hY h0 hL0
  have hc1 : Capt b c s W1 := ⟨by rw [hbel.cell (by simp; omega)]; exact hc.txt, by rw [hbel.frozen (by simp; omega)]; exact hc.free, by rw [hbel.cell (by simp; omega)]; exact hc.sep, by rw [hbel.cell (by simp; omega)]; exact hc.sav⟩
  clear hbel hc hb
  refine callsIn_of_wp Tryz.func135 rfl trivial ?_ rfl
  simp only [Tryz.ntmps135, List.size_toArray, List.length_cons, List.length_nil, Nat.reduceAdd, Nat.reduceSub, Array.replicate_succ, Array.replicate_zero, List.push_toArray, List.append_toArray, List.nil_append, List.cons_append]
  have q1 := hc1.sep
  gi_wp2
  gi_loopw [7, 8] (fun _ _ wr => ∃ (pre : List ByteArray) (r : ByteArray), pre.map (·.data.toList) ++ pieces c r.data.toList = pieces c s.data.toList ∧ r.size ≤ s.size ∧ Capt b c r wr ∧ I pre wr ∧ L wr) (fun _ _ wr => lenAt b wr)
  case atStart => exact ⟨[], s, rfl, Nat.le_refl _, hc1, h0, hL0⟩
  case round =>
    obtain ⟨pre, r, hp, hrs, hcr, hi, hl⟩ := hrel
    have k0 := hcr.txt
    have k1 := hcr.sep
    have k2 := hcr.sav
    have k3 := hcr.free
    rcases Int.lt_or_le (Lib.indexByte r.data.toList c) 0 with hneg | hpos
    · have hm1 : Lib.indexByte r.data.toList c = -1 := by have := Lib.indexByte_ge r.data.toList c; omega
      have hps := pieces_none c _ hm1
      have HP := Lib.hid hps
      have HM := Lib.hid hm1
      clear hps hm1 hneg
      obtain ⟨fn, tmps, assign, body, hy, hR⟩ := hY pre r wr hi hl ⟨[], by rw [← hp, HP.out]; simp⟩
      try dsimp only at hy
      gi_wp2_with (refine ⟨trivial, ?_⟩; gi_at_call 137; refine (callsIn_wide.2 (Tryz.strings_Index_one _ c _)).mono ?_; rintro e w' ⟨rfl, rfl⟩; rw [HM.out])
      refine hR.mono ?_
      rintro e W' (⟨rfl, hJ', hk, hl'⟩ | ⟨rfl, c', hx, hl'⟩)
      · gi_wp2
        go_end0
        exact ⟨⟨_, rfl⟩, .inl ⟨pre ++ [r], by rw [← hp, HP.out]; simp, hJ', hl'⟩⟩
      · gi_wp2
        go_end0
        exact ⟨⟨_, rfl⟩, .inr ⟨pre ++ [r], c', by rw [← hp, HP.out]; simp, hx, hl'⟩⟩
    · obtain ⟨i, hi'⟩ : ∃ i : Nat, Lib.indexByte r.data.toList c = i := ⟨(Lib.indexByte r.data.toList c).toNat, by omega⟩
      obtain ⟨hlt, hps⟩ := pieces_some c _ i hi'
      have HP := Lib.hid hps
      have HM := Lib.hid hi'
      clear hps hi' hpos
      have hsz : i < r.size := by rw [Array.length_toList] at hlt; exact hlt
      clear hlt
      obtain ⟨fn, tmps, assign, body, hy, hR⟩ := hY pre (r.extract 0 i) wr hi hl ⟨pieces c (r.data.toList.drop (i + 1)), by rw [← hp, HP.out, List.map_append, List.map_singleton, show (r.extract 0 i).data.toList = r.data.toList.take i by rw [Lib.extract_data]; simp]; simp⟩
      try dsimp only at hy
      gi_wp2_with (refine ⟨trivial, ?_⟩; gi_at_call 137; refine (callsIn_wide.2 (Tryz.strings_Index_one _ c _)).mono ?_; rintro e w' ⟨rfl, rfl⟩; rw [HM.out])
      refine hR.mono ?_
      have hx : (r.extract 0 i).data.toList = r.data.toList.take i := by rw [Lib.extract_data]; simp
      have HX := Lib.hid hx
      clear hx hY
      rintro e W' (⟨rfl, hJ', hk, hl'⟩ | ⟨rfl, c', hx, hl'⟩)
      · have hcr' := hKp _ _ _ hk hcr
        have m0 := hcr'.txt
        have m1 := hcr'.sep
        have m2 := hcr'.sav
        have m3 := hcr'.free
        have HS := Lib.hid hcr'
        clear hcr'
        gi_wp2
        go_roundw
        case rel => exact ⟨pre ++ [r.extract 0 i], r.extract (i + 1) r.size, by rw [← hp, HP.out, List.map_append, List.map_singleton, HX.out, Lib.extract_to_end]; simp, by rw [ByteArray.size_extract]; omega, HS.out.set, hI _ _ _ hJ', hL _ _ (KeepsOthers.setCell _ _ _) hl'⟩
        case measure =>
          have e1 := HS.out.set (r' := r.extract (i + 1) r.size)
          have e2 := lenAt_of e1
          have e3 := lenAt_of hcr
          rw [e2, e3, ByteArray.size_extract]
          omega
      · gi_wp2
        refine bodyPost_ret (results_none rfl _ _ _) rfl ?_
        exact ⟨⟨_, rfl⟩, .inr ⟨pre ++ [r.extract 0 i], c', ⟨pieces c (r.data.toList.drop (i + 1)), by rw [← hp, HP.out, List.map_append, List.map_singleton, HX.out]; simp⟩, hx, hl'⟩⟩
end Go.Proofs.YtoamhiaagaaaaaaGreatDoor
