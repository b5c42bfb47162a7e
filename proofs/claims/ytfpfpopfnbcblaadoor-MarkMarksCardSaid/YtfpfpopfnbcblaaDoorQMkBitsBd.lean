/- Of no program: a region that draws its order, whose operations read, and whose callees read or make new memory; and such a region with a tail that comes in order. -/
import Derived.Test.YtfpfpopfnbcblaaDoorQUpdBd
import Derived.StillTail
import Derived.StillTailTactics
import Derived.Deep.DrawnRows
import Derived.Test.YtfpfpopfnbcblaaDoorRows
import Derived.WalkKit
import Derived.Laws.BitsLemmas
import Derived.Laws.Bits64
import Derived.Test.YtfpfpopfnbcblaaDoorQArLists
import Derived.Deep.RegionHeld
import Derived.WalkLawsBesides
import Derived.WalkSpells
import Derived.RegionTactic
import Derived.Handy
import Derived.BigQuiet
import Derived.Shelf.Spec.TrailingZeros
namespace Go.Proofs.YtfpfpopfnbcblaaDoor
open Go Go.RowKit

/-- A world that has all that w0 has, and perhaps new memory. -/
def Ext (w0 : World) : Type := { w : World // Below w0.heap.size w0 w }
instance (w0 : World) : Nonempty (Ext w0) := ⟨⟨w0, Below.refl _ _⟩⟩
def ExtC (w0 : World) (w : World) : Prop := ∃ x : Ext w0, w = x.val

theorem Ext.cell {w0 : World} (x : Ext w0) {p : Addr} {v : Value} (h : w0.cell? p = some v) : x.val.cell? p = some v := by
  rw [x.2.cell (World.block_lt_of_cell? _ _ h)]; exact h
theorem Ext.cells {w0 : World} {p : Addr} {v : Value} (h : w0.cell? p = some v) : ∀ x : Ext w0, x.val.cell? p = some v := fun x => x.cell h
theorem Ext.heap {w0 : World} (x : Ext w0) {b : Nat} {o : Obj} (h : w0.heap[b]? = some o) : x.val.heap[b]? = some o := by
  rw [x.2.block b (heap_lt h)]; exact h
/-- A callee's contract, met in such a world. -/
theorem Ext.call {P : Program} {f : FuncId} {args : Array Value} {w0 : World} (x : Ext w0) {v : Value}
    (h : Calls P f args x.val fun e w' => e = .returned v ∧ Below x.val.heap.size x.val w') : Calls P f args x.val fun e w'' => e = .returned v ∧ ∃ y : Ext w0, w'' = y.val :=
  h.mono fun _ w' ⟨he, hb⟩ => ⟨he, ⟨⟨w', x.2.trans (hb.mono x.2.size)⟩, rfl⟩⟩
theorem Ext.call_quiet {P : Program} {f : FuncId} {args : Array Value} {w0 : World} (x : Ext w0) {v : Value}
    (h : Calls P f args x.val fun e w' => e = .returned v ∧ ∃ n, w' = x.val.drewN n) : Calls P f args x.val fun e w'' => e = .returned v ∧ ∃ y : Ext w0, w'' = y.val :=
  x.call (h.mono fun _ w' ⟨he, n, hn⟩ => ⟨he, by subst hn; exact ⟨rfl, rfl, rfl, Nat.le_refl _, fun _ _ => rfl⟩⟩)

/-- At the world itself, and from such a world on: the callee leaves such a world. -/
theorem Ext.call0 {P : Program} {f : FuncId} {args : Array Value} {w0 : World} {v : Value}
    (h : Calls P f args w0 fun e w' => e = .returned v ∧ Below w0.heap.size w0 w') : Calls P f args w0 fun e w'' => e = .returned v ∧ ∃ y : Ext w0, w'' = y.val :=
  h.mono fun _ w' ⟨he, hb⟩ => ⟨he, ⟨⟨w', hb⟩, rfl⟩⟩
theorem Ext.size {w0 : World} (x : Ext w0) : w0.heap.size ≤ x.val.heap.size := x.2.size
section
variable {P : Program} {ops : Array Oper} {md : Region.Mode} {C : World → Prop}
theorem wp_region_calm {id : Nat} {Q : Exit → Act → World → Prop} {a : Act} {w : World} {l : List Oper} (hm : P.follows .mixedOrders = true) (hB : Region.lexB .any l.toArray = true)
    (h : wpQuiet P l.toArray (fun w' => ∃ x : Ext w, w' = x.val) (fun a' => ∀ w', (∃ x : Ext w, w' = x.val) → Q .normal a' w') l a) : (Code.region id l.toArray true).wp P Q a w :=
  wp_region_quiet (C := fun w' => ∃ x : Ext w, w' = x.val) hm hB ⟨⟨_, (Below.refl _ _).drew⟩, rfl⟩ (by simpa using h)

def wpAnyLC (P : Program) (md : Region.Mode) (ops : Array Oper) (C : World → Prop) (n : Nat) (L : Array Bool → Act → Prop) : Nat → Array Bool → Act → Prop
  | 0, listed, a => L listed a
  | f + 1, listed, a =>
    Region.ready md ops listed ≠ [] ∧ ∀ i ∈ Region.ready md ops listed, i < n ∧ qOp P ops C i (wpAnyLC P md ops C n L f (listed.setIfInBounds i true)) a
theorem wpAny_of_headC {n g : Nat} {L : Array Bool → Act → Prop} {Q' : Exit → Act → World → Prop} (hL : ∀ listed a w, C w → L listed a → wpAny P md ops Q' g listed a w) :
    ∀ (f : Nat) (listed : Array Bool) (a : Act) (w : World), C w → wpAnyLC P md ops C n L f listed a → wpAny P md ops Q' (f + g) listed a w
  | 0, listed, a, w, hw, h => by rw [Nat.zero_add]; exact hL _ _ _ hw h
  | f + 1, listed, a, w, hw, h => by
    rw [show f + 1 + g = (f + g) + 1 by omega]
    exact ⟨fun h0 => absurd h0 h.1, fun i hi => wpOp_of_qOp hw (fun a' w' hw' h' => wpAny_of_headC hL f _ a' w' hw' h') (h.2 i hi).2⟩
theorem wpAnyLC_first {n i : Nat} {oi : Oper} {v : Value} {L : Array Bool → Act → Prop} (hi : ops[i]? = some oi) (hsel : ∀ (j : Nat) (o : Oper) cs b, ops[j]? = some o → o.op ≠ .select cs b)
    (hs : Region.sinkB md ops n = true) (hc : Region.chainB md ops n = true) (hn : n < ops.size) (hin : i < n)
    (hdone : ∀ listed a, L listed a → ∀ j ∈ Region.ready md ops listed, n ≤ j) :
    ∀ (f : Nat) (listed : Array Bool) (a : Act), HeadInv md ops n listed →
      (∀ j oj, ops[j]? = some oj → j ≠ i → listed.getD j true = false → (∀ e ∈ oj.after, Region.binds md e = true → e.on ≠ i) → oi.apart ops oj = true) →
      i ∈ Region.ready md ops listed → YieldsIn P ops C oi v a →
      wpAnyLC P md ops C n L f (listed.setIfInBounds i true) (a.put oi.dst v) → wpAnyLC P md ops C n L (f + 1) listed a := by
  intro f
  induction f with
  | zero =>
    intro listed a inv _ hr hy H
    have hun := (mem_ready.1 hr).1
    refine ⟨fun h => (by rw [h] at hr; cases hr), fun j hj => ?_⟩
    have hjn : j < n := by
      rcases Nat.lt_or_ge j n with h | h
      · exact h
      · exact absurd hj (tail_waits hs hc hn inv _ i rfl hin hun j h)
    refine ⟨hjn, ?_⟩
    by_cases hji : j = i
    · subst hji; exact hy.qOp hi H
    · have := hdone _ _ H j (ready_mono hj hji)
      omega
  | succ f ih =>
    intro listed a inv hfree hr hy H
    have hun := (mem_ready.1 hr).1
    refine ⟨fun h => (by rw [h] at hr; cases hr), fun j hj => ?_⟩
    have hjn : j < n := by
      rcases Nat.lt_or_ge j n with h | h
      · exact h
      · exact absurd hj (tail_waits hs hc hn inv _ i rfl hin hun j h)
    refine ⟨hjn, ?_⟩
    by_cases hji : j = i
    · subst hji; exact hy.qOp hi H
    · have h1 := (H.2 j (ready_mono hj hji)).2
      obtain ⟨hjun, oj, hoj, hall⟩ := mem_ready.1 hj
      have hnot : ∀ e ∈ oj.after, Region.binds md e = true → e.on ≠ i := fun e he hb heq => by
        have h1 := hall e he hb
        rw [heq, getD_both hun] at h1
        cases h1
      have h2 := qOp_put hoj (hfree j oj hoj hji hjun hnot) (fun cs b => hsel i oi cs b hi) (fun cs b => hsel j oj cs b hoj) hy h1
      have hfree' : ∀ k ok, ops[k]? = some ok → k ≠ i → (listed.setIfInBounds j true).getD k true = false →
          (∀ e ∈ ok.after, Region.binds md e = true → e.on ≠ i) → oi.apart ops ok = true := fun k ok hk hki hkun hno => by
        refine hfree k ok hk hki ?_ hno
        by_cases hjk : j = k
        · subst hjk; exact hjun
        · rw [getD_set_ne true hjk] at hkun; exact hkun
      refine qOp_mono (fun a' h3 => ih (listed.setIfInBounds j true) a' (inv.set hj hjn) hfree' (ready_mono hr (Ne.symm hji)) h3.1 ?_) h2
      rw [Array.setIfInBounds_comm _ _ hji]
      exact h3.2
theorem wpAnyLC_lex {n g : Nat} {Lq : Act → Prop} (hsel : Region.noSelect ops = true) (hs : Region.sinkB md ops n = true) (hc : Region.chainB md ops n = true) (hn : n < ops.size) :
    ∀ (l : List Oper) (k : Nat) (listed : Array Bool) (a : Act), (∀ j, j < l.length → l[j]? = ops[k + j]?) → k + l.length = n → HeadInv md ops n listed →
    Region.lexHead md ops g l.length k listed = true → wpQuiet P ops C Lq l a →
    wpAnyLC P md ops C n (fun listed' a' => Region.seqB md ops g n listed' = true ∧ Lq a') l.length listed a
  | [], k, listed, a, _, hk, _, hB, h => by
    have : k = n := by simpa using hk
    subst this
    exact ⟨by simpa [Region.lexHead] using hB, h⟩
  | o :: l, k, listed, a, hl, hk, inv, hB, h => by
    have h0 : ops[k]? = some o := by simpa using (hl 0 (by simp)).symm
    simp only [List.length_cons, Region.lexHead, Bool.and_eq_true] at hB
    obtain ⟨⟨hr, hf⟩, hB'⟩ := hB
    have hkn : k < n := by simp only [List.length_cons] at hk; omega
    have hr' : k ∈ Region.ready md ops listed := by simpa using hr
    have hst : qOp P ops C k (wpQuiet P ops C Lq l) a := by unfold qOp; simp only [h0]; exact h
    obtain ⟨v, hy, hK⟩ := yieldsIn_of_qOp h0 hst
    exact wpAnyLC_first h0 (Region.noSelect_spec hsel) hs hc hn hkn (fun listed' a' hL => seqB_ready hL.1) l.length listed a inv (Region.free_spec h0 hf) hr' hy
      (wpAnyLC_lex hsel hs hc hn l (k + 1) _ _ (fun j hj => by have := hl (j + 1) (by simp; omega); simpa [Nat.add_assoc, Nat.add_comm 1 j] using this) (by simp only [List.length_cons] at hk; omega) (inv.set hr' hkn) hB' hK)
theorem wp_region_calm_tail {id : Nat} {Q : Exit → Act → World → Prop} {a : Act} {w : World} {l : List Oper} (n : Nat) (hm : P.follows .mixedOrders = true) (hB : Region.lexTailB .any l.toArray n = true)
    (h : wpQuiet P l.toArray (fun w' => ∃ x : Ext w, w' = x.val) (fun a' => ∀ w', Below w.heap.size w w' → wpList P l.toArray Q (l.drop n) a' w') (l.take n) a) : (Code.region id l.toArray true).wp P Q a w := by
  simp only [Region.lexTailB, Bool.and_eq_true, decide_eq_true_eq] at hB
  obtain ⟨⟨⟨⟨hsel, hn⟩, hs⟩, hc⟩, hlex⟩ := hB
  have hn' : n < l.length := by simpa using hn
  have htl : (l.take n).length = n := by simp; omega
  have hdl : (l.drop n).length = l.toArray.size - n := by simp
  have inv0 : HeadInv .any l.toArray n (Array.replicate l.toArray.size false) :=
    ⟨by simp, fun j oj _ hl => (by rw [getD_replicate_false] at hl; cases hl), fun t _ ht => getD_in (by simpa using ht) (getD_replicate_false _ _)⟩
  have H := wpAnyLC_lex (md := .any) (g := l.toArray.size - n) (C := fun w' => ∃ x : Ext w, w' = x.val) hsel hs hc hn (l.take n) 0 _ a (fun j hj => by
    have hj' : j < n := by rw [htl] at hj; exact hj
    simp [hj']) (by simpa using htl) inv0 (by rw [htl]; exact hlex) h
  refine wp_region_any hm ?_
  have := wpAny_of_headC (Q' := Q) (g := l.toArray.size - n) (fun listed a' w' hw' hL => by
    obtain ⟨x, rfl⟩ := hw'
    have := wpAny_of_seq (md := .any) (Q' := Q) (l.drop n) n listed a' x.val (fun j => by simp [List.getElem?_drop]) (by rw [hdl]; exact hL.1) (hL.2 x.val x.2)
    rwa [hdl] at this) _ _ _ { w with drawn := w.drawn + 1 } ⟨⟨_, (Below.refl _ _).drew⟩, rfl⟩ H
  rw [htl, show n + (l.toArray.size - n) = l.toArray.size by omega] at this
  exact this
end
end Go.Proofs.YtfpfpopfnbcblaaDoor

/- Of no program: words of 64 bits as numbers: and, or, and-not, shifts. -/
namespace Go.Proofs.YtfpfpopfnbcblaaDoor

theorem wrap_u64_in {n : Int} (h0 : 0 ≤ n) (h1 : n < 18446744073709551616) : IntKind.u64.wrap n = n := by rw [IntKind.wrap_u64]; omega
theorem wraps64 (n : Int) (h0 : 0 ≤ n) (h1 : n < 2 ^ 64) : IntKind.u64.wrap n = n := wrap_u64_in h0 (by simpa using h1)
theorem bits_or64 (a b : Nat) (ha : a < 18446744073709551616) (hb : b < 18446744073709551616) : bits .or .u64 (a : Int) (b : Int) = ((a ||| b : Nat) : Int) :=
  (bits_nat .u64 64 (by decide) wraps64 a b (by simpa using ha) (by simpa using hb)).2
theorem bits_and64 (a b : Nat) (ha : a < 18446744073709551616) (hb : b < 18446744073709551616) : bits .and .u64 (a : Int) (b : Int) = ((a &&& b : Nat) : Int) :=
  (bits_nat .u64 64 (by decide) wraps64 a b (by simpa using ha) (by simpa using hb)).1
theorem bits_andNot64 (a b : Nat) (ha : a < 18446744073709551616) (_ : b < 18446744073709551616) : ∃ r : Nat, r < 18446744073709551616 ∧ bits .andNot .u64 (a : Int) (b : Int) = (r : Int) ∧ ∀ i, r.testBit i = (a.testBit i && !b.testBit i) := by
  refine ⟨(BitVec.ofNat 64 a &&& ~~~ BitVec.ofNat 64 b).toNat, (BitVec.isLt _), ?_, fun i => ?_⟩
  · have h : bits .andNot .u64 (a : Int) (b : Int) = IntKind.u64.wrap (BitVec.ofNat 64 a &&& ~~~ BitVec.ofNat 64 b).toNat := by
      simp only [bits, BitVec.ofInt_natCast]
      rfl
    rw [h, wrap_u64_in (Int.natCast_nonneg _)]
    have := (BitVec.ofNat 64 a &&& ~~~ BitVec.ofNat 64 b).isLt
    omega
  · rw [BitVec.testBit_toNat, BitVec.getLsbD_and, BitVec.getLsbD_not]
    simp only [BitVec.getLsbD_ofNat]
    by_cases hi : i < 64
    · simp [hi]
    · have : a.testBit i = false := Nat.testBit_lt_two_pow (Nat.lt_of_lt_of_le ha (by have : 2 ^ 64 ≤ 2 ^ i := Nat.pow_le_pow_right (by decide) (by omega); simpa using this))
      simp [hi, this]
/-- The upper half kept, the lower half a small number. -/
theorem or_stamp (y i : Nat) (hy : y < 18446744073709551616) (hi : i < 4294967296) : bits .or .u64 (IntKind.u64.wrap ((y : Int) / 4294967296 * 4294967296)) (i : Int) = ((y / 4294967296 * 4294967296 + i : Nat) : Int) := by
  have h1 : IntKind.u64.wrap ((y : Int) / 4294967296 * 4294967296) = ((y / 4294967296 * 4294967296 : Nat) : Int) := by rw [wrap_u64_in (by omega) (by omega)]; omega
  rw [h1, bits_join .u64 64 (by decide) wraps64 32 _ _ (by omega) (by omega) (by omega) (by omega) (by omega) (by omega)]
  omega
theorem or_stamp' (y i : Nat) (hy : y < 18446744073709551616) (hi : i < 4294967296) : bits .or .u64 ((y : Int) / 4294967296 * 4294967296) (i : Int) = ((y / 4294967296 * 4294967296 + i : Nat) : Int) := by
  have := or_stamp y i hy hi
  rwa [wrap_u64_in (by omega) (by omega)] at this
/-- The upper half a size, the lower half kept. -/
theorem or_tail (s y : Nat) (hs : s < 4294967296) : bits .or .u64 (IntKind.u64.wrap ((s : Int) * 4294967296)) ((y % 4294967296 : Nat) : Int) = ((s * 4294967296 + y % 4294967296 : Nat) : Int) := by
  have h1 : IntKind.u64.wrap ((s : Int) * 4294967296) = ((s * 4294967296 : Nat) : Int) := by rw [wrap_u64_in (by omega) (by omega)]; omega
  rw [h1, bits_join .u64 64 (by decide) wraps64 32 _ _ (by omega) (by omega) (by omega) (by omega) (by omega) (by omega)]
  omega
theorem and_low (y : Nat) (hy : y < 18446744073709551616) : bits .and .u64 (y : Int) 4294967295 = ((y % 4294967296 : Nat) : Int) := by
  have := bits_mask .u64 64 (by decide) wraps64 32 (by decide) (y : Int) (by omega) (by omega)
  simpa using this
theorem and_one (y : Nat) (hy : y < 18446744073709551616) : bits .and .u64 (y : Int) 1 = ((y % 2 : Nat) : Int) := by
  have := bits_mask .u64 64 (by decide) wraps64 1 (by decide) (y : Int) (by omega) (by omega)
  simpa using this
theorem andNot_one (y : Nat) (hy : y < 18446744073709551616) : bits .andNot .u64 (y : Int) 1 = ((y / 2 * 2 : Nat) : Int) := by
  obtain ⟨r, h1, h2, h3⟩ := bits_andNot64 y 1 hy (by decide)
  rw [show (1 : Int) = ((1 : Nat) : Int) from rfl, h2]
  congr 1
  apply Nat.eq_of_testBit_eq
  intro i
  rw [h3]
  cases i with
  | zero => simp [Nat.testBit_zero]
  | succ i =>
    rw [Nat.testBit_succ, Nat.testBit_succ, Nat.testBit_succ, Nat.mul_div_cancel _ (by decide)]
    simp
theorem or_one (y : Nat) (hy : y < 18446744073709551616) : bits .or .u64 ((y / 2 * 2 : Nat) : Int) 1 = ((y / 2 * 2 + 1 : Nat) : Int) := by
  rw [bits_join .u64 64 (by decide) wraps64 1 _ _ (by omega) (by omega) (by omega) (by omega) (by omega) (by omega)]
  omega
end Go.Proofs.YtfpfpopfnbcblaaDoor

/- An arena's rows in memory: words, heaps of addresses. -/
namespace Go.Proofs.YtfpfpopfnbcblaaDoor
open Go.RowKit

def ints (l : List Nat) : List Value := l.map fun (x : Nat) => .int .i64 (x : Int)
def u64s (l : List Nat) : List Value := l.map fun (x : Nat) => .int .u64 (x : Int)
theorem ints_len (l : List Nat) : (ints l).length = l.length := by simp [ints]
theorem u64s_len (l : List Nat) : (u64s l).length = l.length := by simp [u64s]
theorem ints_at {l : List Nat} {i : Nat} (hi : i < l.length) : (ints l)[i]? = some (.int .i64 (l.getD i 0 : Nat)) := by simp [ints, hi]
theorem u64s_at {l : List Nat} {i : Nat} (hi : i < l.length) : (u64s l)[i]? = some (.int .u64 (l.getD i 0 : Nat)) := by simp [u64s, hi]
theorem ints_set (l : List Nat) (i x : Nat) : ints (l.set i x) = (ints l).set i (.int .i64 (x : Int)) := by simp [ints, List.map_set]
theorem u64s_set (l : List Nat) (i x : Nat) : u64s (l.set i x) = (u64s l).set i (.int .u64 (x : Int)) := by simp [u64s, List.map_set]
/-- The rows that put looks at: a heap of addresses, and the arena's words. -/
structure HV (w : World) (p wb hb m mc n nc : Nat) (h ws : List Nat) : Prop where
  fld : w.cell? ⟨p, 0, none⟩ = some (.slice (some ⟨wb, 0, none⟩) m mc)
  wrow : w.ownsRow 0 44 1 (.slice (some ⟨wb, 0, none⟩) m mc) m (u64s ws)
  hrow : w.ownsRow 0 3 1 (.slice (some ⟨hb, 0, none⟩) n nc) n (ints h)
  pw : p ≠ wb
  ph : p ≠ hb
  wh : wb ≠ hb
  small : ws.length ≤ 1048576
  w64 : ∀ k, ws.getD k 0 < 18446744073709551616
theorem HV.m_eq {w : World} {p wb hb m mc n nc : Nat} {h ws : List Nat} (k : HV w p wb hb m mc n nc h ws) : ws.length = m ∧ h.length = n := by
  have a := k.wrow.1; have b := k.hrow.1
  rw [u64s_len] at a; rw [ints_len] at b
  omega
theorem cell_far {w : World} {a p : Addr} {u v : Value} (h : w.cell? p = some v) (hne : p.block ≠ a.block) : (w.setCell a u).cell? p = some v := by
  rw [World.cell?_setCell_far w a p u (fun e => hne e.symm)]; exact h
theorem upd_set (w : World) (b i : Nat) (v : Value) : Upd (fun k => k = b) w (w.setCell ⟨b, i, none⟩ v) := (Upd.refl (fun k => k = b) w).setCell (p := ⟨b, i, none⟩) (.inl rfl) v
theorem put_at (w : World) (p wb hb m mc n nc : Nat) (h ws : List Nat) (k : HV w p wb hb m mc n nc h ws) (i x : Nat) (hi : i < n) (hx : x < m) (hn : n ≤ 2000000) :
    Calls Tryd.prog 70 #[.pointer (some ⟨p, 0, none⟩), .slice (some ⟨hb, 0, none⟩) n nc, .int .i64 i, .int .i64 x] w fun e w' => e = .returned (.tuple #[]) ∧ HV w' p wb hb m mc n nc (h.set i x) (stamp ws x i) ∧ Upd (fun b => b = hb ∨ b = wb) w w' := by
  obtain ⟨e1, e2⟩ := k.m_eq
  have c0 := k.fld
  have c1 := k.wrow.cellAt x (by omega)
  rw [u64s_at (by omega)] at c1
  have hy64 := k.w64 x
  obtain ⟨y, hy⟩ : ∃ y, ws.getD x 0 = y := ⟨_, rfl⟩
  rw [hy] at c1 hy64
  have HY := Lib.hid hy
  clear hy
  have hos := or_stamp' y i hy64 (by omega)
  have f1 := k.wrow.frozenAt x
  have f2 := k.hrow.frozenAt i
  have c2 := k.hrow.cellAt i (by omega)
  rw [ints_at (by omega)] at c2
  have K := Lib.hid k
  clear k
  go_enter Tryd.func70, Tryd.ntmps70
  go_wp2
  obtain ⟨w0, hw0⟩ : ∃ w0, w0 = w.setCell ⟨hb, i, none⟩ (.int .i64 x) := ⟨_, rfl⟩
  rw [← hw0]
  have hne : (⟨p, 0, none⟩ : Addr).block ≠ hb := K.out.ph
  have d0 := Ext.cells (w0 := w0) (p := ⟨p, 0, none⟩) (by rw [hw0]; exact cell_far c0 K.out.ph)
  have d1 := Ext.cells (w0 := w0) (p := ⟨wb, x, none⟩) (by rw [hw0]; exact cell_far c1 K.out.wh)
  refine wp_region_calm_tail 18 (by kernel_rfl) (by kernel_rfl) ?_
  simp only [List.take_succ_cons, List.take_zero, List.drop_succ_cons, List.drop_zero]
  repeat (go_big_quiet_step (fail))
  refine wpQuiet_nil ?_
  rintro w1 hb1
  have f1' : w1.frozen? ⟨wb, x, none⟩ = false := by
    rw [World.frozen?_of_block (w := w) (by rw [hb1.block wb (by rw [hw0]; simpa [World.setCell] using World.block_lt_of_cell? _ _ c1), hw0]; exact Below.heap_setCell _ _ _ _ K.out.wh)]; exact f1
  have c1' : w1.cell? ⟨wb, x, none⟩ = some (.int .u64 y) := Ext.cell ⟨w1, hb1⟩ (by rw [hw0]; exact cell_far c1 K.out.wh)
  have HB1 := Lib.hid hb1
  clear hb1 d0 d1 c0 c1 f1 c2 f2
  go_wp2
  have hos2 : (y : Int) / 4294967296 * 4294967296 + i = ((y / 4294967296 * 4294967296 + i : Nat) : Int) := by omega
  rw [hos2]
  have k := K.out
  have r0 := (k.hrow.stored i (.int .i64 x)).1
  have r1 : w1.ownsRow 0 3 1 (.slice (some ⟨hb, 0, none⟩) n nc) n (ints (h.set i x)) := by
    rw [ints_set]; rw [← hw0] at r0
    exact ownsRow_upd (S := fun _ => False) r0 (Upd.of_below HB1.out) (fun _ _ h => h)
  have u0 : Upd (fun b => b = hb) w w1 := by
    have a : Upd (fun b => b = hb) w w0 := by rw [hw0]; exact upd_set _ _ _ _
    exact a.trans' (Upd.of_below HB1.out)
  have r2 := ownsRow_upd k.wrow u0 (fun b hb' e => k.wh (by simp [Value.ownBlock] at hb'; rw [hb', e]))
  have r3 := (r2.stored x (.int .u64 ((y / 4294967296 * 4294967296 + i : Nat) : Int))).1
  have u1 : Upd (fun b => b = wb) w1 (w1.setCell ⟨wb, x, none⟩ (.int .u64 ((y / 4294967296 * 4294967296 + i : Nat) : Int))) := upd_set _ _ _ _
  refine bodyPost_end (v := .tuple #[]) (results_none rfl _ _ _) rfl ⟨rfl, ⟨?_, ?_, ?_, k.pw, k.ph, k.wh, ?_, ?_⟩, ?_⟩
  · exact cell_far (u0.cell_some k.fld k.ph) k.pw
  · rw [stamp, HY.out, u64s_set]; exact r3
  · exact ownsRow_upd r1 u1 (fun b hb' e => k.wh (by simp [Value.ownBlock] at hb'; rw [hb', ← e]))
  · rw [stamp_len]; exact k.small
  · intro j
    by_cases e : j = x
    · subst e
      rw [stamp, getD_set _ _ _ _ (by omega), if_pos rfl, HY.out]; omega
    · rw [stamp_ne _ _ _ _ e]; exact k.w64 j
  · exact (u0.mono (fun b _ h => .inl h)).trans' (u1.mono (fun b _ h => .inr h))
def RisePost (w : World) (p wb hb m mc n nc : Nat) (R : List Nat × List Nat) (e : Ending) (w' : World) : Prop := e = .returned (.tuple #[]) ∧ HV w' p wb hb m mc n nc R.1 R.2 ∧ Upd (fun b => b = hb ∨ b = wb) w w'
theorem rise_at (w : World) (p wb hb m mc n nc : Nat) (h ws : List Nat) (k : HV w p wb hb m mc n nc h ws) (i : Nat) (hi : i < n) (hn : n ≤ 2000000) (hall : ∀ j, j < n → h.getD j 0 < m) :
    Calls Tryd.prog 65 #[.pointer (some ⟨p, 0, none⟩), .slice (some ⟨hb, 0, none⟩) n nc, .int .i64 i] w (RisePost w p wb hb m mc n nc (riseP (h.getD i 0) i h ws)) := by
  obtain ⟨R, hR⟩ : ∃ R, riseP (h.getD i 0) i h ws = R := ⟨_, rfl⟩
  rw [hR]
  obtain ⟨x, hx⟩ : ∃ x, h.getD i 0 = x := ⟨_, rfl⟩
  have hxm := hall i hi
  rw [hx] at hR hxm
  obtain ⟨e1, e2⟩ := k.m_eq
  have c0 := k.hrow.cellAt i (by omega)
  rw [ints_at (by omega), hx] at c0
  have K := Lib.hid k; have HR := Lib.hid hR; have HA := Lib.hid hall
  clear k hR hall hx e1 e2
  go_enter Tryd.func65, Tryd.ntmps65
  go_wp2
  go_loopw [2] (fun t2 wr => ∃ (i' : Nat) (h' ws' : List Nat), i' < n ∧ t2 = .int .i64 i' ∧ riseP x i' h' ws' = R ∧ (∀ j, j < n → h'.getD j 0 < m) ∧ HV wr p wb hb m mc n nc h' ws' ∧ Upd (fun b => b = hb ∨ b = wb) w wr) (fun t2 _ => (intOf t2).toNat)
  case atStart => exact ⟨i, h, ws, hi, rfl, HR.out, HA.out, K.out, Upd.refl _ _⟩
  case round =>
    obtain ⟨i', h', ws', hi', rfl, hr, ha, hv, hu⟩ := hrel
    have HR1 := Lib.hid hr; have HA1 := Lib.hid ha; have HV1 := Lib.hid hv; have HU := Lib.hid hu
    clear hr ha hv hu
    cases i' with
    | zero =>
      have hstop : riseP x 0 h' ws' = (h'.set 0 x, stamp ws' x 0) := by rw [riseP, dif_neg (fun q => by omega)]
      have HST := Lib.hid hstop
      clear hstop
      go_wp2_with fail
      refine (put_at _ p wb hb m mc n nc h' ws' HV1.out 0 x (by omega) hxm hn).mono ?_
      rintro e w2 ⟨rfl, hv2, hu2⟩
      have HV2 := Lib.hid hv2; have HU2 := Lib.hid (HU.out.trans' hu2)
      clear hv2 hu2
      go_wp2
      refine bodyPost_end (v := .tuple #[]) (results_none rfl _ _ _) rfl ⟨rfl, ?_, HU2.out⟩
      rw [← HR1.out, HST.out]; exact HV2.out
    | succ k =>
      obtain ⟨y, hy⟩ : ∃ y, h'.getD (k / 2) 0 = y := ⟨_, rfl⟩
      have c1 := HV1.out.hrow.cellAt (k / 2) (by omega)
      rw [ints_at (by have := HV1.out.m_eq.2; omega), hy] at c1
      have hym := HA1.out (k / 2) (by omega)
      rw [hy] at hym
      have k1 : IntKind.i64.wrap (((k + 1 : Nat) : Int) - 1) = (k : Int) := by rw [IntWalk.i64_in _ ⟨by omega, by omega⟩]; omega
      by_cases hlt : x < y
      · have hgo : riseP x (k + 1) h' ws' = riseP x (k / 2) (h'.set (k + 1) y) (stamp ws' y (k + 1)) := by
          rw [riseP, dif_pos ⟨by omega, by rw [show (k + 1 - 1) / 2 = k / 2 by omega, hy]; exact hlt⟩, show (k + 1 - 1) / 2 = k / 2 by omega, hy]
        have HG := Lib.hid hgo
        clear hgo
        go_wp2_with fail
        refine (put_at _ p wb hb m mc n nc h' ws' HV1.out (k + 1) y hi' hym hn).mono ?_
        rintro e w2 ⟨rfl, hv2, hu2⟩
        have HV2 := Lib.hid hv2; have HU2 := Lib.hid (HU.out.trans' hu2)
        clear hv2 hu2
        go_wp2
        go_roundw
        case rel => exact ⟨k / 2, _, _, by omega, rfl, by rw [← HG.out]; exact HR1.out, fun j hj => by rw [getD_set _ _ _ _ (by have := HV1.out.m_eq.2; omega)]; split; exact hym; exact HA1.out j hj, HV2.out, HU2.out⟩
        case measure => simp [intOf]; omega
      · have hstop : riseP x (k + 1) h' ws' = (h'.set (k + 1) x, stamp ws' x (k + 1)) := by
          rw [riseP, dif_neg (fun q => hlt (by have := q.2; rwa [show (k + 1 - 1) / 2 = k / 2 by omega, hy] at this))]
        have HST := Lib.hid hstop
        clear hstop
        go_wp2_with fail
        refine (put_at _ p wb hb m mc n nc h' ws' HV1.out (k + 1) x hi' hxm hn).mono ?_
        rintro e w2 ⟨rfl, hv2, hu2⟩
        have HV2 := Lib.hid hv2; have HU2 := Lib.hid (HU.out.trans' hu2)
        clear hv2 hu2
        go_wp2
        refine bodyPost_end (v := .tuple #[]) (results_none rfl _ _ _) rfl ⟨rfl, ?_, HU2.out⟩
        rw [← HR1.out, HST.out]; exact HV2.out
end Go.Proofs.YtfpfpopfnbcblaaDoor

/- package arena: rows of bits. -/
namespace Go.Proofs.YtfpfpopfnbcblaaDoor
open Go.RowKit

/-- A row of bits: f tells which are 1. -/
structure BRow (w : World) (g n cap : Nat) (f : Nat → Bool) (bs : List Nat) : Prop where
  row : w.ownsRow 0 44 1 (.slice (some ⟨g, 0, none⟩) n cap) n (u64s bs)
  w64 : ∀ k, bs.getD k 0 < 18446744073709551616
  bit : ∀ i, i < 64 * n → (bs.getD (i / 64) 0).testBit (i % 64) = f i
theorem BRow.len {w : World} {g n cap : Nat} {f : Nat → Bool} {bs : List Nat} (k : BRow w g n cap f bs) : bs.length = n := by
  have a := k.row.1
  rw [u64s_len] at a; omega
theorem bhas_at (w : World) (g n cap : Nat) (f : Nat → Bool) (bs : List Nat) (k : BRow w g n cap f bs) (i : Nat) (hi : i < 64 * n) (hn : n ≤ 1048576) :
    Calls Tryd.prog 37 #[.slice (some ⟨g, 0, none⟩) n cap, .int .i64 i] w fun e w' => e = .returned (.bool (f i)) ∧ w = w' := by
  obtain ⟨y, hy⟩ : ∃ y, bs.getD (i / 64) 0 = y := ⟨_, rfl⟩
  have c0 := k.row.cellAt (i / 64) (by omega)
  rw [u64s_at (by rw [k.len]; omega), hy] at c0
  have h64 := k.w64 (i / 64)
  have hb := k.bit i hi
  rw [hy] at h64 hb
  obtain ⟨b, hfb⟩ : ∃ b, f i = b := ⟨_, rfl⟩
  rw [hfb] at hb ⊢
  have HB := Lib.hid hb
  clear hb hy k hfb
  go_enter Tryd.func37, Tryd.ntmps37
  go_wp2
  go_ret
  refine ⟨?_, rfl⟩
  have e : (y : Int) / 2 ^ (i % 64) = ((y / 2 ^ (i % 64) : Nat) : Int) := by
    rw [Int.natCast_ediv]; simp
  rw [e, and_one _ (Nat.lt_of_le_of_lt (Nat.div_le_self _ _) h64)]
  have h := HB.out
  rw [Nat.testBit_eq_decide_div_mod_eq] at h
  rw [← h]
  show Ending.returned (Value.bool (((y / 2 ^ (i % 64) % 2 : Nat) : Int) == 1)) = _
  congr 2
  rw [Bool.eq_iff_iff]
  simp
  omega
def turned (f : Nat → Bool) (i : Nat) (b : Bool) : Nat → Bool := fun j => if j = i then b else f j
theorem BRow.turn {w w' : World} {g n cap : Nat} {f : Nat → Bool} {bs : List Nat} (k : BRow w g n cap f bs) (i r : Nat) (b : Bool) (hi : i < 64 * n) (hr : r < 18446744073709551616)
    (hb : ∀ j, j < 64 → r.testBit j = if j = i % 64 then b else (bs.getD (i / 64) 0).testBit j)
    (row : w'.ownsRow 0 44 1 (.slice (some ⟨g, 0, none⟩) n cap) n ((u64s bs).set (i / 64) (.int .u64 (r : Int)))) : BRow w' g n cap (turned f i b) (bs.set (i / 64) r) := by
  have hl := k.len
  refine ⟨by rw [u64s_set]; exact row, fun j => ?_, fun j hj => ?_⟩
  · rw [getD_set _ _ _ _ (by omega)]
    split
    · exact hr
    · exact k.w64 j
  · rw [getD_set _ _ _ _ (by omega)]
    unfold turned
    split
    · rename_i e
      rw [hb _ (Nat.mod_lt _ (by decide)), ← k.bit j hj, e]
      by_cases e2 : j % 64 = i % 64
      · rw [if_pos e2, if_pos (by omega)]
      · rw [if_neg e2, if_neg (fun q => e2 (by rw [q]))]
    · rename_i e
      rw [if_neg (fun q => e (by rw [q]))]
      exact k.bit j hj
theorem below_cell {w w' : World} (h : Below w.heap.size w w') {p : Addr} {v : Value} (hc : w.cell? p = some v) : w'.cell? p = some v := by
  rw [h.cell (World.block_lt_of_cell? _ _ hc)]; exact hc
theorem pow_wrap (j : Nat) (hj : j < 64) : IntKind.u64.wrap ((2 : Int) ^ j) = ((2 ^ j : Nat) : Int) ∧ 2 ^ j < 18446744073709551616 := by
  have h : 2 ^ j < 2 ^ 64 := Nat.pow_lt_pow_right (by decide) hj
  have h2 : (2 : Int) ^ j = ((2 ^ j : Nat) : Int) := by simp
  refine ⟨?_, by simpa using h⟩
  rw [h2]
  exact wrap_u64_in (Int.natCast_nonneg _) (by have : 2 ^ j < 18446744073709551616 := by simpa using h
                                               omega)
theorem bset_at (w : World) (g n cap : Nat) (f : Nat → Bool) (bs : List Nat) (k : BRow w g n cap f bs) (i : Nat) (hi : i < 64 * n) (hn : n ≤ 1048576) :
    Calls Tryd.prog 48 #[.slice (some ⟨g, 0, none⟩) n cap, .int .i64 i] w fun e w' => e = .returned (.tuple #[]) ∧ (∃ bs', BRow w' g n cap (turned f i true) bs') ∧ Upd (fun b => b = g) w w' := by
  obtain ⟨y, hy⟩ : ∃ y, bs.getD (i / 64) 0 = y := ⟨_, rfl⟩
  have c0 := k.row.cellAt (i / 64) (by omega)
  rw [u64s_at (by rw [k.len]; omega), hy] at c0
  have h64 := k.w64 (i / 64)
  rw [hy] at h64
  have d0 := Ext.cells (w0 := w) c0
  have HY := Lib.hid hy; have K := Lib.hid k; have C0 := Lib.hid c0
  clear hy k c0
  go_enter Tryd.func48, Tryd.ntmps48
  refine wp_region_calm_tail 10 (by kernel_rfl) (by kernel_rfl) ?_
  simp only [List.take_succ_cons, List.take_zero, List.drop_succ_cons, List.drop_zero]
  repeat (go_big_quiet_step (fail))
  refine wpQuiet_nil ?_
  rintro w1 hb1
  have r1 := ownsRow_upd (S := fun _ => False) K.out.row (Upd.of_below hb1) (fun _ _ h => h)
  have f1 := r1.frozenAt (i / 64)
  have c1 := below_cell hb1 C0.out
  have R1 := Lib.hid r1; have HB1 := Lib.hid hb1
  clear d0 r1 hb1
  go_wp2
  have hp := pow_wrap (i % 64) (Nat.mod_lt _ (by decide))
  rw [hp.1, bits_or64 y _ h64 hp.2]
  refine bodyPost_end (v := .tuple #[]) (results_none rfl _ _ _) rfl ⟨rfl, ⟨_, K.out.turn i (y ||| 2 ^ (i % 64)) true hi (by have := Nat.or_lt_two_pow (n := 64) (by simpa using h64) (by simpa using hp.2) (x := y) (y := 2 ^ (i % 64)); simpa using this) (fun j hj => ?_) (R1.out.stored _ _).1⟩, (Upd.of_below HB1.out).trans' (upd_set _ _ _ _)⟩
  rw [Nat.testBit_or, Nat.testBit_two_pow, HY.out]
  by_cases e : i % 64 = j
  · rw [if_pos e.symm]; simp [e]
  · rw [if_neg (fun q => e q.symm)]; simp [e]
theorem bunset_at (w : World) (g n cap : Nat) (f : Nat → Bool) (bs : List Nat) (k : BRow w g n cap f bs) (i : Nat) (hi : i < 64 * n) (hn : n ≤ 1048576) :
    Calls Tryd.prog 41 #[.slice (some ⟨g, 0, none⟩) n cap, .int .i64 i] w fun e w' => e = .returned (.tuple #[]) ∧ (∃ bs', BRow w' g n cap (turned f i false) bs') ∧ Upd (fun b => b = g) w w' := by
  obtain ⟨y, hy⟩ : ∃ y, bs.getD (i / 64) 0 = y := ⟨_, rfl⟩
  have c0 := k.row.cellAt (i / 64) (by omega)
  rw [u64s_at (by rw [k.len]; omega), hy] at c0
  have h64 := k.w64 (i / 64)
  rw [hy] at h64
  have d0 := Ext.cells (w0 := w) c0
  have HY := Lib.hid hy; have K := Lib.hid k; have C0 := Lib.hid c0
  clear hy k c0
  go_enter Tryd.func41, Tryd.ntmps41
  refine wp_region_calm_tail 10 (by kernel_rfl) (by kernel_rfl) ?_
  simp only [List.take_succ_cons, List.take_zero, List.drop_succ_cons, List.drop_zero]
  repeat (go_big_quiet_step (fail))
  refine wpQuiet_nil ?_
  rintro w1 hb1
  have r1 := ownsRow_upd (S := fun _ => False) K.out.row (Upd.of_below hb1) (fun _ _ h => h)
  have f1 := r1.frozenAt (i / 64)
  have c1 := below_cell hb1 C0.out
  have R1 := Lib.hid r1; have HB1 := Lib.hid hb1
  clear d0 r1 hb1
  go_wp2
  have hp := pow_wrap (i % 64) (Nat.mod_lt _ (by decide))
  obtain ⟨r, r0, r2, r3⟩ := bits_andNot64 y _ h64 hp.2
  rw [hp.1, r2]
  refine bodyPost_end (v := .tuple #[]) (results_none rfl _ _ _) rfl ⟨rfl, ⟨_, K.out.turn i r false hi r0 (fun j hj => ?_) (R1.out.stored _ _).1⟩, (Upd.of_below HB1.out).trans' (upd_set _ _ _ _)⟩
  rw [r3, Nat.testBit_two_pow, HY.out]
  by_cases e : i % 64 = j
  · rw [if_pos e.symm]; simp [e]
  · rw [if_neg (fun q => e q.symm)]; simp [e]
end Go.Proofs.YtfpfpopfnbcblaaDoor

/- math/bits.TrailingZeros64, by hand; package arena: next, over a row of bits. -/
namespace Go.Proofs.YtfpfpopfnbcblaaDoor
open Go.RowKit

/-- The table of math/bits, in its variable. -/
def TzTab (w : World) : Prop := ∀ j, j < Lib.deBruijn64tab.length → w.cell? ⟨0, j, none⟩ = some (.int .u8 (Lib.deBruijn64tab.getD j 0))
theorem TzTab.on {w w' : World} (h : TzTab w) (hb : Below w.heap.size w w') : TzTab w' := fun j hj => by
  have h1 := h j hj
  rw [hb.cell (World.block_lt_of_cell? _ _ h1)]; exact h1
theorem tz64_any (x : Nat) (hx : x < 18446744073709551616) (h0 : x ≠ 0) (w : World) (ht : TzTab w) :
    Calls Tryd.prog 55 #[.int .u64 x] w fun e w' => e = .returned (.int .i64 (Lib.ctz 64 x)) ∧ w = w' := by
  obtain ⟨hlow, hk⟩ := Lib.lowest_bit 64 x h0 hx
  obtain ⟨hi, htab⟩ := Lib.deBruijn64_at _ hk
  have hcell := ht _ (by rw [show Lib.deBruijn64tab.length = 64 by decide]; exact hi)
  rw [htab] at hcell
  have key := tz64_key x _ hx h0 hlow
  obtain ⟨k, hkk⟩ : ∃ k, Lib.ctz 64 x = k := ⟨_, rfl⟩
  rw [hkk] at hk hcell key hi ⊢
  obtain ⟨idx, hidx⟩ : ∃ idx, 2 ^ k * 285870213051353865 % 18446744073709551616 / 288230376151711744 = idx := ⟨_, rfl⟩
  rw [hidx] at hcell key hi
  have hx0 : ((x : Int) == 0) = false := by simp; omega
  have hx1 : ¬ (x : Int) = 0 := by omega
  have hw : IntKind.u8.wrap (k : Int) = k := by rw [IntKind.wrap_u8]; omega
  have hi' : (idx : Int) < 64 := by omega
  clear hlow htab ht h0 hx hkk hidx
  go_enter Tryd.func55, Tryd.ntmps55
  go_wp2
  go_ret
  exact ⟨rfl, rfl⟩
theorem tz_bits {x : Nat} (h0 : x ≠ 0) (hx : x < 18446744073709551616) : Lib.ctz 64 x < 64 ∧ x.testBit (Lib.ctz 64 x) = true ∧ ∀ t, t < Lib.ctz 64 x → x.testBit t = false := by
  obtain ⟨m, hm, hk⟩ := Lib.ctzFrom_spec 64 x (by omega) (by simpa using hx)
  have e : Lib.ctz 64 x = Lib.ctzFrom 64 x := by simp [Lib.ctz, h0]
  rw [e]
  obtain ⟨c, hc⟩ : ∃ c, Lib.ctzFrom 64 x = c := ⟨_, rfl⟩
  rw [hc] at hm hk ⊢
  subst hm
  refine ⟨hk, ?_, fun t ht => ?_⟩
  · rw [Nat.testBit_two_pow_mul]
    simp
  · rw [Nat.testBit_two_pow_mul]
    simp; omega
theorem cut_bits (y s t : Nat) : (y / 2 ^ s * 2 ^ s).testBit t = (decide (s ≤ t) && y.testBit t) := by
  rw [Nat.mul_comm, Nat.testBit_two_pow_mul, Nat.testBit_div_two_pow]
  by_cases h : s ≤ t
  · simp [h, Nat.sub_add_cancel h]
  · simp [h]
/-- What next tells. -/
def NextP (f : Nat → Bool) (n i : Nat) (r : Int) : Prop := (r = -1 ∧ ∀ j, i ≤ j → j < 64 * n → f j = false) ∨ ∃ j : Nat, r = j ∧ i ≤ j ∧ j < 64 * n ∧ f j = true ∧ ∀ j', i ≤ j' → j' < j → f j' = false
def NextQ (f : Nat → Bool) (n i : Nat) (w : World) (e : Ending) (w' : World) : Prop := ∃ r : Int, e = .returned (.int .i64 r) ∧ NextP f n i r ∧ w = w'
theorem next_word {f : Nat → Bool} {n i k : Nat} {y : Nat} (hn : ∀ j, i ≤ j → j < 64 * k → f j = false) (hk : k < n) (hb : ∀ t, t < 64 → y.testBit t = (decide (i ≤ 64 * k + t) && f (64 * k + t))) (hy : y < 18446744073709551616) :
    (y = 0 → ∀ j, i ≤ j → j < 64 * (k + 1) → f j = false) ∧ (y ≠ 0 → Lib.ctz 64 y < 64 ∧ NextP f n i ((64 * k + Lib.ctz 64 y : Nat) : Int)) := by
  refine ⟨fun h j h1 h2 => ?_, fun h => ?_⟩
  · by_cases h3 : j < 64 * k
    · exact hn j h1 h3
    · have h4 := hb (j - 64 * k) (by omega)
      rw [h, Nat.zero_testBit, show 64 * k + (j - 64 * k) = j by omega] at h4
      simpa [h1] using h4.symm
  · obtain ⟨h1, h2, h3⟩ := tz_bits h hy
    refine ⟨h1, .inr ⟨_, rfl, ?_, by omega, ?_, fun j' h4 h5 => ?_⟩⟩
    · have h4 := hb _ h1
      rw [h2] at h4
      simp at h4
      exact h4.1
    · have h4 := hb _ h1
      rw [h2] at h4
      simp at h4
      exact h4.2
    · by_cases h6 : j' < 64 * k
      · exact hn j' h4 h6
      · have h7 := hb (j' - 64 * k) (by omega)
        rw [h3 _ (by omega), show 64 * k + (j' - 64 * k) = j' by omega] at h7
        simpa [h4] using h7.symm
set_option maxRecDepth 100000 in
theorem next_at (w : World) (g n cap : Nat) (f : Nat → Bool) (bs : List Nat) (k : BRow w g n cap f bs) (i : Nat) (hi : i ≤ 64 * n) (hn : n ≤ 1048576) (ht : TzTab w) :
    Calls Tryd.prog 43 #[.slice (some ⟨g, 0, none⟩) n cap, .int .i64 i] w (NextQ f n i w) := by
  have K := Lib.hid k; have HT := Lib.hid ht
  have hi6 : (i : Int) ≤ 67108864 := by omega
  have hn6 : (n : Int) ≤ 1048576 := by omega
  have HI := Lib.hid hi
  clear k ht hi
  go_enter Tryd.func43, Tryd.ntmps43
  go_wp2_with fail
  go_loopw [5] (fun t5 wr => ∃ kk : Nat, t5 = .int .i64 kk ∧ i / 64 ≤ kk ∧ kk ≤ n ∧ (∀ j, i ≤ j → j < 64 * kk → f j = false) ∧ w = wr) (fun t5 _ => n - (intOf t5).toNat)
  case atStart => exact ⟨i / 64, congrArg _ (by omega), Nat.le_refl _, by have := HI.out; omega, fun j h1 h2 => by omega, rfl⟩
  case round =>
    obtain ⟨kk, rfl, hk1, hk2, hno, rfl⟩ := hrel
    have hkk6 : (kk : Int) ≤ 1048576 := by omega
    have HNO := Lib.hid hno; have HK1 := Lib.hid hk1
    clear hno
    by_cases hlt : kk < n
    · obtain ⟨y, hy⟩ : ∃ y, bs.getD kk 0 = y := ⟨_, rfl⟩
      have c0 := K.out.row.cellAt kk (by omega)
      rw [u64s_at (by rw [K.out.len]; omega), hy] at c0
      have h64 := K.out.w64 kk
      rw [hy] at h64
      have hbit : ∀ t, t < 64 → y.testBit t = f (64 * kk + t) := fun t h => by
        have := K.out.bit (64 * kk + t) (by omega)
        rw [show (64 * kk + t) / 64 = kk by omega, show (64 * kk + t) % 64 = t by omega, hy] at this
        exact this
      have hlt' : (kk : Int) < n := by omega
      have HBIT := Lib.hid hbit; have HLT := Lib.hid hlt; have H64 := Lib.hid h64
      have hy6 : (y : Int) < 18446744073709551616 := by omega
      clear hy hbit hlt hk1 hk2
      by_cases he : kk = i / 64
      · have he1 : ((kk : Int) == (i : Int) / 64) = true := by simp; omega
        obtain ⟨z, hz⟩ : ∃ z, y / 2 ^ (i % 64) * 2 ^ (i % 64) = z := ⟨_, rfl⟩
        have hzy : z ≤ y := by rw [← hz]; exact Nat.div_mul_le_self _ _
        have hz64 : z < 18446744073709551616 := Nat.lt_of_le_of_lt hzy H64.out
        have key : IntKind.u64.wrap ((y : Int) / 2 ^ (i % 64) * 2 ^ (i % 64)) = (z : Int) := by
          have e : (y : Int) / 2 ^ (i % 64) * 2 ^ (i % 64) = (z : Int) := by rw [← hz, Int.natCast_mul, Int.natCast_ediv]; simp
          rw [e]; exact wrap_u64_in (Int.natCast_nonneg _) (by omega)
        have hw := next_word (f := f) (i := i) (y := z) HNO.out HLT.out (fun t h => by
          rw [← hz, cut_bits, HBIT.out t h]
          have e : decide (i % 64 ≤ t) = decide (i ≤ 64 * kk + t) := by
            rw [decide_eq_decide]; omega
          rw [e]) hz64
        have HW := Lib.hid hw; have HE := Lib.hid he; have HZ64 := Lib.hid hz64
        clear he hw hz hzy hz64
        by_cases h0 : z = 0
        · subst h0
          have hnx := HW.out.1 rfl
          have HNX := Lib.hid hnx
          clear hnx
          go_wp2_with (simp only [key])
          go_roundw
          case rel => exact ⟨kk + 1, by go_num, by have := HK1.out; omega, HLT.out, HNX.out, by first | rfl | trivial⟩
          case measure => have := HLT.out; simp [intOf]; omega
        · have h01 : ((z : Int) != 0) = true := by simp; omega
          have h02 : ¬ (z : Int) = 0 := by omega
          have hnx := HW.out.2 h0
          have C := Lib.hid (tz64_any z HZ64.out h0 w HT.out)
          obtain ⟨c, hc⟩ : ∃ c, Lib.ctz 64 z = c := ⟨_, rfl⟩
          rw [hc] at hnx C
          have hc6 : (c : Int) < 64 := by have := hnx.1; omega
          have HNX := Lib.hid hnx.2
          clear h0 hnx hc
          go_wp2_with (first | (simp only [key]) | fail)
          refine C.out.mono ?_
          rintro e w1 ⟨rfl, rfl⟩
          go_wp2
          go_ret
          refine ⟨_, rfl, ?_, rfl⟩
          have h := HNX.out
          have e1 : ((64 * kk + c : Nat) : Int) = (kk : Int) * 64 + c := by omega
          rw [e1] at h
          exact h
      · have he1 : ((kk : Int) == (i : Int) / 64) = false := by simp; omega
        have hw := next_word (f := f) (i := i) (y := y) HNO.out HLT.out (fun t h => by rw [HBIT.out t h]; have := HK1.out; rw [decide_eq_true (by omega), Bool.true_and]) H64.out
        have HW := Lib.hid hw
        have HE := Lib.hid he
        clear he hw
        by_cases h0 : y = 0
        · subst h0
          have hnx := HW.out.1 rfl
          have HNX := Lib.hid hnx
          clear hnx
          go_wp2
          go_roundw
          case rel => exact ⟨kk + 1, by go_num, by have := HK1.out; omega, HLT.out, HNX.out, by first | rfl | trivial⟩
          case measure => have := HLT.out; simp [intOf]; omega
        · have h01 : ((y : Int) != 0) = true := by simp; omega
          have h02 : ¬ (y : Int) = 0 := by omega
          have hnx := HW.out.2 h0
          have C := Lib.hid (tz64_any y H64.out h0 w HT.out)
          obtain ⟨c, hc⟩ : ∃ c, Lib.ctz 64 y = c := ⟨_, rfl⟩
          rw [hc] at hnx C
          have hc6 : (c : Int) < 64 := by have := hnx.1; omega
          have HNX := Lib.hid hnx.2
          clear h0 hnx hc
          go_wp2_with fail
          refine C.out.mono ?_
          rintro e w1 ⟨rfl, rfl⟩
          go_wp2
          go_ret
          refine ⟨_, rfl, ?_, rfl⟩
          have h := HNX.out
          have e1 : ((64 * kk + c : Nat) : Int) = (kk : Int) * 64 + c := by omega
          rw [e1] at h
          exact h
    · obtain rfl : kk = n := by omega
      have hlt' : ¬ (kk : Int) < kk := by omega
      clear hlt hk1 hk2
      go_wp2
      go_ret
      exact ⟨-1, rfl, .inl ⟨rfl, HNO.out⟩, rfl⟩
end Go.Proofs.YtfpfpopfnbcblaaDoor
