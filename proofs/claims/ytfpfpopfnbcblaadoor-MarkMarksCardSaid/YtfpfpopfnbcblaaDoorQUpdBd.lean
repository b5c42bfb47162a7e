/- Of no program: (1) what a value of plain data (integers, bools, strings, structs and arrays of these) holds, cell for cell, out of what it reads as; (2) all arguments read behind a call as before, where below the old heap nothing has turned. -/
import Derived.Test.YtfpfpopfnbcblaaDoorRows
import Derived.WalkKit
import Derived.ProofKit
import Derived.OpenShut
import Derived.ShutString
import Derived.ChangeOld
import Derived.Below
import Derived.Carry
import Derived.Lib.SmallJoins
import Derived.LaidMore
import Derived.Deep.DeepHandedRow
import Derived.Lib.LaidTab
import Derived.Maps.AppendAt
import Derived.RangeFuncBox
import Derived.Lib.Hide
import Derived.Deep.QuietTactic
import Derived.BigQuiet
namespace Go.Proofs.YtfpfpopfnbcblaaDoor
open Go.ChangeShapes Go.WideShapes Go.ChangeAt Go.RowKit Go.Joins

mutual
def leaves {H : Type} : DataW H → List Value
  | .lit (.int k n) => [.int k n]
  | .lit (.bool b) => [.bool b]
  | .lit (.string bs) => [.string ⟨bs.toArray⟩]
  | .agg ds => leavesAll ds
  | _ => []
def leavesAll {H : Type} : List (DataW H) → List Value
  | [] => []
  | d :: ds => leaves d ++ leavesAll ds
end

/-- A type of plain data, its parts one behind the other without gaps. -/
def flatT (P : Program) : Nat → TypeId → Bool
  | 0, _ => false
  | fuel + 1, t => match P.underlying t with
    | some .bool => true
    | some (.int _) => true
    | some .string => true
    | some (.struct fs) => (fs.toList.foldl (fun a f => (a.1 && f.offset == a.2 && flatT P fuel f.type, a.2 + P.cellsOf f.type)) (true, 0)) == (true, P.cellsOf t)
    | some (.array n e) => flatT P fuel e && P.cellsOf t == n * P.cellsOf e
    | _ => false

section
variable {H : Type} {enc : TypeId × Value → H} {P : Program} {w : World} {base : Nat} {sp : Nat → Bool} {held : Bool}

theorem leaves_struct {fuel fuel' : Nat} (ih : ∀ t cs d p, flatT P fuel t = true → DataW.trod enc P w base sp held fuel' t cs = some (d, p) → cs = leaves d) :
    ∀ (fs : List Field) (b : Bool) (at0 : Nat) (top : Nat) (cs : List Value) (xs : List (DataW H × List MemPlace)),
      fs.foldl (fun a f => (a.1 && f.offset == a.2 && flatT P fuel f.type, a.2 + P.cellsOf f.type)) (b, at0) = (true, top) →
      (fs.mapM fun f => DataW.trod enc P w base sp held fuel' f.type ((cs.drop f.offset).take (P.cellsOf f.type))) = some xs →
      cs.length = top → b = true ∧ at0 ≤ top ∧ cs.drop at0 = leavesAll (xs.map (·.1))
  | [], b, at0, top, cs, xs, hf, hm, hl => by
    simp only [List.foldl_nil, Prod.mk.injEq] at hf
    obtain ⟨rfl, rfl⟩ := hf
    simp at hm
    subst hm
    exact ⟨rfl, Nat.le_refl _, by simp [leavesAll, ← hl]⟩
  | f :: fs, b, at0, top, cs, xs, hf, hm, hl => by
    simp only [List.foldl_cons] at hf
    simp only [List.mapM_cons, Option.bind_eq_bind, Option.bind_eq_some_iff, Option.pure_def, Option.some.injEq] at hm
    obtain ⟨x, hx, ys, hys, rfl⟩ := hm
    obtain ⟨hb, hle, hr⟩ := leaves_struct ih fs _ _ top cs ys hf hys hl
    simp only [Bool.and_eq_true, beq_iff_eq] at hb
    obtain ⟨⟨rfl, ho⟩, hfl⟩ := hb
    refine ⟨rfl, by omega, ?_⟩
    have h1 := ih _ _ x.1 x.2 hfl hx
    simp only [List.map_cons, leavesAll]
    rw [← hr, ← h1, ho]
    rw [← List.drop_drop]
    exact (List.take_append_drop _ _).symm

theorem leaves_array {fuel fuel' : Nat} (ih : ∀ t cs d p, flatT P fuel t = true → DataW.trod enc P w base sp held fuel' t cs = some (d, p) → cs = leaves d) (e : TypeId) (he : flatT P fuel e = true) :
    ∀ (n k : Nat) (cs : List Value) (xs : List (DataW H × List MemPlace)), cs.length = (k + n) * P.cellsOf e →
      ((List.range' k n).mapM fun i => DataW.trod enc P w base sp held fuel' e ((cs.drop (i * P.cellsOf e)).take (P.cellsOf e))) = some xs →
      cs.drop (k * P.cellsOf e) = leavesAll (xs.map (·.1))
  | 0, k, cs, xs, hl, hm => by
    simp at hm
    subst hm
    have : cs.drop (k * P.cellsOf e) = [] := by rw [List.drop_eq_nil_iff]; simp at hl; omega
    rw [this]; rfl
  | n + 1, k, cs, xs, hl, hm => by
    simp only [List.range'_succ, List.mapM_cons, Option.bind_eq_bind, Option.bind_eq_some_iff, Option.pure_def, Option.some.injEq] at hm
    obtain ⟨x, hx, ys, hys, rfl⟩ := hm
    have h1 := ih _ _ x.1 x.2 he hx
    have h2 := leaves_array ih e he n (k + 1) cs ys (by rw [hl]; congr 1; omega) hys
    simp only [List.map_cons, leavesAll]
    rw [← h2, ← h1, Nat.add_mul, Nat.one_mul, ← List.drop_drop]
    exact (List.take_append_drop _ _).symm

theorem leaves_of_trod : ∀ (fuel' fuel : Nat) (t : TypeId) (cs : List Value) (d : DataW H) (p : List MemPlace), flatT P fuel t = true → DataW.trod enc P w base sp held fuel' t cs = some (d, p) → cs = leaves d
  | 0, _, _, _, _, _, _, h => by simp [DataW.trod] at h
  | fuel' + 1, 0, _, _, _, _, h, _ => by simp [flatT] at h
  | fuel' + 1, fuel + 1, t, cs, d, p, hf, h => by
    have ih := fun t cs d p => leaves_of_trod fuel' fuel t cs d p
    simp only [flatT] at hf
    simp only [DataW.trod] at h
    split at hf <;> rename_i hu
    · rw [hu] at h
      split at h <;> simp_all
      obtain ⟨rfl, -⟩ := h; rfl
    · rw [hu] at h
      split at h <;> simp_all
      obtain ⟨-, rfl, -⟩ := h; rfl
    · rw [hu] at h
      split at h <;> simp_all
      obtain ⟨-, rfl, -⟩ := h; rfl
    · rename_i fs
      rw [hu] at h
      dsimp only at h
      split at h
      · rename_i hlen
        obtain ⟨xs, hm, hx⟩ := Option.map_eq_some_iff.1 h
        have hfold : fs.toList.foldl (fun a f => (a.1 && f.offset == a.2 && flatT P fuel f.type, a.2 + P.cellsOf f.type)) (true, 0) = (true, P.cellsOf t) := by simpa using hf
        obtain ⟨-, -, hr⟩ := leaves_struct (ih := ih) fs.toList true 0 _ cs xs hfold hm hlen
        simp only [Prod.mk.injEq] at hx
        rw [← hx.1]
        simpa [leaves] using hr
      · cases h
    · rename_i n e
      rw [hu] at h
      dsimp only at h
      simp only [Bool.and_eq_true, beq_iff_eq] at hf
      split at h
      · rename_i hlen
        obtain ⟨xs, hm, hx⟩ := Option.map_eq_some_iff.1 h
        rw [List.range_eq_range'] at hm
        have hr := leaves_array (ih := ih) e hf.1 n 0 cs xs (by rw [hlen, hf.2]; simp) hm
        simp only [Prod.mk.injEq] at hx
        rw [← hx.1]
        simpa [leaves] using hr
      · cases h
    · cases hf

/-- All arguments read behind the call as they did, where below the old heap nothing has turned. -/
theorem trodAll_below (hl : laidOutB P = true) {W W' : World} (hb : Below W.heap.size W W') :
    ∀ {ts : List TypeId} {vs : List Value} {ds : List (DataW H)} {ps : List MemPlace}, (ts.all fun t => P.readableRec t && decide (t < P.types.size)) = true →
      DataW.TrodAll enc P W 0 (fun _ => true) true ts vs ds ps → DataW.TrodAll enc P W' 0 (fun b => decide (b < W.heap.size)) true ts vs ds ps
  | [], vs, ds, ps, _, h => by
    obtain ⟨rfl, rfl, rfl⟩ := trodAll_nil h
    exact trodAll_mk0
  | t :: ts, vs, ds, ps, ht, h => by
    obtain ⟨v, vs', d, ds', p, q, rfl, rfl, rfl, h0, hr⟩ := trodAll_cons h
    simp only [List.all_cons, Bool.and_eq_true, decide_eq_true_eq] at ht
    have lt : ∀ x ∈ p, x.block < W.heap.size := by obtain ⟨m, hm⟩ := h0; exact DataW.trod_lt m _ _ _ hm
    exact trodAll_cons_mk (Below.trod hl ht.1.1 ht.1.2 h0 hb lt) (trodAll_below hl hb ht.2 hr)
end
end Go.Proofs.YtfpfpopfnbcblaaDoor

/- Of no program: append onto a slice of the call's own, telling besides where the new row lies; small laws on owned rows. -/
namespace Go.Proofs.YtfpfpopfnbcblaaDoor
open Go.RowKit

theorem ownsRow_low {w : World} {base base' : Nat} {e : TypeId} {size : Nat} {v : Value} {n : Nat} {xs : List Value} (h : w.ownsRow base e size v n xs) (hb : base' ≤ base) : w.ownsRow base' e size v n xs := by
  obtain ⟨h1, (h2 | ⟨g, cap, cur, rfl, hg, hr⟩)⟩ := h
  · exact ⟨h1, .inl h2⟩
  · exact ⟨h1, .inr ⟨g, cap, cur, rfl, Nat.le_trans hb hg, hr⟩⟩

/-- Where a row lies behind an append: where it lay, or in a new block. -/
def MovedUp (w : World) (v v' : Value) : Prop := v'.ownBlock = v.ownBlock ∨ ∀ g, v'.ownBlock = some g → w.heap.size ≤ g

theorem wpList_append_own2 {P : Program} (w : World) {ops : Array Oper} {rest : List Oper} {o : Oper} {a : Act} {Q : Exit → Act → World → Prop} (hgd : o.guard = none) (s x : Operand) (t : TypeId)
    (ho : o.op = .call { callee := .builtin .append, args := #[s, x], argTypes := #[t, t] })
    (base : Nat) (e : TypeId) (i : TypeInfo) (z : Value) (size bytes : Nat) (ht : P.underlying t = some (.slice e)) (hi : P.info? e = some i) (hz : i.zero = some z)
    (hsize : i.size = size) (hby : i.bytes = bytes) (hzs : z.cells.size = size) (hsz : 0 < size)
    (v : Value) (n : Nat) (xs : List Value) (hs : a.eval s = v) (hown : w.ownsRow base e size v n xs)
    (ad : Addr) (m c : Nat) (news : List Value) (hx : a.eval x = .slice (some ad) m c) (hl : news.length = m * size) (hnews : ∀ j u, news[j]? = some u → w.cell? (ad.add j) = some u) (h1 : ∀ u ∈ news, u.oneCell' = true)
    (h63 : n + m ≤ maxLen) (hbytes : (n + m) * bytes ≤ 140737488355328) (hbase : base ≤ w.heap.size) (hm : 0 < m)
    (h : ∀ v' w', w'.ownsRow base e size v' (n + m) (xs ++ news) → w.grownBy w' v.ownBlock → MovedUp w v v' → wpList P ops Q rest (a.put o.dst v') w') : wpList P ops Q (o :: rest) a w := by
  have hlo := hown.1
  rcases hown.2 with ⟨rfl, rfl⟩ | ⟨g, cap, cur, rfl, hbg, hg, hnc, hcm, hcs, htake⟩
  · have hx0 : xs = [] := List.eq_nil_of_length_eq_zero (by simpa using hlo)
    subst hx0
    refine wpList_append_grows w hgd s x t ho e i z size bytes ht hi hz hsize hby hzs hsz none 0 0 [] hs (fun _ => ⟨rfl, rfl⟩) (by simp) (fun b hb => by cases hb) ad m c news hx hl hnews h1 (by omega) h63 hbytes ?_
    intro v' w' r1 r2
    exact h v' w' (ownsRow_low r1 hbase) ⟨r2.os, r2.tape, r2.output, r2.size, fun k hk _ => r2.block k hk (by simp)⟩ (.inr fun g hg => (r1.lt g hg).1)
  · by_cases hroom : n + m ≤ cap
    · exact wpList_append_fits w hgd s x t ho base e i size ht hi hsize g n cap xs hs hown ad m c news hx hl hnews h1 hroom (fun w' r1 r2 => h _ w' r1 r2 (.inl rfl))
    · refine wpList_append_grows w hgd s x t ho e i z size bytes ht hi hz hsize hby hzs hsz (some ⟨g, 0, none⟩) n cap xs hs (fun hb => by cases hb) hlo (fun b hb => by cases hb; exact hown.cells (g := g) rfl) ad m c news hx hl hnews h1 (by omega) h63 hbytes ?_
      intro v' w' r1 r2
      exact h v' w' (ownsRow_low r1 hbase) ⟨r2.os, r2.tape, r2.output, r2.size, fun k hk _ => r2.block k hk (by simp)⟩ (.inr fun g hg => (r1.lt g hg).1)
end Go.Proofs.YtfpfpopfnbcblaaDoor

/- Of no program: what a call may have written, said by a footprint of blocks; blocks behind stores. -/
namespace Go.Proofs.YtfpfpopfnbcblaaDoor
open Go.RowKit

/-- Behind a call that may write the blocks of S, and new ones. -/
structure Upd (S : Nat → Prop) (w w' : World) : Prop where
  os : w'.os = w.os
  tape : w'.tape = w.tape
  output : w'.output = w.output
  size : w.heap.size ≤ w'.heap.size
  block : ∀ k, k < w.heap.size → ¬ S k → w'.heap[k]? = w.heap[k]?

/-- A footprint behind a call: the old one, and new blocks. -/
def Fresh (S : Nat → Prop) (w : World) (S' : Nat → Prop) : Prop := ∀ k, S' k → S k ∨ w.heap.size ≤ k

theorem Fresh.refl (S : Nat → Prop) (w : World) : Fresh S w S := fun _ h => .inl h
theorem Fresh.trans {S S1 S2 : Nat → Prop} {w w1 : World} (h : Fresh S w S1) (h1 : Fresh S1 w1 S2) (hs : w.heap.size ≤ w1.heap.size) : Fresh S w S2 := fun k hk => by
  rcases h1 k hk with h2 | h2
  · exact h k h2
  · exact .inr (Nat.le_trans hs h2)
theorem Upd.refl (S : Nat → Prop) (w : World) : Upd S w w := ⟨rfl, rfl, rfl, Nat.le_refl _, fun _ _ _ => rfl⟩
theorem Upd.trans {S S1 : Nat → Prop} {a b c : World} (h : Upd S a b) (f : Fresh S a S1) (k : Upd S1 b c) : Upd S a c :=
  ⟨k.os.trans h.os, k.tape.trans h.tape, k.output.trans h.output, Nat.le_trans h.size k.size, fun i hi hs => by
    rw [k.block i (Nat.lt_of_lt_of_le hi h.size) (fun h1 => (f i h1).elim hs (fun h2 => by omega)), h.block i hi hs]⟩
theorem Upd.mono {S S1 : Nat → Prop} {a b : World} (h : Upd S a b) (hs : ∀ k, k < a.heap.size → S k → S1 k) : Upd S1 a b :=
  ⟨h.os, h.tape, h.output, h.size, fun i hi hn => h.block i hi (fun q => hn (hs i hi q))⟩
theorem Upd.trans' {S : Nat → Prop} {a b c : World} (h : Upd S a b) (k : Upd S b c) : Upd S a c := h.trans (Fresh.refl _ _) k
theorem Upd.of_below {S : Nat → Prop} {w w' : World} (h : Below w.heap.size w w') : Upd S w w' := ⟨h.os, h.tape, h.output, h.size, fun k hk _ => h.block k hk⟩
theorem Upd.below {S : Nat → Prop} {B : Nat} {w w' : World} (h : Upd S w w') (hs : ∀ k, S k → B ≤ k) (hB : B ≤ w.heap.size) : Below B w w' :=
  ⟨h.os, h.tape, h.output, h.size, fun k hk => h.block k (by omega) (fun q => by have := hs k q; omega)⟩
theorem Upd.toBelow {S : Nat → Prop} {w w' : World} (h : Upd S w w') (hs : ∀ k, ¬ S k) : Below w.heap.size w w' :=
  ⟨h.os, h.tape, h.output, h.size, fun k hk => h.block k hk (hs k)⟩
theorem Upd.drewN {S : Nat → Prop} {a b : World} (h : Upd S a b) (n : Nat) : Upd S a (b.drewN n) := ⟨h.os, h.tape, h.output, h.size, h.block⟩
theorem Upd.drew {S : Nat → Prop} {a b : World} (h : Upd S a b) : Upd S a b.drew := ⟨h.os, h.tape, h.output, h.size, h.block⟩
theorem Upd.alloc {S : Nat → Prop} {a b : World} (h : Upd S a b) (o : Obj) : Upd S a (b.alloc o) :=
  ⟨h.os, h.tape, h.output, by simpa using Nat.le_succ_of_le h.size, fun k hk hs => by rw [Below.heap_alloc _ _ _ (by have := h.size; omega), h.block k hk hs]⟩
theorem Upd.setCell {S : Nat → Prop} {a b : World} (h : Upd S a b) {p : Addr} (hp : S p.block ∨ a.heap.size ≤ p.block) (u : Value) : Upd S a (b.setCell p u) :=
  ⟨h.os, h.tape, h.output, by simpa [World.setCell] using h.size, fun k hk hs => by
    rw [Below.heap_setCell _ _ _ _ (fun e => by subst e; exact hp.elim hs (fun h2 => by omega)), h.block k hk hs]⟩
theorem Upd.grown {S : Nat → Prop} {a b c : World} {row : Option Nat} (h : Upd S a b) (hg : b.grownBy c row) (hr : ∀ k, row = some k → S k ∨ a.heap.size ≤ k) : Upd S a c :=
  ⟨hg.os.trans h.os, hg.tape.trans h.tape, hg.output.trans h.output, Nat.le_trans h.size hg.size, fun k hk hs => by
    rw [hg.block k (by have := h.size; omega) (fun e => (hr k e.symm).elim hs (fun h2 => by omega)), h.block k hk hs]⟩
theorem Upd.cell {S : Nat → Prop} {w w' : World} (h : Upd S w w') {p : Addr} (hp : p.block < w.heap.size) (hs : ¬ S p.block) : w'.cell? p = w.cell? p := World.cell?_of_block (w := w) (h.block p.block hp hs)
theorem Upd.cell_some {S : Nat → Prop} {w w' : World} (h : Upd S w w') {p : Addr} {v : Value} (hc : w.cell? p = some v) (hs : ¬ S p.block) : w'.cell? p = some v := by
  rw [h.cell (World.block_lt_of_cell? _ _ hc) hs]; exact hc
theorem Upd.heap_some {S : Nat → Prop} {w w' : World} (h : Upd S w w') {b : Nat} {o : Obj} (hc : w.heap[b]? = some o) (hs : ¬ S b) : w'.heap[b]? = some o := by
  rw [h.block b (Array.getElem?_eq_some_iff.1 hc).1 hs]; exact hc

/-- A block of cells behind a store into it, behind one elsewhere, behind a new block, behind draws. -/
theorem heap_set_at {w : World} {b : Nat} {cs : Array Value} {t : TypeId} {fr : Nat × Nat} (h : w.heap[b]? = some (.cells cs t fr)) (i : Nat) (v : Value) : (w.setCell ⟨b, i, none⟩ v).heap[b]? = some (.cells (cs.setIfInBounds i v) t fr) := by
  simp [World.setCell, Array.getElem?_modify, h]
theorem heap_set_off {w : World} {b : Nat} {o : Obj} (h : w.heap[b]? = some o) {a : Addr} (hb : b ≠ a.block) (v : Value) : (w.setCell a v).heap[b]? = some o := by
  rw [Below.heap_setCell _ _ _ _ hb]; exact h
theorem heap_lt {w : World} {b : Nat} {o : Obj} (h : w.heap[b]? = some o) : b < w.heap.size := (Array.getElem?_eq_some_iff.1 h).1
theorem heap_alloc_at (w : World) (o : Obj) {b : Nat} (h : b = w.heap.size) : (w.alloc o).heap[b]? = some o := by subst h; exact World.alloc_heap_new w o
theorem heap_alloc_keep {w : World} {b : Nat} {o : Obj} (h : w.heap[b]? = some o) (o' : Obj) : (w.alloc o').heap[b]? = some o := by
  rw [Below.heap_alloc _ _ _ (heap_lt h)]; exact h
theorem cell_alloc {w : World} {p : Addr} {v : Value} (h : w.cell? p = some v) (o : Obj) : (w.alloc o).cell? p = some v := by rw [World.cell?_alloc_lt _ _ _ (World.block_lt_of_cell? _ _ h)]; exact h
theorem heap_drewN {w : World} {b : Nat} {o : Obj} (h : w.heap[b]? = some o) (n : Nat) : (w.drewN n).heap[b]? = some o := h
theorem heap_cell {w : World} {b : Nat} {cs : Array Value} {t : TypeId} {fr : Nat × Nat} (h : w.heap[b]? = some (.cells cs t fr)) (i : Nat) : w.cell? ⟨b, i, none⟩ = cs[i]? := by simp [World.cell?, h]
theorem heap_frozen {w : World} {b : Nat} {cs : Array Value} {t : TypeId} (h : w.heap[b]? = some (.cells cs t (0, 0))) (i : Nat) : w.frozen? ⟨b, i, none⟩ = false := by simp [World.frozen?, h]
theorem ne_of_types {w : World} {b c : Nat} {cs ds : Array Value} {t u : TypeId} {fr fs : Nat × Nat} (h : w.heap[b]? = some (.cells cs t fr)) (k : w.heap[c]? = some (.cells ds u fs)) (ht : t ≠ u) : b ≠ c := fun e => by
  subst e; rw [h] at k; simp at k; exact ht k.2.1
theorem ne_of_map {w : World} {b c : Nat} {cs : Array Value} {t : TypeId} {fr : Nat × Nat} {m : Array MapEntry} {n : Nat} (h : w.heap[b]? = some (.cells cs t fr)) (k : w.heap[c]? = some (.map m n)) : b ≠ c := fun e => by
  subst e; rw [h] at k; simp at k
theorem ownsRow_upd {S : Nat → Prop} {w w' : World} {base : Nat} {e : TypeId} {size : Nat} {v : Value} {n : Nat} {xs : List Value} (h : w.ownsRow base e size v n xs) (u : Upd S w w') (hs : ∀ b, v.ownBlock = some b → ¬ S b) : w'.ownsRow base e size v n xs := by
  obtain ⟨h1, (h2 | ⟨g, cap, cur, rfl, hg, hr, h3⟩)⟩ := h
  · exact ⟨h1, .inl h2⟩
  · exact ⟨h1, .inr ⟨g, cap, cur, rfl, hg, u.heap_some hr (hs g rfl), h3⟩⟩
/-- A row's first places are a row. -/
theorem ownsRow_take {w : World} {base : Nat} {e : TypeId} {size : Nat} {g n cap : Nat} {xs : List Value} (h : w.ownsRow base e size (.slice (some ⟨g, 0, none⟩) n cap) n xs) (m : Nat) (hm : m ≤ n) : w.ownsRow base e size (.slice (some ⟨g, 0, none⟩) m cap) m (xs.take (m * size)) := by
  obtain ⟨h1, (h2 | ⟨g', cap', cur, e1, hg, hr, h3, h4, h5, h6⟩)⟩ := h
  · obtain ⟨h2, _⟩ := h2; simp at h2
  · have hms : m * size ≤ n * size := Nat.mul_le_mul_right _ hm
    simp only [Value.slice.injEq, Option.some.injEq, Addr.mk.injEq, true_and, and_true] at e1
    obtain ⟨rfl, rfl⟩ := e1
    exact ⟨by rw [List.length_take, h1]; omega, .inr ⟨_, _, cur, rfl, hg, hr, by omega, h4, h5, by rw [← h6, List.take_take, Nat.min_eq_left hms]⟩⟩
theorem ownsRow_form {w : World} {base : Nat} {e : TypeId} {size : Nat} {v : Value} {n : Nat} {xs : List Value} (h : w.ownsRow base e size v n xs) : ∃ ao cap, v = .slice ao n cap ∧ n ≤ cap ∧ cap ≤ maxLen ∧ (ao = none → n = 0) := by
  obtain ⟨h1, (⟨rfl, rfl⟩ | ⟨g, cap, cur, rfl, hg, hr, h3, h4, h5, h6⟩)⟩ := h
  · exact ⟨_, _, rfl, Nat.le_refl _, Nat.zero_le _, fun _ => rfl⟩
  · exact ⟨_, _, rfl, h3, h4, fun h => by cases h⟩
theorem ownsRow_some {w : World} {base : Nat} {e : TypeId} {size : Nat} {v : Value} {n : Nat} {xs : List Value} (h : w.ownsRow base e size v n xs) (hn : 0 < n) : ∃ g cap cur, v = .slice (some ⟨g, 0, none⟩) n cap ∧ w.heap[g]? = some (.cells cur e (0, 0)) ∧ n ≤ cap ∧ cap ≤ maxLen ∧ (∀ j, j < n * size → w.cell? ⟨g, j, none⟩ = xs[j]?) := by
  have h0 := h
  obtain ⟨h1, (⟨rfl, rfl⟩ | ⟨g, cap, cur, rfl, hg, hr, h3, h4, h5, h6⟩)⟩ := h
  · omega
  · exact ⟨g, cap, cur, rfl, hr, h3, h4, fun j hj => h0.cellAt j hj⟩
end Go.Proofs.YtfpfpopfnbcblaaDoor
