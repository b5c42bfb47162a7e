import Derived.RangeFuncBox
import Derived.Lib.Hide
import Derived.BigQuiet
import Derived.StillTailTactics
import Derived.Deep.DrawnRows
import Derived.Test.YtlcfkfijomnmnaaGreatDoorQKdTextBd
import Derived.WalkLawsBesides
import Derived.WalkSpells
import Derived.Handy
namespace Go.Proofs.YtlcfkfijomnmnaaGreatDoor
section
open Go.RowKit
theorem ownsRow_low {w : World} {base base' : Nat} {e : TypeId} {size : Nat} {v : Value} {n : Nat} {xs : List Value} (h : w.ownsRow base e size v n xs) (hb : base' ≤ base) : w.ownsRow base' e size v n xs := by
  obtain ⟨h1, (h2 | ⟨g, cap, cur, rfl, hg, hr⟩)⟩ := h
  · exact ⟨h1, .inl h2⟩
  · exact ⟨h1, .inr ⟨g, cap, cur, rfl, Nat.le_trans hb hg, hr⟩⟩
def MovedUp (w : World) (v v' : Value) : Prop := v'.ownBlock = v.ownBlock ∨ ∀ g, v'.ownBlock = some g → w.heap.size ≤ g
theorem wpList_append_own2 {P : Program} (w : World) {ops : Array Oper} {rest : List Oper} {o : Oper} {a : Act} {Q : Exit → Act → World → Prop} (hgd : o.guard = none) (s x : Operand) (t : TypeId)
    (ho : o.op = .call { callee := .builtin .append, args := #[s, x], argTypes := #[t, t] })
    (base : Nat) (e : TypeId) (i : TypeInfo) (z : Value) (size bytes : Nat) (ht : P.underlying t = some (.slice e)) (hi : P.info? e = some i) (hz : i.zero = some z)
    (hsize : i.size = size) (hby : i.bytes = bytes) (hzs : z.cells.size = size) (hsz : 0 < size)
    (v : Value) (n : Nat) (xs : List Value) (hs : a.eval s = v) (hown : w.ownsRow base e size v n xs)
    (ad : Addr) (m c : Nat) (news : List Value) (hx : a.eval x = .slice (some ad) m c) (hl : news.length = m * size) (hnews : ∀ j u, news[j]? = some u → w.cell? (ad.add j) = some u) (h1 : ∀ u ∈ news, u.oneCell' = true)
    (h63 : n + m ≤ maxLen) (hbytes : (n + m) * bytes ≤ 140737488355328) (hbase : base ≤ w.heap.size) (hm : 0 < m)
    (h : ∀ v' w', w'.ownsRow base e size v' (n + m) (xs ++ news) → w.grownBy w' v.ownBlock → MovedUp w v v' → wpList P ops Q rest (a.put o.dst v') w') : wpList P ops Q (o :: rest) a w := by
  have hlo := hown.1
  rcases hown.2 with ⟨rfl, rfl⟩ | ⟨g, cap, cur, rfl, hbg, hg, hnc, hcm, hcs, htake⟩
  · have hx0 : xs = [] := List.eq_nil_of_length_eq_zero (by simpa using hlo)
    subst hx0
    refine wpList_append_grows w hgd s x t ho e i z size bytes ht hi hz hsize hby hzs hsz none 0 0 [] hs (fun _ => ⟨rfl, rfl⟩) (by simp) (fun b hb => by cases hb) ad m c news hx hl hnews h1 (by omega) h63 hbytes ?_
    intro v' w' r1 r2
    exact h v' w' (ownsRow_low r1 hbase) ⟨r2.os, r2.tape, r2.output, r2.size, fun k hk _ => r2.block k hk (by simp)⟩ (.inr fun g hg => (r1.lt g hg).1)
  · by_cases hroom : n + m ≤ cap
    · exact wpList_append_fits w hgd s x t ho base e i size ht hi hsize g n cap xs hs hown ad m c news hx hl hnews h1 hroom (fun w' r1 r2 => h _ w' r1 r2 (.inl rfl))
    · refine wpList_append_grows w hgd s x t ho e i z size bytes ht hi hz hsize hby hzs hsz (some ⟨g, 0, none⟩) n cap xs hs (fun hb => by cases hb) hlo (fun b hb => by cases hb; exact hown.cells (g := g) rfl) ad m c news hx hl hnews h1 (by omega) h63 hbytes ?_
      intro v' w' r1 r2
      exact h v' w' (ownsRow_low r1 hbase) ⟨r2.os, r2.tape, r2.output, r2.size, fun k hk _ => r2.block k hk (by simp)⟩ (.inr fun g hg => (r1.lt g hg).1)
end
section
open Go.RowKit
structure Upd (S : Nat → Prop) (w w' : World) : Prop where
  os : w'.os = w.os
  tape : w'.tape = w.tape
  output : w'.output = w.output
  size : w.heap.size ≤ w'.heap.size
  block : ∀ k, k < w.heap.size → ¬ S k → w'.heap[k]? = w.heap[k]?
def Fresh (S : Nat → Prop) (w : World) (S' : Nat → Prop) : Prop := ∀ k, S' k → S k ∨ w.heap.size ≤ k
theorem Fresh.refl (S : Nat → Prop) (w : World) : Fresh S w S := fun _ h => .inl h
theorem Fresh.trans {S S1 S2 : Nat → Prop} {w w1 : World} (h : Fresh S w S1) (h1 : Fresh S1 w1 S2) (hs : w.heap.size ≤ w1.heap.size) : Fresh S w S2 := fun k hk => by
  rcases h1 k hk with h2 | h2
  · exact h k h2
  · exact .inr (Nat.le_trans hs h2)
theorem Upd.refl (S : Nat → Prop) (w : World) : Upd S w w := ⟨rfl, rfl, rfl, Nat.le_refl _, fun _ _ _ => rfl⟩
theorem Upd.trans {S S1 : Nat → Prop} {a b c : World} (h : Upd S a b) (f : Fresh S a S1) (k : Upd S1 b c) : Upd S a c :=
  ⟨k.os.trans h.os, k.tape.trans h.tape, k.output.trans h.output, Nat.le_trans h.size k.size, fun i hi hs => by
    rw [k.block i (Nat.lt_of_lt_of_le hi h.size) (fun h1 => (f i h1).elim hs (fun h2 => by omega)), h.block i hi hs]⟩
theorem Upd.mono {S S1 : Nat → Prop} {a b : World} (h : Upd S a b) (hs : ∀ k, k < a.heap.size → S k → S1 k) : Upd S1 a b :=
  ⟨h.os, h.tape, h.output, h.size, fun i hi hn => h.block i hi (fun q => hn (hs i hi q))⟩
theorem Upd.trans' {S : Nat → Prop} {a b c : World} (h : Upd S a b) (k : Upd S b c) : Upd S a c := h.trans (Fresh.refl _ _) k
theorem Upd.of_below {S : Nat → Prop} {w w' : World} (h : Below w.heap.size w w') : Upd S w w' := ⟨h.os, h.tape, h.output, h.size, fun k hk _ => h.block k hk⟩
theorem Upd.below {S : Nat → Prop} {B : Nat} {w w' : World} (h : Upd S w w') (hs : ∀ k, S k → B ≤ k) (hB : B ≤ w.heap.size) : Below B w w' :=
  ⟨h.os, h.tape, h.output, h.size, fun k hk => h.block k (by omega) (fun q => by have := hs k q; omega)⟩
theorem Upd.toBelow {S : Nat → Prop} {w w' : World} (h : Upd S w w') (hs : ∀ k, ¬ S k) : Below w.heap.size w w' :=
  ⟨h.os, h.tape, h.output, h.size, fun k hk => h.block k hk (hs k)⟩
theorem Upd.drewN {S : Nat → Prop} {a b : World} (h : Upd S a b) (n : Nat) : Upd S a (b.drewN n) := ⟨h.os, h.tape, h.output, h.size, h.block⟩
theorem Upd.drew {S : Nat → Prop} {a b : World} (h : Upd S a b) : Upd S a b.drew := ⟨h.os, h.tape, h.output, h.size, h.block⟩
theorem Upd.alloc {S : Nat → Prop} {a b : World} (h : Upd S a b) (o : Obj) : Upd S a (b.alloc o) :=
  ⟨h.os, h.tape, h.output, by simpa using Nat.le_succ_of_le h.size, fun k hk hs => by rw [Below.heap_alloc _ _ _ (by have := h.size; omega), h.block k hk hs]⟩
theorem Upd.setCell {S : Nat → Prop} {a b : World} (h : Upd S a b) {p : Addr} (hp : S p.block ∨ a.heap.size ≤ p.block) (u : Value) : Upd S a (b.setCell p u) :=
  ⟨h.os, h.tape, h.output, by simpa [World.setCell] using h.size, fun k hk hs => by
    rw [Below.heap_setCell _ _ _ _ (fun e => by subst e; exact hp.elim hs (fun h2 => by omega)), h.block k hk hs]⟩
theorem Upd.grown {S : Nat → Prop} {a b c : World} {row : Option Nat} (h : Upd S a b) (hg : b.grownBy c row) (hr : ∀ k, row = some k → S k ∨ a.heap.size ≤ k) : Upd S a c :=
  ⟨hg.os.trans h.os, hg.tape.trans h.tape, hg.output.trans h.output, Nat.le_trans h.size hg.size, fun k hk hs => by
    rw [hg.block k (by have := h.size; omega) (fun e => (hr k e.symm).elim hs (fun h2 => by omega)), h.block k hk hs]⟩
theorem Upd.cell {S : Nat → Prop} {w w' : World} (h : Upd S w w') {p : Addr} (hp : p.block < w.heap.size) (hs : ¬ S p.block) : w'.cell? p = w.cell? p := World.cell?_of_block (w := w) (h.block p.block hp hs)
theorem Upd.cell_some {S : Nat → Prop} {w w' : World} (h : Upd S w w') {p : Addr} {v : Value} (hc : w.cell? p = some v) (hs : ¬ S p.block) : w'.cell? p = some v := by
  rw [h.cell (World.block_lt_of_cell? _ _ hc) hs]; exact hc
theorem Upd.heap_some {S : Nat → Prop} {w w' : World} (h : Upd S w w') {b : Nat} {o : Obj} (hc : w.heap[b]? = some o) (hs : ¬ S b) : w'.heap[b]? = some o := by
  rw [h.block b (Array.getElem?_eq_some_iff.1 hc).1 hs]; exact hc
theorem heap_set_at {w : World} {b : Nat} {cs : Array Value} {t : TypeId} {fr : Nat × Nat} (h : w.heap[b]? = some (.cells cs t fr)) (i : Nat) (v : Value) : (w.setCell ⟨b, i, none⟩ v).heap[b]? = some (.cells (cs.setIfInBounds i v) t fr) := by
  simp [World.setCell, Array.getElem?_modify, h]
theorem heap_set_off {w : World} {b : Nat} {o : Obj} (h : w.heap[b]? = some o) {a : Addr} (hb : b ≠ a.block) (v : Value) : (w.setCell a v).heap[b]? = some o := by
  rw [Below.heap_setCell _ _ _ _ hb]; exact h
theorem heap_lt {w : World} {b : Nat} {o : Obj} (h : w.heap[b]? = some o) : b < w.heap.size := (Array.getElem?_eq_some_iff.1 h).1
theorem heap_alloc_at (w : World) (o : Obj) {b : Nat} (h : b = w.heap.size) : (w.alloc o).heap[b]? = some o := by subst h; exact World.alloc_heap_new w o
theorem heap_alloc_keep {w : World} {b : Nat} {o : Obj} (h : w.heap[b]? = some o) (o' : Obj) : (w.alloc o').heap[b]? = some o := by
  rw [Below.heap_alloc _ _ _ (heap_lt h)]; exact h
theorem cell_alloc {w : World} {p : Addr} {v : Value} (h : w.cell? p = some v) (o : Obj) : (w.alloc o).cell? p = some v := by rw [World.cell?_alloc_lt _ _ _ (World.block_lt_of_cell? _ _ h)]; exact h
theorem heap_cell {w : World} {b : Nat} {cs : Array Value} {t : TypeId} {fr : Nat × Nat} (h : w.heap[b]? = some (.cells cs t fr)) (i : Nat) : w.cell? ⟨b, i, none⟩ = cs[i]? := by simp [World.cell?, h]
theorem heap_frozen {w : World} {b : Nat} {cs : Array Value} {t : TypeId} (h : w.heap[b]? = some (.cells cs t (0, 0))) (i : Nat) : w.frozen? ⟨b, i, none⟩ = false := by simp [World.frozen?, h]
theorem ne_of_types {w : World} {b c : Nat} {cs ds : Array Value} {t u : TypeId} {fr fs : Nat × Nat} (h : w.heap[b]? = some (.cells cs t fr)) (k : w.heap[c]? = some (.cells ds u fs)) (ht : t ≠ u) : b ≠ c := fun e => by
  subst e; rw [h] at k; simp at k; exact ht k.2.1
theorem ne_of_map {w : World} {b c : Nat} {cs : Array Value} {t : TypeId} {fr : Nat × Nat} {m : Array MapEntry} {n : Nat} (h : w.heap[b]? = some (.cells cs t fr)) (k : w.heap[c]? = some (.map m n)) : b ≠ c := fun e => by
  subst e; rw [h] at k; simp at k
theorem ownsRow_upd {S : Nat → Prop} {w w' : World} {base : Nat} {e : TypeId} {size : Nat} {v : Value} {n : Nat} {xs : List Value} (h : w.ownsRow base e size v n xs) (u : Upd S w w') (hs : ∀ b, v.ownBlock = some b → ¬ S b) : w'.ownsRow base e size v n xs := by
  obtain ⟨h1, (h2 | ⟨g, cap, cur, rfl, hg, hr, h3⟩)⟩ := h
  · exact ⟨h1, .inl h2⟩
  · exact ⟨h1, .inr ⟨g, cap, cur, rfl, hg, u.heap_some hr (hs g rfl), h3⟩⟩
theorem ownsRow_take {w : World} {base : Nat} {e : TypeId} {size : Nat} {g n cap : Nat} {xs : List Value} (h : w.ownsRow base e size (.slice (some ⟨g, 0, none⟩) n cap) n xs) (m : Nat) (hm : m ≤ n) : w.ownsRow base e size (.slice (some ⟨g, 0, none⟩) m cap) m (xs.take (m * size)) := by
  obtain ⟨h1, (h2 | ⟨g', cap', cur, e1, hg, hr, h3, h4, h5, h6⟩)⟩ := h
  · obtain ⟨h2, _⟩ := h2; simp at h2
  · have hms : m * size ≤ n * size := Nat.mul_le_mul_right _ hm
    simp only [Value.slice.injEq, Option.some.injEq, Addr.mk.injEq, true_and, and_true] at e1
    obtain ⟨rfl, rfl⟩ := e1
    exact ⟨by rw [List.length_take, h1]; omega, .inr ⟨_, _, cur, rfl, hg, hr, by omega, h4, h5, by rw [← h6, List.take_take, Nat.min_eq_left hms]⟩⟩
theorem ownsRow_form {w : World} {base : Nat} {e : TypeId} {size : Nat} {v : Value} {n : Nat} {xs : List Value} (h : w.ownsRow base e size v n xs) : ∃ ao cap, v = .slice ao n cap ∧ n ≤ cap ∧ cap ≤ maxLen ∧ (ao = none → n = 0) := by
  obtain ⟨h1, (⟨rfl, rfl⟩ | ⟨g, cap, cur, rfl, hg, hr, h3, h4, h5, h6⟩)⟩ := h
  · exact ⟨_, _, rfl, Nat.le_refl _, Nat.zero_le _, fun _ => rfl⟩
  · exact ⟨_, _, rfl, h3, h4, fun h => by cases h⟩
theorem ownsRow_some {w : World} {base : Nat} {e : TypeId} {size : Nat} {v : Value} {n : Nat} {xs : List Value} (h : w.ownsRow base e size v n xs) (hn : 0 < n) : ∃ g cap cur, v = .slice (some ⟨g, 0, none⟩) n cap ∧ w.heap[g]? = some (.cells cur e (0, 0)) ∧ n ≤ cap ∧ cap ≤ maxLen ∧ (∀ j, j < n * size → w.cell? ⟨g, j, none⟩ = xs[j]?) := by
  have h0 := h
  obtain ⟨h1, (⟨rfl, rfl⟩ | ⟨g, cap, cur, rfl, hg, hr, h3, h4, h5, h6⟩)⟩ := h
  · omega
  · exact ⟨g, cap, cur, rfl, hr, h3, h4, fun j hj => h0.cellAt j hj⟩
end
section
open Go Go.RowKit
def Ext (w0 : World) : Type := { w : World // Below w0.heap.size w0 w }
instance (w0 : World) : Nonempty (Ext w0) := ⟨⟨w0, Below.refl _ _⟩⟩
theorem Ext.cell {w0 : World} (x : Ext w0) {p : Addr} {v : Value} (h : w0.cell? p = some v) : x.val.cell? p = some v := by
  rw [x.2.cell (World.block_lt_of_cell? _ _ h)]; exact h
theorem Ext.cells {w0 : World} {p : Addr} {v : Value} (h : w0.cell? p = some v) : ∀ x : Ext w0, x.val.cell? p = some v := fun x => x.cell h
theorem Ext.call {P : Program} {f : FuncId} {args : Array Value} {w0 : World} (x : Ext w0) {v : Value}
    (h : Calls P f args x.val fun e w' => e = .returned v ∧ Below x.val.heap.size x.val w') : Calls P f args x.val fun e w'' => e = .returned v ∧ ∃ y : Ext w0, w'' = y.val :=
  h.mono fun _ w' ⟨he, hb⟩ => ⟨he, ⟨⟨w', x.2.trans (hb.mono x.2.size)⟩, rfl⟩⟩
theorem Ext.call0 {P : Program} {f : FuncId} {args : Array Value} {w0 : World} {v : Value}
    (h : Calls P f args w0 fun e w' => e = .returned v ∧ Below w0.heap.size w0 w') : Calls P f args w0 fun e w'' => e = .returned v ∧ ∃ y : Ext w0, w'' = y.val :=
  h.mono fun _ w' ⟨he, hb⟩ => ⟨he, ⟨⟨w', hb⟩, rfl⟩⟩
section
variable {P : Program} {ops : Array Oper} {md : Region.Mode} {C : World → Prop}
theorem wp_region_calm {id : Nat} {Q : Exit → Act → World → Prop} {a : Act} {w : World} {l : List Oper} (hm : P.follows .mixedOrders = true) (hB : Region.lexB .any l.toArray = true)
    (h : wpQuiet P l.toArray (fun w' => ∃ x : Ext w, w' = x.val) (fun a' => ∀ w', (∃ x : Ext w, w' = x.val) → Q .normal a' w') l a) : (Code.region id l.toArray true).wp P Q a w :=
  wp_region_quiet (C := fun w' => ∃ x : Ext w, w' = x.val) hm hB ⟨⟨_, (Below.refl _ _).drew⟩, rfl⟩ (by simpa using h)
def wpAnyLC (P : Program) (md : Region.Mode) (ops : Array Oper) (C : World → Prop) (n : Nat) (L : Array Bool → Act → Prop) : Nat → Array Bool → Act → Prop
  | 0, listed, a => L listed a
  | f + 1, listed, a =>
    Region.ready md ops listed ≠ [] ∧ ∀ i ∈ Region.ready md ops listed, i < n ∧ qOp P ops C i (wpAnyLC P md ops C n L f (listed.setIfInBounds i true)) a
theorem wpAny_of_headC {n g : Nat} {L : Array Bool → Act → Prop} {Q' : Exit → Act → World → Prop} (hL : ∀ listed a w, C w → L listed a → wpAny P md ops Q' g listed a w) :
    ∀ (f : Nat) (listed : Array Bool) (a : Act) (w : World), C w → wpAnyLC P md ops C n L f listed a → wpAny P md ops Q' (f + g) listed a w
  | 0, listed, a, w, hw, h => by rw [Nat.zero_add]; exact hL _ _ _ hw h
  | f + 1, listed, a, w, hw, h => by
    rw [show f + 1 + g = (f + g) + 1 by omega]
    exact ⟨fun h0 => absurd h0 h.1, fun i hi => wpOp_of_qOp hw (fun a' w' hw' h' => wpAny_of_headC hL f _ a' w' hw' h') (h.2 i hi).2⟩
theorem wpAnyLC_first {n i : Nat} {oi : Oper} {v : Value} {L : Array Bool → Act → Prop} (hi : ops[i]? = some oi) (hsel : ∀ (j : Nat) (o : Oper) cs b, ops[j]? = some o → o.op ≠ .select cs b)
    (hs : Region.sinkB md ops n = true) (hc : Region.chainB md ops n = true) (hn : n < ops.size) (hin : i < n)
    (hdone : ∀ listed a, L listed a → ∀ j ∈ Region.ready md ops listed, n ≤ j) :
    ∀ (f : Nat) (listed : Array Bool) (a : Act), HeadInv md ops n listed →
      (∀ j oj, ops[j]? = some oj → j ≠ i → listed.getD j true = false → (∀ e ∈ oj.after, Region.binds md e = true → e.on ≠ i) → oi.apart ops oj = true) →
      i ∈ Region.ready md ops listed → YieldsIn P ops C oi v a →
      wpAnyLC P md ops C n L f (listed.setIfInBounds i true) (a.put oi.dst v) → wpAnyLC P md ops C n L (f + 1) listed a := by
  intro f
  induction f with
  | zero =>
    intro listed a inv _ hr hy H
    have hun := (mem_ready.1 hr).1
    refine ⟨fun h => (by rw [h] at hr; cases hr), fun j hj => ?_⟩
    have hjn : j < n := by
      rcases Nat.lt_or_ge j n with h | h
      · exact h
      · exact absurd hj (tail_waits hs hc hn inv _ i rfl hin hun j h)
    refine ⟨hjn, ?_⟩
    by_cases hji : j = i
    · subst hji; exact hy.qOp hi H
    · have := hdone _ _ H j (ready_mono hj hji)
      omega
  | succ f ih =>
    intro listed a inv hfree hr hy H
    have hun := (mem_ready.1 hr).1
    refine ⟨fun h => (by rw [h] at hr; cases hr), fun j hj => ?_⟩
    have hjn : j < n := by
      rcases Nat.lt_or_ge j n with h | h
      · exact h
      · exact absurd hj (tail_waits hs hc hn inv _ i rfl hin hun j h)
    refine ⟨hjn, ?_⟩
    by_cases hji : j = i
    · subst hji; exact hy.qOp hi H
    · have h1 := (H.2 j (ready_mono hj hji)).2
      obtain ⟨hjun, oj, hoj, hall⟩ := mem_ready.1 hj
      have hnot : ∀ e ∈ oj.after, Region.binds md e = true → e.on ≠ i := fun e he hb heq => by
        have h1 := hall e he hb
        rw [heq, getD_both hun] at h1
        cases h1
      have h2 := qOp_put hoj (hfree j oj hoj hji hjun hnot) (fun cs b => hsel i oi cs b hi) (fun cs b => hsel j oj cs b hoj) hy h1
      have hfree' : ∀ k ok, ops[k]? = some ok → k ≠ i → (listed.setIfInBounds j true).getD k true = false →
          (∀ e ∈ ok.after, Region.binds md e = true → e.on ≠ i) → oi.apart ops ok = true := fun k ok hk hki hkun hno => by
        refine hfree k ok hk hki ?_ hno
        by_cases hjk : j = k
        · subst hjk; exact hjun
        · rw [getD_set_ne true hjk] at hkun; exact hkun
      refine qOp_mono (fun a' h3 => ih (listed.setIfInBounds j true) a' (inv.set hj hjn) hfree' (ready_mono hr (Ne.symm hji)) h3.1 ?_) h2
      rw [Array.setIfInBounds_comm _ _ hji]
      exact h3.2
theorem wpAnyLC_lex {n g : Nat} {Lq : Act → Prop} (hsel : Region.noSelect ops = true) (hs : Region.sinkB md ops n = true) (hc : Region.chainB md ops n = true) (hn : n < ops.size) :
    ∀ (l : List Oper) (k : Nat) (listed : Array Bool) (a : Act), (∀ j, j < l.length → l[j]? = ops[k + j]?) → k + l.length = n → HeadInv md ops n listed →
    Region.lexHead md ops g l.length k listed = true → wpQuiet P ops C Lq l a →
    wpAnyLC P md ops C n (fun listed' a' => Region.seqB md ops g n listed' = true ∧ Lq a') l.length listed a
  | [], k, listed, a, _, hk, _, hB, h => by
    have : k = n := by simpa using hk
    subst this
    exact ⟨by simpa [Region.lexHead] using hB, h⟩
  | o :: l, k, listed, a, hl, hk, inv, hB, h => by
    have h0 : ops[k]? = some o := by simpa using (hl 0 (by simp)).symm
    simp only [List.length_cons, Region.lexHead, Bool.and_eq_true] at hB
    obtain ⟨⟨hr, hf⟩, hB'⟩ := hB
    have hkn : k < n := by simp only [List.length_cons] at hk; omega
    have hr' : k ∈ Region.ready md ops listed := by simpa using hr
    have hst : qOp P ops C k (wpQuiet P ops C Lq l) a := by unfold qOp; simp only [h0]; exact h
    obtain ⟨v, hy, hK⟩ := yieldsIn_of_qOp h0 hst
    exact wpAnyLC_first h0 (Region.noSelect_spec hsel) hs hc hn hkn (fun listed' a' hL => seqB_ready hL.1) l.length listed a inv (Region.free_spec h0 hf) hr' hy
      (wpAnyLC_lex hsel hs hc hn l (k + 1) _ _ (fun j hj => by have := hl (j + 1) (by simp; omega); simpa [Nat.add_assoc, Nat.add_comm 1 j] using this) (by simp only [List.length_cons] at hk; omega) (inv.set hr' hkn) hB' hK)
theorem wp_region_calm_tail {id : Nat} {Q : Exit → Act → World → Prop} {a : Act} {w : World} {l : List Oper} (n : Nat) (hm : P.follows .mixedOrders = true) (hB : Region.lexTailB .any l.toArray n = true)
    (h : wpQuiet P l.toArray (fun w' => ∃ x : Ext w, w' = x.val) (fun a' => ∀ w', Below w.heap.size w w' → wpList P l.toArray Q (l.drop n) a' w') (l.take n) a) : (Code.region id l.toArray true).wp P Q a w := by
  simp only [Region.lexTailB, Bool.and_eq_true, decide_eq_true_eq] at hB
  obtain ⟨⟨⟨⟨hsel, hn⟩, hs⟩, hc⟩, hlex⟩ := hB
  have hn' : n < l.length := by simpa using hn
  have htl : (l.take n).length = n := by simp; omega
  have hdl : (l.drop n).length = l.toArray.size - n := by simp
  have inv0 : HeadInv .any l.toArray n (Array.replicate l.toArray.size false) :=
    ⟨by simp, fun j oj _ hl => (by rw [getD_replicate_false] at hl; cases hl), fun t _ ht => getD_in (by simpa using ht) (getD_replicate_false _ _)⟩
  have H := wpAnyLC_lex (md := .any) (g := l.toArray.size - n) (C := fun w' => ∃ x : Ext w, w' = x.val) hsel hs hc hn (l.take n) 0 _ a (fun j hj => by
    have hj' : j < n := by rw [htl] at hj; exact hj
    simp [hj']) (by simpa using htl) inv0 (by rw [htl]; exact hlex) h
  refine wp_region_any hm ?_
  have := wpAny_of_headC (Q' := Q) (g := l.toArray.size - n) (fun listed a' w' hw' hL => by
    obtain ⟨x, rfl⟩ := hw'
    have := wpAny_of_seq (md := .any) (Q' := Q) (l.drop n) n listed a' x.val (fun j => by simp [List.getElem?_drop]) (by rw [hdl]; exact hL.1) (hL.2 x.val x.2)
    rwa [hdl] at this) _ _ _ { w with drawn := w.drawn + 1 } ⟨⟨_, (Below.refl _ _).drew⟩, rfl⟩ H
  rw [htl, show n + (l.toArray.size - n) = l.toArray.size by omega] at this
  exact this
end
end
section
open Go.RowKit
theorem retb {a b : Bool} (h : a = b) : Ending.returned (.bool a) = .returned (.bool b) := by rw [h]
def RowAt (w : World) (c : Nat) (v : Value) (n : Nat) (xs : List Value) : Prop :=
  xs.length = n * c ∧ ((v = .slice none 0 0 ∧ n = 0) ∨ ∃ (a : Addr) (cap : Nat), v = .slice (some a) n cap ∧ n ≤ cap ∧ ∀ j u, xs[j]? = some u → w.cell? (a.add j) = some u)
variable {w w' : World} {c n : Nat} {v : Value} {xs : List Value}
theorem RowAt.nil (w : World) (c : Nat) : RowAt w c (.slice none 0 0) 0 [] := ⟨by simp, .inl ⟨rfl, rfl⟩⟩
theorem RowAt.form (h : RowAt w c v n xs) : ∃ ao cap, v = .slice ao n cap := by
  obtain ⟨_, ⟨rfl, rfl⟩ | ⟨a, cap, rfl, _⟩⟩ := h
  · exact ⟨_, _, rfl⟩
  · exact ⟨_, _, rfl⟩
theorem RowAt.keep (h : RowAt w c v n xs) (hk : ∀ p u, w.cell? p = some u → w'.cell? p = some u) : RowAt w' c v n xs := by
  obtain ⟨h1, h | ⟨a, cap, rfl, h2, h3⟩⟩ := h
  · exact ⟨h1, .inl h⟩
  · exact ⟨h1, .inr ⟨a, cap, rfl, h2, fun j u hj => hk _ _ (h3 j u hj)⟩⟩
theorem RowAt.below {B : Nat} (h : RowAt w c v n xs) (hb : Below B w w') (hB : w.heap.size ≤ B) : RowAt w' c v n xs :=
  h.keep fun p u hp => by rw [hb.cell (Nat.lt_of_lt_of_le (World.block_lt_of_cell? _ _ hp) hB)]; exact hp
theorem RowAt.ext {w0 : World} (h : RowAt w0 c v n xs) (x : Ext w0) : RowAt x.val c v n xs := h.below x.2 (Nat.le_refl _)
theorem RowAt.of_own {base : Nat} {e : TypeId} (h : w.ownsRow base e c v n xs) : RowAt w c v n xs := by
  refine ⟨h.1, ?_⟩
  rcases h.2 with ⟨rfl, h0⟩ | ⟨g, cap, cur, rfl, hg, hh, hc, _, _, _⟩
  · exact .inl ⟨rfl, h0⟩
  · exact .inr ⟨⟨g, 0, none⟩, cap, rfl, hc, fun j u hu => h.cells (g := g) rfl j u hu⟩
theorem RowAt.at {ao : Option Addr} {cap : Nat} (h : RowAt w c (.slice ao n cap) n xs) (hc : 0 < c) (hn : 0 < n) : ∃ b off, ao = some ⟨b, off, none⟩ ∧ b < w.heap.size ∧ n ≤ cap ∧ ∀ j, j < n * c → w.cell? ⟨b, off + j, none⟩ = xs[j]? := by
  obtain ⟨h1, ⟨_, rfl⟩ | ⟨⟨b, off, sp⟩, cap', e, hle, hx⟩⟩ := h
  · omega
  · simp only [Value.slice.injEq] at e
    obtain ⟨rfl, _, rfl⟩ := e
    have hpos : 0 < xs.length := by rw [h1]; exact Nat.mul_pos hn hc
    have h0 := hx 0 xs[0] (by simp)
    have hsp : sp = none := by simpa [Addr.add] using World.cell?_spot h0
    subst hsp
    refine ⟨b, off, rfl, by have := World.block_lt_of_cell? _ _ h0; simpa [Addr.add] using this, hle, fun j hj => ?_⟩
    have hj' : j < xs.length := by rw [h1]; exact hj
    have := hx j xs[j] (by simp [hj'])
    rw [Addr.add_lit] at this
    rw [this]; simp [hj']
theorem flat_at {α : Type} {f : α → List Value} {c : Nat} (hf : ∀ x, (f x).length = c) : ∀ (l : List α) (i j : Nat) (x : α), l[i]? = some x → j < c → (l.flatMap f)[i * c + j]? = (f x)[j]?
  | [], i, j, x, h, _ => by simp at h
  | y :: l, 0, j, x, h, hj => by
    simp at h; subst h
    rw [List.flatMap_cons, List.getElem?_append_left (by rw [hf]; omega)]; simp
  | y :: l, i + 1, j, x, h, hj => by
    rw [List.flatMap_cons, List.getElem?_append_right (by rw [hf, Nat.add_mul]; omega), hf, show (i + 1) * c + j - c = i * c + j by rw [Nat.add_mul]; omega]
    exact flat_at hf l i j x (by simpa using h) hj
def cellsH (h : Hp) : List Value := [.int .i64 h.k, .int .i64 h.n]
def cellsV (v : Vl) : List Value := [.int .i64 v.k, .bool v.nl, .int .i64 v.h, .int .i64 v.n]
def cellsF (f : Fl) : List Value := [.int .i64 f.p, .int .i64 f.v.k, .bool f.v.nl, .int .i64 f.v.h, .int .i64 f.v.n, .bool f.m]
def flatH (l : List Hp) : List Value := l.flatMap cellsH
def flatV (l : List Vl) : List Value := l.flatMap cellsV
def flatF (l : List Fl) : List Value := l.flatMap cellsF
def HpsAt (w : World) (v : Value) (l : List Hp) : Prop := RowAt w 2 v l.length (flatH l)
def ValsAt (w : World) (v : Value) (l : List Vl) : Prop := RowAt w 4 v l.length (flatV l)
def FlsAt (w : World) (v : Value) (l : List Fl) : Prop := RowAt w 6 v l.length (flatF l)
theorem hps_at {ao : Option Addr} {cap : Nat} {l : List Hp} (h : HpsAt w (.slice ao l.length cap) l) {i : Nat} {x : Hp} (hi : l[i]? = some x) : ∃ b off, ao = some ⟨b, off, none⟩ ∧ b < w.heap.size ∧
    w.cell? ⟨b, off + i * 2, none⟩ = some (.int .i64 x.k) ∧ w.cell? ⟨b, off + i * 2 + 1, none⟩ = some (.int .i64 x.n) := by
  have hlt := (List.getElem?_eq_some_iff.1 hi).1
  obtain ⟨b, off, rfl, hb, _, hc⟩ := RowAt.at h (by decide) (by omega)
  have at' : ∀ j, j < 2 → w.cell? ⟨b, off + i * 2 + j, none⟩ = (cellsH x)[j]? := fun j hj => by
    rw [Nat.add_assoc, hc (i * 2 + j) (by omega)]; exact flat_at (c := 2) (fun _ => rfl) l i j x hi hj
  exact ⟨b, off, rfl, hb, at' 0 (by omega), at' 1 (by omega)⟩
theorem vals_at {ao : Option Addr} {cap : Nat} {l : List Vl} (h : ValsAt w (.slice ao l.length cap) l) {i : Nat} {x : Vl} (hi : l[i]? = some x) : ∃ b off, ao = some ⟨b, off, none⟩ ∧ b < w.heap.size ∧
    w.cell? ⟨b, off + i * 4, none⟩ = some (.int .i64 x.k) ∧ w.cell? ⟨b, off + i * 4 + 1, none⟩ = some (.bool x.nl) ∧ w.cell? ⟨b, off + i * 4 + 2, none⟩ = some (.int .i64 x.h) ∧ w.cell? ⟨b, off + i * 4 + 3, none⟩ = some (.int .i64 x.n) := by
  have hlt := (List.getElem?_eq_some_iff.1 hi).1
  obtain ⟨b, off, rfl, hb, _, hc⟩ := RowAt.at h (by decide) (by omega)
  have at' : ∀ j, j < 4 → w.cell? ⟨b, off + i * 4 + j, none⟩ = (cellsV x)[j]? := fun j hj => by
    rw [Nat.add_assoc, hc (i * 4 + j) (by omega)]; exact flat_at (c := 4) (fun _ => rfl) l i j x hi hj
  exact ⟨b, off, rfl, hb, at' 0 (by omega), at' 1 (by omega), at' 2 (by omega), at' 3 (by omega)⟩
theorem fls_at {ao : Option Addr} {cap : Nat} {l : List Fl} (h : FlsAt w (.slice ao l.length cap) l) {i : Nat} {x : Fl} (hi : l[i]? = some x) : ∃ b off, ao = some ⟨b, off, none⟩ ∧ b < w.heap.size ∧
    w.cell? ⟨b, off + i * 6, none⟩ = some (.int .i64 x.p) ∧ w.cell? ⟨b, off + i * 6 + 1, none⟩ = some (.int .i64 x.v.k) ∧ w.cell? ⟨b, off + i * 6 + 2, none⟩ = some (.bool x.v.nl) ∧ w.cell? ⟨b, off + i * 6 + 3, none⟩ = some (.int .i64 x.v.h) ∧ w.cell? ⟨b, off + i * 6 + 4, none⟩ = some (.int .i64 x.v.n) ∧ w.cell? ⟨b, off + i * 6 + 5, none⟩ = some (.bool x.m) := by
  have hlt := (List.getElem?_eq_some_iff.1 hi).1
  obtain ⟨b, off, rfl, hb, _, hc⟩ := RowAt.at h (by decide) (by omega)
  have at' : ∀ j, j < 6 → w.cell? ⟨b, off + i * 6 + j, none⟩ = (cellsF x)[j]? := fun j hj => by
    rw [Nat.add_assoc, hc (i * 6 + j) (by omega)]; exact flat_at (c := 6) (fun _ => rfl) l i j x hi hj
  exact ⟨b, off, rfl, hb, at' 0 (by omega), at' 1 (by omega), at' 2 (by omega), at' 3 (by omega), at' 4 (by omega), at' 5 (by omega)⟩
structure SubAt (w : World) (c : List Value) (s : Sb) : Prop where
  ex : ∃ vs vp vr vf, c = [.bool s.fin, vs, .int .i64 s.k, vp, vr, vf] ∧ HpsAt w vs s.sups ∧ ValsAt w vp s.ps ∧ ValsAt w vr s.rs ∧ FlsAt w vf s.fs
theorem SubAt.keep {cs : List Value} {s : Sb} (h : SubAt w cs s) (hk : ∀ p u, w.cell? p = some u → w'.cell? p = some u) : SubAt w' cs s := by
  obtain ⟨vs, vp, vr, vf, rfl, h1, h2, h3, h4⟩ := h.ex
  exact ⟨vs, vp, vr, vf, rfl, RowAt.keep h1 hk, RowAt.keep h2 hk, RowAt.keep h3 hk, RowAt.keep h4 hk⟩
theorem SubAt.below {B : Nat} {cs : List Value} {s : Sb} (h : SubAt w cs s) (hb : Below B w w') (hB : w.heap.size ≤ B) : SubAt w' cs s :=
  h.keep fun p u hp => by rw [hb.cell (Nat.lt_of_lt_of_le (World.block_lt_of_cell? _ _ hp) hB)]; exact hp
end
end Go.Proofs.YtlcfkfijomnmnaaGreatDoor
