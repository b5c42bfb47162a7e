import Derived.Test.YtpddbaijnjbfdaaGreatDoorRows
import Derived.Lib.SmallJoins
import Derived.LaidMore
import Derived.Deep.DeepHandedRow
import Derived.Maps.AppendAt
import Derived.RangeFuncBox
import Derived.Lib.Hide
import Derived.BigQuiet
import Derived.Lib.ItoaNum
namespace Go.Proofs.YtpddbaijnjbfdaaGreatDoor
section
open Go.ChangeShapes Go.WideShapes Go.ChangeAt Go.RowKit Go.Joins
mutual
def leaves {H : Type} : DataW H → List Value
  | .lit (.int k n) => [.int k n]
  | .lit (.bool b) => [.bool b]
  | .lit (.string bs) => [.string ⟨bs.toArray⟩]
  | .agg ds => leavesAll ds
  | _ => []
def leavesAll {H : Type} : List (DataW H) → List Value
  | [] => []
  | d :: ds => leaves d ++ leavesAll ds
end
def flatT (P : Program) : Nat → TypeId → Bool
  | 0, _ => false
  | fuel + 1, t => match P.underlying t with
    | some .bool => true
    | some (.int _) => true
    | some .string => true
    | some (.struct fs) => (fs.toList.foldl (fun a f => (a.1 && f.offset == a.2 && flatT P fuel f.type, a.2 + P.cellsOf f.type)) (true, 0)) == (true, P.cellsOf t)
    | some (.array n e) => flatT P fuel e && P.cellsOf t == n * P.cellsOf e
    | _ => false
section
variable {H : Type} {enc : TypeId × Value → H} {P : Program} {w : World} {base : Nat} {sp : Nat → Bool} {held : Bool}
theorem leaves_struct {fuel fuel' : Nat} (ih : ∀ t cs d p, flatT P fuel t = true → DataW.trod enc P w base sp held fuel' t cs = some (d, p) → cs = leaves d) :
    ∀ (fs : List Field) (b : Bool) (at0 : Nat) (top : Nat) (cs : List Value) (xs : List (DataW H × List MemPlace)),
      fs.foldl (fun a f => (a.1 && f.offset == a.2 && flatT P fuel f.type, a.2 + P.cellsOf f.type)) (b, at0) = (true, top) →
      (fs.mapM fun f => DataW.trod enc P w base sp held fuel' f.type ((cs.drop f.offset).take (P.cellsOf f.type))) = some xs →
      cs.length = top → b = true ∧ at0 ≤ top ∧ cs.drop at0 = leavesAll (xs.map (·.1))
  | [], b, at0, top, cs, xs, hf, hm, hl => by
    simp only [List.foldl_nil, Prod.mk.injEq] at hf
    obtain ⟨rfl, rfl⟩ := hf
    simp at hm
    subst hm
    exact ⟨rfl, Nat.le_refl _, by simp [leavesAll, ← hl]⟩
  | f :: fs, b, at0, top, cs, xs, hf, hm, hl => by
    simp only [List.foldl_cons] at hf
    simp only [List.mapM_cons, Option.bind_eq_bind, Option.bind_eq_some_iff, Option.pure_def, Option.some.injEq] at hm
    obtain ⟨x, hx, ys, hys, rfl⟩ := hm
    obtain ⟨hb, hle, hr⟩ := leaves_struct ih fs _ _ top cs ys hf hys hl
    simp only [Bool.and_eq_true, beq_iff_eq] at hb
    obtain ⟨⟨rfl, ho⟩, hfl⟩ := hb
    refine ⟨rfl, by omega, ?_⟩
    have h1 := ih _ _ x.1 x.2 hfl hx
    simp only [List.map_cons, leavesAll]
    rw [← hr, ← h1, ho]
    rw [← List.drop_drop]
    exact (List.take_append_drop _ _).symm
theorem leaves_array {fuel fuel' : Nat} (ih : ∀ t cs d p, flatT P fuel t = true → DataW.trod enc P w base sp held fuel' t cs = some (d, p) → cs = leaves d) (e : TypeId) (he : flatT P fuel e = true) :
    ∀ (n k : Nat) (cs : List Value) (xs : List (DataW H × List MemPlace)), cs.length = (k + n) * P.cellsOf e →
      ((List.range' k n).mapM fun i => DataW.trod enc P w base sp held fuel' e ((cs.drop (i * P.cellsOf e)).take (P.cellsOf e))) = some xs →
      cs.drop (k * P.cellsOf e) = leavesAll (xs.map (·.1))
  | 0, k, cs, xs, hl, hm => by
    simp at hm
    subst hm
    have : cs.drop (k * P.cellsOf e) = [] := by rw [List.drop_eq_nil_iff]; simp at hl; omega
    rw [this]; rfl
  | n + 1, k, cs, xs, hl, hm => by
    simp only [List.range'_succ, List.mapM_cons, Option.bind_eq_bind, Option.bind_eq_some_iff, Option.pure_def, Option.some.injEq] at hm
    obtain ⟨x, hx, ys, hys, rfl⟩ := hm
    have h1 := ih _ _ x.1 x.2 he hx
    have h2 := leaves_array ih e he n (k + 1) cs ys (by rw [hl]; congr 1; omega) hys
    simp only [List.map_cons, leavesAll]
    rw [← h2, ← h1, Nat.add_mul, Nat.one_mul, ← List.drop_drop]
    exact (List.take_append_drop _ _).symm
theorem leaves_of_trod : ∀ (fuel' fuel : Nat) (t : TypeId) (cs : List Value) (d : DataW H) (p : List MemPlace), flatT P fuel t = true → DataW.trod enc P w base sp held fuel' t cs = some (d, p) → cs = leaves d
  | 0, _, _, _, _, _, _, h => by simp [DataW.trod] at h
  | fuel' + 1, 0, _, _, _, _, h, _ => by simp [flatT] at h
  | fuel' + 1, fuel + 1, t, cs, d, p, hf, h => by
    have ih := fun t cs d p => leaves_of_trod fuel' fuel t cs d p
    simp only [flatT] at hf
    simp only [DataW.trod] at h
    split at hf <;> rename_i hu
    · rw [hu] at h
      split at h <;> simp_all
      obtain ⟨rfl, -⟩ := h; rfl
    · rw [hu] at h
      split at h <;> simp_all
      obtain ⟨-, rfl, -⟩ := h; rfl
    · rw [hu] at h
      split at h <;> simp_all
      obtain ⟨-, rfl, -⟩ := h; rfl
    · rename_i fs
      rw [hu] at h
      dsimp only at h
      split at h
      · rename_i hlen
        obtain ⟨xs, hm, hx⟩ := Option.map_eq_some_iff.1 h
        have hfold : fs.toList.foldl (fun a f => (a.1 && f.offset == a.2 && flatT P fuel f.type, a.2 + P.cellsOf f.type)) (true, 0) = (true, P.cellsOf t) := by simpa using hf
        obtain ⟨-, -, hr⟩ := leaves_struct (ih := ih) fs.toList true 0 _ cs xs hfold hm hlen
        simp only [Prod.mk.injEq] at hx
        rw [← hx.1]
        simpa [leaves] using hr
      · cases h
    · rename_i n e
      rw [hu] at h
      dsimp only at h
      simp only [Bool.and_eq_true, beq_iff_eq] at hf
      split at h
      · rename_i hlen
        obtain ⟨xs, hm, hx⟩ := Option.map_eq_some_iff.1 h
        rw [List.range_eq_range'] at hm
        have hr := leaves_array (ih := ih) e hf.1 n 0 cs xs (by rw [hlen, hf.2]; simp) hm
        simp only [Prod.mk.injEq] at hx
        rw [← hx.1]
        simpa [leaves] using hr
      · cases h
    · cases hf
theorem trodAll_below (hl : laidOutB P = true) {W W' : World} (hb : Below W.heap.size W W') :
    ∀ {ts : List TypeId} {vs : List Value} {ds : List (DataW H)} {ps : List MemPlace}, (ts.all fun t => P.readableRec t && decide (t < P.types.size)) = true →
      DataW.TrodAll enc P W 0 (fun _ => true) true ts vs ds ps → DataW.TrodAll enc P W' 0 (fun b => decide (b < W.heap.size)) true ts vs ds ps
  | [], vs, ds, ps, _, h => by
    obtain ⟨rfl, rfl, rfl⟩ := trodAll_nil h
    exact trodAll_mk0
  | t :: ts, vs, ds, ps, ht, h => by
    obtain ⟨v, vs', d, ds', p, q, rfl, rfl, rfl, h0, hr⟩ := trodAll_cons h
    simp only [List.all_cons, Bool.and_eq_true, decide_eq_true_eq] at ht
    have lt : ∀ x ∈ p, x.block < W.heap.size := by obtain ⟨m, hm⟩ := h0; exact DataW.trod_lt m _ _ _ hm
    exact trodAll_cons_mk (Below.trod hl ht.1.1 ht.1.2 h0 hb lt) (trodAll_below hl hb ht.2 hr)
end
end
section
open Go.RowKit
theorem ownsRow_low {w : World} {base base' : Nat} {e : TypeId} {size : Nat} {v : Value} {n : Nat} {xs : List Value} (h : w.ownsRow base e size v n xs) (hb : base' ≤ base) : w.ownsRow base' e size v n xs := by
  obtain ⟨h1, (h2 | ⟨g, cap, cur, rfl, hg, hr⟩)⟩ := h
  · exact ⟨h1, .inl h2⟩
  · exact ⟨h1, .inr ⟨g, cap, cur, rfl, Nat.le_trans hb hg, hr⟩⟩
def MovedUp (w : World) (v v' : Value) : Prop := v'.ownBlock = v.ownBlock ∨ ∀ g, v'.ownBlock = some g → w.heap.size ≤ g
theorem wpList_append_own2 {P : Program} (w : World) {ops : Array Oper} {rest : List Oper} {o : Oper} {a : Act} {Q : Exit → Act → World → Prop} (hgd : o.guard = none) (s x : Operand) (t : TypeId)
    (ho : o.op = .call { callee := .builtin .append, args := #[s, x], argTypes := #[t, t] })
    (base : Nat) (e : TypeId) (i : TypeInfo) (z : Value) (size bytes : Nat) (ht : P.underlying t = some (.slice e)) (hi : P.info? e = some i) (hz : i.zero = some z)
    (hsize : i.size = size) (hby : i.bytes = bytes) (hzs : z.cells.size = size) (hsz : 0 < size)
    (v : Value) (n : Nat) (xs : List Value) (hs : a.eval s = v) (hown : w.ownsRow base e size v n xs)
    (ad : Addr) (m c : Nat) (news : List Value) (hx : a.eval x = .slice (some ad) m c) (hl : news.length = m * size) (hnews : ∀ j u, news[j]? = some u → w.cell? (ad.add j) = some u) (h1 : ∀ u ∈ news, u.oneCell' = true)
    (h63 : n + m ≤ maxLen) (hbytes : (n + m) * bytes ≤ 140737488355328) (hbase : base ≤ w.heap.size) (hm : 0 < m)
    (h : ∀ v' w', w'.ownsRow base e size v' (n + m) (xs ++ news) → w.grownBy w' v.ownBlock → MovedUp w v v' → wpList P ops Q rest (a.put o.dst v') w') : wpList P ops Q (o :: rest) a w := by
  have hlo := hown.1
  rcases hown.2 with ⟨rfl, rfl⟩ | ⟨g, cap, cur, rfl, hbg, hg, hnc, hcm, hcs, htake⟩
  · have hx0 : xs = [] := List.eq_nil_of_length_eq_zero (by simpa using hlo)
    subst hx0
    refine wpList_append_grows w hgd s x t ho e i z size bytes ht hi hz hsize hby hzs hsz none 0 0 [] hs (fun _ => ⟨rfl, rfl⟩) (by simp) (fun b hb => by cases hb) ad m c news hx hl hnews h1 (by omega) h63 hbytes ?_
    intro v' w' r1 r2
    exact h v' w' (ownsRow_low r1 hbase) ⟨r2.os, r2.tape, r2.output, r2.size, fun k hk _ => r2.block k hk (by simp)⟩ (.inr fun g hg => (r1.lt g hg).1)
  · by_cases hroom : n + m ≤ cap
    · exact wpList_append_fits w hgd s x t ho base e i size ht hi hsize g n cap xs hs hown ad m c news hx hl hnews h1 hroom (fun w' r1 r2 => h _ w' r1 r2 (.inl rfl))
    · refine wpList_append_grows w hgd s x t ho e i z size bytes ht hi hz hsize hby hzs hsz (some ⟨g, 0, none⟩) n cap xs hs (fun hb => by cases hb) hlo (fun b hb => by cases hb; exact hown.cells (g := g) rfl) ad m c news hx hl hnews h1 (by omega) h63 hbytes ?_
      intro v' w' r1 r2
      exact h v' w' (ownsRow_low r1 hbase) ⟨r2.os, r2.tape, r2.output, r2.size, fun k hk _ => r2.block k hk (by simp)⟩ (.inr fun g hg => (r1.lt g hg).1)
end
section
open Go.RowKit
structure Upd (S : Nat → Prop) (w w' : World) : Prop where
  os : w'.os = w.os
  tape : w'.tape = w.tape
  output : w'.output = w.output
  size : w.heap.size ≤ w'.heap.size
  block : ∀ k, k < w.heap.size → ¬ S k → w'.heap[k]? = w.heap[k]?
def Fresh (S : Nat → Prop) (w : World) (S' : Nat → Prop) : Prop := ∀ k, S' k → S k ∨ w.heap.size ≤ k
theorem Fresh.refl (S : Nat → Prop) (w : World) : Fresh S w S := fun _ h => .inl h
theorem Fresh.trans {S S1 S2 : Nat → Prop} {w w1 : World} (h : Fresh S w S1) (h1 : Fresh S1 w1 S2) (hs : w.heap.size ≤ w1.heap.size) : Fresh S w S2 := fun k hk => by
  rcases h1 k hk with h2 | h2
  · exact h k h2
  · exact .inr (Nat.le_trans hs h2)
theorem Upd.refl (S : Nat → Prop) (w : World) : Upd S w w := ⟨rfl, rfl, rfl, Nat.le_refl _, fun _ _ _ => rfl⟩
theorem Upd.trans {S S1 : Nat → Prop} {a b c : World} (h : Upd S a b) (f : Fresh S a S1) (k : Upd S1 b c) : Upd S a c :=
  ⟨k.os.trans h.os, k.tape.trans h.tape, k.output.trans h.output, Nat.le_trans h.size k.size, fun i hi hs => by
    rw [k.block i (Nat.lt_of_lt_of_le hi h.size) (fun h1 => (f i h1).elim hs (fun h2 => by omega)), h.block i hi hs]⟩
theorem Upd.mono {S S1 : Nat → Prop} {a b : World} (h : Upd S a b) (hs : ∀ k, k < a.heap.size → S k → S1 k) : Upd S1 a b :=
  ⟨h.os, h.tape, h.output, h.size, fun i hi hn => h.block i hi (fun q => hn (hs i hi q))⟩
theorem Upd.trans' {S : Nat → Prop} {a b c : World} (h : Upd S a b) (k : Upd S b c) : Upd S a c := h.trans (Fresh.refl _ _) k
theorem Upd.of_below {S : Nat → Prop} {w w' : World} (h : Below w.heap.size w w') : Upd S w w' := ⟨h.os, h.tape, h.output, h.size, fun k hk _ => h.block k hk⟩
theorem Upd.below {S : Nat → Prop} {B : Nat} {w w' : World} (h : Upd S w w') (hs : ∀ k, S k → B ≤ k) (hB : B ≤ w.heap.size) : Below B w w' :=
  ⟨h.os, h.tape, h.output, h.size, fun k hk => h.block k (by omega) (fun q => by have := hs k q; omega)⟩
theorem Upd.toBelow {S : Nat → Prop} {w w' : World} (h : Upd S w w') (hs : ∀ k, ¬ S k) : Below w.heap.size w w' :=
  ⟨h.os, h.tape, h.output, h.size, fun k hk => h.block k hk (hs k)⟩
theorem Upd.drew {S : Nat → Prop} {a b : World} (h : Upd S a b) : Upd S a b.drew := ⟨h.os, h.tape, h.output, h.size, h.block⟩
theorem Upd.alloc {S : Nat → Prop} {a b : World} (h : Upd S a b) (o : Obj) : Upd S a (b.alloc o) :=
  ⟨h.os, h.tape, h.output, by simpa using Nat.le_succ_of_le h.size, fun k hk hs => by rw [Below.heap_alloc _ _ _ (by have := h.size; omega), h.block k hk hs]⟩
theorem Upd.setCell {S : Nat → Prop} {a b : World} (h : Upd S a b) {p : Addr} (hp : S p.block ∨ a.heap.size ≤ p.block) (u : Value) : Upd S a (b.setCell p u) :=
  ⟨h.os, h.tape, h.output, by simpa [World.setCell] using h.size, fun k hk hs => by
    rw [Below.heap_setCell _ _ _ _ (fun e => by subst e; exact hp.elim hs (fun h2 => by omega)), h.block k hk hs]⟩
theorem Upd.grown {S : Nat → Prop} {a b c : World} {row : Option Nat} (h : Upd S a b) (hg : b.grownBy c row) (hr : ∀ k, row = some k → S k ∨ a.heap.size ≤ k) : Upd S a c :=
  ⟨hg.os.trans h.os, hg.tape.trans h.tape, hg.output.trans h.output, Nat.le_trans h.size hg.size, fun k hk hs => by
    rw [hg.block k (by have := h.size; omega) (fun e => (hr k e.symm).elim hs (fun h2 => by omega)), h.block k hk hs]⟩
theorem Upd.cell {S : Nat → Prop} {w w' : World} (h : Upd S w w') {p : Addr} (hp : p.block < w.heap.size) (hs : ¬ S p.block) : w'.cell? p = w.cell? p := World.cell?_of_block (w := w) (h.block p.block hp hs)
theorem Upd.cell_some {S : Nat → Prop} {w w' : World} (h : Upd S w w') {p : Addr} {v : Value} (hc : w.cell? p = some v) (hs : ¬ S p.block) : w'.cell? p = some v := by
  rw [h.cell (World.block_lt_of_cell? _ _ hc) hs]; exact hc
theorem Upd.heap_some {S : Nat → Prop} {w w' : World} (h : Upd S w w') {b : Nat} {o : Obj} (hc : w.heap[b]? = some o) (hs : ¬ S b) : w'.heap[b]? = some o := by
  rw [h.block b (Array.getElem?_eq_some_iff.1 hc).1 hs]; exact hc
theorem heap_set_at {w : World} {b : Nat} {cs : Array Value} {t : TypeId} {fr : Nat × Nat} (h : w.heap[b]? = some (.cells cs t fr)) (i : Nat) (v : Value) : (w.setCell ⟨b, i, none⟩ v).heap[b]? = some (.cells (cs.setIfInBounds i v) t fr) := by
  simp [World.setCell, Array.getElem?_modify, h]
theorem heap_set_off {w : World} {b : Nat} {o : Obj} (h : w.heap[b]? = some o) {a : Addr} (hb : b ≠ a.block) (v : Value) : (w.setCell a v).heap[b]? = some o := by
  rw [Below.heap_setCell _ _ _ _ hb]; exact h
theorem heap_lt {w : World} {b : Nat} {o : Obj} (h : w.heap[b]? = some o) : b < w.heap.size := (Array.getElem?_eq_some_iff.1 h).1
theorem heap_alloc_at (w : World) (o : Obj) {b : Nat} (h : b = w.heap.size) : (w.alloc o).heap[b]? = some o := by subst h; exact World.alloc_heap_new w o
theorem heap_alloc_keep {w : World} {b : Nat} {o : Obj} (h : w.heap[b]? = some o) (o' : Obj) : (w.alloc o').heap[b]? = some o := by
  rw [Below.heap_alloc _ _ _ (heap_lt h)]; exact h
theorem cell_alloc {w : World} {p : Addr} {v : Value} (h : w.cell? p = some v) (o : Obj) : (w.alloc o).cell? p = some v := by rw [World.cell?_alloc_lt _ _ _ (World.block_lt_of_cell? _ _ h)]; exact h
theorem heap_cell {w : World} {b : Nat} {cs : Array Value} {t : TypeId} {fr : Nat × Nat} (h : w.heap[b]? = some (.cells cs t fr)) (i : Nat) : w.cell? ⟨b, i, none⟩ = cs[i]? := by simp [World.cell?, h]
theorem heap_frozen {w : World} {b : Nat} {cs : Array Value} {t : TypeId} (h : w.heap[b]? = some (.cells cs t (0, 0))) (i : Nat) : w.frozen? ⟨b, i, none⟩ = false := by simp [World.frozen?, h]
theorem ne_of_types {w : World} {b c : Nat} {cs ds : Array Value} {t u : TypeId} {fr fs : Nat × Nat} (h : w.heap[b]? = some (.cells cs t fr)) (k : w.heap[c]? = some (.cells ds u fs)) (ht : t ≠ u) : b ≠ c := fun e => by
  subst e; rw [h] at k; simp at k; exact ht k.2.1
theorem ne_of_map {w : World} {b c : Nat} {cs : Array Value} {t : TypeId} {fr : Nat × Nat} {m : Array MapEntry} {n : Nat} (h : w.heap[b]? = some (.cells cs t fr)) (k : w.heap[c]? = some (.map m n)) : b ≠ c := fun e => by
  subst e; rw [h] at k; simp at k
theorem ownsRow_upd {S : Nat → Prop} {w w' : World} {base : Nat} {e : TypeId} {size : Nat} {v : Value} {n : Nat} {xs : List Value} (h : w.ownsRow base e size v n xs) (u : Upd S w w') (hs : ∀ b, v.ownBlock = some b → ¬ S b) : w'.ownsRow base e size v n xs := by
  obtain ⟨h1, (h2 | ⟨g, cap, cur, rfl, hg, hr, h3⟩)⟩ := h
  · exact ⟨h1, .inl h2⟩
  · exact ⟨h1, .inr ⟨g, cap, cur, rfl, hg, u.heap_some hr (hs g rfl), h3⟩⟩
theorem ownsRow_take {w : World} {base : Nat} {e : TypeId} {size : Nat} {g n cap : Nat} {xs : List Value} (h : w.ownsRow base e size (.slice (some ⟨g, 0, none⟩) n cap) n xs) (m : Nat) (hm : m ≤ n) : w.ownsRow base e size (.slice (some ⟨g, 0, none⟩) m cap) m (xs.take (m * size)) := by
  obtain ⟨h1, (h2 | ⟨g', cap', cur, e1, hg, hr, h3, h4, h5, h6⟩)⟩ := h
  · obtain ⟨h2, _⟩ := h2; simp at h2
  · have hms : m * size ≤ n * size := Nat.mul_le_mul_right _ hm
    simp only [Value.slice.injEq, Option.some.injEq, Addr.mk.injEq, true_and, and_true] at e1
    obtain ⟨rfl, rfl⟩ := e1
    exact ⟨by rw [List.length_take, h1]; omega, .inr ⟨_, _, cur, rfl, hg, hr, by omega, h4, h5, by rw [← h6, List.take_take, Nat.min_eq_left hms]⟩⟩
theorem ownsRow_form {w : World} {base : Nat} {e : TypeId} {size : Nat} {v : Value} {n : Nat} {xs : List Value} (h : w.ownsRow base e size v n xs) : ∃ ao cap, v = .slice ao n cap ∧ n ≤ cap ∧ cap ≤ maxLen ∧ (ao = none → n = 0) := by
  obtain ⟨h1, (⟨rfl, rfl⟩ | ⟨g, cap, cur, rfl, hg, hr, h3, h4, h5, h6⟩)⟩ := h
  · exact ⟨_, _, rfl, Nat.le_refl _, Nat.zero_le _, fun _ => rfl⟩
  · exact ⟨_, _, rfl, h3, h4, fun h => by cases h⟩
theorem ownsRow_some {w : World} {base : Nat} {e : TypeId} {size : Nat} {v : Value} {n : Nat} {xs : List Value} (h : w.ownsRow base e size v n xs) (hn : 0 < n) : ∃ g cap cur, v = .slice (some ⟨g, 0, none⟩) n cap ∧ w.heap[g]? = some (.cells cur e (0, 0)) ∧ n ≤ cap ∧ cap ≤ maxLen ∧ (∀ j, j < n * size → w.cell? ⟨g, j, none⟩ = xs[j]?) := by
  have h0 := h
  obtain ⟨h1, (⟨rfl, rfl⟩ | ⟨g, cap, cur, rfl, hg, hr, h3, h4, h5, h6⟩)⟩ := h
  · omega
  · exact ⟨g, cap, cur, rfl, hr, h3, h4, fun j hj => h0.cellAt j hj⟩
end
section
open Go.RowKit
structure FnOk {σ α : Type} (P : Program) (cells : α → List Value) (D : α → Prop) (f : FuncId) (cap : Array Value) (φ : σ → α → α × σ) (J : σ → Nat → (Nat → Prop) → World → Prop) (B : Nat) : Prop where
  enter : ∀ args w, (callFunc f args).run P w = .ok (.enter f args) w
  lt : ∀ {s n T w}, J s n T w → (∀ b, T b → b < w.heap.size) ∧ B ≤ w.heap.size
  keep : ∀ {s n T w w'}, J s n T w → Upd (fun b => B ≤ b ∧ ¬ T b) w w' → J s n T w'
  less : ∀ {s n m T w}, J s n T w → m ≤ n → J s m T w
  call : ∀ {s n T w} x, D x → J s (n + 1) T w → Calls P f (#[.agg (cells x).toArray] ++ cap) w fun e w' => ∃ T', e = .returned (.agg (cells (φ s x).1).toArray) ∧ J (φ s x).2 n T' w' ∧ Upd T w w' ∧ Fresh T w T'
def mapS {σ α : Type} (φ : σ → α → α × σ) : σ → List α → List α × σ
  | s, [] => ([], s)
  | s, x :: l => ((φ s x).1 :: (mapS φ (φ s x).2 l).1, (mapS φ (φ s x).2 l).2)
variable {σ α : Type} {φ : σ → α → α × σ}
theorem mapS_append (s : σ) : ∀ (l r : List α), mapS φ s (l ++ r) = ((mapS φ s l).1 ++ (mapS φ (mapS φ s l).2 r).1, (mapS φ (mapS φ s l).2 r).2) := by
  intro l
  induction l generalizing s with
  | nil => intro r; simp [mapS]
  | cons x l ih => intro r; simp [mapS, ih]
theorem mapS_len (s : σ) (l : List α) : (mapS φ s l).1.length = l.length := by
  induction l generalizing s with
  | nil => rfl
  | cons x l ih => simp [mapS, ih]
theorem mapS_snoc (s : σ) (l : List α) (x : α) : mapS φ s (l ++ [x]) = ((mapS φ s l).1 ++ [(φ (mapS φ s l).2 x).1], (φ (mapS φ s l).2 x).2) := by
  rw [mapS_append]; simp [mapS]
theorem mapS_take (s : σ) (l : List α) (k : Nat) (x : α) (h : l[k]? = some x) : mapS φ s (l.take (k + 1)) = ((mapS φ s (l.take k)).1 ++ [(φ (mapS φ s (l.take k)).2 x).1], (φ (mapS φ s (l.take k)).2 x).2) := by
  obtain ⟨hk, rfl⟩ := List.getElem?_eq_some_iff.1 h
  rw [List.take_succ_eq_append_getElem hk, mapS_snoc]
theorem Fresh.off {T T' : Nat → Prop} {w : World} (h : Fresh T w T') {b : Nat} (hb : ¬ T b) (hs : b < w.heap.size) : ¬ T' b := fun h' => by
  rcases h b h' with h | h
  · exact hb h
  · omega
end
section
open Go.Lib
structure Hp where
  k : Int
  n : Int
deriving DecidableEq
structure Vl where
  k : Int
  nl : Bool
  h : Int
  n : Int
deriving DecidableEq
structure Fl where
  p : Int
  v : Vl
  m : Bool
deriving DecidableEq
structure Sb where
  fin : Bool
  sups : List Hp
  k : Int
  ps : List Vl
  rs : List Vl
  fs : List Fl
deriving DecidableEq
def wordT (k : Int) : List UInt8 :=
  if k = 1 then [97, 110, 121] else if k = 2 then [101, 113] else if k = 3 then [105, 51, 49] else if k = 4 then [115, 116, 114, 117, 99, 116] else if k = 5 then [97, 114, 114, 97, 121] else if k = 6 then [110, 111, 110, 101] else if k = 7 then [102, 117, 110, 99] else if k = 8 then [110, 111, 102, 117, 110, 99] else if k = 9 then [101, 120, 116, 101, 114, 110] else if k = 10 then [110, 111, 101, 120, 116, 101, 114, 110] else if k = 11 then [101, 120, 110] else if k = 12 then [110, 111, 101, 120, 110] else [122, 101, 114, 111]
def heapT (h : Hp) : List UInt8 := if h.k = 13 then itoa h.n else if h.k = 14 then [114, 101, 99, 46] ++ itoa h.n else if h.k = 15 then [100, 101, 102, 46] ++ itoa h.n else wordT h.k
def valT (v : Vl) : List UInt8 := if v.k = 1 then [105, 51, 50] else if v.k = 2 then [105, 54, 52] else if v.k = 3 then [40, 114, 101, 102, 32] ++ (if v.nl then [110, 117, 108, 108, 32] else []) ++ heapT ⟨v.h, v.n⟩ ++ [41] else if v.k = 4 then [98, 111, 116] else [110, 111, 110, 101]
def storeT (f : Fl) : List UInt8 := if f.p = 0 then valT f.v else 105 :: itoa f.p
def fieldT (f : Fl) : List UInt8 := if f.m then [40, 109, 117, 116, 32] ++ storeT f ++ [41] else storeT f
def listT {α : Type} (f : α → List UInt8) (l : List α) : List UInt8 := l.flatMap fun v => 32 :: f v
def valsT (w : List UInt8) (l : List Vl) : List UInt8 := if l = [] then [] else w ++ listT valT l ++ [41]
def headT (s : Sb) : List UInt8 := if s.k = 1 then [40, 102, 117, 110, 99] ++ valsT [32, 40, 112, 97, 114, 97, 109] s.ps ++ valsT [32, 40, 114, 101, 115, 117, 108, 116] s.rs else if s.k = 2 then [40, 115, 116, 114, 117, 99, 116] else if s.k = 3 then [40, 97, 114, 114, 97, 121] else [40, 110, 111, 110, 101]
def compT (s : Sb) : List UInt8 := headT s ++ listT fieldT s.fs ++ [41]
def subT (s : Sb) : List UInt8 := [40, 115, 117, 98] ++ (if s.fin then [32, 102, 105, 110, 97, 108] else []) ++ listT heapT s.sups ++ 32 :: compT s ++ [41]
def groupT (l : List Sb) : List UInt8 := l.flatMap subT
def GoodH (h : Hp) : Prop := (1 ≤ h.k ∧ h.k ≤ 12 ∧ h.n = 0) ∨ h.k = 13 ∨ h.k = 14 ∨ h.k = 15
def GoodV (v : Vl) : Prop := ((v.k = 1 ∨ v.k = 2) ∧ v = ⟨v.k, false, 0, 0⟩) ∨ (v.k = 3 ∧ GoodH ⟨v.h, v.n⟩)
def GoodF (f : Fl) : Prop := (f.p = 0 ∧ GoodV f.v) ∨ ((f.p = 8 ∨ f.p = 16) ∧ f.v = ⟨1, false, 0, 0⟩)
structure GoodS (s : Sb) : Prop where
  sups : ∀ h ∈ s.sups, GoodH h
  ps : ∀ v ∈ s.ps, GoodV v
  rs : ∀ v ∈ s.rs, GoodV v
  fs : ∀ f ∈ s.fs, GoodF f
  kind : (s.k = 1 ∧ s.fs = []) ∨ (s.k = 2 ∧ s.ps = [] ∧ s.rs = []) ∨ (s.k = 3 ∧ s.ps = [] ∧ s.rs = [])
def Tok (l : List UInt8) : Prop := ∀ c ∈ l, c ≠ 32 ∧ c ≠ 40 ∧ c ≠ 41
def Del (l : List UInt8) : Prop := ∀ c, l.head? = some c → c = 32 ∨ c = 40 ∨ c = 41
theorem tok_split : ∀ {a b x y : List UInt8}, Tok a → Tok b → Del x → Del y → a ++ x = b ++ y → a = b ∧ x = y
  | [], [], _, _, _, _, _, _, h => ⟨rfl, h⟩
  | [], c :: b, x, y, _, hb, hx, _, h => by
    have h' : x = c :: (b ++ y) := h
    have := hx c (by rw [h']; rfl)
    have := hb c (by simp)
    grind
  | c :: a, [], x, y, ha, _, _, hy, h => by
    have h' : c :: (a ++ x) = y := h
    have := hy c (by rw [← h']; rfl)
    have := ha c (by simp)
    grind
  | c :: a, d :: b, x, y, ha, hb, hx, hy, h => by
    have h' : c :: (a ++ x) = d :: (b ++ y) := h
    obtain ⟨h1, h2⟩ := List.cons.inj h'
    obtain ⟨h3, h4⟩ := tok_split (fun e he => ha e (by simp [he])) (fun e he => hb e (by simp [he])) hx hy h2
    exact ⟨by rw [h1, h3], h4⟩
theorem digit_fact : ∀ i : Fin 10, 48 ≤ (UInt8.ofNat (48 + i.val)).toNat ∧ (UInt8.ofNat (48 + i.val)).toNat ≤ 57 := by decide
theorem digit_inj : ∀ i j : Fin 10, UInt8.ofNat (48 + i.val) = UInt8.ofNat (48 + j.val) → i = j := by decide
theorem decDigits_range (u : Nat) : ∀ c ∈ decDigits u, 48 ≤ c.toNat ∧ c.toNat ≤ 57 := by
  induction u using Nat.strongRecOn with
  | _ u ih =>
    intro c hc
    rw [decDigits] at hc
    split at hc
    · rename_i h
      rw [List.mem_singleton.1 hc]; exact digit_fact ⟨u, h⟩
    · rename_i h
      rcases List.mem_append.1 hc with h1 | h1
      · exact ih (u / 10) (by omega) c h1
      · rw [List.mem_singleton.1 h1]; exact digit_fact ⟨u % 10, by omega⟩
theorem decDigits_ne (u : Nat) : decDigits u ≠ [] := by
  rw [decDigits]; split
  · simp
  · simp
theorem decDigits_inj : ∀ u v : Nat, decDigits u = decDigits v → u = v := by
  intro u
  induction u using Nat.strongRecOn with
  | _ u ih =>
    intro v h
    rw [decDigits.eq_1 u, decDigits.eq_1 v] at h
    split at h
    · rename_i h1
      split at h
      · rename_i h2
        have := digit_inj ⟨u, h1⟩ ⟨v, h2⟩ (List.cons.inj h).1
        exact congrArg Fin.val this
      · rename_i h2
        have := congrArg List.length h
        have hp : (decDigits (v / 10)).length ≠ 0 := fun e => decDigits_ne _ (List.eq_nil_of_length_eq_zero e)
        simp only [List.length_append, List.length_cons, List.length_nil] at this; omega
    · rename_i h1
      split at h
      · rename_i h2
        have := congrArg List.length h
        have hp : (decDigits (u / 10)).length ≠ 0 := fun e => decDigits_ne _ (List.eq_nil_of_length_eq_zero e)
        simp only [List.length_append, List.length_cons, List.length_nil] at this; omega
      · rename_i h2
        obtain ⟨h3, h4⟩ := List.append_inj' h rfl
        have := ih (u / 10) (by omega) (v / 10) h3
        have h5 := congrArg Fin.val (digit_inj ⟨u % 10, by omega⟩ ⟨v % 10, by omega⟩ (List.cons.inj h4).1)
        dsimp only at h5
        omega
theorem itoa_head (n : Int) : ∃ c r, itoa n = c :: r ∧ (c = 45 ∨ (48 ≤ c.toNat ∧ c.toNat ≤ 57)) := by
  unfold itoa
  split
  · exact ⟨_, _, rfl, .inl rfl⟩
  · cases h : decDigits n.toNat with
    | nil => exact absurd h (decDigits_ne _)
    | cons c r => exact ⟨c, r, rfl, .inr (decDigits_range _ c (by rw [h]; simp))⟩
theorem itoa_inj {m n : Int} (h : itoa m = itoa n) : m = n := by
  have neg : ∀ u v : Nat, (45 : UInt8) :: decDigits u ≠ decDigits v := fun u v e => by
    have := decDigits_range v 45 (by rw [← e]; simp)
    revert this; decide
  unfold itoa at h
  split at h <;> split at h
  · have := decDigits_inj _ _ (List.cons.inj h).2; omega
  · exact absurd h (neg _ _)
  · exact absurd h.symm (neg _ _)
  · have := decDigits_inj _ _ h; omega
theorem digit_tok {c : UInt8} (h : c = 45 ∨ (48 ≤ c.toNat ∧ c.toNat ≤ 57)) : c ≠ 32 ∧ c ≠ 40 ∧ c ≠ 41 := by
  rcases h with rfl | h
  · decide
  · refine ⟨?_, ?_, ?_⟩ <;> (rintro rfl; revert h; decide)
theorem itoa_tok (n : Int) : Tok (itoa n) := by
  unfold itoa
  intro c hc
  split at hc
  · rcases List.mem_cons.1 hc with h | h
    · exact digit_tok (.inl h)
    · exact digit_tok (.inr (decDigits_range _ c h))
  · exact digit_tok (.inr (decDigits_range _ c hc))
theorem tok_append {a b : List UInt8} (ha : Tok a) (hb : Tok b) : Tok (a ++ b) := fun c hc => (List.mem_append.1 hc).elim (ha c) (hb c)
def words : List (List UInt8) := [[97, 110, 121], [101, 113], [105, 51, 49], [115, 116, 114, 117, 99, 116], [97, 114, 114, 97, 121], [110, 111, 110, 101], [102, 117, 110, 99], [110, 111, 102, 117, 110, 99], [101, 120, 116, 101, 114, 110], [110, 111, 101, 120, 116, 101, 114, 110], [101, 120, 110], [110, 111, 101, 120, 110]]
theorem word_of {k : Int} (h1 : 1 ≤ k) (h2 : k ≤ 12) : ∃ i : Fin 12, k = (i.val : Int) + 1 ∧ wordT k = words[i.val]! := by
  obtain ⟨j, hj⟩ : ∃ j : Nat, k = (j : Int) + 1 := ⟨(k - 1).toNat, by omega⟩
  subst hj
  refine ⟨⟨j, by omega⟩, rfl, ?_⟩
  have : ∀ i : Fin 12, wordT ((i.val : Int) + 1) = words[i.val]! := by decide
  exact this ⟨j, by omega⟩
theorem words_inj : ∀ i j : Fin 12, words[i.val]! = words[j.val]! → i = j := by decide
theorem words_tok : ∀ i : Fin 12, ∀ c ∈ words[i.val]!, c ≠ 32 ∧ c ≠ 40 ∧ c ≠ 41 := by decide
theorem words_head : ∀ i : Fin 12, (words[i.val]!).head? ∈ [some (97 : UInt8), some 101, some 105, some 115, some 110, some 102] := by decide
theorem words_final : ∀ i : Fin 12, words[i.val]! ≠ [102, 105, 110, 97, 108] := by decide
theorem heap_tok {h : Hp} (g : GoodH h) : Tok (heapT h) := by
  unfold heapT
  rcases g with ⟨h1, h2, _⟩ | g | g | g
  · rw [if_neg (by omega), if_neg (by omega), if_neg (by omega)]
    obtain ⟨i, _, e⟩ := word_of h1 h2
    rw [e]; exact words_tok i
  · rw [if_pos g]; exact itoa_tok _
  · rw [if_neg (by omega), if_pos g]; exact tok_append (by unfold Tok; decide) (itoa_tok _)
  · rw [if_neg (by omega), if_neg (by omega), if_pos g]; exact tok_append (by unfold Tok; decide) (itoa_tok _)
theorem heap_head {h : Hp} (g : GoodH h) : ∃ c r, heapT h = c :: r ∧ c ≠ 40 ∧ ((h.k = 13 ∧ c.toNat ≤ 57) ∨ (h.k = 14 ∧ c = 114) ∨ (h.k = 15 ∧ c = 100) ∨ (h.k ≤ 12 ∧ (c = 97 ∨ c = 101 ∨ c = 105 ∨ c = 115 ∨ c = 110 ∨ c = 102))) := by
  unfold heapT
  rcases g with ⟨h1, h2, _⟩ | g | g | g
  · rw [if_neg (by omega), if_neg (by omega), if_neg (by omega)]
    obtain ⟨i, _, e⟩ := word_of h1 h2
    have hh := words_head i
    rw [e]
    cases hw : words[i.val]! with
    | nil => rw [hw] at hh; simp at hh
    | cons c r =>
      rw [hw] at hh
      simp only [List.head?_cons, List.mem_cons, Option.some.injEq, List.not_mem_nil, or_false] at hh
      refine ⟨c, r, rfl, ?_, .inr (.inr (.inr ⟨h2, hh⟩))⟩
      rcases hh with rfl | rfl | rfl | rfl | rfl | rfl <;> decide
  · rw [if_pos g]
    obtain ⟨c, r, e, hc⟩ := itoa_head h.n
    refine ⟨c, r, e, (digit_tok hc).2.1, .inl ⟨g, ?_⟩⟩
    rcases hc with rfl | hc
    · decide
    · exact hc.2
  · rw [if_neg (by omega), if_pos g]; exact ⟨_, _, rfl, by decide, .inr (.inl ⟨g, rfl⟩)⟩
  · rw [if_neg (by omega), if_neg (by omega), if_pos g]; exact ⟨_, _, rfl, by decide, .inr (.inr (.inl ⟨g, rfl⟩))⟩
theorem heap_inj {g h : Hp} (hg : GoodH g) (hh : GoodH h) (e : heapT g = heapT h) : g = h := by
  have hk : g.k = h.k ∨ (g.k ≤ 12 ∧ h.k ≤ 12) := by
    obtain ⟨c, r, e1, _, h1⟩ := heap_head hg
    obtain ⟨d, s, e2, _, h2⟩ := heap_head hh
    have : c = d := (List.cons.inj (e1.symm.trans (e.trans e2))).1
    subst this
    have ne : ∀ c : UInt8, c.toNat ≤ 57 → c ≠ 114 ∧ c ≠ 100 ∧ ¬ (c = 97 ∨ c = 101 ∨ c = 105 ∨ c = 115 ∨ c = 110 ∨ c = 102) := fun c hc => by
      refine ⟨?_, ?_, ?_⟩
      · rintro rfl; revert hc; decide
      · rintro rfl; revert hc; decide
      · rintro (rfl | rfl | rfl | rfl | rfl | rfl) <;> (revert hc; decide)
    rcases h1 with ⟨h1, h1'⟩ | ⟨h1, rfl⟩ | ⟨h1, rfl⟩ | ⟨h1, h1'⟩ <;> rcases h2 with ⟨h2, h2'⟩ | ⟨h2, h2'⟩ | ⟨h2, h2'⟩ | ⟨h2, h2'⟩
    all_goals first
      | (left; omega)
      | (right; exact ⟨h1, h2⟩)
      | (exact absurd h2' (ne _ h1').1)
      | (exact absurd h2' (ne _ h1').2.1)
      | (exact absurd h2' (ne _ h1').2.2)
      | (exact absurd h1' (ne _ h2').2.2)
      | (exact absurd rfl (ne _ h2').1)
      | (exact absurd rfl (ne _ h2').2.1)
      | (exact absurd h2' (by decide))
      | (subst h2'; exact absurd h1' (by decide))
  obtain ⟨gk, gn⟩ := g
  obtain ⟨k, n⟩ := h
  dsimp only at hk
  unfold heapT at e
  unfold GoodH at hg hh
  dsimp only at e hg hh
  rcases hk with rfl | ⟨h1, h2⟩
  · by_cases h13 : gk = 13
    · rw [if_pos h13, if_pos h13] at e; rw [itoa_inj e]
    by_cases h14 : gk = 14
    · rw [if_neg h13, if_neg h13, if_pos h14, if_pos h14] at e; rw [itoa_inj (List.append_cancel_left e)]
    by_cases h15 : gk = 15
    · rw [if_neg h13, if_neg h13, if_neg h14, if_neg h14, if_pos h15, if_pos h15] at e; rw [itoa_inj (List.append_cancel_left e)]
    · rw [show gn = n by omega]
  · rw [if_neg (by omega), if_neg (by omega), if_neg (by omega), if_neg (by omega), if_neg (by omega), if_neg (by omega)] at e
    obtain ⟨i, e1, e2⟩ := word_of (k := gk) (by omega) h1
    obtain ⟨j, e3, e4⟩ := word_of (k := k) (by omega) h2
    have := words_inj i j (by rw [← e2, ← e4, e])
    subst this
    rw [show gk = k by omega, show gn = n by omega]
theorem heap_final {h : Hp} (g : GoodH h) : heapT h ≠ [102, 105, 110, 97, 108] := by
  intro e
  obtain ⟨c, r, e1, _, h1⟩ := heap_head g
  have hc : c = 102 := (List.cons.inj (e1.symm.trans e)).1
  subst hc
  rcases h1 with ⟨_, h1⟩ | ⟨_, h1⟩ | ⟨_, h1⟩ | ⟨h1, _⟩
  · revert h1; decide
  · revert h1; decide
  · revert h1; decide
  · unfold heapT at e
    rw [if_neg (by omega), if_neg (by omega), if_neg (by omega)] at e
    have hk : 1 ≤ h.k := by rcases g with g | g | g | g <;> omega
    obtain ⟨i, _, e2⟩ := word_of hk h1
    exact words_final i (by rw [← e2, e])
theorem heap_split {g h : Hp} {x y : List UInt8} (hg : GoodH g) (hh : GoodH h) (hx : Del x) (hy : Del y) (e : heapT g ++ x = heapT h ++ y) : g = h ∧ x = y := by
  obtain ⟨h1, h2⟩ := tok_split (heap_tok hg) (heap_tok hh) hx hy e
  exact ⟨heap_inj hg hh h1, h2⟩
theorem del_cons {c : UInt8} {r : List UInt8} (h : c = 32 ∨ c = 40 ∨ c = 41) : Del (c :: r) := fun d hd => by
  simp only [List.head?_cons, Option.some.injEq] at hd; rw [← hd]; exact h
theorem val_head {v : Vl} (g : GoodV v) : ∃ c r, valT v = c :: r ∧ ((v.k = 1 ∧ c = 105) ∨ (v.k = 2 ∧ c = 105) ∨ (v.k = 3 ∧ c = 40)) := by
  unfold valT
  rcases g with ⟨h1 | h1, _⟩ | ⟨h1, _⟩
  · rw [if_pos h1]; exact ⟨_, _, rfl, .inl ⟨h1, rfl⟩⟩
  · rw [if_neg (by omega), if_pos h1]; exact ⟨_, _, rfl, .inr (.inl ⟨h1, rfl⟩)⟩
  · rw [if_neg (by omega), if_neg (by omega), if_pos h1]; exact ⟨_, _, rfl, .inr (.inr ⟨h1, rfl⟩)⟩
theorem ref_split {a b : Bool} {g h : Hp} {x y : List UInt8} (hg : GoodH g) (hh : GoodH h)
    (e : (if a then [110, 117, 108, 108, 32] else []) ++ heapT g ++ [41] ++ x = (if b then [110, 117, 108, 108, 32] else []) ++ heapT h ++ [41] ++ y) : a = b ∧ g = h ∧ x = y := by
  have same : ∀ {p : List UInt8}, p ++ heapT g ++ [41] ++ x = p ++ heapT h ++ [41] ++ y → g = h ∧ x = y := fun {p} e => by
    simp only [List.append_assoc] at e
    have e := List.append_cancel_left e
    obtain ⟨e1, e2⟩ := heap_split hg hh (del_cons (by simp)) (del_cons (by simp)) e
    exact ⟨e1, by simpa using e2⟩
  have no : ∀ {g : Hp} {x y : List UInt8}, GoodH g → [110, 117, 108, 108, 32] ++ x = heapT g ++ [41] ++ y → False := fun {g x y} hg e => by
    have e' : ([110, 117, 108, 108] : List UInt8) ++ (32 :: x) = heapT g ++ (41 :: y) := by simpa using e
    have := (tok_split (by unfold Tok; decide) (heap_tok hg) (del_cons (by simp)) (del_cons (by simp)) e').2
    simp at this
  cases a <;> cases b
  · obtain ⟨h1, h2⟩ := same (p := []) e; exact ⟨rfl, h1, h2⟩
  · exact (no hg (x := heapT h ++ [41] ++ y) (by simpa using e.symm)).elim
  · exact (no hh (x := heapT g ++ [41] ++ x) (by simpa using e)).elim
  · obtain ⟨h1, h2⟩ := same e; exact ⟨rfl, h1, h2⟩
theorem val_split {u v : Vl} {x y : List UInt8} (hu : GoodV u) (hv : GoodV v) (e : valT u ++ x = valT v ++ y) : u = v ∧ x = y := by
  have hk : u.k = v.k := by
    have e0 := e
    unfold valT at e0
    rcases hu with ⟨h1 | h1, _⟩ | ⟨h1, _⟩ <;> rcases hv with ⟨h2 | h2, _⟩ | ⟨h2, _⟩
    all_goals first
      | (rw [h1, h2]; done)
      | (exfalso; rw [h1, h2] at e0; simp at e0)
  have e0 := e
  unfold valT at e0
  rw [← hk] at e0
  rcases hu with ⟨h1, h1'⟩ | ⟨h1, h1'⟩
  · rcases hv with ⟨h2, h2'⟩ | ⟨h2, _⟩
    · rw [h1', h2', hk]
      refine ⟨rfl, ?_⟩
      rcases h1 with h1 | h1
      · rw [if_pos h1, if_pos h1] at e0; exact List.append_cancel_left e0
      · simp only [if_neg (show ¬ u.k = 1 by omega), if_pos h1] at e0; exact List.append_cancel_left e0
    · omega
  · rcases hv with ⟨h2, h2'⟩ | ⟨h2, h2'⟩
    · omega
    · simp only [if_neg (show ¬ u.k = 1 by omega), if_neg (show ¬ u.k = 2 by omega), if_pos h1] at e0
      simp only [List.append_assoc] at e0
      have e0 := List.append_cancel_left e0
      obtain ⟨a1, a2, a3⟩ := ref_split h1' h2' (x := x) (y := y) (by simpa only [List.append_assoc] using e0)
      obtain ⟨uk, un, uh, um⟩ := u
      obtain ⟨vk, vn, vh, vm⟩ := v
      dsimp only at hk a1 a2
      simp only [Hp.mk.injEq] at a2
      rw [hk, a1, a2.1, a2.2]; exact ⟨rfl, a3⟩
theorem store_split {f g : Fl} {x y : List UInt8} (hf : GoodF f) (hg : GoodF g) (hx : Del x) (hy : Del y) (e : storeT f ++ x = storeT g ++ y) : f.p = g.p ∧ f.v = g.v ∧ x = y := by
  have i8 : itoa 8 = [56] := by decide +kernel
  have i16 : itoa 16 = [49, 54] := by decide +kernel
  have tk : ∀ {p : List UInt8} {v : Vl} {x y : List UInt8}, (p = [56] ∨ p = [49, 54]) → GoodV v → Del x → Del y → 105 :: p ++ x = valT v ++ y → False := fun {p v x y} hp hv hx hy e => by
    have hp' : Tok (105 :: p) := by rcases hp with rfl | rfl <;> (unfold Tok; decide)
    unfold valT at e
    rcases hv with ⟨h1 | h1, _⟩ | ⟨h1, _⟩
    · rw [if_pos h1] at e
      have := (tok_split hp' (by unfold Tok; decide) hx hy e).1
      rcases hp with rfl | rfl <;> simp at this
    · rw [if_neg (by omega), if_pos h1] at e
      have := (tok_split hp' (by unfold Tok; decide) hx hy e).1
      rcases hp with rfl | rfl <;> simp at this
    · rw [if_neg (by omega), if_neg (by omega), if_pos h1] at e
      simp at e
  unfold storeT at e
  rcases hf with ⟨h1, h1'⟩ | ⟨h1, h1'⟩ <;> rcases hg with ⟨h2, h2'⟩ | ⟨h2, h2'⟩
  · rw [if_pos h1, if_pos h2] at e
    obtain ⟨e1, e2⟩ := val_split h1' h2' e
    exact ⟨by omega, e1, e2⟩
  · rw [if_pos h1, if_neg (by omega)] at e
    exfalso
    rcases h2 with h2 | h2
    · rw [h2, i8] at e; exact tk (.inl rfl) h1' hy hx e.symm
    · rw [h2, i16] at e; exact tk (.inr rfl) h1' hy hx e.symm
  · rw [if_pos h2, if_neg (by omega)] at e
    exfalso
    rcases h1 with h1 | h1
    · rw [h1, i8] at e; exact tk (.inl rfl) h2' hx hy e
    · rw [h1, i16] at e; exact tk (.inr rfl) h2' hx hy e
  · rw [if_neg (by omega), if_neg (by omega)] at e
    have hp : ∀ {p : Int}, (p = 8 ∨ p = 16) → Tok (105 :: itoa p) := fun {p} h => by
      rcases h with rfl | rfl
      · rw [i8]; unfold Tok; decide
      · rw [i16]; unfold Tok; decide
    obtain ⟨e1, e2⟩ := tok_split (hp h1) (hp h2) hx hy e
    exact ⟨itoa_inj (List.cons.inj e1).2, by rw [h1', h2'], e2⟩
theorem store_head {f : Fl} (hf : GoodF f) : ∃ c r, storeT f = c :: r ∧ (c = 105 ∨ ∃ r', r = 114 :: r') := by
  unfold storeT
  rcases hf with ⟨h1, h1'⟩ | ⟨h1, _⟩
  · rw [if_pos h1]
    unfold valT
    rcases h1' with ⟨h2 | h2, _⟩ | ⟨h2, _⟩
    · rw [if_pos h2]; exact ⟨_, _, rfl, .inl rfl⟩
    · rw [if_neg (by omega), if_pos h2]; exact ⟨_, _, rfl, .inl rfl⟩
    · rw [if_neg (by omega), if_neg (by omega), if_pos h2]; exact ⟨_, _, rfl, .inr ⟨_, rfl⟩⟩
  · rw [if_neg (by omega)]; exact ⟨_, _, rfl, .inl rfl⟩
theorem field_split {f g : Fl} {x y : List UInt8} (hf : GoodF f) (hg : GoodF g) (hx : Del x) (hy : Del y) (e : fieldT f ++ x = fieldT g ++ y) : f = g ∧ x = y := by
  have no : ∀ {f : Fl} {x y : List UInt8}, GoodF f → [40, 109, 117, 116, 32] ++ x = storeT f ++ y → False := fun {f x y} hf e => by
    obtain ⟨c, r, e1, h⟩ := store_head hf
    rw [e1] at e
    rcases h with rfl | ⟨r', rfl⟩
    · simp at e
    · simp at e
  obtain ⟨fp, fv, fm⟩ := f
  obtain ⟨gp, gv, gm⟩ := g
  unfold fieldT at e
  dsimp only at e
  cases fm <;> cases gm
  · obtain ⟨e1, e2, e3⟩ := store_split hf hg hx hy e
    dsimp only at e1 e2
    rw [e1, e2]; exact ⟨rfl, e3⟩
  · exact (no hf (x := storeT ⟨gp, gv, true⟩ ++ [41] ++ y) (y := x) (by simpa using e.symm)).elim
  · exact (no hg (x := storeT ⟨fp, fv, true⟩ ++ [41] ++ x) (y := y) (by simpa using e)).elim
  · simp only [if_true, List.append_assoc] at e
    have e := List.append_cancel_left e
    obtain ⟨e1, e2, e3⟩ := store_split hf hg (del_cons (by simp)) (del_cons (by simp)) e
    dsimp only at e1 e2
    rw [e1, e2]; exact ⟨rfl, by simpa using e3⟩
theorem list_split {α : Type} {f : α → List UInt8} {Good : α → Prop} {T : List UInt8 → Prop} (hT : ∀ x, T x → Del x) (hno : ∀ v r, Good v → ¬ T (32 :: f v ++ r))
    (one : ∀ u v x y, Good u → Good v → Del x → Del y → f u ++ x = f v ++ y → u = v ∧ x = y) :
    ∀ (l m : List α) (x y : List UInt8), (∀ v ∈ l, Good v) → (∀ v ∈ m, Good v) → T x → T y → listT f l ++ x = listT f m ++ y → l = m ∧ x = y
  | [], [], x, y, _, _, _, _, e => ⟨rfl, e⟩
  | [], v :: m, x, y, _, hm, hx, _, e => by
    have e' : x = 32 :: f v ++ (listT f m ++ y) := by rw [show x = listT f (v :: m) ++ y from e]; unfold listT; simp
    exact absurd hx (by rw [e']; exact hno v _ (hm v (by simp)))
  | v :: l, [], x, y, hl, _, _, hy, e => by
    have e' : y = 32 :: f v ++ (listT f l ++ x) := by rw [show y = listT f (v :: l) ++ x from e.symm]; unfold listT; simp
    exact absurd hy (by rw [e']; exact hno v _ (hl v (by simp)))
  | u :: l, v :: m, x, y, hl, hm, hx, hy, e => by
    have e' : f u ++ (listT f l ++ x) = f v ++ (listT f m ++ y) := by
      unfold listT at e ⊢
      simpa using e
    have del : ∀ (l : List α) (x : List UInt8), T x → Del (listT f l ++ x) := fun l x hx => by
      cases l with
      | nil => exact hT x hx
      | cons a l => unfold listT; rw [List.flatMap_cons]; exact del_cons (by simp)
    obtain ⟨h1, h2⟩ := one u v _ _ (hl u (by simp)) (hm v (by simp)) (del l x hx) (del m y hy) e'
    obtain ⟨h3, h4⟩ := list_split hT hno one l m x y (fun v hv => hl v (by simp [hv])) (fun v hv => hm v (by simp [hv])) hx hy h2
    exact ⟨by rw [h1, h3], h4⟩
def Shut (x : List UInt8) : Prop := ∃ r, x = 41 :: r
theorem shut_del (x : List UInt8) (h : Shut x) : Del x := by obtain ⟨r, rfl⟩ := h; exact del_cons (by simp)
theorem vals_split {l m : List Vl} {x y : List UInt8} (hl : ∀ v ∈ l, GoodV v) (hm : ∀ v ∈ m, GoodV v) (hx : Shut x) (hy : Shut y) (e : listT valT l ++ x = listT valT m ++ y) : l = m ∧ x = y :=
  list_split (Good := GoodV) (T := Shut) shut_del (fun v r _ h => by obtain ⟨_, h⟩ := h; simp at h) (fun u v x y hu hv _ _ e => val_split hu hv e) l m x y hl hm hx hy e
theorem fields_split {l m : List Fl} {x y : List UInt8} (hl : ∀ v ∈ l, GoodF v) (hm : ∀ v ∈ m, GoodF v) (hx : Shut x) (hy : Shut y) (e : listT fieldT l ++ x = listT fieldT m ++ y) : l = m ∧ x = y :=
  list_split (Good := GoodF) (T := Shut) shut_del (fun v r _ h => by obtain ⟨_, h⟩ := h; simp at h) (fun u v x y hu hv hx hy e => field_split hu hv hx hy e) l m x y hl hm hx hy e
def Comp0 (x : List UInt8) : Prop := ∃ r, x = 32 :: 40 :: r
theorem heaps_split {l m : List Hp} {x y : List UInt8} (hl : ∀ v ∈ l, GoodH v) (hm : ∀ v ∈ m, GoodH v) (hx : Comp0 x) (hy : Comp0 y) (e : listT heapT l ++ x = listT heapT m ++ y) : l = m ∧ x = y :=
  list_split (Good := GoodH) (T := Comp0) (fun x h => by obtain ⟨r, rfl⟩ := h; exact del_cons (by simp)) (fun v r hv h => by
    obtain ⟨s, h⟩ := h
    obtain ⟨c, q, e, hc, _⟩ := heap_head hv
    rw [e] at h
    simp at h
    exact hc h.1) (fun u v x y hu hv hx hy e => heap_split hu hv hx hy e) l m x y hl hm hx hy e
theorem sig_split {p q r s : List Vl} {x y : List UInt8} (hp : ∀ v ∈ p, GoodV v) (hq : ∀ v ∈ q, GoodV v) (hr : ∀ v ∈ r, GoodV v) (hs : ∀ v ∈ s, GoodV v)
    (e : valsT [32, 40, 112, 97, 114, 97, 109] p ++ (valsT [32, 40, 114, 101, 115, 117, 108, 116] r ++ 41 :: x) = valsT [32, 40, 112, 97, 114, 97, 109] q ++ (valsT [32, 40, 114, 101, 115, 117, 108, 116] s ++ 41 :: y)) : p = q ∧ r = s ∧ x = y := by
  have res : ∀ {r s : List Vl}, (∀ v ∈ r, GoodV v) → (∀ v ∈ s, GoodV v) → valsT [32, 40, 114, 101, 115, 117, 108, 116] r ++ 41 :: x = valsT [32, 40, 114, 101, 115, 117, 108, 116] s ++ 41 :: y → r = s ∧ x = y := fun {r s} hr hs e => by
    unfold valsT at e
    by_cases h1 : r = [] <;> by_cases h2 : s = []
    · subst h1 h2; simp at e; exact ⟨rfl, e⟩
    · rw [if_pos h1, if_neg h2] at e; simp at e
    · rw [if_neg h1, if_pos h2] at e; simp at e
    · rw [if_neg h1, if_neg h2] at e
      simp only [List.append_assoc] at e
      have e := List.append_cancel_left e
      obtain ⟨e1, e2⟩ := vals_split hr hs ⟨_, rfl⟩ ⟨_, rfl⟩ e
      exact ⟨e1, by simpa using e2⟩
  by_cases h1 : p = [] <;> by_cases h2 : q = []
  · subst h1 h2
    obtain ⟨e1, e2⟩ := res hr hs (by simpa [valsT] using e)
    exact ⟨rfl, e1, e2⟩
  · exfalso
    unfold valsT at e
    rw [if_pos h1, if_neg h2] at e
    split at e <;> simp at e
  · exfalso
    unfold valsT at e
    rw [if_neg h1, if_pos h2] at e
    by_cases h3 : s = []
    · rw [if_pos h3] at e; simp at e
    · rw [show (if s = [] then [] else [32, 40, 114, 101, 115, 117, 108, 116] ++ listT valT s ++ [41]) = [32, 40, 114, 101, 115, 117, 108, 116] ++ listT valT s ++ [41] from if_neg h3] at e; simp at e
  · have e' := e
    rw [show valsT [32, 40, 112, 97, 114, 97, 109] p = [32, 40, 112, 97, 114, 97, 109] ++ listT valT p ++ [41] from if_neg h1, show valsT [32, 40, 112, 97, 114, 97, 109] q = [32, 40, 112, 97, 114, 97, 109] ++ listT valT q ++ [41] from if_neg h2] at e'
    simp only [List.append_assoc] at e'
    have e' := List.append_cancel_left e'
    obtain ⟨e1, e2⟩ := vals_split hp hq ⟨_, rfl⟩ ⟨_, rfl⟩ e'
    obtain ⟨e3, e4⟩ := res hr hs (by simpa using e2)
    exact ⟨e1, e3, e4⟩
theorem comp_split {s t : Sb} {x y : List UInt8} (hs : GoodS s) (ht : GoodS t) (e : compT s ++ x = compT t ++ y) : s.k = t.k ∧ s.ps = t.ps ∧ s.rs = t.rs ∧ s.fs = t.fs ∧ x = y := by
  unfold compT headT at e
  have hk : s.k = t.k := by
    have e0 := e
    rcases hs.kind with ⟨h1, _⟩ | ⟨h1, _⟩ | ⟨h1, _⟩ <;> rcases ht.kind with ⟨h2, _⟩ | ⟨h2, _⟩ | ⟨h2, _⟩
    all_goals first
      | (rw [h1, h2]; done)
      | (exfalso; rw [h1, h2] at e0; simp at e0)
  rw [← hk] at e
  rcases hs.kind with ⟨h1, h3⟩ | ⟨h1, h3, h4⟩ | ⟨h1, h3, h4⟩ <;> rcases ht.kind with ⟨h2, h5⟩ | ⟨h2, h5, h6⟩ | ⟨h2, h5, h6⟩
  all_goals first
    | (exfalso; omega)
    | skip
  · rw [if_pos h1, if_pos h1, h3, h5] at e
    simp only [List.append_assoc] at e
    have e := List.append_cancel_left e
    obtain ⟨e1, e2, e3⟩ := sig_split (x := x) (y := y) hs.ps ht.ps hs.rs ht.rs (by simpa [listT] using e)
    exact ⟨hk, e1, e2, by rw [h3, h5], e3⟩
  · simp only [if_neg (show ¬ s.k = 1 by omega), if_pos h1] at e
    simp only [List.append_assoc] at e
    have e := List.append_cancel_left e
    obtain ⟨e1, e2⟩ := fields_split hs.fs ht.fs ⟨_, rfl⟩ ⟨_, rfl⟩ e
    exact ⟨hk, by rw [h3, h5], by rw [h4, h6], e1, by simpa using e2⟩
  · simp only [if_neg (show ¬ s.k = 1 by omega), if_neg (show ¬ s.k = 2 by omega), if_pos h1] at e
    simp only [List.append_assoc] at e
    have e := List.append_cancel_left e
    obtain ⟨e1, e2⟩ := fields_split hs.fs ht.fs ⟨_, rfl⟩ ⟨_, rfl⟩ e
    exact ⟨hk, by rw [h3, h5], by rw [h4, h6], e1, by simpa using e2⟩
theorem comp_head (s : Sb) : ∃ r, compT s = 40 :: r := by
  unfold compT headT
  split
  · exact ⟨_, rfl⟩
  · split
    · exact ⟨_, rfl⟩
    · split
      · exact ⟨_, rfl⟩
      · exact ⟨_, rfl⟩
theorem sub_split {s t : Sb} {x y : List UInt8} (hs : GoodS s) (ht : GoodS t) (e : subT s ++ x = subT t ++ y) : s = t ∧ x = y := by
  unfold subT at e
  have body : ∀ {x y : List UInt8}, listT heapT s.sups ++ (32 :: (compT s ++ (41 :: x))) = listT heapT t.sups ++ (32 :: (compT t ++ (41 :: y))) → s.sups = t.sups ∧ s.k = t.k ∧ s.ps = t.ps ∧ s.rs = t.rs ∧ s.fs = t.fs ∧ x = y := fun {x y} e => by
    obtain ⟨r1, c1⟩ := comp_head s
    obtain ⟨r2, c2⟩ := comp_head t
    obtain ⟨e1, e2⟩ := heaps_split hs.sups ht.sups ⟨_, by rw [c1]; rfl⟩ ⟨_, by rw [c2]; rfl⟩ e
    obtain ⟨e3, e4, e5, e6, e7⟩ := comp_split hs ht (List.cons.inj e2).2
    exact ⟨e1, e3, e4, e5, e6, by simpa using e7⟩
  have no : ∀ {s : Sb} {x y : List UInt8}, GoodS s → [32, 102, 105, 110, 97, 108] ++ (32 :: x) = listT heapT s.sups ++ (32 :: (compT s ++ y)) → False := fun {s x y} hs e => by
    cases hl : s.sups with
    | nil =>
      obtain ⟨r1, c1⟩ := comp_head s
      rw [hl, c1] at e
      simp [listT] at e
    | cons h l =>
      have hg := hs.sups h (by rw [hl]; simp)
      rw [hl] at e
      have e1 : ([102, 105, 110, 97, 108] : List UInt8) ++ (32 :: x) = heapT h ++ (listT heapT l ++ (32 :: (compT s ++ y))) := by
        unfold listT at e ⊢; simpa using e
      have hd : Del (listT heapT l ++ (32 :: (compT s ++ y))) := by
        cases l with
        | nil => exact del_cons (by simp)
        | cons a l => exact del_cons (by simp)
      exact heap_final hg (tok_split (by unfold Tok; decide) (heap_tok hg) (del_cons (by simp)) hd e1).1.symm
  have cons32 : ∀ (s : Sb) (x : List UInt8), ∃ r, listT heapT s.sups ++ (32 :: (compT s ++ x)) = 32 :: r := fun s x => by
    cases s.sups with
    | nil => exact ⟨_, rfl⟩
    | cons h l => exact ⟨_, rfl⟩
  simp only [List.append_assoc, List.cons_append] at e
  have e := @List.append_cancel_left _ [40, 115, 117, 98] _ _ e
  obtain ⟨sf, sp, sk, ss, sr, sF⟩ := s
  obtain ⟨tf, tp, tk, ts, tr, tF⟩ := t
  dsimp only at e body
  cases sf <;> cases tf
  · obtain ⟨e1, e2, e3, e4, e5, e6⟩ := body (x := x) (y := y) (by simpa using e)
    rw [e1, e2, e3, e4, e5]; exact ⟨rfl, e6⟩
  · obtain ⟨r, hr⟩ := cons32 ⟨true, tp, tk, ts, tr, tF⟩ (41 :: y)
    exact (no hs (x := r) (y := 41 :: x) (by rw [← hr]; simpa using e.symm)).elim
  · obtain ⟨r, hr⟩ := cons32 ⟨true, sp, sk, ss, sr, sF⟩ (41 :: x)
    exact (no ht (x := r) (y := 41 :: y) (by rw [← hr]; simpa using e)).elim
  · obtain ⟨e1, e2, e3, e4, e5, e6⟩ := body (x := x) (y := y) (by simpa using e)
    rw [e1, e2, e3, e4, e5]; exact ⟨rfl, e6⟩
theorem subT_head (s : Sb) : ∃ r, subT s = 40 :: r := ⟨_, rfl⟩
theorem groupT_inj : ∀ l m : List Sb, (∀ s ∈ l, GoodS s) → (∀ s ∈ m, GoodS s) → groupT l = groupT m → l = m
  | [], [], _, _, _ => rfl
  | [], s :: m, _, _, e => by
    obtain ⟨r, hr⟩ := subT_head s
    unfold groupT at e; rw [List.flatMap_cons, hr] at e; simp at e
  | s :: l, [], _, _, e => by
    obtain ⟨r, hr⟩ := subT_head s
    unfold groupT at e; rw [List.flatMap_cons, hr] at e; simp at e
  | s :: l, t :: m, hl, hm, e => by
    have e' : subT s ++ groupT l = subT t ++ groupT m := by unfold groupT at e ⊢; simpa using e
    obtain ⟨h1, h2⟩ := sub_split (hl s (by simp)) (hm t (by simp)) e'
    rw [h1, groupT_inj l m (fun s hs => hl s (by simp [hs])) (fun s hs => hm s (by simp [hs])) h2]
end
end Go.Proofs.YtpddbaijnjbfdaaGreatDoor
