import Derived.Test.YtpddbaijnjbfdaaGreatDoorQShelfBd
import Derived.Lib.AppendIntMem
import Derived.Lib.ItoaLen
namespace Go.Proofs.YtpddbaijnjbfdaaGreatDoor
open Lib (hid)
section
open Go.RowKit
structure Bs where
  b : Nat
  q : Nat → Prop
structure Fit (B : Bs) (w : World) : Prop where
  le : B.b ≤ w.heap.size
  lt : ∀ k, B.q k → k < w.heap.size
structure OwnB (B : Bs) (w : World) (v : Value) (l : List UInt8) : Prop where
  row : w.ownsRow B.b 5 1 v l.length (Lib.byteCells l)
  ne : ∀ g, v.ownBlock = some g → ¬ B.q g
structure Wr (B : Bs) (w w' : World) : Prop where
  below : Below B.b w w'
  kept : Lib.OthersKept 5 none w w'
  prot : ∀ k, B.q k → w'.heap[k]? = w.heap[k]?
theorem Wr.refl (B : Bs) (w : World) : Wr B w w := ⟨Below.refl _ _, Lib.OthersKept.refl _ _ _, fun _ _ => rfl⟩
theorem Wr.trans {B : Bs} {a b c : World} (h : Wr B a b) (k : Wr B b c) : Wr B a c := ⟨h.below.trans k.below, h.kept.trans k.kept, fun i hi => (k.prot i hi).trans (h.prot i hi)⟩
theorem Wr.size {B : Bs} {a b : World} (h : Wr B a b) : a.heap.size ≤ b.heap.size := h.below.size
theorem Fit.on {B : Bs} {a b : World} (h : Fit B a) (k : Wr B a b) : Fit B b := ⟨Nat.le_trans h.le k.size, fun i hi => Nat.lt_of_lt_of_le (h.lt i hi) k.size⟩
theorem Fit.alloc {B : Bs} {a : World} (h : Fit B a) (o : Obj) : Fit B (a.alloc o) := ⟨by have := h.le; simp; omega, fun i hi => by have := h.lt i hi; simp; omega⟩
theorem Wr.alloc {B : Bs} {a b : World} (h : Wr B a b) (f : Fit B b) (o : Obj) : Wr B a (b.alloc o) := ⟨h.below.alloc f.le o, h.kept.alloc o, fun i hi => (Below.heap_alloc _ _ _ (f.lt i hi)).trans (h.prot i hi)⟩
theorem Wr.drew {B : Bs} {a b : World} (h : Wr B a b) : Wr B a b.drew := ⟨h.below.drew, h.kept.drew, h.prot⟩
theorem Wr.new {B : Bs} {a : World} (f : Fit B a) (o : Obj) : Wr B a (a.alloc o) := (Wr.refl B a).alloc f o
theorem Wr.box {B : Bs} {a b : World} (h : Wr B a b) {k : Nat} {cs : Array Value} {t : TypeId} (hk : a.heap[k]? = some (.cells cs t (0, 0))) (ht : t ≠ 5) : b.heap[k]? = some (.cells cs t (0, 0)) :=
  h.kept k _ hk (by simp) (fun c fz e => by simp at e; exact ht e.2.1)
theorem Wr.setNew {B : Bs} {a b : World} (h : Wr B a b) (f : Fit B a) {p : Addr} (hp : a.heap.size ≤ p.block) (v : Value) : Wr B a (b.setCell p v) :=
  ⟨h.below.setCell (Nat.le_trans f.le hp) v, fun k o hk hb ho => by
    rw [Below.heap_setCell _ _ _ _ (fun e => by subst e; have := heap_lt hk; omega)]; exact h.kept k o hk hb ho,
    fun i hi => (Below.heap_setCell _ _ _ _ (fun e => by have := f.lt i hi; omega)).trans (h.prot i hi)⟩
theorem Wr.next {B : Bs} {a b c : World} (h : Wr B a b) (f : Fit B a) (hb : Below a.heap.size b c) : Wr B a c :=
  ⟨h.below.trans (hb.mono f.le), fun k o hk hn ho => by rw [hb.block k (heap_lt hk)]; exact h.kept k o hk hn ho, fun i hi => (hb.block i (f.lt i hi)).trans (h.prot i hi)⟩
theorem own_block {w : World} {B : Nat} {e : TypeId} {c : Nat} {v : Value} {n : Nat} {xs : List Value} (h : w.ownsRow B e c v n xs) {g : Nat} (hg : v.ownBlock = some g) : B ≤ g ∧ ∃ cur, w.heap[g]? = some (.cells cur e (0, 0)) := by
  obtain ⟨_, (⟨rfl, _⟩ | ⟨g', cap, cur, rfl, h2, h3, _⟩)⟩ := h
  · simp [Value.ownBlock] at hg
  · simp [Value.ownBlock] at hg; subst hg; exact ⟨h2, cur, h3⟩
theorem OwnB.alloc {B : Bs} {w : World} {v : Value} {l : List UInt8} (h : OwnB B w v l) (o : Obj) : OwnB B (w.alloc o) v l := ⟨h.row.alloc o, h.ne⟩
theorem OwnB.drew {B : Bs} {w : World} {v : Value} {l : List UInt8} (h : OwnB B w v l) : OwnB B w.drew v l := ⟨h.row, h.ne⟩
theorem OwnB.setBox {B : Bs} {w : World} {v : Value} {l : List UInt8} (h : OwnB B w v l) {b : Nat} {cs : Array Value} {t : TypeId} (hb : w.heap[b]? = some (.cells cs t (0, 0))) (ht : t ≠ 5) (i : Nat) (u : Value) : OwnB B (w.setCell ⟨b, i, none⟩ u) v l :=
  ⟨ownsRow_upd h.row ((Upd.refl (fun k => k = b) w).setCell (p := ⟨b, i, none⟩) (.inl rfl) u) (fun g hg e => by
    subst e
    obtain ⟨_, cur, hc⟩ := own_block h.row hg
    rw [hb] at hc; simp at hc; exact ht hc.2), h.ne⟩
theorem OwnB.form {B : Bs} {w : World} {v : Value} {l : List UInt8} (h : OwnB B w v l) : ∃ ao cap, v = .slice ao l.length cap := by
  obtain ⟨ao, cap, e, _⟩ := ownsRow_form h.row
  exact ⟨ao, cap, e⟩
theorem Wr.grown {B : Bs} {a b c : World} {v : Value} {l : List UInt8} (h : Wr B a b) (f : Fit B a) (ho : OwnB B b v l) (hg : b.grownBy c v.ownBlock) : Wr B a c :=
  ⟨h.below.grown hg (Nat.le_trans f.le h.size) (fun k hk => (own_block ho.row hk).1), h.kept.grown hg (fun g hg => by obtain ⟨_, cur, hc⟩ := own_block ho.row hg; exact ⟨cur, _, hc⟩),
    fun i hi => (hg.block i (Nat.lt_of_lt_of_le (f.lt i hi) h.size) (fun e => ho.ne i e.symm hi)).trans (h.prot i hi)⟩
theorem Wr.row {B : Bs} {a b : World} (h : Wr B a b) {c n : Nat} {v : Value} {xs : List Value} (hr : RowAt a c v n xs) (hb : a.heap.size ≤ B.b) : RowAt b c v n xs := hr.below h.below hb
theorem own_keeps {B : Bs} {W w1 : World} {v : Value} {l : List UInt8} (h : OwnB B W v l) (g : W.grownBy w1 v.ownBlock) : KeepsOthers W w1 :=
  KeepsOthers.of_grownBy g (fun j o hj ho => by obtain ⟨_, cur, hc⟩ := own_block h.row hj; rw [hc] at ho; cases ho; rfl)
def Bs.add (B : Bs) (c : Nat) : Bs := ⟨B.b, fun k => B.q k ∨ k = c⟩
theorem Fit.add {B : Bs} {w : World} (f : Fit B w) {c : Nat} (hc : c < w.heap.size) : Fit (B.add c) w := ⟨f.le, fun k hk => hk.elim (f.lt k) (fun e => by rw [e]; exact hc)⟩
theorem OwnB.add {B : Bs} {w : World} {v : Value} {l : List UInt8} (h : OwnB B w v l) {c : Nat} (hc : v.ownBlock ≠ some c) : OwnB (B.add c) w v l := ⟨h.row, fun g hg hq => hq.elim (h.ne g hg) (fun e => hc (by rw [← e]; exact hg))⟩
theorem OwnB.less {B : Bs} {w : World} {v : Value} {l : List UInt8} {c : Nat} (h : OwnB (B.add c) w v l) : OwnB B w v l := ⟨h.row, fun g hg hq => h.ne g hg (.inl hq)⟩
theorem Wr.less {B : Bs} {a b : World} {c : Nat} (h : Wr (B.add c) a b) : Wr B a b := ⟨h.below, h.kept, fun k hk => h.prot k (.inl hk)⟩
theorem OwnB.lt {B : Bs} {w : World} {v : Value} {l : List UInt8} (h : OwnB B w v l) {c : Nat} (hc : w.heap.size ≤ c) : v.ownBlock ≠ some c := fun e => by have := (h.row.lt c e).2; omega
def Tb (B : Bs) (w : World) : Prop := Lib.TabBelow Tryz.prog B.b w "internal/strconv.uint64pow10" .u64 Lib.pow10Tab
theorem Tb.on {B : Bs} {w w' : World} (h : Tb B w) (hw : Wr B w w') : Tb B w' := Lib.TabBelow.on h hw.below
def PutPost (B : Bs) (w : World) (l : List UInt8) (e : Ending) (w' : World) : Prop := ∃ v, e = .returned v ∧ OwnB B w' v l ∧ Wr B w w'
theorem Tryz.infoU8 : (Tryz.prog.info? 5).map (fun i => (i.zero, i.size, i.bytes)) = some (some (.int .u8 0), 1, 1) := by kernel_rfl
theorem byteCells_append (a b : List UInt8) : Lib.byteCells (a ++ b) = Lib.byteCells a ++ Lib.byteCells b := by simp [Lib.byteCells]
theorem strCells_bytes (s : ByteArray) : Lib.strCells s = Lib.byteCells s.data.toList := rfl
theorem one_bytes (l : List UInt8) : ∀ u ∈ Lib.byteCells l, u.oneCell' = true := fun u hu => by
  unfold Lib.byteCells at hu
  obtain ⟨x, _, rfl⟩ := List.mem_map.1 hu; rfl
def B64 (i : Int) : Prop := -9223372036854775808 ≤ i ∧ i ≤ 9223372036854775807
section
variable {B : Bs} {w : World} {v : Value} {l : List UInt8}
theorem run_ap_str (ty : TypeId) (hown : OwnB B w v l) (f : Fit B w) (s : ByteArray) (hb : l.length + s.size ≤ 1000000000) :
    ∃ v' w', (Builtin.append_ #[124, 9] ty #[v, .string s]).run Tryz.prog w = .ok v' w' ∧ OwnB B w' v' (l ++ s.data.toList) ∧ Wr B w w' ∧ w.grownBy w' v.ownBlock := by
  obtain ⟨i, hi, hz, hsize, hby⟩ := info_parts Tryz.infoU8
  obtain ⟨v', w', hr, r1, r2, _⟩ := Lib.run_append_own_string (P := Tryz.prog) w B.b 124 9 ty 5 i Tryz.underlying124 Tryz.underlying9 hi hz hsize hby v l.length (Lib.byteCells l) hown.row s (by unfold maxLen; omega) (by omega) f.le
  have hrow : w'.ownsRow B.b 5 1 v' (l ++ s.data.toList).length (Lib.byteCells (l ++ s.data.toList)) := by
    rw [byteCells_append, List.length_append, ← strCells_bytes]; exact r1
  refine ⟨v', w', hr, ⟨hrow, ?_⟩, (Wr.refl B w).grown f hown r2, r2⟩
  -- where the new row lies
  have hlen : (Lib.byteCells l).length = l.length := by simp [Lib.byteCells]
  rcases hown.row.2 with ⟨rfl, h0⟩ | ⟨g, cap, cur, rfl, hbg, hg, hnc, hcm, hcs, htake⟩
  · by_cases hm : s.size = 0
    · have hf := Lib.run_firstCells_string (P := Tryz.prog) w 1 s
      rw [hm] at hf
      simp [Builtin.append_, run_underlying Tryz.underlying124, run_underlying Tryz.underlying9, sizeOf, typeInfo, hi, hsize, Builtin.lenOf, hm, hf] at hr
      rw [← hr.1]; intro g hg; simp [Value.ownBlock] at hg
    · rw [run_append_nil_string (P := Tryz.prog) w 124 9 ty 5 i (.int .u8 0) Tryz.underlying124 Tryz.underlying9 hi hz s (by omega) (by omega) (by rw [hby]; omega)] at hr
      simp at hr
      rw [← hr.1]; intro g hg hq; have := f.lt g hq; simp [Value.ownBlock] at hg; omega
  · by_cases hroom : l.length + s.size ≤ cap
    · have hcs' : cur.size = cap := by simpa using hcs
      rw [Lib.run_append_room_string (P := Tryz.prog) w 124 9 ty 5 i Tryz.underlying124 Tryz.underlying9 hi hsize g l.length cap cur hg s hroom (by omega)] at hr
      simp at hr
      rw [← hr.1]; exact hown.ne
    · have holds : ∀ j u, (Lib.byteCells l)[j]? = some u → w.cell? ((⟨g, 0, none⟩ : Addr).add j) = some u := hown.row.cells (g := g) rfl
      rw [Lib.run_append_grow_string (P := Tryz.prog) w 124 9 ty 5 i (.int .u8 0) Tryz.underlying124 Tryz.underlying9 hi hz ⟨g, 0, none⟩ l.length cap (Lib.byteCells l) (by rw [hsize]; simpa using hlen) holds s (by omega) (by omega) (by rw [hby]; exact growslice_fits (by omega) (by omega))] at hr
      simp at hr
      rw [← hr.1]; intro g hg hq; have := f.lt g hq; simp [Value.ownBlock] at hg; omega
theorem run_ap_row (ty : TypeId) (hown : OwnB B w v l) (f : Fit B w) (ad : Addr) (c : Nat) (news : List UInt8) (hc : ∀ j u, (Lib.byteCells news)[j]? = some u → w.cell? (ad.add j) = some u) (hb : l.length + news.length ≤ 1000000000) :
    ∃ v' w', (Builtin.append_ #[124, 124] ty #[v, .slice (some ad) news.length c]).run Tryz.prog w = .ok v' w' ∧ OwnB B w' v' (l ++ news) ∧ Wr B w w' ∧ w.grownBy w' v.ownBlock := by
  obtain ⟨i, hi, hz, hsize, hby⟩ := info_parts Tryz.infoU8
  obtain ⟨v', w', hr, r1, r2, _, r4⟩ := run_append_own_at (P := Tryz.prog) w B.b 124 ty 5 i (.int .u8 0) 1 1 Tryz.underlying124 hi hz hsize hby rfl (by decide) v l.length (Lib.byteCells l) hown.row ad news.length c (Lib.byteCells news) (by simp [Lib.byteCells]) hc (one_bytes _) (by unfold maxLen; omega) (by omega) f.le
  refine ⟨v', w', hr, ⟨by rw [byteCells_append, List.length_append]; exact r1, ?_⟩, (Wr.refl B w).grown f hown r2, r2⟩
  rcases r4 with h | h
  · rw [h]; exact hown.ne
  · rw [h]; intro g hg hq; have := f.lt g hq; simp at hg; omega
section
variable {ops : Array Oper} {rest : List Oper} {o : Oper} {a : Act} {Q : Exit → Act → World → Prop}
theorem wpList_ap_str (hgd : o.guard = none) (sl x : Operand) (ho : o.op = .call { callee := .builtin .append, args := #[sl, x], argTypes := #[124, 9] })
    (hs : a.eval sl = v) (hown : OwnB B w v l) (s : ByteArray) (hx : a.eval x = .string s) (f : Fit B w) (hb : l.length + s.size ≤ 1000000000)
    (h : ∀ v' w', OwnB B w' v' (l ++ s.data.toList) → Wr B w w' → wpList Tryz.prog ops Q rest (a.put o.dst v') w') : wpList Tryz.prog ops Q (o :: rest) a w := by
  refine wpList_plain hgd fun K hK => ?_
  obtain ⟨v', w', hr, h2, h3, _⟩ := run_ap_str (B := B) o.type hown f s hb
  unfold Oper.wp execOp
  simp only [ho, resolve, invoke, builtin, Sem.run_bind, Sem.run_pure, Result.andThen_ok, List.map_toArray, List.map_cons, List.map_nil, hs, hx, hr]
  exact hK _ _ (h v' w' h2 h3)
theorem wpList_ap_row (hgd : o.guard = none) (sl x : Operand) (ho : o.op = .call { callee := .builtin .append, args := #[sl, x], argTypes := #[124, 124] })
    (hs : a.eval sl = v) (hown : OwnB B w v l) (ad : Addr) (m c : Nat) (news : List UInt8) (hx : a.eval x = .slice (some ad) m c) (hm : m = news.length) (hc : ∀ j u, (Lib.byteCells news)[j]? = some u → w.cell? (ad.add j) = some u) (f : Fit B w) (hb : l.length + news.length ≤ 1000000000)
    (h : ∀ v' w', OwnB B w' v' (l ++ news) → Wr B w w' → wpList Tryz.prog ops Q rest (a.put o.dst v') w') : wpList Tryz.prog ops Q (o :: rest) a w := by
  subst hm
  refine wpList_plain hgd fun K hK => ?_
  obtain ⟨v', w', hr, h2, h3, _⟩ := run_ap_row (B := B) o.type hown f ad c news hc hb
  unfold Oper.wp execOp
  simp only [ho, resolve, invoke, builtin, Sem.run_bind, Sem.run_pure, Result.andThen_ok, List.map_toArray, List.map_cons, List.map_nil, hs, hx, hr]
  exact hK _ _ (h v' w' h2 h3)
theorem wpListIn_ap_str {F : Fence} {n : Nat} (hgd : o.guard = none) (sl x : Operand) (ho : o.op = .call { callee := .builtin .append, args := #[sl, x], argTypes := #[124, 9] })
    (hs : a.eval sl = v) (hown : OwnB B w v l) (s : ByteArray) (hx : a.eval x = .string s) (f : Fit B w) (hb : l.length + s.size ≤ 1000000000)
    (h : ∀ v' w', OwnB B w' v' (l ++ s.data.toList) → Wr B w w' → KeepsOthers w w' → wpListIn F n Tryz.prog ops Q rest (a.put o.dst v') w') : wpListIn F n Tryz.prog ops Q (o :: rest) a w := by
  refine wpListIn_plain hgd fun K hK' => ?_
  obtain ⟨v', w', hr, h2, h3, h4⟩ := run_ap_str (B := B) o.type hown f s hb
  unfold Oper.wpIn
  refine ⟨?_, ?_⟩
  · simp [Oper.about, ho, resolve, Target.leads, Sem.run_pure]
  · rw [Oper.semAt_plain F _ _ (by rw [ho]; intro c hc'; cases hc')]
    simp [execOp, ho, resolve, invoke, builtin, hs, hx, hr, Result.andThen]
    exact hK' _ _ (h v' w' h2 h3 (own_keeps hown h4))
end
section
variable {ops : Array Oper} {o : Oper} {a : Act} {K : Act → World → Prop} {Q : Exit → Act → World → Prop} {E : Prop}
theorem step_ap_str (hg : o.guard = none) (sl x : Operand) (ho : o.op = .call { callee := .builtin .append, args := #[sl, x], argTypes := #[124, 9] })
    (hs : a.eval sl = v) (hown : OwnB B w v l) (s : ByteArray) (hx : a.eval x = .string s) (f : Fit B w) (hb : l.length + s.size ≤ 1000000000)
    (hK : ∀ v' w', OwnB B w' v' (l ++ s.data.toList) → Wr B w w' → K (a.put o.dst v') w') :
    if Region.wanted o (yielded ops a.tmps) = true then Oper.wp Tryz.prog o a w K Q else E := by
  rw [if_pos (by simp [Region.wanted, hg])]
  obtain ⟨v', w', hr, h2, h3, _⟩ := run_ap_str (B := B) o.type hown f s hb
  unfold Oper.wp
  simp [execOp, ho, resolve, invoke, builtin, hs, hx, hr, Result.andThen]
  exact hK v' w' h2 h3
theorem step_ap_row (hg : o.guard = none) (sl x : Operand) (ho : o.op = .call { callee := .builtin .append, args := #[sl, x], argTypes := #[124, 124] })
    (hs : a.eval sl = v) (hown : OwnB B w v l) (ad : Addr) (m c : Nat) (news : List UInt8) (hx : a.eval x = .slice (some ad) m c) (hm : m = news.length) (hc : ∀ j u, (Lib.byteCells news)[j]? = some u → w.cell? (ad.add j) = some u) (f : Fit B w) (hb : l.length + news.length ≤ 1000000000)
    (hK : ∀ v' w', OwnB B w' v' (l ++ news) → Wr B w w' → K (a.put o.dst v') w') :
    if Region.wanted o (yielded ops a.tmps) = true then Oper.wp Tryz.prog o a w K Q else E := by
  subst hm
  rw [if_pos (by simp [Region.wanted, hg])]
  obtain ⟨v', w', hr, h2, h3, _⟩ := run_ap_row (B := B) o.type hown f ad c news hc hb
  unfold Oper.wp
  simp [execOp, ho, resolve, invoke, builtin, hs, hx, hr, Result.andThen]
  exact hK v' w' h2 h3
end
theorem chr_cells {W : World} {q : Nat} {c : UInt8} (h : W.heap[q]? = some (.cells #[.int .u8 c.toNat] 5 (0, 0))) : ∀ j u, (Lib.byteCells [c])[j]? = some u → W.cell? ((⟨q, 0, none⟩ : Addr).add j) = some u := fun j u hj => by
  rw [Addr.add_lit, Nat.zero_add, heap_cell h]
  have := (List.getElem?_eq_some_iff.1 hj).1
  simp [Lib.byteCells] at this
  subst this
  simpa [Lib.byteCells] using hj
end
end
section
open Go.RowKit Go.Sort Go.Lib
set_option maxRecDepth 100000 in
set_option maxHeartbeats 6400000 in
theorem appendUint_small (B : Bs) (l : List UInt8) (u : Nat) (hu : u < 100) (sv : Value) (w : World) (hown : OwnB B w sv l) (f : Fit B w) (hl : l.length ≤ 900000000) :
    Calls Tryz.prog 152 #[sv, .int .u64 u, .int .i64 10] w (PutPost B w (l ++ Lib.decDigits u)) := by
  have hlen : (Lib.decDigits u).length ≤ 20 := by
    rw [Lib.decDigits_length]
    by_cases h10 : u < 10
    · rw [Lib.nDigits_small h10]; omega
    · rw [Lib.nDigits_big h10, Lib.nDigits_small (show u / 10 < 10 by omega)]; omega
  have hsz : (⟨(Lib.decDigits u).toArray⟩ : ByteArray).size = (Lib.decDigits u).length := by simp [ByteArray.size]
  obtain ⟨ao, cap, rfl⟩ := hown.form
  have HO := hid hown; have HF := hid f; have HL := hid hl; have HS := hid hsz; have HN := hid hlen
  clear hown f hl hsz hlen
  go_enter Tryz.func152, Tryz.ntmps152
  go_wp2_with (first
    | (go_at_call 155; refine (Tryz.internal_strconv_small u hu _).mono ?_; rintro e w' ⟨rfl, rfl⟩)
    | (at_builtin; refine wpList_ap_str rfl _ _ rfl rfl HO.out ⟨(Lib.decDigits u).toArray⟩ rfl HF.out ?c1 ?_))
  case c1 => rw [HS.out]; have := HL.out; have := HN.out; omega
  intro v1 w1 o1 r1
  have e : (⟨(Lib.decDigits u).toArray⟩ : ByteArray).data.toList = Lib.decDigits u := rfl
  try rw [e] at o1
  have HO1 := hid o1; have HR1 := hid r1
  clear o1 r1 e
  go_wp2
  go_ret
  exact ⟨_, rfl, HO1.out, HR1.out⟩
set_option maxRecDepth 100000 in
set_option maxHeartbeats 12800000 in
theorem appendUint_big (B : Bs) (l : List UInt8) (u : Nat) (hu : 100 ≤ u) (hu64 : u < 18446744073709551616) (sv : Value) (w : World) (hown : OwnB B w sv l) (f : Fit B w) (hl : l.length ≤ 900000000) (ht : Tb B w) :
    Calls Tryz.prog 152 #[sv, .int .u64 u, .int .i64 10] w (PutPost B w (l ++ Lib.decDigits u)) := by
  obtain ⟨ao, cap, rfl⟩ := hown.form
  have hu1 : 1 ≤ u := by omega
  have hnd20 : Lib.nDigits u ≤ 20 := by have := Lib.numDigits_eq u hu1 hu64; split at this <;> omega
  have hal : Tryz.prog.arrayLen 269 = 24 := by kernel_rfl
  have hsl : ∀ W, (Instr.sliceAt 269 (.pointer (some ⟨w.heap.size, 0, none⟩)) none (some (.int .i64 (Lib.nDigits u : Int))) none).run Tryz.prog W = .ok (.slice (some ⟨w.heap.size, 0, none⟩) (Lib.nDigits u) 24) W := fun W => by
    rw [run_sliceAt_array_h W 269 ⟨w.heap.size, 0, none⟩ (by kernel_rfl) .i64 (Lib.nDigits u : Int) (by omega) (by rw [hal]; omega)]
    go_simp
  have hH0 := Lib.holds_zero0 w 269 (Lib.nDigits u) (by omega)
  have hfmt := Tryz.internal_strconv_formatBase10 w.heap.size 0 24 u (Array.replicate (Lib.nDigits u) 0) (w.alloc (.cells Lib.zeros24 269)) hH0 (by rw [Array.size_replicate]; exact Lib.lt_pow_nDigits u) hu64 (by rw [Array.size_replicate]; omega)
  rw [Array.size_replicate] at hfmt
  have HH0 := hid hH0; have HO := hid hown; have HF := hid f; have HL := hid hl; have HND := hid hnd20; have HU := hid hu1; have HU64 := hid hu64
  have HT := hid (ht.on (Wr.new f (.cells Lib.zeros24 269)))
  have HFM := hid hfmt
  have iu : (100 : Int) ≤ (u : Int) := by omega
  clear hH0 hal hown f hl ht hnd20 hu hu1 hu64 hfmt
  go_enter Tryz.func152, Tryz.ntmps152
  go_wp2_with (go_at_call 156; refine (Tryz.internal_strconv_numDigits u HU.out HU64.out _ HT.out.here).mono ?_; rintro e w' ⟨rfl, rfl⟩)
  refine HFM.out.mono ?_
  rintro e w' ⟨rfl, k, v', dk, rfl, hF⟩
  have hcells : ∀ j u', (Lib.byteCells (Lib.decDigits u))[j]? = some u' → ((putRow (fun (b : UInt8) => Value.int .u8 (b.toNat : Int)) (w.alloc (.cells Lib.zeros24 269)) w.heap.size 0 dk).drewN k).cell? ((⟨w.heap.size, 0, none⟩ : Addr).add j) = some u' := by
    intro j u' hj
    have hjl : j < (Lib.decDigits u).length := by
      have h5 := (List.getElem?_eq_some_iff.1 hj).1
      rwa [Lib.byteCells_length] at h5
    have e5 : (Lib.byteCells (Lib.decDigits u))[j]? = some (Value.int .u8 ((Lib.decDigits u)[j].toNat : Int)) := by simp [Lib.byteCells, hjl]
    rw [e5] at hj
    cases hj
    rw [Lib.row_is_numeral hF j hjl, Lib.add_plain, World.cell?_drewN]
    exact cell?_putRow (fun (b : UInt8) => Value.int .u8 (b.toNat : Int)) _ w.heap.size 0 _ dk HH0.out (by rw [hF.size, Array.size_replicate]) j (by rw [hF.size]; rw [Lib.decDigits_length] at hjl; exact hjl)
  obtain ⟨os, eo⟩ := Lib.fin_at w (.cells Lib.zeros24 269) dk k 0
  have hbel : Below w.heap.size w ((putRow (fun (b : UInt8) => Value.int .u8 (b.toNat : Int)) (w.alloc (.cells Lib.zeros24 269)) w.heap.size 0 dk).drewN k) := by rw [eo]; exact Lib.below_grow w.heap.size w (Nat.le_refl _) k os
  have hown2 : OwnB B ((putRow (fun (b : UInt8) => Value.int .u8 (b.toNat : Int)) (w.alloc (.cells Lib.zeros24 269)) w.heap.size 0 dk).drewN k) (.slice ao l.length cap) l := ⟨by rw [eo]; exact Lib.ownsRow_grow HO.out.row k os, HO.out.ne⟩
  generalize (putRow (fun (b : UInt8) => Value.int .u8 (b.toNat : Int)) (w.alloc (.cells Lib.zeros24 269)) w.heap.size 0 dk).drewN k = W2 at hcells hown2 hbel ⊢
  have hwr2 := (Wr.refl B w).next HF.out hbel
  have HO2 := hid hown2; have HW2 := hid hwr2; have HC := hid hcells; have HN := hid (Lib.decDigits_length u)
  clear eo hcells hown2 hbel hwr2 hF
  go_wp2_with (at_builtin; refine wpList_ap_row rfl _ _ rfl rfl HO2.out ⟨w.heap.size, 0, none⟩ (Lib.nDigits u) 24 (Lib.decDigits u) rfl HN.out.symm HC.out (HF.out.on HW2.out) ?c1 ?_)
  case c1 => rw [HN.out]; have := HL.out; have := HND.out; omega
  intro v2 w3 o3 r3
  have HO3 := hid o3; have HR3 := hid r3
  clear o3 r3
  go_wp2
  go_ret
  exact ⟨_, rfl, HO3.out, HW2.out.trans HR3.out⟩
theorem appendUint_b (B : Bs) (l : List UInt8) (u : Nat) (hu64 : u < 18446744073709551616) (sv : Value) (w : World) (hown : OwnB B w sv l) (f : Fit B w) (hl : l.length ≤ 900000000) (ht : Tb B w) :
    Calls Tryz.prog 152 #[sv, .int .u64 u, .int .i64 10] w (PutPost B w (l ++ Lib.decDigits u)) := by
  by_cases h : u < 100
  · exact appendUint_small B l u h sv w hown f hl
  · exact appendUint_big B l u (by omega) hu64 sv w hown f hl ht
set_option maxRecDepth 100000 in
set_option maxHeartbeats 6400000 in
theorem appendInt_in (B : Bs) (l : List UInt8) (i : Int) (hi : B64 i) (sv : Value) (w : World) (hown : OwnB B w sv l) (f : Fit B w) (hl : l.length ≤ 890000000) (ht : Tb B w) :
    Calls Tryz.prog 145 #[sv, .int .i64 i, .int .i64 10] w (PutPost B w (l ++ Lib.itoa i)) := by
  obtain ⟨h0, h1⟩ := hi
  obtain ⟨ao, cap, rfl⟩ := hown.form
  by_cases hneg : i < 0
  · obtain ⟨u, rfl⟩ : ∃ u : Nat, i = -(u : Int) := ⟨i.natAbs, by omega⟩
    have hu1 : 1 ≤ u := by omega
    have hu64 : u < 18446744073709551616 := by omega
    have hwr : IntKind.u64.wrap (-IntKind.u64.wrap (-(u : Int))) = (u : Int) := by rw [IntKind.wrap_u64, IntKind.wrap_u64]; omega
    rw [Lib.itoa_neg u hu1]
    have HOx := hid (hown.alloc (.cells #[.int .u8 45] 5)); have HFx := hid (f.alloc (.cells #[.int .u8 45] 5)); have HWx := hid (Wr.new f (.cells #[.int .u8 45] 5))
    have HCx := hid (chr_cells (c := 45) (heap_alloc_at w (.cells #[.int .u8 45] 5) rfl))
    have HL := hid hl; have HT := hid (ht.on HWx.out); have HU := hid hu64; have HF := hid f
    clear hown f hl ht hu64 hu1 h0 h1
    go_enter Tryz.func145, Tryz.ntmps145
    go_wp2_with (at_builtin; refine wpList_ap_row rfl _ _ rfl rfl HOx.out ⟨w.heap.size, 0, none⟩ 1 1 [45] rfl rfl HCx.out HFx.out ?c1 ?_)
    case c1 => have := HL.out; simp; omega
    intro v1 w1 o1 r1
    obtain ⟨ao1, cap1, rfl⟩ := o1.form
    obtain ⟨L1, hL1⟩ : ∃ L1, l ++ [45] = L1 := ⟨_, rfl⟩
    have hn1 : L1.length ≤ 900000000 := by rw [← hL1, List.length_append]; have := HL.out; simp; omega
    rw [hL1] at o1 ⊢
    have HO1 := hid o1; have HR1 := hid (HWx.out.trans r1); have HT1 := hid (HT.out.on r1); have HN1 := hid hn1; have HL1 := hid hL1
    clear o1 r1 hn1 hL1
    go_wp2_with fail
    refine (appendUint_b B L1 u HU.out _ _ HO1.out (HF.out.on HR1.out) HN1.out HT1.out).mono ?_
    rintro e w2 ⟨v2, rfl, o2, r2⟩
    have HO2 := hid o2; have HR2 := hid r2
    clear o2 r2
    go_wp2
    go_ret
    exact ⟨_, rfl, by have := HO2.out; rw [← HL1.out] at this; simpa [List.append_assoc] using this, HR1.out.trans HR2.out⟩
  · obtain ⟨u, rfl⟩ : ∃ u : Nat, i = u := ⟨i.toNat, by omega⟩
    have hu64 : u < 18446744073709551616 := by omega
    rw [Lib.itoa_nonneg]
    have HO := hid hown; have HF := hid f; have HL := hid hl; have HT := hid ht; have HU := hid hu64
    have hw : IntKind.u64.wrap (u : Int) = (u : Int) := by rw [IntKind.wrap_u64]; omega
    clear hown f hl ht hu64 h0 h1
    go_enter Tryz.func145, Tryz.ntmps145
    go_wp2_with fail
    refine (appendUint_b B l u HU.out _ _ HO.out HF.out (by have := HL.out; omega) HT.out).mono ?_
    rintro e w2 ⟨v2, rfl, o2, r2⟩
    have HO2 := hid o2; have HR2 := hid r2
    clear o2 r2
    go_wp2
    go_ret
    exact ⟨_, rfl, HO2.out, HR2.out⟩
set_option maxRecDepth 100000 in
theorem appendInt_b (B : Bs) (l : List UInt8) (i : Int) (hi : B64 i) (sv : Value) (w : World) (hown : OwnB B w sv l) (f : Fit B w) (hl : l.length ≤ 890000000) (ht : Tb B w) :
    Calls Tryz.prog 136 #[sv, .int .i64 i, .int .i64 10] w (PutPost B w (l ++ Lib.itoa i)) := by
  obtain ⟨ao, cap, rfl⟩ := hown.form
  have HO := hid hown; have HF := hid f; have HL := hid hl; have HT := hid ht; have HI := hid hi
  clear hown f hl ht hi
  go_enter Tryz.func136, Tryz.ntmps136
  go_wp2_with fail
  refine (appendInt_in B l i HI.out _ _ HO.out HF.out HL.out HT.out).mono ?_
  rintro e w2 ⟨v2, rfl, o2, r2⟩
  have HO2 := hid o2; have HR2 := hid r2
  clear o2 r2
  go_wp2
  go_ret
  exact ⟨_, rfl, HO2.out, HR2.out⟩
end
end Go.Proofs.YtpddbaijnjbfdaaGreatDoor
