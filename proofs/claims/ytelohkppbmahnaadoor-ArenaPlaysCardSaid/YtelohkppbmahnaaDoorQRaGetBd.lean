/- Of no program: a row of cells that is read, it may be empty; append of it, telling where the new row lies. -/
import Derived.Test.YtelohkppbmahnaaDoorQCalmBd
import Derived.Maps.AppendAt
import Derived.Laws.OwnMore
import Derived.Test.YtelohkppbmahnaaDoorQArAllBd
import Derived.WalkKit
import Derived.WalkSpells
import Derived.BigQuiet
import Derived.RegionTactic
import Derived.ChangeAlike
import Derived.Deep.QuietTactic
import Derived.Lib.Hide
import Derived.Outline
import Derived.Deep.RegionWith
namespace Go.Proofs.YtelohkppbmahnaaDoor
open Go.RowKit Go.Maps

/-- A slice of n elements of c cells each reads as these cells. -/
def RowG (w : World) (c : Nat) (v : Value) (n : Nat) (xs : List Value) : Prop :=
  xs.length = n * c ∧ ((v = .slice none 0 0 ∧ n = 0) ∨ ∃ (a : Addr) (cap : Nat), v = .slice (some a) n cap ∧ n ≤ cap ∧ ∀ j u, xs[j]? = some u → w.cell? (a.add j) = some u)
variable {w w' : World} {c n : Nat} {v : Value} {xs : List Value}
theorem RowG.nil (w : World) (c : Nat) : RowG w c (.slice none 0 0) 0 [] := ⟨by simp, .inl ⟨rfl, rfl⟩⟩
theorem RowG.form (h : RowG w c v n xs) : ∃ ao cap, v = .slice ao n cap := by
  obtain ⟨_, ⟨rfl, rfl⟩ | ⟨a, cap, rfl, _⟩⟩ := h
  · exact ⟨_, _, rfl⟩
  · exact ⟨_, _, rfl⟩
theorem RowG.keep (h : RowG w c v n xs) (hk : ∀ p u, w.cell? p = some u → w'.cell? p = some u) : RowG w' c v n xs := by
  obtain ⟨h1, h | ⟨a, cap, rfl, h2, h3⟩⟩ := h
  · exact ⟨h1, .inl h⟩
  · exact ⟨h1, .inr ⟨a, cap, rfl, h2, fun j u hj => hk _ _ (h3 j u hj)⟩⟩
theorem RowG.below {B : Nat} (h : RowG w c v n xs) (hb : Below B w w') (hB : w.heap.size ≤ B) : RowG w' c v n xs :=
  h.keep fun p u hp => by rw [hb.cell (Nat.lt_of_lt_of_le (World.block_lt_of_cell? _ _ hp) hB)]; exact hp
theorem RowG.of_own {base : Nat} {e : TypeId} (h : w.ownsRow base e c v n xs) : RowG w c v n xs := by
  refine ⟨h.1, ?_⟩
  rcases h.2 with ⟨rfl, h0⟩ | ⟨g, cap, cur, rfl, hg, hh, hc, _, _, _⟩
  · exact .inl ⟨rfl, h0⟩
  · exact .inr ⟨⟨g, 0, none⟩, cap, rfl, hc, fun j u hu => h.cells (g := g) rfl j u hu⟩
theorem RowG.at {ao : Option Addr} {cap : Nat} (h : RowG w c (.slice ao n cap) n xs) (hc : 0 < c) (hn : 0 < n) : ∃ b off, ao = some ⟨b, off, none⟩ ∧ b < w.heap.size ∧ n ≤ cap ∧ ∀ j, j < n * c → w.cell? ⟨b, off + j, none⟩ = xs[j]? := by
  obtain ⟨h1, ⟨_, rfl⟩ | ⟨⟨b, off, sp⟩, cap', e, hle, hx⟩⟩ := h
  · omega
  · simp only [Value.slice.injEq] at e
    obtain ⟨rfl, _, rfl⟩ := e
    have hpos : 0 < xs.length := by rw [h1]; exact Nat.mul_pos hn hc
    have h0 := hx 0 xs[0] (by simp)
    have hsp : sp = none := by simpa [Addr.add] using World.cell?_spot h0
    subst hsp
    refine ⟨b, off, rfl, by have := World.block_lt_of_cell? _ _ h0; simpa [Addr.add] using this, hle, fun j hj => ?_⟩
    have hj' : j < xs.length := by rw [h1]; exact hj
    have := hx j xs[j] (by simp [hj'])
    rw [Addr.add_lit] at this
    rw [this]; simp [hj']
/-- The cells of a list of things, c cells each. -/
theorem flatG_len {α : Type} {f : α → List Value} {c : Nat} (hf : ∀ x, (f x).length = c) (l : List α) : (l.flatMap f).length = l.length * c := by
  induction l with
  | nil => simp
  | cons x l ih => rw [List.flatMap_cons, List.length_append, ih, hf, List.length_cons, Nat.add_mul]; omega
theorem flatG_at {α : Type} {f : α → List Value} {c : Nat} (hf : ∀ x, (f x).length = c) : ∀ (l : List α) (i j : Nat) (x : α), l[i]? = some x → j < c → (l.flatMap f)[i * c + j]? = (f x)[j]?
  | [], i, j, x, h, _ => by simp at h
  | y :: l, 0, j, x, h, hj => by
    simp at h; subst h
    rw [List.flatMap_cons, List.getElem?_append_left (by rw [hf]; omega)]; simp
  | y :: l, i + 1, j, x, h, hj => by
    rw [List.flatMap_cons, List.getElem?_append_right (by rw [hf, Nat.add_mul]; omega), hf, show (i + 1) * c + j - c = i * c + j by rw [Nat.add_mul]; omega]
    exact flatG_at hf l i j x (by simpa using h) hj
theorem wpList_append_rowG {P : Program} (w : World) {ops : Array Oper} {rest : List Oper} {o : Oper} {a : Act} {Q : Exit → Act → World → Prop} (hgd : o.guard = none) (s x : Operand) (t : TypeId)
    (ho : o.op = .call { callee := .builtin .append, args := #[s, x], argTypes := #[t, t] })
    (base : Nat) (e : TypeId) (i : TypeInfo) (z : Value) (size bytes : Nat) (ht : P.underlying t = some (.slice e)) (hi : P.info? e = some i) (hz : i.zero = some z)
    (hsize : i.size = size) (hby : i.bytes = bytes) (hzs : z.cells.size = size) (hsz : 0 < size)
    (v : Value) (n : Nat) (xs : List Value) (hs : a.eval s = v) (hown : w.ownsRow base e size v n xs)
    (y : Value) (m : Nat) (news : List Value) (hx : a.eval x = y) (hrow : RowG w size y m news) (h1 : ∀ u ∈ news, u.oneCell' = true)
    (h63 : n + m ≤ maxLen) (hbytes : (n + m) * bytes ≤ 140737488355328) (hbase : base ≤ w.heap.size)
    (h : ∀ v' w', w'.ownsRow base e size v' (n + m) (xs ++ news) → w.grownBy w' v.ownBlock → (v'.ownBlock = v.ownBlock ∨ v'.ownBlock = some w.heap.size) → wpList P ops Q rest (a.put o.dst v') w') : wpList P ops Q (o :: rest) a w := by
  obtain ⟨hl, ⟨rfl, rfl⟩ | ⟨ad, cap, rfl, hc, hnews⟩⟩ := hrow
  · refine wpList_plain hgd fun K hK => ?_
    have hr := run_append_owned_none (P := P) (w := w) base t o.type e i size ht hi v n xs hown
    unfold Oper.wp execOp
    simp only [ho, resolve, invoke, builtin, Sem.run_bind, Sem.run_pure, Result.andThen_ok, List.map_toArray, List.map_cons, List.map_nil, hs, hx, hr]
    refine hK _ _ (h v w ?_ ⟨rfl, rfl, rfl, Nat.le_refl _, fun _ _ _ => rfl⟩ (.inl rfl))
    have hn : news = [] := List.eq_nil_of_length_eq_zero (by simpa using hl)
    subst hn
    simpa using hown
  · exact wpList_append_own_at w hgd s x t ho base e i z size bytes ht hi hz hsize hby hzs hsz v n xs hs hown ad m cap news hx hl hnews h1 h63 hbytes hbase (fun v' w' r1 r2 _ r4 => h v' w' r1 r2 r4)
theorem step_append_rowG {P : Program} {ops : Array Oper} {o : Oper} {a : Act} {w : World} {K : Act → World → Prop} {Q : Exit → Act → World → Prop} {E : Prop} (hg : o.guard = none) (s x : Operand) (t : TypeId) (hop : o.op = Op.call { callee := Callee.builtin Builtin.append, args := #[s, x], argTypes := #[t, t] })
    (base : Nat) (e : TypeId) (i : TypeInfo) (z : Value) (size bytes : Nat) (ht : P.underlying t = some (.slice e)) (hi : P.info? e = some i) (hz : i.zero = some z)
    (hsize : i.size = size) (hby : i.bytes = bytes) (hzs : z.cells.size = size) (hsz : 0 < size)
    (v : Value) (n : Nat) (xs : List Value) (hs : a.eval s = v) (hown : w.ownsRow base e size v n xs)
    (y : Value) (m : Nat) (news : List Value) (hx : a.eval x = y) (hrow : RowG w size y m news) (h1 : ∀ u ∈ news, u.oneCell' = true)
    (h63 : n + m ≤ maxLen) (hbytes : (n + m) * bytes ≤ 140737488355328) (hbase : base ≤ w.heap.size)
    (hK : ∀ v' w', w'.ownsRow base e size v' (n + m) (xs ++ news) → w.grownBy w' v.ownBlock → (v'.ownBlock = v.ownBlock ∨ v'.ownBlock = some w.heap.size) → K (a.put o.dst v') w') :
    if Region.wanted o (yielded ops a.tmps) = true then Oper.wp P o a w K Q else E := by
  have hw : Region.wanted o (yielded ops a.tmps) = true := by simp [Region.wanted, hg]
  rw [if_pos hw]
  obtain ⟨hl, ⟨rfl, rfl⟩ | ⟨ad, cap, rfl, hc, hnews⟩⟩ := hrow
  · have hr := run_append_owned_none (P := P) (w := w) base t o.type e i size ht hi v n xs hown
    unfold Oper.wp
    simp [execOp, hop, resolve, invoke, builtin, hs, hx, hr, Result.andThen]
    refine hK v w ?_ ⟨rfl, rfl, rfl, Nat.le_refl _, fun _ _ _ => rfl⟩ (.inl rfl)
    have hn : news = [] := List.eq_nil_of_length_eq_zero (by simpa using hl)
    subst hn
    simpa using hown
  · obtain ⟨v', w', hr, r1, r2, _, r4⟩ := run_append_own_at (P := P) w base t o.type e i z size bytes ht hi hz hsize hby hzs hsz v n xs hown ad m cap news hl hnews h1 h63 hbytes hbase
    unfold Oper.wp
    simp [execOp, hop, resolve, invoke, builtin, hs, hx, hr, Result.andThen]
    exact hK v' w' r1 r2 r4
end Go.Proofs.YtelohkppbmahnaaDoor

/- geoderef20: the document's arena in memory; Find. -/
namespace Go.Proofs.YtelohkppbmahnaaDoor
open Go.RowKit

/-- A block of the document's arena, and where its words lie. -/
structure RBk where
  g : Nat
  b : Blk
def cellsR (r : RBk) : List Value := [.int .i64 (r.b.a : Nat), .slice (some ⟨r.g, 0, none⟩) r.b.n r.b.n, .bool r.b.u, .bool r.b.m]
def blks (rs : List RBk) : List Blk := rs.map RBk.b
/-- The document's arena in memory: cap words, these blocks; S: the blocks of memory that it has. -/
structure RaAt (S : Nat → Prop) (W : World) (p cap : Nat) (rs : List RBk) : Prop where
  hd : ∃ v, W.heap[p]? = some (.cells #[.int .i64 (cap : Nat), v] 57 (0, 0)) ∧ W.ownsRow 0 59 4 v rs.length (rs.flatMap cellsR) ∧ ∀ g, v.ownBlock = some g → S g
  wd : ∀ r ∈ rs, W.heap[r.g]? = some (.cells (u64s r.b.ws).toArray 28 (0, 0)) ∧ S r.g
  nd : (rs.map RBk.g).Nodup
  sp : S p
  wf : Wf cap (blks rs)
  u64 : ∀ r ∈ rs, ∀ x ∈ r.b.ws, x < 18446744073709551616
variable {S : Nat → Prop} {W W' : World} {p cap : Nat} {rs : List RBk}
theorem RaAt.lt (h : RaAt S W p cap rs) : p < W.heap.size := by
  obtain ⟨v, h1, _⟩ := h.hd
  exact heap_lt h1
theorem RaAt.bound (h : RaAt S W p cap rs) {r : RBk} (hr : r ∈ rs) : 1 ≤ r.b.a ∧ 0 < r.b.n ∧ r.b.a + r.b.n ≤ 1048576 := by
  have h1 := h.wf.span.mem r.b (List.mem_map.2 ⟨r, hr, rfl⟩)
  have h2 := h.wf.small
  have h3 : endOf cap ≤ cap + 1 := by unfold endOf; split <;> omega
  omega
theorem SpanR.count : ∀ {l : List Blk} {s t : Nat}, Span s l t → s + 2 * l.length ≤ t
  | [], s, t, h => by have h : s = t := h; subst h; simp
  | b :: l, s, t, ⟨h1, h2, h3⟩ => by
    have := SpanR.count h3
    simp only [List.length_cons]; omega
theorem RaAt.len (h : RaAt S W p cap rs) : rs.length ≤ 1048576 := by
  have h1 := SpanR.count h.wf.span
  have h2 := h.wf.small
  have h3 : endOf cap ≤ cap + 1 := by unfold endOf; split <;> omega
  unfold blks at h1
  rw [List.length_map] at h1
  omega
/-- The cells of the arena's blocks. -/
structure RowC (W : World) (p : Nat) (rs : List RBk) (ao : Option Addr) (c : Nat) : Prop where
  c1 : W.cell? ⟨p, 1, none⟩ = some (.slice ao rs.length c)
  at' : ∀ i r, rs[i]? = some r → ∃ g, ao = some ⟨g, 0, none⟩ ∧ W.cell? ⟨g, i * 4, none⟩ = some (.int .i64 (r.b.a : Nat)) ∧ W.cell? ⟨g, i * 4 + 1, none⟩ = some (.slice (some ⟨r.g, 0, none⟩) r.b.n r.b.n) ∧ W.cell? ⟨g, i * 4 + 2, none⟩ = some (.bool r.b.u) ∧ W.cell? ⟨g, i * 4 + 3, none⟩ = some (.bool r.b.m)
theorem cellsR_len (r : RBk) : (cellsR r).length = 4 := rfl
theorem RaAt.rowC (h : RaAt S W p cap rs) : ∃ ao c, RowC W p rs ao c := by
  obtain ⟨v, h1, h2, _⟩ := h.hd
  have c1 := heap_cell h1 1
  simp at c1
  obtain ⟨ao, c, rfl, _⟩ := ownsRow_form h2
  refine ⟨ao, c, c1, fun i r hi => ?_⟩
  have hlt := (List.getElem?_eq_some_iff.1 hi).1
  obtain ⟨g, cap', cur, e, _, _, _, hc⟩ := ownsRow_some h2 (by omega)
  simp only [Value.slice.injEq] at e
  refine ⟨g, e.1, ?_⟩
  have hj : ∀ j, j < 4 → W.cell? ⟨g, i * 4 + j, none⟩ = (cellsR r)[j]? := fun j hj => by
    rw [hc (i * 4 + j) (by rw [Nat.mul_comm] ; omega)]
    exact flatG_at cellsR_len rs i j r hi hj
  exact ⟨hj 0 (by decide), hj 1 (by decide), hj 2 (by decide), hj 3 (by decide)⟩
/-- Where the used block with that address stands. -/
def isAt (q : Int) (b : Blk) : Bool := b.u && ((b.a : Int) == q)
def findR (bs : List Blk) (q : Int) : Int := match bs.findIdx? (isAt q) with
  | some i => (i : Nat)
  | none => -1
theorem findR_none {bs : List Blk} {q : Int} (h : ∀ b ∈ bs, isAt q b = false) : findR bs q = -1 := by
  unfold findR
  rw [List.findIdx?_eq_none_iff.2 (fun b hb => by simpa using h b hb)]
theorem findR_some {bs : List Blk} {q : Int} {i : Nat} {b : Blk} (hi : bs[i]? = some b) (hb : isAt q b = true) (h : ∀ c ∈ bs.take i, isAt q c = false) : findR bs q = (i : Nat) := by
  unfold findR
  have hlt := (List.getElem?_eq_some_iff.1 hi).1
  have : bs.findIdx? (isAt q) = some i := by
    rw [List.findIdx?_eq_some_iff_getElem]
    refine ⟨hlt, by have := (List.getElem?_eq_some_iff.1 hi).2; rw [this]; exact hb, fun j hj => ?_⟩
    have := h bs[j] (List.mem_take_iff_getElem.2 ⟨j, by omega, rfl⟩)
    simpa using this
  rw [this]
theorem ret_i {a b : Int} (h : a = b) : Ending.returned (.int .i64 a) = .returned (.int .i64 b) := by rw [h]
set_option maxRecDepth 100000 in
theorem rFind_at (h : RaAt S W p cap rs) (q : Int) :
    Calls Tryd.prog 36 #[.pointer (some ⟨p, 0, none⟩), .int .i64 q] W fun e w' => e = .returned (.int .i64 (findR (blks rs) q)) ∧ W = w' := by
  obtain ⟨ao, c, R⟩ := h.rowC
  have c1 := R.c1
  have hlen := h.len
  obtain ⟨n, hn⟩ : ∃ n, rs.length = n := ⟨_, rfl⟩
  rw [hn] at c1 hlen
  have HR := Lib.hid R; have HN := Lib.hid hn; have HL := Lib.hid hlen
  clear h R hn hlen
  go_enter Tryd.func36, Tryd.ntmps36
  go_wp2
  go_loop [5] (fun t5 => ∃ i : Nat, t5 = .int .i64 i ∧ i ≤ n ∧ ∀ b ∈ (blks rs).take i, isAt q b = false) (fun t5 => n - (intOf t5).toNat)
  case atStart => exact ⟨0, rfl, Nat.zero_le _, fun b hb => by simp at hb⟩
  case round =>
    obtain ⟨i, rfl, hi, hno⟩ := hrel
    have HNO := Lib.hid hno
    clear hno
    by_cases hlt : i < n
    · obtain ⟨r, hr⟩ : ∃ r, rs[i]? = some r := ⟨rs[i]'(by rw [HN.out]; exact hlt), by simp [HN.out, hlt]⟩
      obtain ⟨g, rfl, k0, k1, k2, k3⟩ := HR.out.at' i r hr
      have hb : (blks rs)[i]? = some r.b := by unfold blks; rw [List.getElem?_map, hr]; rfl
      have hstep : (blks rs).take (i + 1) = (blks rs).take i ++ [r.b] := by
        obtain ⟨hk, e⟩ := List.getElem?_eq_some_iff.1 hb
        rw [List.take_succ_eq_append_getElem hk, e]
      obtain ⟨u, hu⟩ : ∃ u, r.b.u = u := ⟨_, rfl⟩
      obtain ⟨a, ha⟩ : ∃ a, r.b.a = a := ⟨_, rfl⟩
      rw [hu] at k2
      rw [ha] at k0
      have HS := Lib.hid hstep; have HB := Lib.hid hb; have HU := Lib.hid hu; have HA := Lib.hid ha
      have hlt' : (i : Int) < n := by omega
      have HI6 := Lib.hid (show (i : Int) < 1048577 by have := HL.out; omega)
      have HLT := Lib.hid hlt
      have next : isAt q r.b = false → ∀ b ∈ (blks rs).take (i + 1), isAt q b = false := fun h0 b hb => by
        rw [HS.out] at hb
        rcases List.mem_append.1 hb with hb | hb
        · exact HNO.out b hb
        · rw [List.mem_singleton] at hb; rw [hb]; exact h0
      have HX := Lib.hid next
      clear hstep hb hu ha hlt hi next hr k1 k3
      by_cases hq : (a : Int) = q
      · have hq2 : ((a : Int) == q) = true := by simpa using hq
        have HQ := Lib.hid hq2
        clear hq
        cases u
        · have HI6' := HI6.out
          go_wp2
          go_round
          case rel => exact ⟨i + 1, by go_num, HLT.out, HX.out (by unfold isAt; rw [HU.out]; rfl)⟩
          case measure => have := HLT.out; simp [intOf]; omega
        · have HI6' := HI6.out
          go_wp2
          go_ret
          refine ⟨ret_i (findR_some HB.out ?_ HNO.out).symm, rfl⟩
          unfold isAt
          rw [HU.out, HA.out, HQ.out]; rfl
      · have hq2 : ((a : Int) == q) = false := by simpa using hq
        have HQ := Lib.hid hq2
        have HI6' := HI6.out
        go_wp2
        go_round
        case rel => exact ⟨i + 1, by go_num, HLT.out, HX.out (by unfold isAt; rw [HA.out, HQ.out, Bool.and_false])⟩
        case measure => have := HLT.out; simp [intOf]; omega
    · obtain rfl : i = n := by omega
      have hlt' : ¬ (i : Int) < i := by omega
      go_wp2
      go_ret
      refine ⟨ret_i (findR_none fun b hb => HNO.out b ?_).symm, rfl⟩
      rw [List.take_of_length_le (by unfold blks; rw [List.length_map, HN.out]; exact Nat.le_refl _)]; exact hb
end Go.Proofs.YtelohkppbmahnaaDoor

/- geoderef20: Get, Set. -/
namespace Go.Proofs.YtelohkppbmahnaaDoor
open Go.RowKit

variable {S : Nat → Prop} {W W' : World} {p cap : Nat} {rs : List RBk}
theorem findR_cases (bs : List Blk) (q : Int) : (findR bs q = -1 ∧ blkAt bs q = none) ∨ ∃ i b, bs[i]? = some b ∧ findR bs q = (i : Nat) ∧ blkAt bs q = some b ∧ b.u = true ∧ (b.a : Int) = q := by
  unfold findR blkAt
  cases h : bs.findIdx? (isAt q) with
  | none =>
    left
    refine ⟨rfl, List.find?_eq_none.2 fun b hb => ?_⟩
    have := List.findIdx?_eq_none_iff.1 h b hb
    unfold isAt at this
    simpa using this
  | some i =>
    right
    obtain ⟨hlt, hi, hno⟩ := List.findIdx?_eq_some_iff_getElem.1 h
    refine ⟨i, bs[i], by simp [hlt], rfl, ?_, ?_⟩
    · rw [List.find?_eq_some_iff_getElem]
      refine ⟨by unfold isAt at hi; exact hi, i, hlt, rfl, fun j hj => ?_⟩
      have := hno j hj
      unfold isAt at this
      cases hh : (bs[j].u && ((bs[j].a : Int) == q))
      · rfl
      · exact absurd hh this
    · unfold isAt at hi
      simpa using hi
theorem blks_at {rs : List RBk} {i : Nat} {b : Blk} (h : (blks rs)[i]? = some b) : ∃ r, rs[i]? = some r ∧ r.b = b := by
  unfold blks at h
  rw [List.getElem?_map] at h
  cases hr : rs[i]? with
  | none => rw [hr] at h; simp at h
  | some r => rw [hr] at h; simp at h; exact ⟨r, rfl, h⟩
theorem RaAt.word (h : RaAt S W p cap rs) {r : RBk} (hr : r ∈ rs) {k : Nat} (hk : k < r.b.n) : W.cell? ⟨r.g, k, none⟩ = some (.int .u64 (r.b.ws.getD k 0 : Nat)) := by
  rw [heap_cell (h.wd r hr).1 k]
  unfold Blk.n at hk
  simp [u64s, hk]
theorem ret_ue {a b c d : Int} (h : a = b) (h' : c = d) : Ending.returned (.tuple #[.int .u64 a, .int .i64 c]) = .returned (.tuple #[.int .u64 b, .int .i64 d]) := by rw [h, h']
set_option maxRecDepth 100000 in
theorem rGet_at (h : RaAt S W p cap rs) (q k : Int) :
    Calls Tryd.prog 19 #[.pointer (some ⟨p, 0, none⟩), .int .i64 q, .int .i64 k] W fun e w' => e = .returned (.tuple #[.int .u64 ((getF (blks rs) q k).1 : Nat), .int .i64 (getF (blks rs) q k).2]) ∧ W = w' := by
  obtain ⟨ao, c, R⟩ := h.rowC
  have c1 := R.c1
  have CF := Lib.hid (rFind_at h q)
  have hlen := h.len
  have H := Lib.hid h; have HR := Lib.hid R
  rcases findR_cases (blks rs) q with ⟨h1, h2⟩ | ⟨i, b, h1, h2, h3, h4, h5⟩
  · have hm : ¬ (0 : Int) ≤ -1 := by omega
    rw [h1] at CF
    have e0 : getF (blks rs) q k = (0, 4) := by unfold getF; rw [h2]
    rw [e0]
    clear h R h1 h2 e0 c1 hlen
    go_enter Tryd.func19, Tryd.ntmps19
    go_wp2_with fail
    refine CF.out.mono ?_
    rintro e w1 ⟨rfl, rfl⟩
    go_wp2
    go_ret2
    exact ⟨rfl, rfl⟩
  · obtain ⟨r, hr, rfl⟩ := blks_at h1
    obtain ⟨g, rfl, k0, k1, k2, k3⟩ := R.at' i r hr
    have hri := List.mem_of_getElem? hr
    have hb := h.bound hri
    have hil := (List.getElem?_eq_some_iff.1 hr).1
    rw [h2] at CF
    obtain ⟨n, hn⟩ : ∃ n, r.b.n = n := ⟨_, rfl⟩
    obtain ⟨rg, hrg⟩ : ∃ rg, r.g = rg := ⟨_, rfl⟩
    rw [hn] at k1
    rw [hrg] at k1
    have hi1 : (i : Int) < (rs.length : Nat) := by omega
    have hi0 : ¬ (i : Int) < 0 := by omega
    obtain ⟨L, hL⟩ : ∃ L, rs.length = L := ⟨_, rfl⟩
    rw [hL] at c1 hi1
    have HB := Lib.hid hb; have HN := Lib.hid hn; have HG := Lib.hid hrg; have H3 := Lib.hid h3; have HRI := Lib.hid hri; have HL := Lib.hid hL
    by_cases hk : 0 ≤ k ∧ k < n
    · obtain ⟨kk, rfl⟩ : ∃ kk : Nat, k = kk := ⟨k.toNat, by omega⟩
      have hkn : kk < n := by omega
      have hw := h.word hri (k := kk) (by omega)
      rw [hrg] at hw
      have e0 : getF (blks rs) q kk = (r.b.ws.getD kk 0, 0) := by unfold getF; rw [h3]; dsimp only; rw [if_pos (by omega)]; simp
      rw [e0]
      have hk0 : ¬ (kk : Int) < 0 := by omega
      have hk1 : ¬ (n : Int) ≤ kk := by omega
      have hk1' : ¬ n ≤ kk := by omega
      have hk2 : decide (n ≤ kk) = false := by simpa using hk1'
      have hk3 : (kk : Int) < n := by omega
      obtain ⟨y, hy⟩ : ∃ y, r.b.ws.getD kk 0 = y := ⟨_, rfl⟩
      rw [hy] at hw ⊢
      clear h R hr hri hb h1 h2 h3 h4 h5 hn hrg hL hil hlen e0 hkn hk hy k0 k2 k3
      go_enter Tryd.func19, Tryd.ntmps19
      go_wp2_with fail
      refine CF.out.mono ?_
      rintro e w1 ⟨rfl, rfl⟩
      go_wp2
      go_ret2
      exact ⟨rfl, rfl⟩
    · have e0 : getF (blks rs) q k = (0, 2) := by unfold getF; rw [h3]; dsimp only; rw [if_neg (by omega)]
      rw [e0]
      by_cases hk0 : k < 0
      · clear h R hr hri hb h1 h2 h3 h4 h5 hn hrg hL hil hlen e0 hk k0 k2 k3
        go_enter Tryd.func19, Tryd.ntmps19
        go_wp2_with fail
        refine CF.out.mono ?_
        rintro e w1 ⟨rfl, rfl⟩
        go_wp2
        go_ret2
        exact ⟨rfl, rfl⟩
      · have hk1 : (n : Int) ≤ k := by omega
        clear h R hr hri hb h1 h2 h3 h4 h5 hn hrg hL hil hlen e0 hk k0 k2 k3
        go_enter Tryd.func19, Tryd.ntmps19
        go_wp2_with fail
        refine CF.out.mono ?_
        rintro e w1 ⟨rfl, rfl⟩
        go_wp2
        go_ret2
        exact ⟨rfl, rfl⟩
end Go.Proofs.YtelohkppbmahnaaDoor
