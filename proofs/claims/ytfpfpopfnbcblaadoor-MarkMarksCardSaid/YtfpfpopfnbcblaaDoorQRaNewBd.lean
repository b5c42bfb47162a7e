/- geoderef20: the document's arena in memory; Find. -/
import Derived.Test.YtfpfpopfnbcblaaDoorQWordWalksBd
import Derived.Test.YtfpfpopfnbcblaaDoorQRangeHBd
import Derived.WalkKit
import Derived.WalkSpells
import Derived.BigQuiet
import Derived.RegionTactic
import Derived.ChangeAlike
import Derived.Deep.QuietTactic
import Derived.Lib.Hide
import Derived.Outline
import Derived.Deep.RegionWith
namespace Go.Proofs.YtfpfpopfnbcblaaDoor
open Go.RowKit

/-- A block of the document's arena, and where its words lie. -/
structure RBk where
  g : Nat
  b : Blk
def cellsR (r : RBk) : List Value := [.int .i64 (r.b.a : Nat), .slice (some ⟨r.g, 0, none⟩) r.b.n r.b.n, .bool r.b.u, .bool r.b.m]
def blks (rs : List RBk) : List Blk := rs.map RBk.b
/-- The document's arena in memory: cap words, these blocks; S: the blocks of memory that it has. -/
structure RaAt (S : Nat → Prop) (W : World) (p cap : Nat) (rs : List RBk) : Prop where
  hd : ∃ v, W.heap[p]? = some (.cells #[.int .i64 (cap : Nat), v] 39 (0, 0)) ∧ W.ownsRow 0 36 4 v rs.length (rs.flatMap cellsR) ∧ ∀ g, v.ownBlock = some g → S g
  wd : ∀ r ∈ rs, W.heap[r.g]? = some (.cells (u64s r.b.ws).toArray 44 (0, 0)) ∧ S r.g
  nd : (rs.map RBk.g).Nodup
  sp : S p
  wf : Wf cap (blks rs)
  u64 : ∀ r ∈ rs, ∀ x ∈ r.b.ws, x < 18446744073709551616
variable {S : Nat → Prop} {W W' : World} {p cap : Nat} {rs : List RBk}
theorem RaAt.lt (h : RaAt S W p cap rs) : p < W.heap.size := by
  obtain ⟨v, h1, _⟩ := h.hd
  exact heap_lt h1
theorem RaAt.bound (h : RaAt S W p cap rs) {r : RBk} (hr : r ∈ rs) : 1 ≤ r.b.a ∧ 0 < r.b.n ∧ r.b.a + r.b.n ≤ 1048576 := by
  have h1 := h.wf.span.mem r.b (List.mem_map.2 ⟨r, hr, rfl⟩)
  have h2 := h.wf.small
  have h3 : endOf cap ≤ cap + 1 := by unfold endOf; split <;> omega
  omega
theorem SpanR.count : ∀ {l : List Blk} {s t : Nat}, Span s l t → s + 2 * l.length ≤ t
  | [], s, t, h => by have h : s = t := h; subst h; simp
  | b :: l, s, t, ⟨h1, h2, h3⟩ => by
    have := SpanR.count h3
    simp only [List.length_cons]; omega
theorem RaAt.len (h : RaAt S W p cap rs) : rs.length ≤ 1048576 := by
  have h1 := SpanR.count h.wf.span
  have h2 := h.wf.small
  have h3 : endOf cap ≤ cap + 1 := by unfold endOf; split <;> omega
  unfold blks at h1
  rw [List.length_map] at h1
  omega
/-- The cells of the arena's blocks. -/
structure RowC (W : World) (p : Nat) (rs : List RBk) (ao : Option Addr) (c : Nat) : Prop where
  c1 : W.cell? ⟨p, 1, none⟩ = some (.slice ao rs.length c)
  at' : ∀ i r, rs[i]? = some r → ∃ g, ao = some ⟨g, 0, none⟩ ∧ W.cell? ⟨g, i * 4, none⟩ = some (.int .i64 (r.b.a : Nat)) ∧ W.cell? ⟨g, i * 4 + 1, none⟩ = some (.slice (some ⟨r.g, 0, none⟩) r.b.n r.b.n) ∧ W.cell? ⟨g, i * 4 + 2, none⟩ = some (.bool r.b.u) ∧ W.cell? ⟨g, i * 4 + 3, none⟩ = some (.bool r.b.m)
theorem cellsR_len (r : RBk) : (cellsR r).length = 4 := rfl
theorem RaAt.rowC (h : RaAt S W p cap rs) : ∃ ao c, RowC W p rs ao c := by
  obtain ⟨v, h1, h2, _⟩ := h.hd
  have c1 := heap_cell h1 1
  simp at c1
  obtain ⟨ao, c, rfl, _⟩ := ownsRow_form h2
  refine ⟨ao, c, c1, fun i r hi => ?_⟩
  have hlt := (List.getElem?_eq_some_iff.1 hi).1
  obtain ⟨g, cap', cur, e, _, _, _, hc⟩ := ownsRow_some h2 (by omega)
  simp only [Value.slice.injEq] at e
  refine ⟨g, e.1, ?_⟩
  have hj : ∀ j, j < 4 → W.cell? ⟨g, i * 4 + j, none⟩ = (cellsR r)[j]? := fun j hj => by
    rw [hc (i * 4 + j) (by rw [Nat.mul_comm] ; omega)]
    exact flatG_at cellsR_len rs i j r hi hj
  exact ⟨hj 0 (by decide), hj 1 (by decide), hj 2 (by decide), hj 3 (by decide)⟩
/-- Where the used block with that address stands. -/
def isAt (q : Int) (b : Blk) : Bool := b.u && ((b.a : Int) == q)
def findR (bs : List Blk) (q : Int) : Int := match bs.findIdx? (isAt q) with
  | some i => (i : Nat)
  | none => -1
theorem findR_none {bs : List Blk} {q : Int} (h : ∀ b ∈ bs, isAt q b = false) : findR bs q = -1 := by
  unfold findR
  rw [List.findIdx?_eq_none_iff.2 (fun b hb => by simpa using h b hb)]
theorem findR_some {bs : List Blk} {q : Int} {i : Nat} {b : Blk} (hi : bs[i]? = some b) (hb : isAt q b = true) (h : ∀ c ∈ bs.take i, isAt q c = false) : findR bs q = (i : Nat) := by
  unfold findR
  have hlt := (List.getElem?_eq_some_iff.1 hi).1
  have : bs.findIdx? (isAt q) = some i := by
    rw [List.findIdx?_eq_some_iff_getElem]
    refine ⟨hlt, by have := (List.getElem?_eq_some_iff.1 hi).2; rw [this]; exact hb, fun j hj => ?_⟩
    have := h bs[j] (List.mem_take_iff_getElem.2 ⟨j, by omega, rfl⟩)
    simpa using this
  rw [this]
theorem ret_i {a b : Int} (h : a = b) : Ending.returned (.int .i64 a) = .returned (.int .i64 b) := by rw [h]
set_option maxRecDepth 100000 in
theorem rFind_at (h : RaAt S W p cap rs) (q : Int) :
    Calls Tryd.prog 50 #[.pointer (some ⟨p, 0, none⟩), .int .i64 q] W fun e w' => e = .returned (.int .i64 (findR (blks rs) q)) ∧ W = w' := by
  obtain ⟨ao, c, R⟩ := h.rowC
  have c1 := R.c1
  have hlen := h.len
  obtain ⟨n, hn⟩ : ∃ n, rs.length = n := ⟨_, rfl⟩
  rw [hn] at c1 hlen
  have HR := Lib.hid R; have HN := Lib.hid hn; have HL := Lib.hid hlen
  clear h R hn hlen
  go_enter Tryd.func50, Tryd.ntmps50
  go_wp2
  go_loop [5] (fun t5 => ∃ i : Nat, t5 = .int .i64 i ∧ i ≤ n ∧ ∀ b ∈ (blks rs).take i, isAt q b = false) (fun t5 => n - (intOf t5).toNat)
  case atStart => exact ⟨0, rfl, Nat.zero_le _, fun b hb => by simp at hb⟩
  case round =>
    obtain ⟨i, rfl, hi, hno⟩ := hrel
    have HNO := Lib.hid hno
    clear hno
    by_cases hlt : i < n
    · obtain ⟨r, hr⟩ : ∃ r, rs[i]? = some r := ⟨rs[i]'(by rw [HN.out]; exact hlt), by simp [HN.out, hlt]⟩
      obtain ⟨g, rfl, k0, k1, k2, k3⟩ := HR.out.at' i r hr
      have hb : (blks rs)[i]? = some r.b := by unfold blks; rw [List.getElem?_map, hr]; rfl
      have hstep : (blks rs).take (i + 1) = (blks rs).take i ++ [r.b] := by
        obtain ⟨hk, e⟩ := List.getElem?_eq_some_iff.1 hb
        rw [List.take_succ_eq_append_getElem hk, e]
      obtain ⟨u, hu⟩ : ∃ u, r.b.u = u := ⟨_, rfl⟩
      obtain ⟨a, ha⟩ : ∃ a, r.b.a = a := ⟨_, rfl⟩
      rw [hu] at k2
      rw [ha] at k0
      have HS := Lib.hid hstep; have HB := Lib.hid hb; have HU := Lib.hid hu; have HA := Lib.hid ha
      have hlt' : (i : Int) < n := by omega
      have HI6 := Lib.hid (show (i : Int) < 1048577 by have := HL.out; omega)
      have HLT := Lib.hid hlt
      have next : isAt q r.b = false → ∀ b ∈ (blks rs).take (i + 1), isAt q b = false := fun h0 b hb => by
        rw [HS.out] at hb
        rcases List.mem_append.1 hb with hb | hb
        · exact HNO.out b hb
        · rw [List.mem_singleton] at hb; rw [hb]; exact h0
      have HX := Lib.hid next
      clear hstep hb hu ha hlt hi next hr k1 k3
      by_cases hq : (a : Int) = q
      · have hq2 : ((a : Int) == q) = true := by simpa using hq
        have HQ := Lib.hid hq2
        clear hq
        cases u
        · have HI6' := HI6.out
          go_wp2
          go_round
          case rel => exact ⟨i + 1, by go_num, HLT.out, HX.out (by unfold isAt; rw [HU.out]; rfl)⟩
          case measure => have := HLT.out; simp [intOf]; omega
        · have HI6' := HI6.out
          go_wp2
          go_ret
          refine ⟨ret_i (findR_some HB.out ?_ HNO.out).symm, rfl⟩
          unfold isAt
          rw [HU.out, HA.out, HQ.out]; rfl
      · have hq2 : ((a : Int) == q) = false := by simpa using hq
        have HQ := Lib.hid hq2
        have HI6' := HI6.out
        go_wp2
        go_round
        case rel => exact ⟨i + 1, by go_num, HLT.out, HX.out (by unfold isAt; rw [HA.out, HQ.out, Bool.and_false])⟩
        case measure => have := HLT.out; simp [intOf]; omega
    · obtain rfl : i = n := by omega
      have hlt' : ¬ (i : Int) < i := by omega
      go_wp2
      go_ret
      refine ⟨ret_i (findR_none fun b hb => HNO.out b ?_).symm, rfl⟩
      rw [List.take_of_length_le (by unfold blks; rw [List.length_map, HN.out]; exact Nat.le_refl _)]; exact hb
end Go.Proofs.YtfpfpopfnbcblaaDoor

/- geoderef20: Get, Set. -/
namespace Go.Proofs.YtfpfpopfnbcblaaDoor
open Go.RowKit

variable {S : Nat → Prop} {W W' : World} {p cap : Nat} {rs : List RBk}
theorem findR_cases (bs : List Blk) (q : Int) : (findR bs q = -1 ∧ blkAt bs q = none) ∨ ∃ i b, bs[i]? = some b ∧ findR bs q = (i : Nat) ∧ blkAt bs q = some b ∧ b.u = true ∧ (b.a : Int) = q := by
  unfold findR blkAt
  cases h : bs.findIdx? (isAt q) with
  | none =>
    left
    refine ⟨rfl, List.find?_eq_none.2 fun b hb => ?_⟩
    have := List.findIdx?_eq_none_iff.1 h b hb
    unfold isAt at this
    simpa using this
  | some i =>
    right
    obtain ⟨hlt, hi, hno⟩ := List.findIdx?_eq_some_iff_getElem.1 h
    refine ⟨i, bs[i], by simp [hlt], rfl, ?_, ?_⟩
    · rw [List.find?_eq_some_iff_getElem]
      refine ⟨by unfold isAt at hi; exact hi, i, hlt, rfl, fun j hj => ?_⟩
      have := hno j hj
      unfold isAt at this
      cases hh : (bs[j].u && ((bs[j].a : Int) == q))
      · rfl
      · exact absurd hh this
    · unfold isAt at hi
      simpa using hi
theorem blks_at {rs : List RBk} {i : Nat} {b : Blk} (h : (blks rs)[i]? = some b) : ∃ r, rs[i]? = some r ∧ r.b = b := by
  unfold blks at h
  rw [List.getElem?_map] at h
  cases hr : rs[i]? with
  | none => rw [hr] at h; simp at h
  | some r => rw [hr] at h; simp at h; exact ⟨r, rfl, h⟩
theorem RaAt.word (h : RaAt S W p cap rs) {r : RBk} (hr : r ∈ rs) {k : Nat} (hk : k < r.b.n) : W.cell? ⟨r.g, k, none⟩ = some (.int .u64 (r.b.ws.getD k 0 : Nat)) := by
  rw [heap_cell (h.wd r hr).1 k]
  unfold Blk.n at hk
  simp [u64s, hk]
theorem ret_ue {a b c d : Int} (h : a = b) (h' : c = d) : Ending.returned (.tuple #[.int .u64 a, .int .i64 c]) = .returned (.tuple #[.int .u64 b, .int .i64 d]) := by rw [h, h']
set_option maxRecDepth 100000 in
theorem rGet_at (h : RaAt S W p cap rs) (q k : Int) :
    Calls Tryd.prog 49 #[.pointer (some ⟨p, 0, none⟩), .int .i64 q, .int .i64 k] W fun e w' => e = .returned (.tuple #[.int .u64 ((getF (blks rs) q k).1 : Nat), .int .i64 (getF (blks rs) q k).2]) ∧ W = w' := by
  obtain ⟨ao, c, R⟩ := h.rowC
  have c1 := R.c1
  have CF := Lib.hid (rFind_at h q)
  have hlen := h.len
  have H := Lib.hid h; have HR := Lib.hid R
  rcases findR_cases (blks rs) q with ⟨h1, h2⟩ | ⟨i, b, h1, h2, h3, h4, h5⟩
  · have hm : ¬ (0 : Int) ≤ -1 := by omega
    rw [h1] at CF
    have e0 : getF (blks rs) q k = (0, 4) := by unfold getF; rw [h2]
    rw [e0]
    clear h R h1 h2 e0 c1 hlen
    go_enter Tryd.func49, Tryd.ntmps49
    go_wp2_with fail
    refine CF.out.mono ?_
    rintro e w1 ⟨rfl, rfl⟩
    go_wp2
    go_ret2
    exact ⟨rfl, rfl⟩
  · obtain ⟨r, hr, rfl⟩ := blks_at h1
    obtain ⟨g, rfl, k0, k1, k2, k3⟩ := R.at' i r hr
    have hri := List.mem_of_getElem? hr
    have hb := h.bound hri
    have hil := (List.getElem?_eq_some_iff.1 hr).1
    rw [h2] at CF
    obtain ⟨n, hn⟩ : ∃ n, r.b.n = n := ⟨_, rfl⟩
    obtain ⟨rg, hrg⟩ : ∃ rg, r.g = rg := ⟨_, rfl⟩
    rw [hn] at k1
    rw [hrg] at k1
    have hi1 : (i : Int) < (rs.length : Nat) := by omega
    have hi0 : ¬ (i : Int) < 0 := by omega
    obtain ⟨L, hL⟩ : ∃ L, rs.length = L := ⟨_, rfl⟩
    rw [hL] at c1 hi1
    have HB := Lib.hid hb; have HN := Lib.hid hn; have HG := Lib.hid hrg; have H3 := Lib.hid h3; have HRI := Lib.hid hri; have HL := Lib.hid hL
    by_cases hk : 0 ≤ k ∧ k < n
    · obtain ⟨kk, rfl⟩ : ∃ kk : Nat, k = kk := ⟨k.toNat, by omega⟩
      have hkn : kk < n := by omega
      have hw := h.word hri (k := kk) (by omega)
      rw [hrg] at hw
      have e0 : getF (blks rs) q kk = (r.b.ws.getD kk 0, 0) := by unfold getF; rw [h3]; dsimp only; rw [if_pos (by omega)]; simp
      rw [e0]
      have hk0 : ¬ (kk : Int) < 0 := by omega
      have hk1 : ¬ (n : Int) ≤ kk := by omega
      have hk1' : ¬ n ≤ kk := by omega
      have hk2 : decide (n ≤ kk) = false := by simpa using hk1'
      have hk3 : (kk : Int) < n := by omega
      obtain ⟨y, hy⟩ : ∃ y, r.b.ws.getD kk 0 = y := ⟨_, rfl⟩
      rw [hy] at hw ⊢
      clear h R hr hri hb h1 h2 h3 h4 h5 hn hrg hL hil hlen e0 hkn hk hy k0 k2 k3
      go_enter Tryd.func49, Tryd.ntmps49
      go_wp2_with fail
      refine CF.out.mono ?_
      rintro e w1 ⟨rfl, rfl⟩
      go_wp2
      go_ret2
      exact ⟨rfl, rfl⟩
    · have e0 : getF (blks rs) q k = (0, 2) := by unfold getF; rw [h3]; dsimp only; rw [if_neg (by omega)]
      rw [e0]
      by_cases hk0 : k < 0
      · clear h R hr hri hb h1 h2 h3 h4 h5 hn hrg hL hil hlen e0 hk k0 k2 k3
        go_enter Tryd.func49, Tryd.ntmps49
        go_wp2_with fail
        refine CF.out.mono ?_
        rintro e w1 ⟨rfl, rfl⟩
        go_wp2
        go_ret2
        exact ⟨rfl, rfl⟩
      · have hk1 : (n : Int) ≤ k := by omega
        clear h R hr hri hb h1 h2 h3 h4 h5 hn hrg hL hil hlen e0 hk k0 k2 k3
        go_enter Tryd.func49, Tryd.ntmps49
        go_wp2_with fail
        refine CF.out.mono ?_
        rintro e w1 ⟨rfl, rfl⟩
        go_wp2
        go_ret2
        exact ⟨rfl, rfl⟩
end Go.Proofs.YtfpfpopfnbcblaaDoor

/- geoderef20: Set. -/
namespace Go.Proofs.YtfpfpopfnbcblaaDoor
open Go.RowKit

variable {S : Nat → Prop} {W W' : World} {p cap : Nat} {rs : List RBk}
/-- One block turned: its words. -/
def putR (a k x : Nat) (r : RBk) : RBk := if r.b.a = a then ⟨r.g, ⟨r.b.a, r.b.ws.set k x, r.b.u, r.b.m⟩⟩ else r
theorem putR_g (a k x : Nat) (r : RBk) : (putR a k x r).g = r.g := by unfold putR; split <;> rfl
theorem putR_cells (a k x : Nat) (r : RBk) : cellsR (putR a k x r) = cellsR r := by
  unfold putR
  split
  · unfold cellsR Blk.n; simp
  · rfl
theorem putR_blks (a k x : Nat) (rs : List RBk) : blks (rs.map (putR a k x)) = (blks rs).map fun c => if c.a = a then ⟨c.a, c.ws.set k x, c.u, c.m⟩ else c := by
  unfold blks
  rw [List.map_map, List.map_map]
  refine List.map_congr_left fun r _ => ?_
  show (putR a k x r).b = if r.b.a = a then _ else r.b
  unfold putR
  split <;> rfl
theorem setwf {bs : List Blk} {m : Nat} (hw : Wf m bs) (f : Blk → Blk) (hf : ∀ b, (f b).a = b.a ∧ (f b).n = b.n ∧ (f b).u = b.u ∧ (f b).m = b.m) : Wf m (bs.map f) := by
  refine ⟨hw.small, Span.map (fun b => ⟨(hf b).1, (hf b).2.1⟩) hw.span, ?_, ?_⟩
  · intro b hb c hc
    obtain ⟨b', hb', rfl⟩ := List.mem_map.1 hb
    obtain ⟨c', hc', rfl⟩ := List.mem_map.1 hc
    obtain ⟨e1, e2, e3, _⟩ := hf b'
    obtain ⟨f1, _, f3, _⟩ := hf c'
    rw [e1, e2, e3, f1, f3]
    exact hw.two b' hb' c' hc'
  · intro b hb
    obtain ⟨b', hb', rfl⟩ := List.mem_map.1 hb
    obtain ⟨_, _, e3, e4⟩ := hf b'
    rw [e3, e4]
    exact hw.unm b' hb'
theorem spanR_nodup : ∀ {l : List Blk} {s t : Nat}, Span s l t → (l.map (·.a)).Nodup
  | [], _, _, _ => .nil
  | b :: l, s, t, ⟨h1, h2, h3⟩ => by
    rw [List.map_cons]
    refine List.nodup_cons.2 ⟨fun hm => ?_, spanR_nodup h3⟩
    obtain ⟨c, hc, e⟩ := List.mem_map.1 hm
    have := h3.mem c hc
    omega
/-- The blocks of the document's arena, wherever their words lie. -/
def RaV (S : Nat → Prop) (W : World) (p cap : Nat) (bs : List Blk) : Prop := ∃ rs, RaAt S W p cap rs ∧ blks rs = bs
theorem RaAt.put (h : RaAt S W p cap rs) {i : Nat} {r : RBk} (hr : rs[i]? = some r) {k x : Nat} (hk : k < r.b.n) (hx : x < 18446744073709551616) (hp : r.g ≠ p ∧ ∀ v, W.heap[p]? = some (.cells #[.int .i64 (cap : Nat), v] 39 (0, 0)) → v.ownBlock ≠ some r.g) : RaAt S (W.setCell ⟨r.g, k, none⟩ (.int .u64 (x : Nat))) p cap (rs.map (putR r.b.a k x)) := by
  obtain ⟨v, h1, h2, h3⟩ := h.hd
  have hri := List.mem_of_getElem? hr
  have u : Upd (fun b => b = r.g) W (W.setCell ⟨r.g, k, none⟩ (.int .u64 (x : Nat))) := (Upd.refl (fun b => b = r.g) W).setCell (p := ⟨r.g, k, none⟩) (.inl rfl) _
  refine ⟨⟨v, u.heap_some h1 (fun e => hp.1 e.symm), ?_, h3⟩, fun q hq => ?_, ?_, h.sp, ?_, fun q hq y hy => ?_⟩
  · rw [List.length_map, List.flatMap_map]
    have : (rs.flatMap fun a => cellsR (putR r.b.a k x a)) = rs.flatMap cellsR := by simp only [putR_cells]
    rw [this]
    exact ownsRow_upd h2 u (fun b hb e => hp.2 v h1 (by rw [hb, e]))
  · obtain ⟨q', hq', rfl⟩ := List.mem_map.1 hq
    obtain ⟨w1, w2⟩ := h.wd q' hq'
    rw [putR_g]
    refine ⟨?_, w2⟩
    by_cases e : q'.b.a = r.b.a
    · have hb : q'.b = r.b := h.wf.span.inj (List.mem_map.2 ⟨q', hq', rfl⟩) (List.mem_map.2 ⟨r, hri, rfl⟩) e
      have hqr : q' = r := by
        obtain ⟨j, hj⟩ := List.getElem?_of_mem hq'
        have hi := (List.getElem?_eq_some_iff.1 hr).1
        have hj1 := (List.getElem?_eq_some_iff.1 hj).1
        by_cases hij : i = j
        · subst hij; rw [hr] at hj; injection hj with hj; exact hj.symm
        · exfalso
          have hsp := spanR_nodup h.wf.span
          have a1 : ((blks rs).map (·.a))[i]? = some r.b.a := by unfold blks; rw [List.getElem?_map, List.getElem?_map, hr]; rfl
          have a2 : ((blks rs).map (·.a))[j]? = some r.b.a := by unfold blks; rw [List.getElem?_map, List.getElem?_map, hj]; simp [e]
          exact hij ((List.getElem?_inj (by simpa [blks] using hi) hsp).1 (a1.trans a2.symm))
      subst hqr
      have : putR q'.b.a k x q' = ⟨q'.g, ⟨q'.b.a, q'.b.ws.set k x, q'.b.u, q'.b.m⟩⟩ := by unfold putR; rw [if_pos rfl]
      rw [this]
      have := heap_set_at w1 k (.int .u64 (x : Nat))
      rw [this]
      simp [u64s]
    · have : putR r.b.a k x q' = q' := by unfold putR; rw [if_neg e]
      rw [this]
      refine u.heap_some w1 (fun eg => ?_)
      obtain ⟨j, hj⟩ := List.getElem?_of_mem hq'
      have hi := (List.getElem?_eq_some_iff.1 hr).1
      have a1 : (rs.map RBk.g)[i]? = some r.g := by rw [List.getElem?_map, hr]; rfl
      have a2 : (rs.map RBk.g)[j]? = some r.g := by rw [List.getElem?_map, hj]; simp [eg]
      have hij : i = j := (List.getElem?_inj (by simpa using hi) h.nd).1 (a1.trans a2.symm)
      subst hij; rw [hr] at hj; injection hj with hj; exact e (by rw [hj])
  · rw [List.map_map]
    have : (RBk.g ∘ putR r.b.a k x) = RBk.g := by funext q; exact putR_g _ _ _ q
    rw [this]; exact h.nd
  · rw [putR_blks]
    refine setwf h.wf _ (fun b => ?_)
    split
    · exact ⟨rfl, by simp [Blk.n], rfl, rfl⟩
    · exact ⟨rfl, rfl, rfl, rfl⟩
  · obtain ⟨q', hq', rfl⟩ := List.mem_map.1 hq
    unfold putR at hy
    split at hy
    · rcases List.mem_or_eq_of_mem_set hy with hy | hy
      · exact h.u64 q' hq' y hy
      · rw [hy]; exact hx
    · exact h.u64 q' hq' y hy
theorem RaAt.apart (h : RaAt S W p cap rs) {r : RBk} (hr : r ∈ rs) : r.g ≠ p ∧ ∀ v, W.heap[p]? = some (.cells #[.int .i64 (cap : Nat), v] 39 (0, 0)) → v.ownBlock ≠ some r.g := by
  obtain ⟨v, h1, h2, h3⟩ := h.hd
  have hw := (h.wd r hr).1
  refine ⟨fun e => by rw [e, h1] at hw; simp at hw, fun v' h1' hv => ?_⟩
  have : v' = v := by rw [h1] at h1'; simpa using h1'.symm
  subst this
  rcases h2.2 with ⟨rfl, _⟩ | ⟨q, c2, cur, rfl, _, hq, _⟩
  · simp [Value.ownBlock] at hv
  · simp [Value.ownBlock] at hv; subst hv
    rw [hw] at hq; simp at hq
theorem RaAt.own (h : RaAt S W p cap rs) (T : Nat → Prop) (hT : ∀ b, S b → T b) : RaAt T W p cap rs := by
  obtain ⟨v, h1, h2, h3⟩ := h.hd
  exact ⟨⟨v, h1, h2, fun g hg => hT g (h3 g hg)⟩, fun r hr => ⟨(h.wd r hr).1, hT _ (h.wd r hr).2⟩, h.nd, hT _ h.sp, h.wf, h.u64⟩
theorem RaAt.upd {T : Nat → Prop} (h : RaAt S W p cap rs) (u : Upd T W W') (hT : ∀ b, S b → ¬ T b) : RaAt S W' p cap rs := by
  obtain ⟨v, h1, h2, h3⟩ := h.hd
  exact ⟨⟨v, u.heap_some h1 (hT _ h.sp), ownsRow_upd h2 u (fun b hb => hT b (h3 b hb)), h3⟩, fun r hr => ⟨u.heap_some (h.wd r hr).1 (hT _ (h.wd r hr).2), (h.wd r hr).2⟩, h.nd, h.sp, h.wf, h.u64⟩
theorem RaAt.below (h : RaAt S W p cap rs) (hb : Below W.heap.size W W') : RaAt S W' p cap rs := h.upd (T := fun _ => False) (Upd.of_below hb) (fun _ _ h => h)
/-- What Set leaves. -/
def SetPost (S : Nat → Prop) (W : World) (p cap : Nat) (bs : List Blk) (q k : Int) (x : Nat) (e : Ending) (W' : World) : Prop :=
  e = .returned (.int .i64 (setF bs q k x).1) ∧ RaV S W' p cap (setF bs q k x).2 ∧ Upd S W W'
set_option maxRecDepth 100000 in
theorem rSet_at (h : RaAt S W p cap rs) (q k : Int) (x : Nat) (hx : x < 18446744073709551616) :
    Calls Tryd.prog 22 #[.pointer (some ⟨p, 0, none⟩), .int .i64 q, .int .i64 k, .int .u64 x] W (SetPost S W p cap (blks rs) q k x) := by
  have CG := Lib.hid (rGet_at h q k)
  have H := Lib.hid h; have HX := Lib.hid hx
  rcases findR_cases (blks rs) q with ⟨h1, h2⟩ | ⟨i, b, h1, h2, h3, h4, h5⟩
  · have e0 : getF (blks rs) q k = (0, 4) := by unfold getF; rw [h2]
    have e1 : setF (blks rs) q k x = (4, blks rs) := by unfold setF; rw [h2]
    rw [e0] at CG
    have E1 := Lib.hid e1
    clear h h1 h2 e0 e1 hx
    go_enter Tryd.func22, Tryd.ntmps22
    go_wp2_with fail
    refine CG.out.mono ?_
    rintro e w1 ⟨rfl, rfl⟩
    go_wp2
    go_ret
    unfold SetPost
    rw [E1.out]
    exact ⟨rfl, ⟨rs, H.out, rfl⟩, Upd.refl _ _⟩
  · obtain ⟨r, hr, rfl⟩ := blks_at h1
    by_cases hk : 0 ≤ k ∧ k < r.b.n
    · obtain ⟨kk, rfl⟩ : ∃ kk : Nat, k = kk := ⟨k.toNat, by omega⟩
      have hkn : kk < r.b.n := by omega
      have e0 : getF (blks rs) q kk = (r.b.ws.getD kk 0, 0) := by unfold getF; rw [h3]; dsimp only; rw [if_pos (by omega)]; simp
      have e1 : setF (blks rs) q kk x = (0, blks (rs.map (putR r.b.a kk x))) := by unfold setF; rw [h3]; dsimp only; rw [if_pos (by omega), putR_blks]; simp
      rw [e0] at CG
      have E1 := Lib.hid e1
      have h' := h.below (Below.refl W.heap.size W).drew
      have CF := Lib.hid (rFind_at h' q)
      rw [h2] at CF
      obtain ⟨ao, c, R⟩ := h'.rowC
      obtain ⟨g, rfl, k0, k1, k2, k3⟩ := R.at' i r hr
      have c1 := R.c1
      have hri := List.mem_of_getElem? hr
      have hw := h'.word hri hkn
      have hfz : W.drew.frozen? ⟨r.g, kk, none⟩ = false := heap_frozen (h'.wd r hri).1 kk
      have hap := h'.apart hri
      have hput := h'.put hr hkn hx hap
      have hS := (h.wd r hri).2
      have hb := h.bound hri
      have hil := (List.getElem?_eq_some_iff.1 hr).1
      have hlen := h.len
      obtain ⟨n, hn⟩ : ∃ n, r.b.n = n := ⟨_, rfl⟩
      obtain ⟨rg, hrg⟩ : ∃ rg, r.g = rg := ⟨_, rfl⟩
      obtain ⟨L, hL⟩ : ∃ L, rs.length = L := ⟨_, rfl⟩
      rw [hn, hrg] at k1
      rw [hrg] at hw hfz hput
      rw [hL] at c1
      obtain ⟨y, hy⟩ : ∃ y, r.b.ws.getD kk 0 = y := ⟨_, rfl⟩
      rw [hy] at hw CG
      have hi1 : (i : Int) < (L : Nat) := by omega
      have hi0 : (0 : Int) ≤ i := by omega
      have hi2 : i < L := by omega
      have hk3 : (kk : Int) < (n : Nat) := by omega
      have hk4 : (0 : Int) ≤ kk := by omega
      have HPUT := Lib.hid hput; have HS := Lib.hid hS; have HG := Lib.hid hrg
      clear h h' R hr hri hb h1 h2 h3 h4 h5 hn hrg hL hil hlen e0 e1 hk hkn k0 k2 k3 hap hput hS hx hy
      go_enter Tryd.func22, Tryd.ntmps22
      go_wp2_with fail
      refine CG.out.mono ?_
      rintro e w1 ⟨rfl, rfl⟩
      go_wp2
      go_region_with (refine CF.out.mono ?_; rintro e w1 ⟨rfl, hw1⟩; subst hw1)
      all_goals
        go_wp2
        go_ret
        unfold SetPost
        rw [E1.out]
        refine ⟨rfl, ⟨_, HPUT.out, rfl⟩, (Upd.refl S W).drew.setCell (p := ⟨rg, kk, none⟩) (.inl (by show S rg; rw [← HG.out]; exact HS.out)) _⟩
    · have e0 : getF (blks rs) q k = (0, 2) := by unfold getF; rw [h3]; dsimp only; rw [if_neg (by omega)]
      have e1 : setF (blks rs) q k x = (2, blks rs) := by unfold setF; rw [h3]; dsimp only; rw [if_neg (by omega)]
      rw [e0] at CG
      have E1 := Lib.hid e1
      clear h hr h1 h2 h3 h4 h5 e0 e1 hx hk
      go_enter Tryd.func22, Tryd.ntmps22
      go_wp2_with fail
      refine CG.out.mono ?_
      rintro e w1 ⟨rfl, rfl⟩
      go_wp2
      go_ret
      unfold SetPost
      rw [E1.out]
      exact ⟨rfl, ⟨rs, H.out, rfl⟩, Upd.refl _ _⟩
end Go.Proofs.YtfpfpopfnbcblaaDoor

/- geoderef20: Take, plain. -/
namespace Go.Proofs.YtfpfpopfnbcblaaDoor

/-- The place of the best block among the first ones. -/
def BestP (n : Int) (l : List Blk) (t : Int) : Prop :=
  (t = -1 ∧ ∀ b ∈ l, fits n b = false) ∨ ∃ j b, l[j]? = some b ∧ t = (j : Nat) ∧ fits n b = true ∧ ∀ (j' : Nat) (c : Blk), l[j']? = some c → fits n c = true → b.n < c.n ∨ (b.n = c.n ∧ j ≤ j')
theorem BestP.nil (n : Int) : BestP n [] (-1) := .inl ⟨rfl, fun b hb => by simp at hb⟩
theorem BestP.unfit {n : Int} {l : List Blk} {t : Int} (h : BestP n l t) (b : Blk) (hb : fits n b = false) : BestP n (l ++ [b]) t := by
  rcases h with ⟨rfl, h⟩ | ⟨j, c, hj, rfl, hf, hm⟩
  · refine .inl ⟨rfl, fun c hc => ?_⟩
    rcases List.mem_append.1 hc with hc | hc
    · exact h c hc
    · rw [List.mem_singleton] at hc; rw [hc]; exact hb
  · have hlt := (List.getElem?_eq_some_iff.1 hj).1
    refine .inr ⟨j, c, by rw [List.getElem?_append_left hlt]; exact hj, rfl, hf, fun j' d hd hfd => ?_⟩
    by_cases e : j' < l.length
    · rw [List.getElem?_append_left e] at hd; exact hm j' d hd hfd
    · rw [List.getElem?_append_right (by omega)] at hd
      have := (List.getElem?_eq_some_iff.1 hd).1
      simp at this
      rw [this] at hd
      simp at hd
      rw [← hd, hb] at hfd; cases hfd
theorem BestP.first {n : Int} {l : List Blk} (h : ∀ b ∈ l, fits n b = false) (b : Blk) (hb : fits n b = true) : BestP n (l ++ [b]) (l.length : Nat) := by
  refine .inr ⟨l.length, b, by simp, rfl, hb, fun j' d hd hfd => ?_⟩
  by_cases e : j' < l.length
  · rw [List.getElem?_append_left e] at hd
    rw [h d (List.mem_of_getElem? hd)] at hfd; cases hfd
  · rw [List.getElem?_append_right (by omega)] at hd
    have := (List.getElem?_eq_some_iff.1 hd).1
    simp at this
    rw [this] at hd
    simp at hd
    right; rw [← hd]; exact ⟨rfl, by omega⟩
theorem BestP.better {n : Int} {l : List Blk} {j : Nat} {c : Blk} (_ : l[j]? = some c) (hm : ∀ (j' : Nat) (d : Blk), l[j']? = some d → fits n d = true → c.n < d.n ∨ (c.n = d.n ∧ j ≤ j')) (b : Blk) (hb : fits n b = true) (hlt : b.n < c.n) : BestP n (l ++ [b]) (l.length : Nat) := by
  refine .inr ⟨l.length, b, by simp, rfl, hb, fun j' d hd hfd => ?_⟩
  by_cases e : j' < l.length
  · rw [List.getElem?_append_left e] at hd
    have := hm j' d hd hfd
    left; omega
  · rw [List.getElem?_append_right (by omega)] at hd
    have := (List.getElem?_eq_some_iff.1 hd).1
    simp at this
    rw [this] at hd
    simp at hd
    right; rw [← hd]; exact ⟨rfl, by omega⟩
theorem BestP.worse {n : Int} {l : List Blk} {j : Nat} {c : Blk} (hj : l[j]? = some c) (hf : fits n c = true) (hm : ∀ (j' : Nat) (d : Blk), l[j']? = some d → fits n d = true → c.n < d.n ∨ (c.n = d.n ∧ j ≤ j')) (b : Blk) (hge : c.n ≤ b.n) : BestP n (l ++ [b]) (j : Nat) := by
  have hlt := (List.getElem?_eq_some_iff.1 hj).1
  refine .inr ⟨j, c, by rw [List.getElem?_append_left hlt]; exact hj, rfl, hf, fun j' d hd hfd => ?_⟩
  by_cases e : j' < l.length
  · rw [List.getElem?_append_left e] at hd; exact hm j' d hd hfd
  · rw [List.getElem?_append_right (by omega)] at hd
    have := (List.getElem?_eq_some_iff.1 hd).1
    simp at this
    rw [this] at hd
    simp at hd
    rw [← hd]; omega
theorem span_lt : ∀ {l : List Blk} {s t : Nat}, Span s l t → ∀ {i j : Nat} {b c : Blk}, l[i]? = some b → l[j]? = some c → i < j → b.a < c.a
  | [], _, _, _, i, j, b, c, hi, _, _ => by simp at hi
  | d :: l, s, t, ⟨h1, h2, h3⟩, 0, j + 1, b, c, hi, hj, _ => by
    simp at hi hj
    have := h3.mem c (List.mem_of_getElem? hj)
    rw [← hi]; omega
  | d :: l, s, t, ⟨h1, h2, h3⟩, i + 1, j + 1, b, c, hi, hj, hij => by
    simp at hi hj
    exact span_lt h3 hi hj (by omega)
/-- The best place tells what Take finds. -/
theorem BestP.pick {n : Int} {l : List Blk} {t : Int} {s e : Nat} (h : BestP n l t) (hs : Span s l e) : (t = -1 ∧ pickB n l = none) ∨ ∃ j b, l[j]? = some b ∧ t = (j : Nat) ∧ pickB n l = some b ∧ b.u = false ∧ n ≤ b.n := by
  rcases h with ⟨rfl, h⟩ | ⟨j, b, hj, rfl, hf, hm⟩
  · left
    refine ⟨rfl, ?_⟩
    rcases pickB_spec n l with ⟨h1, _⟩ | ⟨c, hc, h1, h2, h3, _⟩
    · exact h1
    · have := h c hc
      rw [(fits_iff n c).2 ⟨h2, h3⟩] at this; cases this
  · right
    have hb := (fits_iff n b).1 hf
    have hbl := List.mem_of_getElem? hj
    rcases pickB_spec n l with ⟨_, h2⟩ | ⟨c, hc, h1, h2, h3, h4⟩
    · have := h2 b hbl hb.1; omega
    · refine ⟨j, b, hj, rfl, ?_, hb⟩
      obtain ⟨k, hk⟩ := List.getElem?_of_mem hc
      have m1 := hm k c hk ((fits_iff n c).2 ⟨h2, h3⟩)
      have m2 := h4 b hbl hb.1 hb.2
      have hkj : k = j := by
        by_cases e1 : k < j
        · omega
        · by_cases e2 : j < k
          · have := span_lt hs hj hk e2; omega
          · omega
      subst hkj
      rw [hj] at hk; injection hk with hk
      rw [h1, hk]
/-- What Take makes of the blocks, by the place. -/
theorem takeF_at {n : Int} (hn : 1 ≤ n) {l : List Blk} {s e j : Nat} {b : Blk} (hs : Span s l e) (hj : l[j]? = some b) (hp : pickB n l = some b) : takeF l n = (b.a, 0, l.take j ++ takeB n b ++ l.drop (j + 1)) := by
  have hlt := (List.getElem?_eq_some_iff.1 hj).1
  have hb : l[j] = b := (List.getElem?_eq_some_iff.1 hj).2
  have e0 : l = l.take j ++ [b] ++ l.drop (j + 1) := by
    rw [← hb, List.append_assoc, List.singleton_append, ← List.drop_eq_getElem_cons hlt, List.take_append_drop]
  unfold takeF
  rw [if_neg (by omega), hp]
  dsimp only
  have h2 := hs
  rw [e0] at h2
  have := flat_at h2 (takeB n b)
  rw [← e0] at this
  rw [this]
theorem takeB_span {n : Nat} {b : Blk} (h1 : 1 ≤ n) (h2 : n ≤ b.n) : Span b.a (takeB n b) (b.a + b.n + 1) := by
  unfold takeB
  split
  · rename_i h
    have e : (zeros (b.n - n - 1)).length = b.n - n - 1 := by simp [zeros]
    have e2 : (zeros n).length = n := by simp [zeros]
    refine ⟨rfl, by show 0 < (zeros _).length; simp [zeros]; omega, ?_, by show 0 < (zeros _).length; simp [zeros]; omega, ?_⟩
    · show b.a + (n : Int).toNat + 1 = b.a + (zeros (n : Int).toNat).length + 1; simp [zeros]
    · show b.a + (zeros (n : Int).toNat).length + 1 + (zeros (b.n - (n : Int).toNat - 1)).length + 1 = _
      simp [zeros]; omega
  · refine ⟨rfl, by show 0 < (zeros _).length; simp [zeros]; omega, ?_⟩
    show b.a + (zeros b.n).length + 1 = _
    simp [zeros]
theorem takeF_wf {m n j : Nat} {l : List Blk} {b : Blk} (hw : Wf m l) (h1 : 1 ≤ n) (hj : l[j]? = some b) (hu : b.u = false) (hn : n ≤ b.n) : Wf m (l.take j ++ takeB n b ++ l.drop (j + 1)) := by
  have hlt := (List.getElem?_eq_some_iff.1 hj).1
  have hb : l[j] = b := (List.getElem?_eq_some_iff.1 hj).2
  have hbl := List.mem_of_getElem? hj
  have e0 : l = l.take j ++ [b] ++ l.drop (j + 1) := by
    rw [← hb, List.append_assoc, List.singleton_append, ← List.drop_eq_getElem_cons hlt, List.take_append_drop]
  have hs := hw.span
  have hs0 := hs
  rw [e0, Span.append] at hs
  obtain ⟨t2, hs1, hs3⟩ := hs
  rw [Span.append] at hs1
  obtain ⟨s2, hs1, hs2⟩ := hs1
  obtain ⟨k1, k2, k3⟩ := hs2
  have k3 : s2 + b.n + 1 = t2 := k3
  have hspan : Span 1 (l.take j ++ takeB n b ++ l.drop (j + 1)) (endOf m) := by
    rw [Span.append]
    refine ⟨t2, ?_, hs3⟩
    rw [Span.append]
    refine ⟨s2, hs1, ?_⟩
    rw [← k3, ← k1]
    exact takeB_span h1 hn
  -- of the new list's free ones: an old one, or the rest of b
  have hold : ∀ c ∈ l.take j ++ takeB n b ++ l.drop (j + 1), c.u = false → (c ∈ l ∧ c ≠ b) ∨ (n + 2 ≤ b.n ∧ c = ⟨b.a + n + 1, zeros (b.n - n - 1), false, false⟩) := fun c hc hcu => by
    simp only [List.append_assoc, List.mem_append] at hc
    have hne : ∀ d, d ∈ l.take j ∨ d ∈ l.drop (j + 1) → d ≠ b := fun d hd e => by
      rcases hd with hd | hd
      · have := hs1.mem d hd; rw [e] at this; omega
      · have := hs3.mem d hd; rw [e] at this; omega
    rcases hc with hc | hc | hc
    · exact .inl ⟨List.mem_of_mem_take hc, hne c (.inl hc)⟩
    · unfold takeB at hc
      split at hc
      · rename_i h
        simp only [List.mem_cons, List.not_mem_nil, or_false] at hc
        rcases hc with rfl | rfl
        · cases hcu
        · exact .inr ⟨by omega, by simp⟩
      · simp only [List.mem_cons, List.not_mem_nil, or_false] at hc
        subst hc; cases hcu
    · exact .inl ⟨List.mem_of_mem_drop hc, hne c (.inr hc)⟩
  refine ⟨hw.small, hspan, fun c hc d hd hcu hdu => ?_, fun c hc hcu => ?_⟩
  · rcases hold c hc hcu with ⟨c1, c2⟩ | ⟨c1, rfl⟩
    · rcases hold d hd hdu with ⟨d1, d2⟩ | ⟨d1, rfl⟩
      · exact hw.two c c1 d d1 hcu hdu
      · rcases hs0.sep c c1 b hbl with e | e | e
        · exact absurd e c2
        · show b.a + n + 1 ≠ _; omega
        · show b.a + n + 1 ≠ _; omega
    · rcases hold d hd hdu with ⟨d1, d2⟩ | ⟨d1, rfl⟩
      · have := hw.two b hbl d d1 hu hdu
        show d.a ≠ b.a + n + 1 + (zeros (b.n - n - 1)).length + 1
        simp [zeros]; omega
      · show b.a + n + 1 ≠ b.a + n + 1 + (zeros (b.n - n - 1)).length + 1
        omega
  · rcases hold c hc hcu with ⟨c1, _⟩ | ⟨_, rfl⟩
    · exact hw.unm c c1 hcu
    · rfl
end Go.Proofs.YtfpfpopfnbcblaaDoor

/- geoderef20: New. -/
namespace Go.Proofs.YtfpfpopfnbcblaaDoor
open Go.RowKit

theorem made_u64 (n : Nat) : madeCells #[Value.int .u64 0] n = (u64s (zeros n)).toArray := by
  apply Array.ext'
  rw [made_list, u64s_zeros]
def RNewPost (k : Nat) (w : World) (e : Ending) (W : World) : Prop := ∃ p, e = .returned (.pointer (some ⟨p, 0, none⟩)) ∧ RaV (fun b => w.heap.size ≤ b) W p k (newBs k) ∧ Below w.heap.size w W
set_option maxRecDepth 100000 in
theorem rNew_at (k : Nat) (hk : k ≤ 1048576) (w : World) :
    Calls Tryd.prog 20 #[.int .i64 k] w (RNewPost k w) := by
  have h0 : ¬ (k : Int) < 0 := by omega
  have h1 : ¬ (1048576 : Int) < k := by omega
  have HK := Lib.hid hk
  clear hk
  by_cases h2 : 2 ≤ k
  · have h3 : (1 : Int) < k := by omega
    obtain ⟨s, hs⟩ : ∃ s, k - 1 = s := ⟨_, rfl⟩
    have e5 : IntKind.i64.wrap ((k : Int) - 1) = (s : Int) := by have := HK.out; rw [IntWalk.i64_in _ ⟨by omega, by omega⟩]; omega
    have hm1 := fun W => run_make_row' (P := Tryd.prog) 23 44 (.int .u64 0) 8 Tryd.underlying23 Tryd.infoU64 rfl .i64 .i64 s (by have := HK.out; omega) (by have := HK.out; omega) W
    have HS := Lib.hid hs; have H2 := Lib.hid h2
    clear hs h2
    go_enter Tryd.func20, Tryd.ntmps20
    go_wp2
    go_ret
    obtain ⟨W1, hW1⟩ : ∃ W1, W1 = ((w.alloc (.cells #[.int .i64 (k : Nat), .slice (some ⟨w.heap.size + 1 + 1, 0, none⟩) 1 1] 39)).alloc (.cells (madeCells #[.int .u64 0] s) 44)).alloc (.cells #[.int .i64 1, .slice (some ⟨w.heap.size + 1, 0, none⟩) s s, .bool false, .bool false] 36) := ⟨_, rfl⟩
    have q0 := heap_alloc_keep (heap_alloc_keep (heap_alloc_at w (.cells #[.int .i64 (k : Nat), .slice (some ⟨w.heap.size + 1 + 1, 0, none⟩) 1 1] 39) rfl) (.cells (madeCells #[.int .u64 0] s) 44)) (.cells #[.int .i64 1, .slice (some ⟨w.heap.size + 1, 0, none⟩) s s, .bool false, .bool false] 36)
    have q1 := heap_alloc_keep (heap_alloc_at (w.alloc (.cells #[.int .i64 (k : Nat), .slice (some ⟨w.heap.size + 1 + 1, 0, none⟩) 1 1] 39)) (.cells (madeCells #[.int .u64 0] s) 44) (b := w.heap.size + 1) (by simp)) (.cells #[.int .i64 1, .slice (some ⟨w.heap.size + 1, 0, none⟩) s s, .bool false, .bool false] 36)
    have q2 := heap_alloc_at ((w.alloc (.cells #[.int .i64 (k : Nat), .slice (some ⟨w.heap.size + 1 + 1, 0, none⟩) 1 1] 39)).alloc (.cells (madeCells #[.int .u64 0] s) 44)) (.cells #[.int .i64 1, .slice (some ⟨w.heap.size + 1, 0, none⟩) s s, .bool false, .bool false] 36) (b := w.heap.size + 1 + 1) (by simp)
    have hb : Below w.heap.size w W1 := by rw [hW1]; exact (((Below.refl _ _).alloc (Nat.le_refl _) _).alloc (by simp) _).alloc (by simp; omega) _
    rw [← hW1] at q0 q1 q2 ⊢
    refine ⟨w.heap.size, rfl, ⟨[⟨w.heap.size + 1, ⟨1, zeros s, false, false⟩⟩], ⟨⟨_, q0, ?_, fun g hg => ?_⟩, fun r hr => ?_, by simp, Nat.le_refl _, ?_, fun r hr x hx => ?_⟩, ?_⟩, hb⟩
    · refine ⟨rfl, .inr ⟨_, _, _, rfl, Nat.zero_le _, q2, by simp, by simp [maxLen], by simp, ?_⟩⟩
      simp [cellsR, Blk.n, zeros]
    · simp [Value.ownBlock] at hg; omega
    · rw [List.mem_singleton] at hr; subst hr
      exact ⟨by rw [q1, made_u64], by show w.heap.size ≤ w.heap.size + 1; omega⟩
    · have h := H2.out
      have hs := HS.out
      refine ⟨HK.out, ⟨rfl, by simp [Blk.n, zeros]; omega, ?_⟩, fun b hb c hc _ _ => ?_, fun b hb _ => ?_⟩
      · show 1 + (zeros s).length + 1 = endOf k
        unfold endOf; rw [if_pos h]; simp [zeros]; omega
      · simp [blks] at hb hc; subst hb; subst hc; simp [Blk.n]
      · simp [blks] at hb; subst hb; rfl
    · rw [List.mem_singleton] at hr; subst hr
      simp [zeros] at hx; omega
    · unfold newBs blks; rw [if_pos H2.out, HS.out]; rfl
  · have h3 : ¬ (1 : Int) < k := by omega
    have H2 := Lib.hid h2
    clear h2
    go_enter Tryd.func20, Tryd.ntmps20
    go_wp2
    go_ret
    refine ⟨w.heap.size, rfl, ⟨[], ⟨⟨_, heap_alloc_at _ _ rfl, ⟨by simp, .inl ⟨rfl, rfl⟩⟩, fun g hg => by simp [Value.ownBlock] at hg⟩, fun r hr => by simp at hr, by simp, Nat.le_refl _, ⟨HK.out, ?_, fun b hb => by simp [blks] at hb, fun b hb => by simp [blks] at hb⟩, fun r hr => by simp at hr⟩, ?_⟩, (Below.refl _ _).alloc (Nat.le_refl _) _⟩
    · show (1 : Nat) = endOf k
      unfold endOf; rw [if_neg H2.out]
    · unfold newBs blks; rw [if_neg H2.out]; rfl
end Go.Proofs.YtfpfpopfnbcblaaDoor
