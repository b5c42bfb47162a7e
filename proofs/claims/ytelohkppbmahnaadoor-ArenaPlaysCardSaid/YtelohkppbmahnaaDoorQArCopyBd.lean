/- package arena: the lists of free blocks in memory; place. -/
import Derived.Test.YtelohkppbmahnaaDoorQArRowBd
import Derived.Deep.RegionHeld3
import Derived.Test.YtelohkppbmahnaaDoorQCalmBd
import Derived.Laws.CopyOwn
import Derived.Lib.AppendZerosOnto
import Derived.OwnWalk
import Derived.Deep.AppendSrc
import Derived.ArgAppend
namespace Go.Proofs.YtelohkppbmahnaaDoor
open Go.RowKit

def flatE (l : List (Ent Value)) : List Value := l.flatMap fun e => [.int .i64 (e.s : Nat), e.v]
theorem flatE_len (l : List (Ent Value)) : (flatE l).length = 2 * l.length := by
  induction l with
  | nil => rfl
  | cons e l ih =>
    unfold flatE at ih ⊢
    rw [List.flatMap_cons, List.length_append, ih]
    simp; omega
theorem flatE_append (a b : List (Ent Value)) : flatE (a ++ b) = flatE a ++ flatE b := List.flatMap_append
theorem flatE_at (l : List (Ent Value)) (i : Nat) (e : Ent Value) (hi : l[i]? = some e) : (flatE l)[i * 2]? = some (.int .i64 (e.s : Nat)) ∧ (flatE l)[i * 2 + 1]? = some e.v := by
  induction l generalizing i with
  | nil => simp at hi
  | cons a l ih =>
    have h : flatE (a :: l) = [.int .i64 (a.s : Nat), a.v] ++ flatE l := List.flatMap_cons
    cases i with
    | zero => simp at hi; subst hi; rw [h]; exact ⟨rfl, rfl⟩
    | succ i =>
      have hi' : l[i]? = some e := by simpa using hi
      obtain ⟨h1, h2⟩ := ih i hi'
      rw [h]
      refine ⟨?_, ?_⟩
      · rw [List.getElem?_append_right (by simp; omega), show (i + 1) * 2 - [Value.int .i64 (a.s : Nat), a.v].length = i * 2 by simp; omega]; exact h1
      · rw [List.getElem?_append_right (by simp; omega), show (i + 1) * 2 + 1 - [Value.int .i64 (a.s : Nat), a.v].length = i * 2 + 1 by simp; omega]; exact h2
/-- The lists of the free blocks in memory: whose rows are S's, and none is shared: T tells of a row of addresses its size, K of a list's row its number. -/
structure LsAt (S : Nat → Prop) (w : World) (lv : Value) (L : List (Value × List (Ent Value))) (T K : Nat → Nat) : Prop where
  row : w.ownsRow 0 67 1 lv L.length (L.map (·.1))
  own : ∀ b, lv.ownBlock = some b → S b
  mrow : ∀ (k : Nat) (p : Value × List (Ent Value)), L[k]? = some p → w.ownsRow 0 69 2 p.1 p.2.length (flatE p.2)
  mown : ∀ (k : Nat) (p : Value × List (Ent Value)), L[k]? = some p → ∀ b, p.1.ownBlock = some b → S b ∧ K b = k
  hrow : ∀ (k : Nat) (p : Value × List (Ent Value)), L[k]? = some p → ∀ e ∈ p.2, w.ownsRow 0 3 1 e.v e.h.length (ints e.h)
  hown : ∀ (k : Nat) (p : Value × List (Ent Value)), L[k]? = some p → ∀ e ∈ p.2, ∀ b, e.v.ownBlock = some b → S b ∧ T b = e.s
theorem below_drewN' {B : Nat} {a b : World} (h : Below B a b) (n : Nat) : Below B a (b.drewN n) := ⟨h.os, h.tape, h.output, h.size, h.block⟩
theorem list_below (x : Nat) (w : World) (h0 : 0 < x) (h : x < 16777216) :
    Calls Tryd.prog 56 #[.int .i64 x] w fun e w' => e = .returned (.int .i64 (Nat.log2 x)) ∧ Below w.heap.size w w' :=
  (list_at x w h0 h).mono fun _ _ ⟨he, hw⟩ => ⟨he, by subst hw; exact Below.refl _ _⟩
theorem place1_at (w : World) (lb sb mb n c i s y : Nat) (h1 : w.cell? ⟨lb, 0, none⟩ = some (.slice (some ⟨mb, 0, none⟩) n c)) (h2 : w.cell? ⟨sb, 0, none⟩ = some (.int .i64 s)) (h3 : w.cell? ⟨mb, i * 2, none⟩ = some (.int .i64 y)) (hi : i < n) (_ : n ≤ 1048576) :
    Calls Tryd.prog 64 (#[.int .i64 i] ++ #[.pointer (some ⟨lb, 0, none⟩), .pointer (some ⟨sb, 0, none⟩)]) w fun e w' => e = .returned (.bool (decide (s ≤ y))) ∧ Below w.heap.size w w' := by
  go_enter Tryd.func64, Tryd.ntmps64
  go_wp2
  go_quiet (fail)
  go_wp2
  go_ret
  exact ⟨by simp, below_drewN' (Below.refl _ _) _⟩
/-- A list that is parted at a size: what stands first behind, if it is of that size. -/
def thereB (l2 : List (Ent Value)) (s : Nat) : Bool := match l2 with
  | [] => false
  | e :: _ => e.s == s
set_option maxHeartbeats 4000000 in
theorem place_at (w : World) (p s _ : Nat) (gb ln lc : Nat) (l1 l2 : List (Ent Value)) (mv : Value)
    (c4 : w.cell? ⟨p, 4, none⟩ = some (.slice (some ⟨gb, 0, none⟩) ln lc)) (hk : Nat.log2 s < ln) (_ : ln ≤ 64) (cg : w.cell? ⟨gb, Nat.log2 s, none⟩ = some mv)
    (mrow : w.ownsRow 0 69 2 mv (l1 ++ l2).length (flatE (l1 ++ l2))) (p1 : ∀ e ∈ l1, e.s < s) (p2 : ∀ e ∈ l2, s ≤ e.s) (h0 : 0 < s) (hs : s < 1048577) (hl : (l1 ++ l2).length ≤ 1048576) :
    Calls Tryd.prog 57 #[.pointer (some ⟨p, 0, none⟩), .int .i64 s] w fun e w' => e = .returned (.tuple #[mv, .int .i64 l1.length, .bool (thereB l2 s)]) ∧ Below w.heap.size w w' := by
  obtain ⟨mao, mcap, rfl, hmc, hmm, _⟩ := ownsRow_form mrow
  obtain ⟨n, hn⟩ : ∃ n, (l1 ++ l2).length = n := ⟨_, rfl⟩
  obtain ⟨k1, hk1⟩ : ∃ k1, l1.length = k1 := ⟨_, rfl⟩
  have hk1n : k1 ≤ n := by rw [← hn, ← hk1]; simp
  rw [hn] at mrow cg hmc hl
  rw [hn, hk1]
  obtain ⟨tb, htb⟩ : ∃ tb, thereB l2 s = tb := ⟨_, rfl⟩
  rw [htb]
  have HN := Lib.hid hn; have HK1 := Lib.hid hk1; have HTB := Lib.hid htb
  clear hn hk1 htb
  obtain ⟨W1, hW1⟩ : ∃ W1, W1 = (w.alloc (.cells #[.int .i64 s] 3)).alloc (.cells #[.slice none 0 0] 67) := ⟨_, rfl⟩
  have hb1 : Below w.heap.size w W1 := by rw [hW1]; exact ((Below.refl _ _).alloc (Nat.le_refl _) _).alloc (by simp) _
  have hsz : W1.heap.size = w.heap.size + 2 := by rw [hW1]; simp
  have b0 := heap_alloc_keep (heap_alloc_at w (.cells #[.int .i64 s] 3) (b := w.heap.size) rfl) (.cells #[.slice none 0 0] 67)
  have b1 := heap_alloc_at (w.alloc (.cells #[.int .i64 s] 3)) (.cells #[.slice none 0 0] 67) (b := w.heap.size + 1) (by simp)
  rw [← hW1] at b0 b1
  have e0 := Ext.cells (w0 := W1) (heap_cell b0 0)
  have e1 := Ext.cells (w0 := W1) (heap_cell b1 0)
  have e2 := Ext.cells (w0 := W1) (below_cell hb1 c4)
  have e3 := Ext.cells (w0 := W1) (below_cell hb1 cg)
  simp at e0 e1
  have B1 := Lib.hid b1; have HB1 := Lib.hid hb1; have HW := Lib.hid hW1; have B0 := Lib.hid b0
  have P1 := Lib.hid p1; have P2 := Lib.hid p2; have MR := Lib.hid mrow
  clear b0 b1 hb1 p1 p2 mrow
  go_enter Tryd.func57, Tryd.ntmps57
  go_wp2
  rw [← HW.out]
  refine wp_region_calm_tail 8 (by kernel_rfl) (by kernel_rfl) ?_
  simp only [List.take_succ_cons, List.take_zero, List.drop_succ_cons, List.drop_zero]
  repeat (go_big_quiet_step ((exact Ext.call _ (list_below s _ h0 (by omega)))))
  refine wpQuiet_nil ?_
  rintro w2 hb2
  obtain ⟨W2, hW2⟩ : ∃ W2, W2 = w2.setCell ⟨w.heap.size + 1, 0, none⟩ (.slice mao n mcap) := ⟨_, rfl⟩
  have z1 : w2.heap[w.heap.size + 1]? = some (.cells #[.slice none 0 0] 67 (0, 0)) := by rw [hb2.block _ (heap_lt B1.out)]; exact B1.out
  have z0 : w2.heap[w.heap.size]? = some (.cells #[.int .i64 s] 3 (0, 0)) := by rw [hb2.block _ (heap_lt B0.out)]; exact B0.out
  have q1 := heap_cell z1 0
  have qf := heap_frozen z1 0
  have y1 := heap_set_at z1 0 (.slice mao n mcap)
  have y0 := heap_set_off z0 (a := ⟨w.heap.size + 1, 0, none⟩) (by simp) (.slice mao n mcap)
  rw [← hW2] at y1 y0
  have g1 := Ext.cells (w0 := W2) (heap_cell y1 0)
  have g0 := Ext.cells (w0 := W2) (heap_cell y0 0)
  simp at q1 g0 g1
  have hbW2 : Below w.heap.size w W2 := by
    rw [hW2]; exact (HB1.out.trans (hb2.mono HB1.out.size)).setCell (p := ⟨w.heap.size + 1, 0, none⟩) (by simp) _
  have HB2 := Lib.hid hbW2; have HW2 := Lib.hid hW2; have Y1 := Lib.hid y1; have Y0 := Lib.hid y0
  clear e0 e1 e2 e3 z0 z1 hb2 y1 y0 hbW2
  go_wp2_with fail
  rw [← HW2.out]
  refine (search_at 64 _ n k1 W2 (fun _ _ => rfl) hk1n hl (fun x i hi => ?_)).mono ?_
  · have hmr := ownsRow_upd (S := fun _ => False) MR.out (Upd.of_below (HB2.out.trans (x.2.mono HB2.out.size))) (fun _ _ h => h)
    obtain ⟨e, he⟩ : ∃ e, (l1 ++ l2)[i]? = some e := ⟨_, List.getElem?_eq_getElem (by rw [HN.out]; exact hi)⟩
    obtain ⟨g, cap, cur, hv, _, _, _, hcell⟩ := ownsRow_some hmr (by omega)
    simp only [Value.slice.injEq] at hv
    obtain ⟨rfl, _, rfl⟩ := hv
    have hc := hcell (i * 2) (by omega)
    rw [(flatE_at _ i e he).1] at hc
    refine (place1_at x.val _ _ g n mcap i s e.s (g1 x) (g0 x) hc hi hl).mono ?_
    rintro e' w' ⟨rfl, hb⟩
    refine ⟨?_, hb⟩
    rw [split_tells s P1.out P2.out i e he, HK1.out]
  rintro e w3 ⟨rfl, hb3⟩
  have HB3 := Lib.hid hb3
  have f1 : w3.cell? ⟨w.heap.size + 1, 0, none⟩ = some (.slice mao n mcap) := by have := g1 ⟨w3, hb3⟩; exact this
  have f0 : w3.cell? ⟨w.heap.size, 0, none⟩ = some (.int .i64 s) := by have := g0 ⟨w3, hb3⟩; exact this
  have ff : w3.frozen? ⟨w.heap.size + 1, 0, none⟩ = false := by
    have z1 : w3.heap[w.heap.size + 1]? = some (.cells #[.slice mao n mcap] 67 (0, 0)) := by rw [hb3.block _ (heap_lt Y1.out)]; exact Y1.out
    exact heap_frozen z1 0
  have hsne : ¬ w.heap.size = w.heap.size + 1 := by omega
  have hsne2 : ¬ w.heap.size + 1 = w.heap.size := by omega
  clear hb3
  cases l2 with
  | nil =>
    have htb := HTB.out
    simp only [thereB] at htb
    subst htb
    have hkn : k1 = n := by have a := HN.out; have b := HK1.out; simp at a; omega
    have hd : decide (k1 < n) = false := decide_eq_false (by omega)
    clear hkn
    clear g0 g1
    go_wp2
    go_region
    go_wp2
    have r1 : (w3.setCell ⟨w.heap.size + 1, 0, none⟩ (.slice mao n mcap)).cell? ⟨w.heap.size + 1, 0, none⟩ = some (.slice mao n mcap) := World.cell?_setCell_same' _ _ _ (by rw [f1]; rfl)
    have HB4 := ((HB2.out.trans (HB3.out.mono HB2.out.size)).setCell (p := ⟨w.heap.size + 1, 0, none⟩) (by simp) (.slice mao n mcap)).drew
    exact bodyPost_ret (v := .tuple #[.slice mao n mcap, .int .i64 k1, .bool false]) (by simp [results, Tryd.results57, go_sem, r1]) rfl ⟨rfl, HB4⟩
  | cons e r =>
    have hkn : k1 < n := by have a := HN.out; have b := HK1.out; simp at a; omega
    have hd : decide (k1 < n) = true := decide_eq_true (by omega)
    have he : (l1 ++ e :: r)[k1]? = some e := by rw [← HK1.out]; simp
    obtain ⟨g, cap, cur, hv, _, _, _, hcell⟩ := ownsRow_some (ownsRow_upd (S := fun _ => False) MR.out (Upd.of_below (HB2.out.trans (HB3.out.mono HB2.out.size))) (fun _ _ h => h)) (by omega)
    simp only [Value.slice.injEq] at hv
    obtain ⟨rfl, _, rfl⟩ := hv
    have hc := hcell (k1 * 2) (by omega)
    rw [(flatE_at _ k1 e he).1] at hc
    have hgl : g < w.heap.size := by have := (MR.out.lt g rfl).2; exact this
    have hgne : ¬ g = w.heap.size + 1 := by omega
    have hgne2 : ¬ w.heap.size + 1 = g := by omega
    obtain ⟨y, hy⟩ : ∃ y, e.s = y := ⟨_, rfl⟩
    have htb := HTB.out
    simp only [thereB] at htb
    rw [hy] at hc htb
    have htb2 : ((y : Int) == (s : Int)) = tb := by rw [← htb]; rw [Bool.eq_iff_iff]; simp; omega
    clear he hcell htb hy
    clear g0 g1
    go_wp2
    go_region_held3 (fun w' => w'.cell? ⟨w.heap.size + 1, 0, none⟩ = some (.slice (some ⟨g, 0, none⟩) n mcap) ∧ w'.frozen? ⟨w.heap.size + 1, 0, none⟩ = false ∧ w'.cell? ⟨w.heap.size, 0, none⟩ = some (.int .i64 s) ∧ w'.cell? ⟨g, k1 * 2, none⟩ = some (.int .i64 y)) (simp [*, World.cell?_setCell_same', World.cell?_setCell_far, World.frozen?_setCell]) (fail)
    go_wp2
    have r1 : (w3.setCell ⟨w.heap.size + 1, 0, none⟩ (.slice (some ⟨g, 0, none⟩) n mcap)).cell? ⟨w.heap.size + 1, 0, none⟩ = some (.slice (some ⟨g, 0, none⟩) n mcap) := World.cell?_setCell_same' _ _ _ (by rw [f1]; rfl)
    have HB4 := ((HB2.out.trans (HB3.out.mono HB2.out.size)).setCell (p := ⟨w.heap.size + 1, 0, none⟩) (by simp) (.slice (some ⟨g, 0, none⟩) n mcap)).drew
    exact bodyPost_ret (v := .tuple #[.slice (some ⟨g, 0, none⟩) n mcap, .int .i64 k1, .bool tb]) (by simp [results, Tryd.results57, go_sem, r1]) rfl ⟨rfl, HB4⟩
end Go.Proofs.YtelohkppbmahnaaDoor

/- Of no program: copy, clear, append of a made row, for rows of elements of several cells that are known whole. -/
namespace Go.Proofs.YtelohkppbmahnaaDoor
open Go.RowKit

theorem upd_setRow (w : World) (g : Nat) (cs : Array Value) : Upd (fun k => k = g) w (w.setRow g cs) :=
  ⟨rfl, rfl, rfl, by simp [World.setRow], fun k _ hs => setRow_other w g k cs hs⟩
theorem heap_setRow {w : World} {g : Nat} {cur : Array Value} {t : TypeId} {fr : Nat × Nat} (h : w.heap[g]? = some (.cells cur t fr)) (cs : Array Value) : (w.setRow g cs).heap[g]? = some (.cells cs t fr) := by
  simp [World.setRow, Array.getElem?_modify, h]
theorem run_copy_sized {P : Program} (w : World) (dT sT ty elem : TypeId) (size : Nat) (g o dLen dCap : Nat) (a : Addr) (sLen sCap : Nat) (cur : Array Value) (t : TypeId) (n : Nat) (cs : List Value)
    (hu : P.underlying dT = some (.slice elem)) (hs : (P.info? elem).map (·.size) = some size)
    (hg : w.heap[g]? = some (.cells cur t (0, 0))) (hn : n = Nat.min sLen dLen) (hl : cs.length = n * size)
    (hsrc : ∀ j v, cs[j]? = some v → w.cell? (a.add j) = some v) (hfit : o + cs.length ≤ cur.size) (h1 : ∀ v ∈ cs, v.oneCell' = true) :
    (Builtin.copy_ #[dT, sT] ty #[.slice (some ⟨g, o, none⟩) dLen dCap, .slice (some a) sLen sCap]).run P w =
      .ok (goInt n) (w.setRow g (cur.toList.take o ++ cs ++ cur.toList.drop (o + cs.length)).toArray) := by
  have hl2 := run_loadCells_list (P := P) w a cs hsrc
  have hst := run_storeCells_at P g o t cs 0 cur w hg (by simpa using hfit) h1
  cases hq : P.info? elem with
  | none => simp [hq] at hs
  | some i =>
    have hi : i.size = size := by simpa [hq] using hs
    rw [hl] at hl2
    simp [Builtin.copy_, run_underlying hu, Builtin.lenOf, Builtin.firstCells, sizeOf, typeInfo, hq, hi, ← hn, hl2, hst]
section
variable {P : Program} {w : World} {ops : Array Oper} {rest : List Oper} {o : Oper} {a : Act} {Q : Exit → Act → World → Prop}
theorem wpList_copy_sized (hgd : o.guard = none) (d s : Operand) (dT sT : TypeId)
    (ho : o.op = .call { callee := .builtin .copy, args := #[d, s], argTypes := #[dT, sT] }) (elem : TypeId) (size : Nat) (hu : P.underlying dT = some (.slice elem)) (hsz : (P.info? elem).map (·.size) = some size)
    (g off dLen dCap : Nat) (ad : Addr) (sLen sCap : Nat) (hd : a.eval d = .slice (some ⟨g, off, none⟩) dLen dCap) (hs : a.eval s = .slice (some ad) sLen sCap)
    (cur : List Value) (t : TypeId) (hg : w.heap[g]? = some (.cells cur.toArray t (0, 0))) (n : Nat) (cs : List Value) (hn : n = Nat.min sLen dLen) (hl : cs.length = n * size)
    (hsrc : ∀ j v, cs[j]? = some v → w.cell? (ad.add j) = some v) (hfit : off + cs.length ≤ cur.length) (h1 : ∀ v ∈ cs, v.oneCell' = true)
    (h : ∀ w', Hid (w'.heap[g]? = some (.cells (splice cur off cs).toArray t (0, 0))) → Hid (Upd (fun k => k = g) w w') → wpList P ops Q rest (a.put o.dst (goInt n)) w') : wpList P ops Q (o :: rest) a w := by
  refine wpList_plain hgd fun K hK => ?_
  have hrun := run_copy_sized (P := P) w dT sT o.type elem size g off dLen dCap ad sLen sCap cur.toArray t n cs hu hsz hg hn hl hsrc (by simpa using hfit) h1
  unfold Oper.wp
  simp [execOp, ho, resolve, invoke, builtin, hd, hs, hrun, Result.andThen]
  refine hK _ _ (h _ ?_ ?_)
  · show _ = _
    have := heap_setRow hg (cur.take off ++ (cs ++ cur.drop (off + cs.length))).toArray
    simpa [splice] using this
  · exact upd_setRow _ _ _
theorem wpList_clear_row (hgd : o.guard = none) (x : Operand) (t : TypeId)
    (ho : o.op = .call { callee := .builtin .clear, args := #[x], argTypes := #[t] }) (elem : TypeId) (z : Value) (hu : P.underlying t = some (.slice elem)) (hz : ∀ w, (zeroValue elem).run P w = .ok z w)
    (g off n c : Nat) (hx : a.eval x = .slice (some ⟨g, off, none⟩) n c) (cur : List Value) (te : TypeId) (hg : w.heap[g]? = some (.cells cur.toArray te (0, 0))) (zs : List Value) (hzs : (Builtin.zeroCells z.cells n).toList = zs)
    (hfit : off + zs.length ≤ cur.length) (h1 : ∀ v ∈ zs, v.oneCell' = true) (h0 : n = 0 → zs = [])
    (h : ∀ w', Hid (w'.heap[g]? = some (.cells (splice cur off zs).toArray te (0, 0))) → Hid (Upd (fun k => k = g) w w') → wpList P ops Q rest (a.put o.dst (.tuple #[])) w') : wpList P ops Q (o :: rest) a w := by
  refine wpList_plain hgd fun K hK => ?_
  have hst := run_storeCells_at P g off te zs 0 cur.toArray w hg (by simpa using hfit) h1
  have hrun : (Builtin.clear_ #[t] o.type #[.slice (some ⟨g, off, none⟩) n c]).run P w = .ok (.tuple #[]) (w.setRow g (cur.take off ++ zs ++ cur.drop (off + zs.length)).toArray) := by
    by_cases hn : n = 0
    · obtain rfl := h0 hn
      subst hn
      have e : w.setRow g (cur.take off ++ [] ++ cur.drop (off + ([] : List Value).length)).toArray = w := by
        have : (cur.take off ++ [] ++ cur.drop (off + ([] : List Value).length)).toArray = cur.toArray := by simp
        rw [this]; exact setRow_self w g _ te _ hg
      rw [e]
      simp [Builtin.clear_, run_underlying hu]
    · have : n ≠ 0 := hn
      obtain ⟨n', rfl⟩ := Nat.exists_eq_succ_of_ne_zero hn
      simp [Builtin.clear_, run_underlying hu, hz, hzs, hst]
  unfold Oper.wp
  simp [execOp, ho, resolve, invoke, builtin, hx, hrun, Result.andThen]
  refine hK _ _ (h _ ?_ ?_)
  · show _ = _
    have := heap_setRow hg (cur.take off ++ (zs ++ cur.drop (off + zs.length))).toArray
    simpa [splice] using this
  · exact upd_setRow _ _ _
theorem wpList_append_make (hgd : o.guard = none) (s x : Operand) (t tn : TypeId)
    (ho : o.op = .call { callee := .builtin .append, args := #[s, x], argTypes := #[t, tn] }) (e : TypeId) (i : TypeInfo) (z : Value) (size bytes : Nat) (kq kn : IntKind) (ht : P.underlying t = some (.slice e)) (htn : P.underlying tn = some (.int kn)) (hi : P.info? e = some i) (hz : i.zero = some z)
    (hsize : i.size = size) (hby : i.bytes = bytes) (hzs : z.cells.size = size) (hsz : 0 < size)
    (ad : Addr) (n cap : Nat) (olds : List Value) (hs : a.eval s = .slice (some ad) n cap) (hlo : olds.length = n * size) (holds : ∀ j u, olds[j]? = some u → w.cell? (ad.add j) = some u)
    (k : Nat) (hx : a.eval x = .int kq k) (h0 : 0 < k) (hg : cap < n + k) (h63 : n + k ≤ maxLen) (hbytes : (n + k) * bytes ≤ 140737488355328)
    (h : ∀ v' w', w'.ownsRow w.heap.size e size v' (n + k) (olds ++ (Builtin.zeroCells z.cells k).toList) → Below w.heap.size w w' → wpList P ops Q rest (a.put o.dst v') w') : wpList P ops Q (o :: rest) a w := by
  refine wpList_plain hgd fun K hK => ?_
  subst hsize
  subst hby
  have hlen : (olds ++ (Builtin.zeroCells z.cells k).toList).length = (n + k) * i.size := by rw [List.length_append, hlo, Array.length_toList, size_zeroCells, hzs, Nat.add_mul]
  have hge := grownCap_ge w (n + k) cap e
  have hcm : grownCap w (n + k) cap e ≤ maxLen := grownCap_le_maxLen w (n + k) cap e h63
  have hl2 := run_loadCells_list (P := P) w.drew ad olds (fun j u hj => holds j u hj)
  have hkb : k * i.bytes ≤ 281474976710656 := by
    have : k * i.bytes ≤ (n + k) * i.bytes := Nat.mul_le_mul_right _ (by omega)
    omega
  have hold : (Builtin.firstCells i.size n (.slice (some ad) n cap)).run P w.drew = .ok olds.toArray w.drew := by
    rw [hlo] at hl2
    simpa [Builtin.firstCells] using hl2
  have hrun := Lib.run_append_grow_zeros (P := P) w t tn o.type e i z kq kn ht htn hi hz (some ad) n cap olds hold k h0 hsz hg (by simp only [maxLen] at h63; omega) hkb (growslice_fits hg hbytes)
  unfold Oper.wp
  simp [execOp, ho, resolve, invoke, builtin, hs, hx, hrun, Result.andThen]
  refine hK _ _ (h _ _ ⟨hlen, .inr ⟨w.heap.size, _, _, rfl, Nat.le_refl _, heap_alloc_new w.drew _, hge, hcm, ?_, ?_⟩⟩ (((Below.refl _ _).drew).alloc (Nat.le_refl _) _))
  · simp only [Array.size_append, List.size_toArray, size_zeroCells, hzs, hlo, ← Nat.add_mul]
    congr 1
    omega
  · rw [Array.toList_append, Array.toList_append, ← hlen]
    rw [← List.append_assoc]
    exact List.take_left
end
end Go.Proofs.YtelohkppbmahnaaDoor
