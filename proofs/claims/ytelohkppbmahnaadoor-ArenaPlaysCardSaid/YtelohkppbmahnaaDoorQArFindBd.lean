/- package arena: behind, release; size, has. -/
import Derived.Test.YtelohkppbmahnaaDoorQArDelist
namespace Go.Proofs.YtelohkppbmahnaaDoor
open Go.RowKit

section
variable {SL : Nat → Prop} {w : World} {p wb m mc : Nat} {tv kv uv lv : Value} {ws : List Nat} {L : List (Value × List (Ent Value))} {T K : Nat → Nat}
theorem Core.pwb (c : Core SL w p wb m mc tv kv uv lv ws L T K) : p ≠ wb := fun e => by
  obtain ⟨cc, hcc⟩ := row_block c.wrow (b := wb) rfl; rw [← e, c.blk] at hcc; simp at hcc
/-- Only the words turned. -/
theorem Core.words (c : Core SL w p wb m mc tv kv uv lv ws L T K) {w' : World} (u : Upd (fun b => b = wb) w w') {ws' : List Nat} (hr : w'.ownsRow 0 28 1 (.slice (some ⟨wb, 0, none⟩) m mc) m (u64s ws')) (hl : ws'.length = ws.length) (h64 : ∀ k, ws'.getD k 0 < 18446744073709551616) : Core SL w' p wb m mc tv kv uv lv ws' L T K := by
  refine ⟨u.heap_some c.blk c.pwb, hr, ⟨ownsRow_upd c.ls.row u (fun b hb e => ?_), c.ls.own, fun k pr hk => ownsRow_upd (c.ls.mrow k pr hk) u (fun b hb e => ?_), c.ls.mown, fun k pr hk e he => ownsRow_upd (c.ls.hrow k pr hk e he) u (fun b hb e' => ?_), c.ls.hown⟩, fun b hb => Nat.lt_of_lt_of_le (c.bound b hb) u.size, c.np, c.nwb, by rw [hl]; exact c.small, h64⟩
  · exact rows_ne c.ls.row c.wrow (by decide) hb (by rw [e]; rfl)
  · exact rows_ne (c.ls.mrow k pr hk) c.wrow (by decide) hb (by rw [e]; rfl)
  · exact rows_ne (c.ls.hrow k pr hk e he) c.wrow (by decide) hb (by rw [e']; rfl)
theorem Core.set (c : Core SL w p wb m mc tv kv uv lv ws L T K) (i v : Nat) (hv : v < 18446744073709551616) : Core SL (w.setCell ⟨wb, i, none⟩ (.int .u64 (v : Int))) p wb m mc tv kv uv lv (ws.set i v) L T K := by
  refine c.words (upd_set _ _ _ _) (by rw [u64s_set]; exact (c.wrow.stored i _).1) (by simp) (fun k => ?_)
  by_cases hi : i < ws.length
  · rw [getD_set _ _ _ _ hi]
    split
    · exact hv
    · exact c.w64 k
  · rw [List.set_eq_of_length_le (by omega)]; exact c.w64 k
theorem Core.below (c : Core SL w p wb m mc tv kv uv lv ws L T K) {w' : World} (hb : Below w.heap.size w w') : Core SL w' p wb m mc tv kv uv lv ws L T K :=
  c.words (Upd.of_below hb) (ownsRow_upd (S := fun _ => False) c.wrow (Upd.of_below hb) (fun _ _ h => h)) rfl c.w64
theorem Core.word (c : Core SL w p wb m mc tv kv uv lv ws L T K) (i : Nat) (hi : i < m) : w.cell? ⟨wb, i, none⟩ = some (.int .u64 (ws.getD i 0 : Nat)) := by
  rw [c.wrow.cellAt i (by omega), u64s_at (by rw [c.len]; exact hi)]
end
/-- The words when a block's neighbour behind is told of it. -/
def tellP (ws : List Nat) (e : Nat) (b : Bool) : List Nat := ws.set e (ws.getD e 0 / 2 * 2 + (if b then 1 else 0))
def WPost (SL : Nat → Prop) (w : World) (p wb m mc : Nat) (tv kv uv lv : Value) (ws : List Nat) (L : List (Value × List (Ent Value))) (T K : Nat → Nat) (e : Ending) (w' : World) : Prop :=
  e = .returned (.tuple #[]) ∧ Core SL w' p wb m mc tv kv uv lv ws L T K ∧ Upd (fun b => b = wb) w w'
set_option maxHeartbeats 1000000 in
theorem behind_at {SL : Nat → Prop} {w : World} {p wb m mc : Nat} {tv kv uv lv : Value} {ws : List Nat} {L : List (Value × List (Ent Value))} {T K : Nat → Nat} (c : Core SL w p wb m mc tv kv uv lv ws L T K) (q : Nat) (b : Bool) :
    Calls Tryd.prog 31 #[.pointer (some ⟨p, 0, none⟩), .int .i64 q, .bool b] w (WPost SL w p wb m mc tv kv uv lv (tellP ws q b) L T K) := by
  have c0 := heap_cell c.blk 0
  simp at c0
  have hlen := c.len
  have hsm := c.small
  have C := Lib.hid c
  by_cases hq : q < m
  · have hq2 : ¬ (m : Int) ≤ q := by omega
    have cw := c.word q hq
    have cf := c.wrow.frozenAt q
    have hy64 := c.w64 q
    obtain ⟨y, hy⟩ : ∃ y, ws.getD q 0 = y := ⟨_, rfl⟩
    rw [hy] at cw hy64
    have h1 : bits .andNot .u64 (y : Int) 1 = (y : Int) / 2 * 2 := by rw [andNot_one y hy64]; omega
    have h2 : bits .or .u64 ((y : Int) / 2 * 2) 1 = (y : Int) / 2 * 2 + 1 := by
      have := or_one y hy64
      rw [show ((y / 2 * 2 : Nat) : Int) = (y : Int) / 2 * 2 by omega] at this
      rw [this]; omega
    have hpw := c.pwb
    have hpw2 : wb ≠ p := fun e => hpw e.symm
    have HY := Lib.hid hy
    clear c hy hlen
    cases b
    · go_enter Tryd.func31, Tryd.ntmps31
      go_wp2
      refine bodyPost_end (v := .tuple #[]) (results_none rfl _ _ _) rfl ⟨rfl, ?_, upd_set _ _ _ _⟩
      have := C.out.set q (y / 2 * 2) (by omega)
      rw [show ((y / 2 * 2 : Nat) : Int) = (y : Int) / 2 * 2 by omega] at this
      simp only [tellP, HY.out]
      exact this
    · go_enter Tryd.func31, Tryd.ntmps31
      go_wp2
      refine bodyPost_end (v := .tuple #[]) (results_none rfl _ _ _) rfl ⟨rfl, ?_, (upd_set _ _ _ _).trans' (upd_set _ _ _ _)⟩
      have := (C.out.set q (y / 2 * 2) (by omega)).set q (y / 2 * 2 + 1) (by omega)
      rw [show ((y / 2 * 2 : Nat) : Int) = (y : Int) / 2 * 2 by omega, show ((y / 2 * 2 + 1 : Nat) : Int) = (y : Int) / 2 * 2 + 1 by omega, List.set_set] at this
      simp only [tellP, HY.out]
      exact this
  · have hq2 : (m : Int) ≤ q := by omega
    have ht : tellP ws q b = ws := by unfold tellP; rw [List.set_eq_of_length_le (by omega)]
    rw [ht]
    clear c hlen ht
    go_enter Tryd.func31, Tryd.ntmps31
    go_wp2
    refine bodyPost_ret (v := .tuple #[]) (results_none rfl _ _ _) rfl ⟨rfl, C.out, Upd.refl _ _⟩
/-- What release writes ahead of the lists. -/
def relP (ws : List Nat) (x s : Nat) : List Nat := tellP ((ws.set (x - 1) (2 * s)).set (x + s - 1) (s * 4294967296 + ws.getD (x + s - 1) 0 % 4294967296)) (x + s) true
theorem ListsOk.same {V : Type} {L : List (List (Ent V))} {ws ws' : List Nat} {F : Nat → Nat → Prop} (k : ListsOk L ws F) (hl : ws'.length = ws.length) (h : ∀ y t, F y t → ws'.getD y 0 % 4294967296 = ws.getD y 0 % 4294967296) : ListsOk L ws' F :=
  ⟨k.sorted, k.pos, fun j l hj e he => ⟨fun i hi => by rw [hl]; exact (k.heap j l hj e he).lt i hi, fun i hi => by
    rw [h _ e.s ((k.mem j l hj e he _).1 (mem_getD.2 ⟨i, hi, rfl⟩))]; exact (k.heap j l hj e he).back i hi, (k.heap j l hj e he).ord⟩, k.mem, k.all, k.uniq⟩
theorem getD_set' (l : List Nat) (i j x : Nat) : (l.set i x).getD j 0 = if j = i ∧ i < l.length then x else l.getD j 0 := by
  by_cases hi : i < l.length
  · rw [getD_set _ _ _ _ hi]; simp [hi]
  · rw [List.set_eq_of_length_le (by omega), if_neg (fun h => hi h.2)]
set_option maxHeartbeats 2000000 in
set_option maxRecDepth 100000 in
theorem release_at {SL : Nat → Prop} {w : World} {p wb m mc : Nat} {tv kv uv lv : Value} {ws : List Nat} {L : List (Value × List (Ent Value))} {T K : Nat → Nat} {F : Nat → Nat → Prop} (c : Core SL w p wb m mc tv kv uv lv ws L T K) (ok : ListsOk (L.map (·.2)) ws F)
    (x s : Nat) (hx : 1 ≤ x) (hs0 : 0 < s) (hxs : x + s ≤ m) (hsm : s < 1048576) (hk : Nat.log2 s < L.length) (hL : L.length ≤ 64) (hxF : ∀ t, ¬ F x t) (hF1 : ∀ t, ¬ F (x - 1) t) (hF2 : ∀ t, ¬ F (x + s) t) (hF : ∀ x s, F x s → s < 1048576) :
    Calls Tryd.prog 26 #[.pointer (some ⟨p, 0, none⟩), .int .i64 x, .int .i64 s] w (CorePost SL w p wb m mc tv kv uv lv (relP ws x s) L (more F x s) (fun y => y = x ∨ F y s)) := by
  have c0 := heap_cell c.blk 0
  simp at c0
  have hlen := c.len
  have hsm2 := c.small
  have hpw := c.pwb
  have hpw2 : wb ≠ p := fun e => hpw e.symm
  have cf1 := c.wrow.frozenAt (x - 1)
  have cw1 := c.word (x - 1) (by omega)
  have C := Lib.hid c; have OK := Lib.hid ok
  have e1 : IntKind.i64.wrap ((x : Int) - 1) = ((x - 1 : Nat) : Int) := by rw [IntWalk.i64_in _ ⟨by omega, by omega⟩]; omega
  have e2 : IntKind.i64.wrap ((x : Int) + s - 1) = ((x + s - 1 : Nat) : Int) := by rw [IntWalk.i64_in _ ⟨by omega, by omega⟩]; omega
  have C1 := c.set (x - 1) (2 * s) (by omega)
  have hz64 := C1.w64 (x + s - 1)
  have cw2 := C1.word (x + s - 1) (by omega)
  have hgz : (ws.set (x - 1) (2 * s)).getD (x + s - 1) 0 = ws.getD (x + s - 1) 0 := by rw [getD_set' , if_neg (fun h => by omega)]
  rw [hgz] at hz64 cw2
  obtain ⟨z, hz⟩ : ∃ z, ws.getD (x + s - 1) 0 = z := ⟨_, rfl⟩
  rw [hz] at hz64 cw2
  have hand : bits .and .u64 (z : Int) 4294967295 = (z : Int) % 4294967296 := by rw [and_low z hz64]; omega
  have hor : bits .or .u64 ((s : Int) * 4294967296) ((z : Int) % 4294967296) = (s : Int) * 4294967296 + (z : Int) % 4294967296 := by
    have := or_tail s z (by omega)
    rw [wrap_u64_in (by omega) (by omega), show ((z % 4294967296 : Nat) : Int) = (z : Int) % 4294967296 by omega] at this
    rw [this]; omega
  have HZ := Lib.hid hz
  have hw1 : w.setCell ⟨wb, x - 1, none⟩ (.int .u64 ((2 * s : Nat) : Int)) = w.setCell ⟨wb, x - 1, none⟩ (.int .u64 ((s : Int) * 2)) := by rw [show ((2 * s : Nat) : Int) = (s : Int) * 2 by omega]
  rw [hw1] at C1 cw2
  have HC1 := Lib.hid C1
  have d0 := Ext.cells (w0 := w.setCell ⟨wb, x - 1, none⟩ (.int .u64 ((s : Int) * 2))) (heap_cell C1.blk 0)
  have d1 := Ext.cells (w0 := w.setCell ⟨wb, x - 1, none⟩ (.int .u64 ((s : Int) * 2))) cw2
  simp at d0
  clear c ok C1 hgz hz hw1 cw2
  go_enter Tryd.func26, Tryd.ntmps26
  go_wp2
  refine wp_region_calm_tail 18 (by kernel_rfl) (by kernel_rfl) ?_
  simp only [List.take_succ_cons, List.take_zero, List.drop_succ_cons, List.drop_zero]
  repeat (go_big_quiet_step (fail))
  refine wpQuiet_nil ?_
  intro w2 hb2
  have C2 := HC1.out.below hb2
  have f2 := C2.wrow.frozenAt (x + s - 1)
  have g2 := C2.word (x + s - 1) (by omega)
  have HC2 := Lib.hid C2; have HB2 := Lib.hid hb2
  clear C2 hb2 d0 d1
  go_wp2_with fail
  have C3 := HC2.out.set (x + s - 1) (s * 4294967296 + z % 4294967296) (by omega)
  rw [show ((s * 4294967296 + z % 4294967296 : Nat) : Int) = (s : Int) * 4294967296 + (z : Int) % 4294967296 by omega] at C3
  have HC3 := Lib.hid C3
  clear C3
  refine (behind_at HC3.out (x + s) true).mono ?_
  rintro e w3 ⟨rfl, hc3, hu3⟩
  have HR := Lib.hid (show Core SL w3 p wb m mc tv kv uv lv (relP ws x s) L T K by unfold relP; rw [HZ.out]; exact hc3)
  have U03 := Lib.hid (show Upd (fun b => b = wb) w w3 from ((((upd_set _ _ _ _).trans' (Upd.of_below HB2.out)).trans' (upd_set _ _ _ _)).trans' hu3))
  have hok : ListsOk (L.map (·.2)) (relP ws x s) F := by
    refine OK.out.same (by simp [relP, tellP]) (fun y t hy => ?_)
    have n1 : y ≠ x - 1 := fun h => hF1 t (h ▸ hy)
    have n2 : y ≠ x + s := fun h => hF2 t (h ▸ hy)
    unfold relP tellP
    rw [getD_set', if_neg (fun h => n2 h.1), getD_set']
    split
    · rename_i h
      rw [h.1]; omega
    · rw [getD_set', if_neg (fun h => n1 h.1)]
  have HOK := Lib.hid hok
  clear hc3 hu3 hok
  go_wp2_with fail
  refine (enlist_at HR.out HOK.out x s (by omega) hs0 hsm hk hL hxF hF).mono ?_
  rintro e w4 ⟨rfl, h4⟩
  have H4 := Lib.hid h4
  clear h4
  go_wp2
  refine bodyPost_end (v := .tuple #[]) (results_none rfl _ _ _) rfl ⟨rfl, ?_⟩
  obtain ⟨SL', ws', L', T', K', a1, a2, a3, a4, a5, a6⟩ := H4.out
  refine ⟨SL', ws', L', T', K', a1, a2, a3, a4, fun b hb => (a5 b hb).imp id (fun h => Nat.le_trans U03.out.size h), (U03.out.mono (fun b _ h => .inl h)).trans' a6⟩
end Go.Proofs.YtelohkppbmahnaaDoor

/- package arena: size, find. -/
namespace Go.Proofs.YtelohkppbmahnaaDoor
open Go.RowKit

theorem size_at {SL : Nat → Prop} {w : World} {p wb m mc : Nat} {tv kv uv lv : Value} {ws : List Nat} {L : List (Value × List (Ent Value))} {T K : Nat → Nat} (c : Core SL w p wb m mc tv kv uv lv ws L T K) (x : Nat) (hx : 1 ≤ x) (hxm : x ≤ m) :
    Calls Tryd.prog 29 #[.pointer (some ⟨p, 0, none⟩), .int .i64 x] w fun e w' => e = .returned (.int .i64 ((ws.getD (x - 1) 0 / 2 : Nat) : Int)) ∧ w = w' := by
  have c0 := heap_cell c.blk 0
  simp at c0
  have hsm := c.small
  have hlen := c.len
  have cw := c.word (x - 1) (by omega)
  have h64 := c.w64 (x - 1)
  obtain ⟨y, hy⟩ : ∃ y, ws.getD (x - 1) 0 = y := ⟨_, rfl⟩
  rw [hy] at cw h64 ⊢
  have e1 : IntKind.i64.wrap ((x : Int) - 1) = ((x - 1 : Nat) : Int) := by rw [IntWalk.i64_in _ ⟨by omega, by omega⟩]; omega
  have e2 : ((y / 2 : Nat) : Int) = (y : Int) / 2 := by omega
  rw [e2]
  clear c hy hlen e2
  go_enter Tryd.func29, Tryd.ntmps29
  go_wp2
  go_ret
  exact ⟨rfl, rfl⟩
theorem find1_at (w : World) (lb sb mb n c i s y : Nat) (h1 : w.cell? ⟨lb, 0, none⟩ = some (.slice (some ⟨mb, 0, none⟩) n c)) (h2 : w.cell? ⟨sb, 0, none⟩ = some (.int .i64 s)) (h3 : w.cell? ⟨mb, i * 2, none⟩ = some (.int .i64 y)) (hi : i < n) (_ : n ≤ 1048576) :
    Calls Tryd.prog 55 (#[.int .i64 i] ++ #[.pointer (some ⟨lb, 0, none⟩), .pointer (some ⟨sb, 0, none⟩)]) w fun e w' => e = .returned (.bool (decide (s ≤ y))) ∧ Below w.heap.size w w' := by
  go_enter Tryd.func55, Tryd.ntmps55
  go_wp2
  go_quiet (fail)
  go_wp2
  go_ret
  exact ⟨by simp, below_drewN' (Below.refl _ _) _⟩
def firstP (l2 : List (Ent Value)) : Nat := match l2 with
  | [] => 0
  | e :: _ => e.h.getD 0 0
set_option maxHeartbeats 2000000 in
theorem pick_at (w : World) (nb s : Nat) (l1 l2 : List (Ent Value)) (mv : Value) (hnb : w.cell? ⟨nb, 0, none⟩ = some (.int .i64 s))
    (mrow : w.ownsRow 0 69 2 mv (l1 ++ l2).length (flatE (l1 ++ l2))) (hrow : ∀ e ∈ l2, w.ownsRow 0 3 1 e.v e.h.length (ints e.h)) (hne : ∀ e ∈ l2, e.h ≠ []) (p1 : ∀ e ∈ l1, e.s < s) (p2 : ∀ e ∈ l2, s ≤ e.s) (hl : (l1 ++ l2).length ≤ 1048576) :
    Calls Tryd.prog 53 #[mv, .pointer (some ⟨nb, 0, none⟩)] w fun e w' => e = .returned (.int .i64 (firstP l2)) ∧ Below w.heap.size w w' := by
  obtain ⟨mao, mcap, rfl, hmc, hmm, _⟩ := ownsRow_form mrow
  obtain ⟨n, hn⟩ : ∃ n, (l1 ++ l2).length = n := ⟨_, rfl⟩
  obtain ⟨k1, hk1⟩ : ∃ k1, l1.length = k1 := ⟨_, rfl⟩
  have hk1n : k1 ≤ n := by rw [← hn, ← hk1]; simp
  obtain ⟨fp, hfp⟩ : ∃ fp, firstP l2 = fp := ⟨_, rfl⟩
  rw [hfp]
  have HFP := Lib.hid hfp
  clear hfp
  rw [hn] at mrow hmc hl ⊢
  obtain ⟨W1, hW1⟩ : ∃ W1, W1 = w.alloc (.cells #[.slice mao n mcap] 67) := ⟨_, rfl⟩
  have hb1 : Below w.heap.size w W1 := by rw [hW1]; exact (Below.refl _ _).alloc (Nat.le_refl _) _
  have b0 := heap_alloc_at w (.cells #[.slice mao n mcap] 67) (b := w.heap.size) rfl
  rw [← hW1] at b0
  have g1 := Ext.cells (w0 := W1) (heap_cell b0 0)
  have g0 := Ext.cells (w0 := W1) (below_cell hb1 hnb)
  simp at g1
  have q1 := g1 ⟨W1, Below.refl _ _⟩
  have HN := Lib.hid hn; have HK1 := Lib.hid hk1; have MR := Lib.hid mrow; have P1 := Lib.hid p1; have P2 := Lib.hid p2; have HROW := Lib.hid hrow; have HNE := Lib.hid hne; have HW := Lib.hid hW1; have HB1 := Lib.hid hb1; have G1 := Lib.hid g1
  clear hn hk1 mrow p1 p2 hrow hne hb1 hnb b0
  go_enter Tryd.func53, Tryd.ntmps53
  rw [hW1] at q1
  go_wp2_with fail
  rw [← HW.out]
  refine (search_at 55 _ n k1 W1 (fun _ _ => rfl) hk1n hl (fun x i hi => ?_)).mono ?_
  · have hmr := ownsRow_upd (S := fun _ => False) MR.out (Upd.of_below (HB1.out.trans (x.2.mono HB1.out.size))) (fun _ _ h => h)
    obtain ⟨e, he⟩ : ∃ e, (l1 ++ l2)[i]? = some e := ⟨_, List.getElem?_eq_getElem (by rw [HN.out]; exact hi)⟩
    obtain ⟨g, cap, cur, hv, _, _, _, hcell⟩ := ownsRow_some hmr (by omega)
    simp only [Value.slice.injEq] at hv
    obtain ⟨rfl, _, rfl⟩ := hv
    have hc := hcell (i * 2) (by omega)
    rw [(flatE_at _ i e he).1] at hc
    refine (find1_at x.val _ _ g n mcap i s e.s (g1 x) (g0 x) hc hi hl).mono ?_
    rintro e' w' ⟨rfl, hb⟩
    refine ⟨?_, hb⟩
    rw [split_tells s P1.out P2.out i e he, HK1.out]
  rintro e w3 ⟨rfl, hb3⟩
  have q3 : w3.cell? ⟨w.heap.size, 0, none⟩ = some (.slice mao n mcap) := G1.out ⟨w3, hb3⟩
  have HB3 := Lib.hid hb3
  have hwb : Below w.heap.size w w3 := HB1.out.trans (hb3.mono HB1.out.size)
  have HWB := Lib.hid hwb
  clear g0 g1 q1 hb3 hwb hW1
  cases l2 with
  | nil =>
    have hkn : n = k1 := by have a := HN.out; have b := HK1.out; simp at a; omega
    subst hkn
    have hf0 := HFP.out
    simp only [firstP] at hf0
    subst hf0
    go_wp2
    go_ret
    exact ⟨rfl, HWB.out⟩
  | cons e r =>
    have hkn : k1 < n := by have a := HN.out; have b := HK1.out; simp at a; omega
    have he : (l1 ++ e :: r)[k1]? = some e := by rw [← HK1.out]; simp
    have hmr := ownsRow_upd (S := fun _ => False) MR.out (Upd.of_below HWB.out) (fun _ _ h => h)
    obtain ⟨g, cap, cur, hv, _, _, _, hcell⟩ := ownsRow_some hmr (by omega)
    simp only [Value.slice.injEq] at hv
    obtain ⟨rfl, _, rfl⟩ := hv
    have hc := hcell (k1 * 2 + 1) (by omega)
    rw [(flatE_at _ k1 e he).2] at hc
    have hlen : 0 < e.h.length := List.length_pos_iff.2 (HNE.out e (by simp))
    obtain ⟨hb, hcap, hcur, hev, _, _, _, hhc⟩ := ownsRow_some (ownsRow_upd (S := fun _ => False) (HROW.out e (by simp)) (Upd.of_below HWB.out) (fun _ _ h => h)) hlen
    rw [hev] at hc
    have hc0 := hhc 0 (by omega)
    rw [ints_at hlen] at hc0
    obtain ⟨a, ha⟩ : ∃ a, e.h.getD 0 0 = a := ⟨_, rfl⟩
    obtain ⟨hl2, hhl2⟩ : ∃ hl, e.h.length = hl := ⟨_, rfl⟩
    rw [ha] at hc0
    rw [hhl2] at hc hlen
    obtain rfl : fp = a := by rw [← HFP.out, ← ha]; rfl
    have hne1 : ¬ k1 = n := by omega
    have hne2 : ¬ (k1 : Int) = n := by omega
    clear he hmr hcell hev hhc ha hhl2
    go_wp2
    go_ret
    exact ⟨rfl, HWB.out⟩
/-- The free block that has room: the least one, of several the lowest; 0: there is none. -/
def FindSpec (F : Nat → Nat → Prop) (n a : Nat) : Prop := (a = 0 ∧ ∀ x s, F x s → s < n) ∨ (1 ≤ a ∧ ∃ s, F a s ∧ n ≤ s ∧ ∀ x s', F x s' → n ≤ s' → s < s' ∨ (s = s' ∧ a ≤ x))
theorem log2_mono {a b : Nat} (ha : 0 < a) (h : a ≤ b) : Nat.log2 a ≤ Nat.log2 b := by
  rw [Nat.le_log2 (by omega)]
  exact Nat.le_trans (Nat.log2_self_le (by omega)) h
theorem find_hit {V : Type} {L : List (List (Ent V))} {ws : List Nat} {F : Nat → Nat → Prop} (ok : ListsOk L ws F) {n k : Nat} {l1 l2 : List (Ent V)} {e : Ent V} (hl : L[k]? = some (l1 ++ e :: l2)) (h1 : 1 ≤ n) (p1 : ∀ a ∈ l1, a.s < n) (p2 : ∀ a ∈ e :: l2, n ≤ a.s) (hinv : ∀ x s, F x s → n ≤ s → k ≤ Nat.log2 s) (hF1 : ∀ x s, F x s → 1 ≤ x) : FindSpec F n (e.h.getD 0 0) := by
  have hem : e ∈ l1 ++ e :: l2 := by simp
  have hh := ok.heap k _ hl e hem
  have hpos := ok.pos k _ hl e hem
  have hlen : 0 < e.h.length := List.length_pos_iff.2 hpos.2.2
  have hin : e.h.getD 0 0 ∈ e.h := mem_getD.2 ⟨0, hlen, rfl⟩
  have hf := (ok.mem k _ hl e hem _).1 hin
  have hsorted := ok.sorted k _ hl
  refine .inr ⟨hF1 _ _ hf, e.s, hf, p2 e (by simp), fun x s' hx hs' => ?_⟩
  have hk := hinv x s' hx hs'
  obtain ⟨l', hl', e', he', rfl⟩ := ok.all x s' hx
  by_cases hkk : Nat.log2 e'.s = k
  · rw [hkk, hl] at hl'
    simp only [Option.some.injEq] at hl'
    subst hl'
    rcases List.mem_append.1 he' with h | h
    · have := p1 e' h; omega
    · rcases List.mem_cons.1 h with h | h
      · subst h
        right
        obtain ⟨j, hj, hjx⟩ := mem_getD.1 ((ok.mem k _ hl e' hem x).2 hx)
        exact ⟨rfl, by rw [← hjx]; exact hh.least j hj⟩
      · left
        rw [List.pairwise_append, List.pairwise_cons] at hsorted
        exact hsorted.2.1.1 e' h
  · left
    have h2 : Nat.log2 e.s < Nat.log2 e'.s := by rw [hpos.2.1]; omega
    by_cases h3 : e.s < e'.s
    · exact h3
    · have := log2_mono (by have := hpos.1; have := p2 e (by simp); omega : 0 < e'.s) (by omega : e'.s ≤ e.s)
      omega
theorem find_miss {V : Type} {L : List (List (Ent V))} {ws : List Nat} {F : Nat → Nat → Prop} (ok : ListsOk L ws F) {n k : Nat} {l1 : List (Ent V)} (hl : L[k]? = some l1) (p1 : ∀ a ∈ l1, a.s < n) (hinv : ∀ x s, F x s → n ≤ s → k ≤ Nat.log2 s) : ∀ x s, F x s → n ≤ s → k + 1 ≤ Nat.log2 s := fun x s hx hs => by
  have h1 := hinv x s hx hs
  obtain ⟨l', hl', e', he', rfl⟩ := ok.all x s hx
  by_cases hkk : Nat.log2 e'.s = k
  · rw [hkk, hl] at hl'
    simp only [Option.some.injEq] at hl'
    subst hl'
    have := p1 e' he'
    omega
  · omega
set_option maxRecDepth 100000 in
set_option maxHeartbeats 4000000 in
theorem find_at {SL : Nat → Prop} {w : World} {p wb m mc : Nat} {tv kv uv lv : Value} {ws : List Nat} {L : List (Value × List (Ent Value))} {T K : Nat → Nat} {F : Nat → Nat → Prop} (c : Core SL w p wb m mc tv kv uv lv ws L T K) (ok : ListsOk (L.map (·.2)) ws F) (n : Nat) (hn : 1 ≤ n) (hnm : n < 1048577) (hk : Nat.log2 n < L.length) (hL : L.length ≤ 64) (hF : ∀ x s, F x s → s < 1048576) (hF1 : ∀ x s, F x s → 1 ≤ x) :
    Calls Tryd.prog 28 #[.pointer (some ⟨p, 0, none⟩), .int .i64 n] w fun e w' => (∃ a : Nat, e = .returned (.int .i64 a) ∧ FindSpec F n a) ∧ Below w.heap.size w w' := by
  obtain ⟨gb, lc, lcur, rfl, _, hlc1, hlc2, hlcell⟩ := ownsRow_some c.ls.row (by omega)
  unfold maxLen at hlc2
  obtain ⟨ln, hln⟩ : ∃ ln, L.length = ln := ⟨_, rfl⟩
  have c4 := heap_cell c.blk 4
  simp at c4
  rw [hln] at c4 hlc1 hk hL hlcell
  obtain ⟨W1, hW1⟩ : ∃ W1, W1 = w.alloc (.cells #[.int .i64 n] 3) := ⟨_, rfl⟩
  have hb1 : Below w.heap.size w W1 := by rw [hW1]; exact (Below.refl _ _).alloc (Nat.le_refl _) _
  have b0 := heap_alloc_at w (.cells #[.int .i64 n] 3) (b := w.heap.size) rfl
  rw [← hW1] at b0
  have g0 := Ext.cells (w0 := W1) (heap_cell b0 0)
  have g4 := Ext.cells (w0 := W1) (below_cell hb1 c4)
  simp at g0
  have hmf : ∀ (fn : Fn) (first cap : Array Value) (w : World), (Instr.makeFunc fn first cap).run Tryd.prog w = .ok (.func fn first cap) w := fun _ _ _ _ => rfl
  have hlk : ¬ lc = Nat.log2 n := by omega
  have C := Lib.hid c; have OK := Lib.hid ok; have HW := Lib.hid hW1; have HB1 := Lib.hid hb1; have G0 := Lib.hid g0; have HLC := Lib.hid hlcell; have HLN := Lib.hid hln; have HF := Lib.hid hF; have HF1 := Lib.hid hF1
  obtain ⟨k, hkk⟩ : ∃ k, Nat.log2 n = k := ⟨_, rfl⟩
  have HK := Lib.hid hkk
  have hlist := fun w => list_below n w (by omega) (by omega)
  rw [hkk] at hk hlk hlist
  have HLI := Lib.hid hlist
  clear c ok hW1 hb1 hlcell hln hF hF1 c4 hkk b0 hlist
  go_enter Tryd.func28, Tryd.ntmps28
  go_wp2
  rw [← HW.out]
  refine wp_region_calm (by kernel_rfl) (by kernel_rfl) ?_
  repeat (go_big_quiet_step ((exact Ext.call _ (HLI.out _))))
  refine wpQuiet_nil ?_
  rintro _ ⟨x0, rfl⟩
  have G4 := Lib.hid g4
  clear g0 g4
  go_wp2
  go_loopw [18] (fun t18 wr => ∃ (j : Nat) (x : Ext W1), wr = x.val ∧ t18 = .int .i64 j ∧ j ≤ ln - k ∧ ∀ y s, F y s → n ≤ s → k + j ≤ Nat.log2 s) (fun t18 _ => ln - k - (intOf t18).toNat)
  case atStart => exact ⟨0, x0, rfl, rfl, Nat.zero_le _, fun y s _ hs => by rw [← HK.out]; exact log2_mono (by omega) hs⟩
  case round =>
    obtain ⟨j, x, rfl, rfl, hj, hinv⟩ := hrel
    have HINV := Lib.hid hinv
    clear hinv
    by_cases hjl : j < ln - k
    · have hjl2 : (j : Int) < ((ln - k : Nat) : Int) := by omega
      have hkj : k + j < L.length := by rw [HLN.out]; omega
      obtain ⟨⟨mv, l⟩, hat⟩ : ∃ pr, L[k + j]? = some pr := ⟨_, List.getElem?_eq_getElem hkj⟩
      have hatl : (L.map (·.2))[k + j]? = some l := by rw [List.getElem?_map, hat]; rfl
      obtain ⟨l1, l2, rfl, p1, p2⟩ := split_at n l (OK.out.sorted _ _ hatl)
      have hb2 : Below w.heap.size w x.val := HB1.out.trans (x.2.mono HB1.out.size)
      have cg := below_cell hb2 (show w.cell? ⟨gb, k + j, none⟩ = some mv by
        have := HLC.out (k + j) (by rw [HLN.out] at hkj; omega)
        rw [List.getElem?_map, hat] at this
        exact this)
      have hmr := ownsRow_upd (S := fun _ => False) (C.out.ls.mrow _ _ hat) (Upd.of_below hb2) (fun _ _ h => h)
      dsimp only at hmr
      obtain ⟨mao, mcap, hmv, _⟩ := ownsRow_form hmr
      obtain ⟨mn, hmn⟩ : ∃ mn, (l1 ++ l2).length = mn := ⟨_, rfl⟩
      have hmr2 := hmr
      rw [hmn] at hmv
      rw [hmv] at cg hmr2
      have HMR := Lib.hid hmr2; have P1 := Lib.hid p1; have P2 := Lib.hid p2; have HAT := Lib.hid hat; have HATL := Lib.hid hatl; have HB2 := Lib.hid hb2
      clear hmr hmr2 p1 p2 hat hatl hmv hb2 hmn
      go_wp2_with fail
      refine (pick_at x.val w.heap.size n l1 l2 _ (G0.out x) HMR.out (fun e he => ownsRow_upd (S := fun _ => False) (C.out.ls.hrow _ _ HAT.out e (by simp [he])) (Upd.of_below HB2.out) (fun _ _ h => h)) (fun e he => (OK.out.pos _ _ HATL.out e (by simp [he])).2.2) P1.out P2.out (OK.out.len_le HF.out _ _ HATL.out)).mono ?_
      rintro e w2 ⟨rfl, hbw⟩
      have HX2 := Lib.hid (x.2.trans (hbw.mono x.2.size))
      clear hbw
      cases l2 with
      | nil =>
        have hz : firstP ([] : List (Ent Value)) = 0 := rfl
        rw [hz]
        have HN2 := Lib.hid (find_miss (l1 := l1) OK.out (by have := HATL.out; simpa using this) P1.out HINV.out)
        clear hz
        go_wp2
        go_roundw
        case rel => exact ⟨j + 1, ⟨w2, HX2.out⟩, rfl, rfl, by omega, fun y s h1 h2 => by have := HN2.out y s h1 h2; omega⟩
        case measure => simp [intOf]; omega
      | cons e r =>
        have hspec := find_hit OK.out HATL.out hn P1.out P2.out HINV.out HF1.out
        have hz : firstP (e :: r) = e.h.getD 0 0 := rfl
        rw [hz]
        obtain ⟨a, ha⟩ : ∃ a, e.h.getD 0 0 = a := ⟨_, rfl⟩
        rw [ha] at hspec ⊢
        have ha1 : 0 < a := by
          have hem : e ∈ l1 ++ e :: r := by simp
          have hlen : 0 < e.h.length := List.length_pos_iff.2 (OK.out.pos _ _ HATL.out e hem).2.2
          have := HF1.out _ _ ((OK.out.mem _ _ HATL.out e hem _).1 (mem_getD.2 ⟨0, hlen, rfl⟩))
          omega
        have ha2 : (0 : Int) < a := by omega
        have HS := Lib.hid hspec
        clear hspec hz ha
        go_wp2
        go_ret
        exact ⟨⟨a, rfl, HS.out⟩, HB1.out.trans (HX2.out.mono HB1.out.size)⟩
    · have hjl2 : ¬ (j : Int) < ((ln - k : Nat) : Int) := by omega
      go_wp2
      go_ret
      refine ⟨⟨0, rfl, .inl ⟨rfl, fun y s hy => ?_⟩⟩, HB1.out.trans (x.2.mono HB1.out.size)⟩
      by_cases h : n ≤ s
      · have h1 := HINV.out y s hy h
        obtain ⟨l, hl, _⟩ := OK.out.all y s hy
        have := (List.getElem?_eq_some_iff.1 hl).1
        rw [List.length_map, HLN.out] at this
        omega
      · omega
end Go.Proofs.YtelohkppbmahnaaDoor
