/- package arena: behind, release; size, has. -/
import Derived.Test.YtofoaheiblhpoaaArDelist
namespace Go.Proofs.Ytofoaheiblhpoaa
open Go.RowKit

section
variable {SL : Nat → Prop} {w : World} {p wb m mc : Nat} {tv kv uv lv : Value} {ws : List Nat} {L : List (Value × List (Ent Value))} {T K : Nat → Nat}
theorem Core.pwb (c : Core SL w p wb m mc tv kv uv lv ws L T K) : p ≠ wb := fun e => by
  obtain ⟨cc, hcc⟩ := row_block c.wrow (b := wb) rfl; rw [← e, c.blk] at hcc; simp at hcc
/-- Only the words turned. -/
theorem Core.words (c : Core SL w p wb m mc tv kv uv lv ws L T K) {w' : World} (u : Upd (fun b => b = wb) w w') {ws' : List Nat} (hr : w'.ownsRow 0 30 1 (.slice (some ⟨wb, 0, none⟩) m mc) m (u64s ws')) (hl : ws'.length = ws.length) (h64 : ∀ k, ws'.getD k 0 < 18446744073709551616) : Core SL w' p wb m mc tv kv uv lv ws' L T K := by
  refine ⟨u.heap_some c.blk c.pwb, hr, ⟨ownsRow_upd c.ls.row u (fun b hb e => ?_), c.ls.own, fun k pr hk => ownsRow_upd (c.ls.mrow k pr hk) u (fun b hb e => ?_), c.ls.mown, fun k pr hk e he => ownsRow_upd (c.ls.hrow k pr hk e he) u (fun b hb e' => ?_), c.ls.hown⟩, fun b hb => Nat.lt_of_lt_of_le (c.bound b hb) u.size, c.np, c.nwb, by rw [hl]; exact c.small, h64⟩
  · exact rows_ne c.ls.row c.wrow (by decide) hb (by rw [e]; rfl)
  · exact rows_ne (c.ls.mrow k pr hk) c.wrow (by decide) hb (by rw [e]; rfl)
  · exact rows_ne (c.ls.hrow k pr hk e he) c.wrow (by decide) hb (by rw [e']; rfl)
theorem Core.set (c : Core SL w p wb m mc tv kv uv lv ws L T K) (i v : Nat) (hv : v < 18446744073709551616) : Core SL (w.setCell ⟨wb, i, none⟩ (.int .u64 (v : Int))) p wb m mc tv kv uv lv (ws.set i v) L T K := by
  refine c.words (upd_set _ _ _ _) (by rw [u64s_set]; exact (c.wrow.stored i _).1) (by simp) (fun k => ?_)
  by_cases hi : i < ws.length
  · rw [getD_set _ _ _ _ hi]
    split
    · exact hv
    · exact c.w64 k
  · rw [List.set_eq_of_length_le (by omega)]; exact c.w64 k
theorem Core.below (c : Core SL w p wb m mc tv kv uv lv ws L T K) {w' : World} (hb : Below w.heap.size w w') : Core SL w' p wb m mc tv kv uv lv ws L T K :=
  c.words (Upd.of_below hb) (ownsRow_upd (S := fun _ => False) c.wrow (Upd.of_below hb) (fun _ _ h => h)) rfl c.w64
theorem Core.word (c : Core SL w p wb m mc tv kv uv lv ws L T K) (i : Nat) (hi : i < m) : w.cell? ⟨wb, i, none⟩ = some (.int .u64 (ws.getD i 0 : Nat)) := by
  rw [c.wrow.cellAt i (by omega), u64s_at (by rw [c.len]; exact hi)]
end
/-- The words when a block's neighbour behind is told of it. -/
def tellP (ws : List Nat) (e : Nat) (b : Bool) : List Nat := ws.set e (ws.getD e 0 / 2 * 2 + (if b then 1 else 0))
def WPost (SL : Nat → Prop) (w : World) (p wb m mc : Nat) (tv kv uv lv : Value) (ws : List Nat) (L : List (Value × List (Ent Value))) (T K : Nat → Nat) (e : Ending) (w' : World) : Prop :=
  e = .returned (.tuple #[]) ∧ Core SL w' p wb m mc tv kv uv lv ws L T K ∧ Upd (fun b => b = wb) w w'
set_option maxHeartbeats 1000000 in
theorem behind_at {SL : Nat → Prop} {w : World} {p wb m mc : Nat} {tv kv uv lv : Value} {ws : List Nat} {L : List (Value × List (Ent Value))} {T K : Nat → Nat} (c : Core SL w p wb m mc tv kv uv lv ws L T K) (q : Nat) (b : Bool) :
    Calls Try.prog 22 #[.pointer (some ⟨p, 0, none⟩), .int .i64 q, .bool b] w (WPost SL w p wb m mc tv kv uv lv (tellP ws q b) L T K) := by
  have c0 := heap_cell c.blk 0
  simp at c0
  have hlen := c.len
  have hsm := c.small
  have C := Lib.hid c
  by_cases hq : q < m
  · have hq2 : ¬ (m : Int) ≤ q := by omega
    have cw := c.word q hq
    have cf := c.wrow.frozenAt q
    have hy64 := c.w64 q
    obtain ⟨y, hy⟩ : ∃ y, ws.getD q 0 = y := ⟨_, rfl⟩
    rw [hy] at cw hy64
    have h1 : bits .andNot .u64 (y : Int) 1 = (y : Int) / 2 * 2 := by rw [andNot_one y hy64]; omega
    have h2 : bits .or .u64 ((y : Int) / 2 * 2) 1 = (y : Int) / 2 * 2 + 1 := by
      have := or_one y hy64
      rw [show ((y / 2 * 2 : Nat) : Int) = (y : Int) / 2 * 2 by omega] at this
      rw [this]; omega
    have hpw := c.pwb
    have hpw2 : wb ≠ p := fun e => hpw e.symm
    have HY := Lib.hid hy
    clear c hy hlen
    cases b
    · go_enter Try.func22, Try.ntmps22
      go_wp2
      refine bodyPost_end (v := .tuple #[]) (results_none rfl _ _ _) rfl ⟨rfl, ?_, upd_set _ _ _ _⟩
      have := C.out.set q (y / 2 * 2) (by omega)
      rw [show ((y / 2 * 2 : Nat) : Int) = (y : Int) / 2 * 2 by omega] at this
      simp only [tellP, HY.out]
      exact this
    · go_enter Try.func22, Try.ntmps22
      go_wp2
      refine bodyPost_end (v := .tuple #[]) (results_none rfl _ _ _) rfl ⟨rfl, ?_, (upd_set _ _ _ _).trans' (upd_set _ _ _ _)⟩
      have := (C.out.set q (y / 2 * 2) (by omega)).set q (y / 2 * 2 + 1) (by omega)
      rw [show ((y / 2 * 2 : Nat) : Int) = (y : Int) / 2 * 2 by omega, show ((y / 2 * 2 + 1 : Nat) : Int) = (y : Int) / 2 * 2 + 1 by omega, List.set_set] at this
      simp only [tellP, HY.out]
      exact this
  · have hq2 : (m : Int) ≤ q := by omega
    have ht : tellP ws q b = ws := by unfold tellP; rw [List.set_eq_of_length_le (by omega)]
    rw [ht]
    clear c hlen ht
    go_enter Try.func22, Try.ntmps22
    go_wp2
    refine bodyPost_ret (v := .tuple #[]) (results_none rfl _ _ _) rfl ⟨rfl, C.out, Upd.refl _ _⟩
/-- What release writes ahead of the lists. -/
def relP (ws : List Nat) (x s : Nat) : List Nat := tellP ((ws.set (x - 1) (2 * s)).set (x + s - 1) (s * 4294967296 + ws.getD (x + s - 1) 0 % 4294967296)) (x + s) true
theorem ListsOk.same {V : Type} {L : List (List (Ent V))} {ws ws' : List Nat} {F : Nat → Nat → Prop} (k : ListsOk L ws F) (hl : ws'.length = ws.length) (h : ∀ y t, F y t → ws'.getD y 0 % 4294967296 = ws.getD y 0 % 4294967296) : ListsOk L ws' F :=
  ⟨k.sorted, k.pos, fun j l hj e he => ⟨fun i hi => by rw [hl]; exact (k.heap j l hj e he).lt i hi, fun i hi => by
    rw [h _ e.s ((k.mem j l hj e he _).1 (mem_getD.2 ⟨i, hi, rfl⟩))]; exact (k.heap j l hj e he).back i hi, (k.heap j l hj e he).ord⟩, k.mem, k.all, k.uniq⟩
theorem getD_set' (l : List Nat) (i j x : Nat) : (l.set i x).getD j 0 = if j = i ∧ i < l.length then x else l.getD j 0 := by
  by_cases hi : i < l.length
  · rw [getD_set _ _ _ _ hi]; simp [hi]
  · rw [List.set_eq_of_length_le (by omega), if_neg (fun h => hi h.2)]
set_option maxHeartbeats 2000000 in
set_option maxRecDepth 100000 in
theorem release_at {SL : Nat → Prop} {w : World} {p wb m mc : Nat} {tv kv uv lv : Value} {ws : List Nat} {L : List (Value × List (Ent Value))} {T K : Nat → Nat} {F : Nat → Nat → Prop} (c : Core SL w p wb m mc tv kv uv lv ws L T K) (ok : ListsOk (L.map (·.2)) ws F)
    (x s : Nat) (hx : 1 ≤ x) (hs0 : 0 < s) (hxs : x + s ≤ m) (hsm : s < 1048576) (hk : Nat.log2 s < L.length) (hL : L.length ≤ 64) (hxF : ∀ t, ¬ F x t) (hF1 : ∀ t, ¬ F (x - 1) t) (hF2 : ∀ t, ¬ F (x + s) t) (hF : ∀ x s, F x s → s < 1048576) :
    Calls Try.prog 16 #[.pointer (some ⟨p, 0, none⟩), .int .i64 x, .int .i64 s] w (CorePost SL w p wb m mc tv kv uv lv (relP ws x s) L (more F x s) (fun y => y = x ∨ F y s)) := by
  have c0 := heap_cell c.blk 0
  simp at c0
  have hlen := c.len
  have hsm2 := c.small
  have hpw := c.pwb
  have hpw2 : wb ≠ p := fun e => hpw e.symm
  have cf1 := c.wrow.frozenAt (x - 1)
  have cw1 := c.word (x - 1) (by omega)
  have C := Lib.hid c; have OK := Lib.hid ok
  have e1 : IntKind.i64.wrap ((x : Int) - 1) = ((x - 1 : Nat) : Int) := by rw [IntWalk.i64_in _ ⟨by omega, by omega⟩]; omega
  have e2 : IntKind.i64.wrap ((x : Int) + s - 1) = ((x + s - 1 : Nat) : Int) := by rw [IntWalk.i64_in _ ⟨by omega, by omega⟩]; omega
  have C1 := c.set (x - 1) (2 * s) (by omega)
  have hz64 := C1.w64 (x + s - 1)
  have cw2 := C1.word (x + s - 1) (by omega)
  have hgz : (ws.set (x - 1) (2 * s)).getD (x + s - 1) 0 = ws.getD (x + s - 1) 0 := by rw [getD_set' , if_neg (fun h => by omega)]
  rw [hgz] at hz64 cw2
  obtain ⟨z, hz⟩ : ∃ z, ws.getD (x + s - 1) 0 = z := ⟨_, rfl⟩
  rw [hz] at hz64 cw2
  have hand : bits .and .u64 (z : Int) 4294967295 = (z : Int) % 4294967296 := by rw [and_low z hz64]; omega
  have hor : bits .or .u64 ((s : Int) * 4294967296) ((z : Int) % 4294967296) = (s : Int) * 4294967296 + (z : Int) % 4294967296 := by
    have := or_tail s z (by omega)
    rw [wrap_u64_in (by omega) (by omega), show ((z % 4294967296 : Nat) : Int) = (z : Int) % 4294967296 by omega] at this
    rw [this]; omega
  have HZ := Lib.hid hz
  have hw1 : w.setCell ⟨wb, x - 1, none⟩ (.int .u64 ((2 * s : Nat) : Int)) = w.setCell ⟨wb, x - 1, none⟩ (.int .u64 ((s : Int) * 2)) := by rw [show ((2 * s : Nat) : Int) = (s : Int) * 2 by omega]
  rw [hw1] at C1 cw2
  have HC1 := Lib.hid C1
  have d0 := Ext.cells (w0 := w.setCell ⟨wb, x - 1, none⟩ (.int .u64 ((s : Int) * 2))) (heap_cell C1.blk 0)
  have d1 := Ext.cells (w0 := w.setCell ⟨wb, x - 1, none⟩ (.int .u64 ((s : Int) * 2))) cw2
  simp at d0
  clear c ok C1 hgz hz hw1 cw2
  go_enter Try.func16, Try.ntmps16
  go_wp2
  refine wp_region_calm_tail 18 (by kernel_rfl) (by kernel_rfl) ?_
  simp only [List.take_succ_cons, List.take_zero, List.drop_succ_cons, List.drop_zero]
  repeat (go_big_quiet_step (fail))
  refine wpQuiet_nil ?_
  intro w2 hb2
  have C2 := HC1.out.below hb2
  have f2 := C2.wrow.frozenAt (x + s - 1)
  have g2 := C2.word (x + s - 1) (by omega)
  have HC2 := Lib.hid C2; have HB2 := Lib.hid hb2
  clear C2 hb2 d0 d1
  go_wp2_with fail
  have C3 := HC2.out.set (x + s - 1) (s * 4294967296 + z % 4294967296) (by omega)
  rw [show ((s * 4294967296 + z % 4294967296 : Nat) : Int) = (s : Int) * 4294967296 + (z : Int) % 4294967296 by omega] at C3
  have HC3 := Lib.hid C3
  clear C3
  refine (behind_at HC3.out (x + s) true).mono ?_
  rintro e w3 ⟨rfl, hc3, hu3⟩
  have HR := Lib.hid (show Core SL w3 p wb m mc tv kv uv lv (relP ws x s) L T K by unfold relP; rw [HZ.out]; exact hc3)
  have U03 := Lib.hid (show Upd (fun b => b = wb) w w3 from ((((upd_set _ _ _ _).trans' (Upd.of_below HB2.out)).trans' (upd_set _ _ _ _)).trans' hu3))
  have hok : ListsOk (L.map (·.2)) (relP ws x s) F := by
    refine OK.out.same (by simp [relP, tellP]) (fun y t hy => ?_)
    have n1 : y ≠ x - 1 := fun h => hF1 t (h ▸ hy)
    have n2 : y ≠ x + s := fun h => hF2 t (h ▸ hy)
    unfold relP tellP
    rw [getD_set', if_neg (fun h => n2 h.1), getD_set']
    split
    · rename_i h
      rw [h.1]; omega
    · rw [getD_set', if_neg (fun h => n1 h.1)]
  have HOK := Lib.hid hok
  clear hc3 hu3 hok
  go_wp2_with fail
  refine (enlist_at HR.out HOK.out x s (by omega) hs0 hsm hk hL hxF hF).mono ?_
  rintro e w4 ⟨rfl, h4⟩
  have H4 := Lib.hid h4
  clear h4
  go_wp2
  refine bodyPost_end (v := .tuple #[]) (results_none rfl _ _ _) rfl ⟨rfl, ?_⟩
  obtain ⟨SL', ws', L', T', K', a1, a2, a3, a4, a5, a6⟩ := H4.out
  refine ⟨SL', ws', L', T', K', a1, a2, a3, a4, fun b hb => (a5 b hb).imp id (fun h => Nat.le_trans U03.out.size h), (U03.out.mono (fun b _ h => .inl h)).trans' a6⟩
end Go.Proofs.Ytofoaheiblhpoaa
