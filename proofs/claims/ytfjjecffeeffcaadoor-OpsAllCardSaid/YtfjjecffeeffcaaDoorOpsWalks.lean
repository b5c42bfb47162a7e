/- Layer 5 (ops): what the lookups by number compute. Condition: the tables runs, known, reaches lie in the blocks 0, 1, 2 as their initialisers lay them. -/
import Derived.Test.YtfjjecffeeffcaaDoorSplitSeq
import Derived.WalkKit
import Derived.WalkLawsBesides
import Derived.RegionTactic
import Derived.ChangeAlike
import Derived.Deep.QuietTactic
import Derived.BigQuiet
namespace Go.Proofs.YtfjjecffeeffcaaDoor
open Go.RowKit

/-- The table 'runs': each run's first opcode, and its shapes' letters. -/
def runsL : List (Int × List UInt8) := [(0, [46, 46, 98, 98, 98, 46]), (8, [105]), (10, [46, 46, 108, 108, 116, 46, 105, 50, 105, 50, 105, 105]), (26, [46, 46, 118]), (31, [121, 105, 105, 105, 105, 105, 105, 105]), (40, [109, 109]), (44, [109, 109, 109, 109, 109, 109, 109, 109, 109, 109, 109, 109]), (58, [109, 109, 109, 109, 109, 105, 105, 51, 54]), (69, [46, 46, 46, 46, 46, 46, 46, 46, 46, 46, 46, 46, 46, 46, 46, 46, 46, 46, 46, 46, 46, 46]), (103, [46, 46, 46, 46, 46, 46, 46, 46, 46, 46, 46, 46, 46, 46, 46, 46, 46, 46, 46, 46, 46, 46, 46, 46, 46, 46, 46, 46, 46, 46, 46, 46, 46, 46, 46, 46]), (167, [46]), (172, [46, 46]), (192, [46, 46, 46, 46, 46]), (208, [104, 46, 105, 46, 46, 108, 108]), (64256, [105, 105, 50, 50, 50, 50, 105, 105, 50, 50, 50, 105, 105, 105, 105, 46, 105, 50, 50, 50, 104, 104, 104, 104, 99, 99, 46, 46, 46, 46, 46]), (64520, [50, 105, 50, 105, 50, 105, 50, 105, 105, 105])]
def knownL : List (Int × Int) := [(42, 43), (56, 57), (67, 68), (91, 102), (139, 166), (168, 171), (174, 191), (64512, 64519), (253, 253)]
def reachL : List (Int × List UInt8) := [(40, [52, 56]), (44, [49, 49, 50, 50, 49, 49, 50, 50, 52, 52, 52, 56]), (58, [49, 50, 49, 50, 52])]
def rowC (l : List (Int × List UInt8)) : Array Value := (l.flatMap fun x => [Value.int .i64 x.1, Value.string ⟨x.2.toArray⟩]).toArray
def spanC (l : List (Int × Int)) : Array Value := (l.flatMap fun x => [Value.int .i64 x.1, Value.int .i64 x.2]).toArray
def runsC : Array Value := rowC runsL
def knownC : Array Value := spanC knownL
def reachC : Array Value := rowC reachL

structure OTab (w : World) : Prop where
  runs : ∃ t fr, w.heap[0]? = some (.cells runsC t fr)
  known : ∃ t fr, w.heap[1]? = some (.cells knownC t fr)
  reach : ∃ t fr, w.heap[2]? = some (.cells reachC t fr)
  maxlen : ∃ m, w.cell? ⟨3, 0, none⟩ = some (.int .i64 m)

theorem OTab.pos {w : World} (h : OTab w) : 3 < w.heap.size := by
  obtain ⟨m, h⟩ := h.maxlen
  exact World.block_lt_of_cell? _ _ h
theorem OTab.below {w w' : World} (h : OTab w) (hb : Below w.heap.size w w') : OTab w' := by
  have hp := h.pos
  refine ⟨?_, ?_, ?_, ?_⟩
  · rw [hb.block _ (by omega)]; exact h.runs
  · rw [hb.block _ (by omega)]; exact h.known
  · rw [hb.block _ (by omega)]; exact h.reach
  · obtain ⟨m, hm⟩ := h.maxlen
    exact ⟨m, by rw [hb.cell (by simpa using hp)]; exact hm⟩

theorem idx_runs : ∀ k : Nat, k < 16 → ∀ w, (Instr.index 41 (.agg runsC) (.int .i64 k)).run Tryd.prog w = .ok (.agg #[.int .i64 (runsL.getD k (0, [])).1, .string ⟨(runsL.getD k (0, [])).2.toArray⟩]) w := by
  intro k hk
  match k, hk with
  | 0, _ => exact fun w => by kernel_rfl
  | 1, _ => exact fun w => by kernel_rfl
  | 2, _ => exact fun w => by kernel_rfl
  | 3, _ => exact fun w => by kernel_rfl
  | 4, _ => exact fun w => by kernel_rfl
  | 5, _ => exact fun w => by kernel_rfl
  | 6, _ => exact fun w => by kernel_rfl
  | 7, _ => exact fun w => by kernel_rfl
  | 8, _ => exact fun w => by kernel_rfl
  | 9, _ => exact fun w => by kernel_rfl
  | 10, _ => exact fun w => by kernel_rfl
  | 11, _ => exact fun w => by kernel_rfl
  | 12, _ => exact fun w => by kernel_rfl
  | 13, _ => exact fun w => by kernel_rfl
  | 14, _ => exact fun w => by kernel_rfl
  | 15, _ => exact fun w => by kernel_rfl
  | k + 16, h => exact absurd h (by omega)

theorem ret2 {k1 k2 : IntKind} {a b c d : Int} (h : a = b) (h' : c = d) : Ending.returned (.tuple #[.int k1 a, .int k2 c]) = .returned (.tuple #[.int k1 b, .int k2 d]) := by rw [h, h']
theorem ret1 {k1 : IntKind} {a b : Int} (h : a = b) : Ending.returned (.int k1 a) = .returned (.int k1 b) := by rw [h]

def findGo : List (Int × List UInt8) → Int → Int → Int × Int
  | [], _, _ => (-1, 0)
  | (f, s) :: r, a, op => if f ≤ op ∧ op - f < s.length then (a + (op - f), ((s.getD (op - f).toNat 0).toNat : Int)) else findGo r (a + s.length) op
def findI (op : Int) : Int := (findGo runsL 0 op).1
def findL (op : Int) : Int := (findGo runsL 0 op).2
def lensTo (l : List (Int × List UInt8)) (k : Nat) : Nat := ((l.take k).map (·.2.length)).sum

theorem lensTo_succ (l : List (Int × List UInt8)) (k : Nat) (h : k < l.length) : lensTo l (k + 1) = lensTo l k + (l.getD k (0, [])).2.length := by
  unfold lensTo
  rw [List.take_succ_eq_append_getElem h, List.map_append, List.sum_append, List.getD_eq_getElem?_getD, List.getElem?_eq_getElem h]
  rfl
theorem runs_at (k : Nat) (hk : k < 16) : ∃ (f : Int) (s : List UInt8) (a : Nat), runsL.getD k (0, []) = (f, s) ∧ lensTo runsL k = a ∧ runsL.drop k = (f, s) :: runsL.drop (k + 1) ∧ 0 ≤ f ∧ f ≤ 65000 ∧ s.length ≤ 40 ∧ a ≤ 200 := by
  have hl : runsL.length = 16 := rfl
  have hall : ∀ x ∈ runsL, 0 ≤ x.1 ∧ x.1 ≤ 65000 ∧ x.2.length ≤ 40 := by decide
  have hm : runsL.getD k (0, []) ∈ runsL := by
    rw [List.getD_eq_getElem?_getD, List.getElem?_eq_getElem (by omega)]
    exact List.getElem_mem _
  obtain ⟨h1, h2, h3⟩ := hall _ hm
  refine ⟨(runsL.getD k (0, [])).1, (runsL.getD k (0, [])).2, lensTo runsL k, rfl, rfl, ?_, h1, h2, h3, ?_⟩
  · rw [List.drop_eq_getElem_cons (by omega)]
    rw [List.getD_eq_getElem?_getD, List.getElem?_eq_getElem (show k < runsL.length by omega)]
    rfl
  · have : ∀ k, k < 16 → lensTo runsL k ≤ 200 := by decide
    exact this k hk

set_option maxHeartbeats 1000000 in
theorem find_any (op : Int) (w : World) (h0 : -9223372036854775808 ≤ op) (h1 : op ≤ 9223372036854775807) (ht : OTab w) :
    Calls Tryd.prog 22 #[.int .i64 op] w fun e w' => e = .returned (.tuple #[.int .i64 (findI op), .int .u8 (findL op)]) ∧ Below w.heap.size w w' := by
  obtain ⟨t, fr, hg⟩ := ht.runs
  clear ht
  go_enter Tryd.func22, Tryd.ntmps22
  go_wp2_with (refine wpList_load_row rfl 41 _ rfl 0 rfl t _ fr _ hg Tryd.underlying41 rfl (by kernel_rfl) ?_)
  go_loopw [4, 9] (fun t4 t9 wr => ∃ k : Nat, k ≤ 16 ∧ t9 = .int .i64 k ∧ t4 = .int .i64 (lensTo runsL k) ∧ findGo (runsL.drop k) (lensTo runsL k) op = findGo runsL 0 op ∧ Below w.heap.size w wr) (fun _ t9 _ => 16 - (intOf t9).toNat)
  case atStart => exact ⟨0, by omega, rfl, rfl, rfl, Below.refl _ _⟩
  case round =>
    obtain ⟨k, hk, rfl, rfl, hgo, hb⟩ := hrel
    have HGO := Lib.hid hgo
    have HB := Lib.hid hb
    clear hgo hb hg
    by_cases hlt : k < 16
    · obtain ⟨f, s, a, hr1, hr2, hr3, hf0, hf1, hs, ha⟩ := runs_at k hlt
      have HR1 := Lib.hid hr1
      have HR2 := Lib.hid hr2
      have HR3 := Lib.hid hr3
      have hix := idx_runs k hlt
      rw [hr1] at hix
      rw [hr2]
      clear hr1 hr2 hr3
      by_cases hop : f ≤ op
      · by_cases hin : op - f < s.length
        · have hn0 : 0 ≤ op - f := by omega
          have hn1 : (op - f).toNat < s.length := by omega
          go_wp2
          go_quiet (fail)
          go_wp2
          go_ret2
          have hr : (findI op, findL op) = ((a : Int) + (op - f), ((s.getD (op - f).toNat 0).toNat : Int)) := by rw [findI, findL, ← HGO.out, HR3.out, HR2.out, findGo, if_pos ⟨hop, hin⟩]
          simp only [Prod.mk.injEq] at hr
          refine ⟨ret2 hr.1.symm ?_, ?_⟩
          · rw [hr.2, List.getD_eq_getElem?_getD, List.getElem?_eq_getElem hn1]; rfl
          · exact below_drewN (HB.out.alloc HB.out.size _) _
        · go_wp2
          go_roundw
          case rel => exact ⟨k + 1, by omega, by go_num, by rw [lensTo_succ _ _ (show k < runsL.length from hlt), HR1.out, HR2.out]; go_num, by rw [← HGO.out, HR3.out, lensTo_succ _ _ (show k < runsL.length from hlt), HR1.out, findGo, if_neg (by omega)]; simp, HB.out.alloc HB.out.size _⟩
          case measure => simp [intOf]; omega
      · go_wp2
        go_roundw
        case rel => exact ⟨k + 1, by omega, by go_num, by rw [lensTo_succ _ _ (show k < runsL.length from hlt), HR1.out, HR2.out]; go_num, by rw [← HGO.out, HR3.out, lensTo_succ _ _ (show k < runsL.length from hlt), HR1.out, findGo, if_neg (by omega)]; simp, HB.out.alloc HB.out.size _⟩
        case measure => simp [intOf]; omega
    · obtain rfl : k = 16 := by omega
      have hr : (findI op, findL op) = (-1, 0) := by rw [findI, findL, ← HGO.out]; rfl
      simp only [Prod.mk.injEq] at hr
      have HR := Lib.hid hr
      clear hr HGO
      go_wp2
      go_ret2
      exact ⟨ret2 HR.out.1.symm HR.out.2.symm, HB.out⟩
end Go.Proofs.YtfjjecffeeffcaaDoor
