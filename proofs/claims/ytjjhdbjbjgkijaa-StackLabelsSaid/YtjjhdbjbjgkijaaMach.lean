/- A table without types, a machine over it: how they lie; roll.New, Get(-1), stack.New. -/
import Derived.Test.YtjjhdbjbjgkijaaClone
import Derived.Handy
import Derived.LaidEqlPtr
namespace Go.Proofs.Ytjjhdbjbjgkijaa
open Go.RowKit

/-- A table that New made, and to which nothing was added. -/
def TabAt (w : World) (T : Nat) : Prop := ∃ m, w.heap[T]? = some (.cells #[.slice none 0 0, .slice none 0 0, m, .pointer (some ⟨T, 0, none⟩)] 75 (0, 0))
def RollPost (w : World) (e : Ending) (w' : World) : Prop := ∃ T, e = .returned (.pointer (some ⟨T, 0, none⟩)) ∧ w.heap.size ≤ T ∧ TabAt w' T ∧ Below w.heap.size w w'

theorem cell_of_block {W : World} {B : Nat} {t : TypeId} {cs : Array Value} {fr : Nat × Nat} (h : W.heap[B]? = some (.cells cs t fr)) (j : Nat) : W.cell? ⟨B, j, none⟩ = cs[j]? := by
  simp [World.cell?, h]
theorem rollNew_any (w : World) : Calls Try.prog 9 #[] w (RollPost w) := by
  have hmk : ∀ w, (Instr.makeMap 72 none).run Try.prog w = .ok (.map (some w.heap.size)) (w.alloc (.map #[] 0)) := fun _ => rfl
  go_enter Try.func9, Try.ntmps9
  go_wp2
  go_ret
  refine ⟨w.heap.size + 1, rfl, by omega, ⟨.map (some w.heap.size), ?_⟩, ((Below.refl _ _).alloc (Nat.le_refl _) _).alloc (by simp) _⟩
  have := World.alloc_heap_new (w.alloc (.map #[] 0)) (.cells #[.slice none 0 0, .slice none 0 0, .map (some w.heap.size), .pointer (some ⟨w.heap.size + 1, 0, none⟩)] 75)
  simpa using this

theorem absent_nil (w : World) : Calls Try.prog 28 #[.pointer none] w fun e w' => e = .returned (.bool true) ∧ ∃ n, w' = w.drewN n := by
  go_enter Try.func28, Try.ntmps28
  go_wp2
  go_ret
  exact ⟨rfl, 0, rfl⟩
theorem made_nil (w : World) : Calls Try.prog 35 #[.pointer none] w fun e w' => e = .returned (.bool false) ∧ ∃ n, w' = w.drewN n := by
  go_enter Try.func35, Try.ntmps35
  go_wp2
  go_ret
  exact ⟨rfl, 0, rfl⟩
set_option maxRecDepth 100000 in
theorem made_tab (T : Nat) (w : World) (h : TabAt w T) : Calls Try.prog 35 #[.pointer (some ⟨T, 0, none⟩)] w fun e w' => e = .returned (.bool true) ∧ ∃ n, w' = w.drewN n := by
  obtain ⟨m, h⟩ := h
  have q0 := cell_of_block h 3
  simp at q0
  clear h
  obtain ⟨j, hj⟩ : ∃ j, Try.prog.info? 75 = some j := ⟨_, rfl⟩
  have hq := fun w (a : Addr) => run_eql_ptr_same (P := Try.prog) w a Try.underlying26 hj
  clear hj
  go_enter Try.func35, Try.ntmps35
  go_wp2
  go_ret
  exact ⟨rfl, 0, rfl⟩
def ZeroSub : Value := .agg #[.bool false, .slice none 0 0, .int .i64 0, .slice none 0 0, .slice none 0 0, .slice none 0 0]
theorem get_nil (id : Int) (w : World) : Calls Try.prog 27 #[.pointer none, .int .i64 id] w fun e w' => e = .returned (.tuple #[.agg #[.bool false, .slice none 0 0, .int .i64 0, .slice none 0 0, .slice none 0 0, .slice none 0 0], .int .i64 1]) ∧ Below w.heap.size w w' := by
  go_enter Try.func27, Try.ntmps27
  go_wp2_with fail
  refine (made_nil _).mono ?_
  rintro e w1 ⟨rfl, n, rfl⟩
  go_wp2
  refine bodyPost_ret (v := .tuple #[ZeroSub, .int .i64 1]) (by simp [results, Try.results27, ZeroSub, go_sem]) rfl ⟨rfl, ?_⟩
  have hb : Below w.heap.size w ((w.alloc (.cells #[.bool false, .slice none 0 0, .int .i64 0, .slice none 0 0, .slice none 0 0, .slice none 0 0] 69)).drewN n) := below_drewN ((Below.refl _ _).alloc (Nat.le_refl _) _) n
  exact ((((((hb.setCell (p := ⟨w.heap.size, 0, none⟩) (Nat.le_refl _) _).setCell (p := ⟨w.heap.size, 1, none⟩) (Nat.le_refl _) _).setCell (p := ⟨w.heap.size, 2, none⟩) (Nat.le_refl _) _).setCell (p := ⟨w.heap.size, 3, none⟩) (Nat.le_refl _) _).setCell (p := ⟨w.heap.size, 4, none⟩) (Nat.le_refl _) _).setCell (p := ⟨w.heap.size, 5, none⟩) (Nat.le_refl _) _)
theorem TabAt.below {w w' : World} {T : Nat} {B : Nat} (h : TabAt w T) (hb : Below B w w') (hT : T < B) : TabAt w' T := by
  obtain ⟨m, h⟩ := h
  exact ⟨m, by rw [hb.block T hT]; exact h⟩
theorem TabAt.lt {w : World} {T : Nat} (h : TabAt w T) : T < w.heap.size := by
  obtain ⟨m, h⟩ := h
  exact (Array.getElem?_eq_some_iff.1 h).1
theorem has_tab (T : Nat) (id : Int) (w : World) (h : TabAt w T) : Calls Try.prog 36 #[.pointer (some ⟨T, 0, none⟩), .int .i64 id] w fun e w' => e = .returned (.bool false) ∧ ∃ n, w' = w.drewN n := by
  obtain ⟨m, h⟩ := h
  have q0 := cell_of_block h 1
  simp at q0
  clear h
  by_cases h0 : 0 ≤ id
  · have h1 : ¬ id < 0 := by omega
    go_enter Try.func36, Try.ntmps36
    go_wp2
    go_ret
    exact ⟨rfl, 0, rfl⟩
  · go_enter Try.func36, Try.ntmps36
    go_wp2
    go_ret
    exact ⟨rfl, 0, rfl⟩
theorem get_tab (T : Nat) (id : Int) (w : World) (h : TabAt w T) : Calls Try.prog 27 #[.pointer (some ⟨T, 0, none⟩), .int .i64 id] w fun e w' => e = .returned (.tuple #[.agg #[.bool false, .slice none 0 0, .int .i64 0, .slice none 0 0, .slice none 0 0, .slice none 0 0], .int .i64 4]) ∧ Below w.heap.size w w' := by
  have H := Lib.hid h
  have hlt := h.lt
  clear h
  go_enter Try.func27, Try.ntmps27
  go_wp2_with fail
  have H1 := Lib.hid (H.out.below ((Below.refl _ _).alloc (Nat.le_refl _) (.cells #[.bool false, .slice none 0 0, .int .i64 0, .slice none 0 0, .slice none 0 0, .slice none 0 0] 69)) hlt)
  refine (made_tab T _ H1.out).mono ?_
  rintro e w1 ⟨rfl, n, rfl⟩
  go_wp2_with fail
  refine (has_tab T _ _ (by obtain ⟨m, h⟩ := H1.out; exact ⟨m, h⟩)).mono ?_
  rintro e w1 ⟨rfl, n', rfl⟩
  go_wp2
  refine bodyPost_ret (v := .tuple #[ZeroSub, .int .i64 4]) (by simp [results, Try.results27, ZeroSub, go_sem]) rfl ⟨rfl, ?_⟩
  have hb : Below w.heap.size w ((w.alloc (.cells #[.bool false, .slice none 0 0, .int .i64 0, .slice none 0 0, .slice none 0 0, .slice none 0 0] 69)).drewN (n + n')) := below_drewN ((Below.refl _ _).alloc (Nat.le_refl _) _) (n + n')
  exact ((((((hb.setCell (p := ⟨w.heap.size, 0, none⟩) (Nat.le_refl _) _).setCell (p := ⟨w.heap.size, 1, none⟩) (Nat.le_refl _) _).setCell (p := ⟨w.heap.size, 2, none⟩) (Nat.le_refl _) _).setCell (p := ⟨w.heap.size, 3, none⟩) (Nat.le_refl _) _).setCell (p := ⟨w.heap.size, 4, none⟩) (Nat.le_refl _) _).setCell (p := ⟨w.heap.size, 5, none⟩) (Nat.le_refl _) _)
end Go.Proofs.Ytjjhdbjbjgkijaa
