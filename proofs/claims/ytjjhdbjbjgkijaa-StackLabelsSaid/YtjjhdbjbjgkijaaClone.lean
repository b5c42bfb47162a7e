/- slices.Clone and kind.SameVals at lists of value types. -/
import Derived.Test.YtjjhdbjbjgkijaaVals
namespace Go.Proofs.Ytjjhdbjbjgkijaa
open Go.RowKit

theorem sameVals_any (a b : Value) (l m : List Vl) (w : World) (ha : ValsAt w a l) (hb : ValsAt w b m) (hl : l.length ≤ 1000000) (hm : m.length ≤ 1000000) :
    Calls Try.prog 15 #[a, b] w (EqPost l m w) := by
  go_enter Try.func15, Try.ntmps15
  go_wp2_with fail
  refine (equal_any a b l m w ha hb hl hm).mono ?_
  rintro e w' ⟨rfl, n, rfl⟩
  go_wp2
  go_ret
  exact ⟨rfl, n, rfl⟩

theorem Try.infoVal : (Try.prog.info? 41).map (fun i => (i.zero, i.size, i.bytes)) = some (some (.agg #[.int .i64 0, .bool false, .int .i64 0, .int .i64 0]), 4, 32) := by kernel_rfl

theorem ValsAt.alloc {w : World} {v : Value} {l : List Vl} (h : ValsAt w v l) (o : Obj) : ValsAt (w.alloc o) v l := by
  rcases h with h | ⟨a, cap, rfl, hc, h⟩
  · exact .inl h
  · refine .inr ⟨a, cap, rfl, hc, fun j u hu => ?_⟩
    have h1 := h j u hu
    rw [World.cell?_alloc_lt _ _ _ (World.block_lt_of_cell? _ _ h1)]
    exact h1

/-- What Clone hands back: a list of its own, in a new block (or nil). -/
def ClonePost (l : List Vl) (w : World) (e : Ending) (w' : World) : Prop := ∃ v, e = .returned v ∧ w'.ownsRow w.heap.size 41 4 v l.length (flatV l) ∧ Below w.heap.size w w'

theorem oneCell_flat (l : List Vl) : ∀ u ∈ flatV l, u.oneCell' = true := by
  intro u hu
  simp only [flatV, List.mem_flatMap, cellsV, List.mem_cons, List.not_mem_nil, or_false] at hu
  obtain ⟨v, _, (rfl | rfl | rfl | rfl)⟩ := hu <;> rfl

set_option maxRecDepth 100000 in
set_option maxHeartbeats 1000000 in
theorem clone_any (a : Value) (l : List Vl) (w : World) (ha : ValsAt w a l) (hl : l.length ≤ 1000000) :
    Calls Try.prog 29 #[a] w (ClonePost l w) := by
  obtain ⟨i0, hi, hz0, hz1, hz2⟩ := info_parts Try.infoVal
  have Hi := Lib.hid hi; have Hz0 := Lib.hid hz0; have Hz1 := Lib.hid hz1; have Hz2 := Lib.hid hz2
  clear hi hz0 hz1 hz2
  have e1 : ∀ (w : World) (a : Option Addr) (l c : Nat), (binOp .eql 22 (.slice a l c) (.slice none 0 0)).run Try.prog w = .ok (.bool a.isNone) w := fun w a l c => Lib.run_eql_slice_nil w _ _ a l c 0 0 Try.underlying22
  rcases ha with ⟨rfl, rfl⟩ | ⟨sa, cap, rfl, hcap, hc⟩
  · go_enter Try.func29, Try.ntmps29
    go_wp2
    go_ret
    exact ⟨_, rfl, World.ownsRow_nil _ _ _ _, Below.refl _ _⟩
  · have HC := Lib.hid hc
    clear hc
    go_enter Try.func29, Try.ntmps29
    have hown : (w.alloc (.cells #[] 41)).ownsRow w.heap.size 41 4 (.slice (some ⟨w.heap.size, 0, none⟩) 0 0) 0 [] :=
      ⟨rfl, .inr ⟨w.heap.size, 0, #[], rfl, Nat.le_refl _, World.alloc_heap_new _ _, by simp⟩⟩
    go_wp2_with (at_builtin; refine wpList_append_own _ rfl _ _ 22 rfl w.heap.size 41 i0 _ 4 32 Try.underlying22 Hi.out Hz0.out Hz1.out Hz2.out rfl (by decide) _ _ _ rfl hown sa l.length cap (flatV l) rfl (by rw [flatV_len]; omega) ?c1 (oneCell_flat l) ?c3 ?c4 ?c5 ?_)
    case c1 =>
      intro j u hu
      have h1 := HC.out j u hu
      rw [World.cell?_alloc_lt _ _ _ (World.block_lt_of_cell? _ _ h1)]
      exact h1
    case c3 => unfold maxLen; omega
    case c4 => omega
    case c5 => simp
    intro v' w1 hown1 hgrow _
    go_wp2
    go_ret
    exact ⟨_, rfl, by simpa using hown1, ((Below.refl _ _).alloc (Nat.le_refl _) _).grown hgrow (by simp) (fun k e => by simp [Value.ownBlock] at e; omega)⟩
end Go.Proofs.Ytjjhdbjbjgkijaa
