/- Layer 5 (ops): Name: the name of any opcode. -/
import Derived.Test.YtfjjecffeeffcaaDoorOpsAll
namespace Go.Proofs.YtfjjecffeeffcaaDoor
open Go.RowKit Go.Shelf
attribute [local go_sem] Oper.semAt_some

/-- The instructions' names, a blank between two. -/
def namesS : ByteArray := ⟨#[117, 110, 114, 101, 97, 99, 104, 97, 98, 108, 101, 32, 110, 111, 112, 32, 98, 108, 111, 99, 107, 32, 108, 111, 111, 112, 32, 105, 102, 32, 101, 108, 115, 101, 32, 116, 104, 114, 111, 119, 32, 116, 104, 114, 111, 119, 95, 114, 101, 102, 32, 101, 110, 100, 32, 98, 114, 32, 98, 114, 95, 105, 102, 32, 98, 114, 95, 116, 97, 98, 108, 101, 32, 114, 101, 116, 117, 114, 110, 32, 99, 97, 108, 108, 32, 99, 97, 108, 108, 95, 105, 110, 100, 105, 114, 101, 99, 116, 32, 114, 101, 116, 117, 114, 110, 95, 99, 97, 108, 108, 32, 114, 101, 116, 117, 114, 110, 95, 99, 97, 108, 108, 95, 105, 110, 100, 105, 114, 101, 99, 116, 32, 99, 97, 108, 108, 95, 114, 101, 102, 32, 114, 101, 116, 117, 114, 110, 95, 99, 97, 108, 108, 95, 114, 101, 102, 32, 100, 114, 111, 112, 32, 115, 101, 108, 101, 99, 116, 32, 115, 101, 108, 101, 99, 116, 95, 116, 32, 116, 114, 121, 95, 116, 97, 98, 108, 101, 32, 108, 111, 99, 97, 108, 46, 103, 101, 116, 32, 108, 111, 99, 97, 108, 46, 115, 101, 116, 32, 108, 111, 99, 97, 108, 46, 116, 101, 101, 32, 103, 108, 111, 98, 97, 108, 46, 103, 101, 116, 32, 103, 108, 111, 98, 97, 108, 46, 115, 101, 116, 32, 116, 97, 98, 108, 101, 46, 103, 101, 116, 32, 116, 97, 98, 108, 101, 46, 115, 101, 116, 32, 105, 51, 50, 46, 108, 111, 97, 100, 32, 105, 54, 52, 46, 108, 111, 97, 100, 32, 105, 51, 50, 46, 108, 111, 97, 100, 56, 95, 115, 32, 105, 51, 50, 46, 108, 111, 97, 100, 56, 95, 117, 32, 105, 51, 50, 46, 108, 111, 97, 100, 49, 54, 95, 115, 32, 105, 51, 50, 46, 108, 111, 97, 100, 49, 54, 95, 117, 32, 105, 54, 52, 46, 108, 111, 97, 100, 56, 95, 115, 32, 105, 54, 52, 46, 108, 111, 97, 100, 56, 95, 117, 32, 105, 54, 52, 46, 108, 111, 97, 100, 49, 54, 95, 115, 32, 105, 54, 52, 46, 108, 111, 97, 100, 49, 54, 95, 117, 32, 105, 54, 52, 46, 108, 111, 97, 100, 51, 50, 95, 115, 32, 105, 54, 52, 46, 108, 111, 97, 100, 51, 50, 95, 117, 32, 105, 51, 50, 46, 115, 116, 111, 114, 101, 32, 105, 54, 52, 46, 115, 116, 111, 114, 101, 32, 105, 51, 50, 46, 115, 116, 111, 114, 101, 56, 32, 105, 51, 50, 46, 115, 116, 111, 114, 101, 49, 54, 32, 105, 54, 52, 46, 115, 116, 111, 114, 101, 56, 32, 105, 54, 52, 46, 115, 116, 111, 114, 101, 49, 54, 32, 105, 54, 52, 46, 115, 116, 111, 114, 101, 51, 50, 32, 109, 101, 109, 111, 114, 121, 46, 115, 105, 122, 101, 32, 109, 101, 109, 111, 114, 121, 46, 103, 114, 111, 119, 32, 105, 51, 50, 46, 99, 111, 110, 115, 116, 32, 105, 54, 52, 46, 99, 111, 110, 115, 116, 32, 105, 51, 50, 46, 101, 113, 122, 32, 105, 51, 50, 46, 101, 113, 32, 105, 51, 50, 46, 110, 101, 32, 105, 51, 50, 46, 108, 116, 95, 115, 32, 105, 51, 50, 46, 108, 116, 95, 117, 32, 105, 51, 50, 46, 103, 116, 95, 115, 32, 105, 51, 50, 46, 103, 116, 95, 117, 32, 105, 51, 50, 46, 108, 101, 95, 115, 32, 105, 51, 50, 46, 108, 101, 95, 117, 32, 105, 51, 50, 46, 103, 101, 95, 115, 32, 105, 51, 50, 46, 103, 101, 95, 117, 32, 105, 54, 52, 46, 101, 113, 122, 32, 105, 54, 52, 46, 101, 113, 32, 105, 54, 52, 46, 110, 101, 32, 105, 54, 52, 46, 108, 116, 95, 115, 32, 105, 54, 52, 46, 108, 116, 95, 117, 32, 105, 54, 52, 46, 103, 116, 95, 115, 32, 105, 54, 52, 46, 103, 116, 95, 117, 32, 105, 54, 52, 46, 108, 101, 95, 115, 32, 105, 54, 52, 46, 108, 101, 95, 117, 32, 105, 54, 52, 46, 103, 101, 95, 115, 32, 105, 54, 52, 46, 103, 101, 95, 117, 32, 105, 51, 50, 46, 99, 108, 122, 32, 105, 51, 50, 46, 99, 116, 122, 32, 105, 51, 50, 46, 112, 111, 112, 99, 110, 116, 32, 105, 51, 50, 46, 97, 100, 100, 32, 105, 51, 50, 46, 115, 117, 98, 32, 105, 51, 50, 46, 109, 117, 108, 32, 105, 51, 50, 46, 100, 105, 118, 95, 115, 32, 105, 51, 50, 46, 100, 105, 118, 95, 117, 32, 105, 51, 50, 46, 114, 101, 109, 95, 115, 32, 105, 51, 50, 46, 114, 101, 109, 95, 117, 32, 105, 51, 50, 46, 97, 110, 100, 32, 105, 51, 50, 46, 111, 114, 32, 105, 51, 50, 46, 120, 111, 114, 32, 105, 51, 50, 46, 115, 104, 108, 32, 105, 51, 50, 46, 115, 104, 114, 95, 115, 32, 105, 51, 50, 46, 115, 104, 114, 95, 117, 32, 105, 51, 50, 46, 114, 111, 116, 108, 32, 105, 51, 50, 46, 114, 111, 116, 114, 32, 105, 54, 52, 46, 99, 108, 122, 32, 105, 54, 52, 46, 99, 116, 122, 32, 105, 54, 52, 46, 112, 111, 112, 99, 110, 116, 32, 105, 54, 52, 46, 97, 100, 100, 32, 105, 54, 52, 46, 115, 117, 98, 32, 105, 54, 52, 46, 109, 117, 108, 32, 105, 54, 52, 46, 100, 105, 118, 95, 115, 32, 105, 54, 52, 46, 100, 105, 118, 95, 117, 32, 105, 54, 52, 46, 114, 101, 109, 95, 115, 32, 105, 54, 52, 46, 114, 101, 109, 95, 117, 32, 105, 54, 52, 46, 97, 110, 100, 32, 105, 54, 52, 46, 111, 114, 32, 105, 54, 52, 46, 120, 111, 114, 32, 105, 54, 52, 46, 115, 104, 108, 32, 105, 54, 52, 46, 115, 104, 114, 95, 115, 32, 105, 54, 52, 46, 115, 104, 114, 95, 117, 32, 105, 54, 52, 46, 114, 111, 116, 108, 32, 105, 54, 52, 46, 114, 111, 116, 114, 32, 105, 51, 50, 46, 119, 114, 97, 112, 95, 105, 54, 52, 32, 105, 54, 52, 46, 101, 120, 116, 101, 110, 100, 95, 105, 51, 50, 95, 115, 32, 105, 54, 52, 46, 101, 120, 116, 101, 110, 100, 95, 105, 51, 50, 95, 117, 32, 105, 51, 50, 46, 101, 120, 116, 101, 110, 100, 56, 95, 115, 32, 105, 51, 50, 46, 101, 120, 116, 101, 110, 100, 49, 54, 95, 115, 32, 105, 54, 52, 46, 101, 120, 116, 101, 110, 100, 56, 95, 115, 32, 105, 54, 52, 46, 101, 120, 116, 101, 110, 100, 49, 54, 95, 115, 32, 105, 54, 52, 46, 101, 120, 116, 101, 110, 100, 51, 50, 95, 115, 32, 114, 101, 102, 46, 110, 117, 108, 108, 32, 114, 101, 102, 46, 105, 115, 95, 110, 117, 108, 108, 32, 114, 101, 102, 46, 102, 117, 110, 99, 32, 114, 101, 102, 46, 101, 113, 32, 114, 101, 102, 46, 97, 115, 95, 110, 111, 110, 95, 110, 117, 108, 108, 32, 98, 114, 95, 111, 110, 95, 110, 117, 108, 108, 32, 98, 114, 95, 111, 110, 95, 110, 111, 110, 95, 110, 117, 108, 108, 32, 115, 116, 114, 117, 99, 116, 46, 110, 101, 119, 32, 115, 116, 114, 117, 99, 116, 46, 110, 101, 119, 95, 100, 101, 102, 97, 117, 108, 116, 32, 115, 116, 114, 117, 99, 116, 46, 103, 101, 116, 32, 115, 116, 114, 117, 99, 116, 46, 103, 101, 116, 95, 115, 32, 115, 116, 114, 117, 99, 116, 46, 103, 101, 116, 95, 117, 32, 115, 116, 114, 117, 99, 116, 46, 115, 101, 116, 32, 97, 114, 114, 97, 121, 46, 110, 101, 119, 32, 97, 114, 114, 97, 121, 46, 110, 101, 119, 95, 100, 101, 102, 97, 117, 108, 116, 32, 97, 114, 114, 97, 121, 46, 110, 101, 119, 95, 102, 105, 120, 101, 100, 32, 97, 114, 114, 97, 121, 46, 110, 101, 119, 95, 100, 97, 116, 97, 32, 97, 114, 114, 97, 121, 46, 110, 101, 119, 95, 101, 108, 101, 109, 32, 97, 114, 114, 97, 121, 46, 103, 101, 116, 32, 97, 114, 114, 97, 121, 46, 103, 101, 116, 95, 115, 32, 97, 114, 114, 97, 121, 46, 103, 101, 116, 95, 117, 32, 97, 114, 114, 97, 121, 46, 115, 101, 116, 32, 97, 114, 114, 97, 121, 46, 108, 101, 110, 32, 97, 114, 114, 97, 121, 46, 102, 105, 108, 108, 32, 97, 114, 114, 97, 121, 46, 99, 111, 112, 121, 32, 97, 114, 114, 97, 121, 46, 105, 110, 105, 116, 95, 100, 97, 116, 97, 32, 97, 114, 114, 97, 121, 46, 105, 110, 105, 116, 95, 101, 108, 101, 109, 32, 114, 101, 102, 46, 116, 101, 115, 116, 32, 114, 101, 102, 46, 116, 101, 115, 116, 95, 110, 117, 108, 108, 32, 114, 101, 102, 46, 99, 97, 115, 116, 32, 114, 101, 102, 46, 99, 97, 115, 116, 95, 110, 117, 108, 108, 32, 98, 114, 95, 111, 110, 95, 99, 97, 115, 116, 32, 98, 114, 95, 111, 110, 95, 99, 97, 115, 116, 95, 102, 97, 105, 108, 32, 97, 110, 121, 46, 99, 111, 110, 118, 101, 114, 116, 95, 101, 120, 116, 101, 114, 110, 32, 101, 120, 116, 101, 114, 110, 46, 99, 111, 110, 118, 101, 114, 116, 95, 97, 110, 121, 32, 114, 101, 102, 46, 105, 51, 49, 32, 105, 51, 49, 46, 103, 101, 116, 95, 115, 32, 105, 51, 49, 46, 103, 101, 116, 95, 117, 32, 109, 101, 109, 111, 114, 121, 46, 105, 110, 105, 116, 32, 100, 97, 116, 97, 46, 100, 114, 111, 112, 32, 109, 101, 109, 111, 114, 121, 46, 99, 111, 112, 121, 32, 109, 101, 109, 111, 114, 121, 46, 102, 105, 108, 108, 32, 116, 97, 98, 108, 101, 46, 105, 110, 105, 116, 32, 101, 108, 101, 109, 46, 100, 114, 111, 112, 32, 116, 97, 98, 108, 101, 46, 99, 111, 112, 121, 32, 116, 97, 98, 108, 101, 46, 103, 114, 111, 119, 32, 116, 97, 98, 108, 101, 46, 115, 105, 122, 101, 32, 116, 97, 98, 108, 101, 46, 102, 105, 108, 108]⟩

/-- What holds between two rounds of Name's loop. -/
def NameI (w : World) (A : Nat) (at0 : Int) (pre : List ByteArray) (W : World) : Prop :=
  W.cell? ⟨w.heap.size, 0, none⟩ = some (.string ⟨#[]⟩) ∧ W.frozen? ⟨w.heap.size, 0, none⟩ = false ∧ W.cell? ⟨A, 0, none⟩ = some (.int .i64 (at0 - pre.length)) ∧ W.frozen? ⟨A, 0, none⟩ = false ∧
  (∀ j : Nat, j < pre.length → at0 ≠ j) ∧ Below w.heap.size w W
def NameX (w : World) (at0 : Int) (c : Code) (pre : List ByteArray) (W : World) : Prop :=
  c = .ret ∧ (∃ pre' nm, pre = pre' ++ [nm] ∧ at0 = pre'.length ∧ W.cell? ⟨w.heap.size, 0, none⟩ = some (.string nm)) ∧ Below w.heap.size w W

def NamePost (w : World) (at0 : Int) (e : Ending) (w' : World) : Prop := ∃ nm : ByteArray, e = .returned (.string nm) ∧ Below w.heap.size w w' ∧
  nm.data.toList = (if at0 < 0 then [] else (pieces 32 namesS.data.toList).getD at0.toNat [])

theorem cell_putObj {W : World} {l : Nat} {o : Obj} (o' : Obj) {a : Addr} {v : Value} (h : W.heap[l]? = some o) (ho : o.isCells = false) (hc : W.cell? a = some v) : (W.putObj l o').cell? a = some v :=
  cell_kept hc (grownBy_putObj' W l o') (fun r e => by cases e; exact ⟨_, h, ho⟩)
theorem frozen_putObj {W : World} {l : Nat} {o : Obj} (o' : Obj) {a : Addr} {v : Value} (h : W.heap[l]? = some o) (ho : o.isCells = false) (hc : W.cell? a = some v) (hf : W.frozen? a = false) : (W.putObj l o').frozen? a = false :=
  (frozen_kept hc (grownBy_putObj' W l o') (fun r e => by cases e; exact ⟨_, h, ho⟩)).trans hf
theorem Capt.putObj {b : Nat} {c : UInt8} {r : ByteArray} {W : World} {l : Nat} {o : Obj} (o' : Obj) (h : W.heap[l]? = some o) (ho : o.isCells = false) (hc : Capt b c r W) : Capt b c r (W.putObj l o') :=
  ⟨cell_putObj o' h ho hc.txt, frozen_putObj o' h ho hc.txt hc.free, cell_putObj o' h ho hc.sep, cell_putObj o' h ho hc.sav⟩
theorem NameI.putObj {w : World} {A : Nat} {at0 : Int} {pre : List ByteArray} {W : World} {l : Nat} {o : Obj} (o' : Obj) (hl : w.heap.size ≤ l) (h : W.heap[l]? = some o) (ho : o.isCells = false) (hi : NameI w A at0 pre W) : NameI w A at0 pre (W.putObj l o') := by
  obtain ⟨i1, i2, i3, i4, i5, i6⟩ := hi
  exact ⟨cell_putObj o' h ho i1, frozen_putObj o' h ho i1 i2, cell_putObj o' h ho i3, frozen_putObj o' h ho i3 i4, i5, i6.grown (grownBy_putObj' W l o') i6.size (fun k e => by cases e; exact hl)⟩
theorem NameX.putObj {w : World} {at0 : Int} {c : Code} {pre : List ByteArray} {W : World} {l : Nat} {o : Obj} (o' : Obj) (hl : w.heap.size ≤ l) (h : W.heap[l]? = some o) (ho : o.isCells = false) (hi : NameX w at0 c pre W) : NameX w at0 c pre (W.putObj l o') := by
  obtain ⟨i1, ⟨pre', nm, i2, i3, i4⟩, i6⟩ := hi
  exact ⟨i1, ⟨pre', nm, i2, i3, cell_putObj o' h ho i4⟩, i6.grown (grownBy_putObj' W l o') i6.size (fun k e => by cases e; exact hl)⟩
theorem NameI.set {w : World} {A b : Nat} {at0 : Int} {pre : List ByteArray} {W : World} (v : Value) (hb : w.heap.size ≤ b) (h1 : w.heap.size ≠ b) (h2 : A ≠ b) (hi : NameI w A at0 pre W) : NameI w A at0 pre (W.setCell ⟨b, 0, none⟩ v) := by
  obtain ⟨i1, i2, i3, i4, i5, i6⟩ := hi
  refine ⟨?_, by rw [World.frozen?_setCell]; exact i2, ?_, by rw [World.frozen?_setCell]; exact i4, i5, i6.setCell hb v⟩
  · rw [World.cell?_setCell_other]
    · exact i1
    · intro e; exact h1 (congrArg Addr.block e).symm
  · rw [World.cell?_setCell_other]
    · exact i3
    · intro e; exact h2 (congrArg Addr.block e).symm

theorem NameI.alloc2 {w : World} {A : Nat} {at0 : Int} {pre : List ByteArray} {W : World} (hi : NameI w A at0 pre W) (o o' : Obj) : NameI w A at0 pre ((W.alloc o).alloc o') := by
  obtain ⟨i1, i2, i3, i4, i5, i6⟩ := hi
  have hb : Below W.heap.size W ((W.alloc o).alloc o') := ((Below.refl _ _).alloc (Nat.le_refl _) _).alloc (by simp) _
  have hA : A < W.heap.size := World.block_lt_of_cell? _ _ i3
  have hw : w.heap.size < W.heap.size := World.block_lt_of_cell? _ _ i1
  exact ⟨(hb.cell hw).trans i1, (hb.frozen hw).trans i2, (hb.cell hA).trans i3, (hb.frozen hA).trans i4, i5, i6.trans (hb.mono i6.size)⟩

set_option maxRecDepth 100000 in
set_option maxHeartbeats 2000000 in
theorem name_core (op at0 : Int) (w : World) (h0 : -9223372036854775808 ≤ op) (h1 : op ≤ 9223372036854775807) (ht : OTab w) (hat : findI op = at0) (ha0 : -1 ≤ at0) (ha1 : at0 ≤ 200) (hN : (pieces 32 namesS.data.toList).length ≤ 200) :
    Calls Tryd.prog 12 #[.int .i64 op] w (NamePost w at0) := by
  have HAT := Lib.hid hat
  have Ht := Lib.hid (ht.below ((Below.refl _ _).alloc (Nat.le_refl _) (.cells #[.string ⟨#[]⟩] 9)))
  have HN := Lib.hid hN
  clear hat ht hN
  refine (callsIn_wide (n := 6)).1 ?_
  refine callsIn_of_wp_marks Tryd.func12 rfl trivial ?_ rfl
  simp only [Tryd.ntmps12, List.size_toArray, List.length_cons, List.length_nil, Nat.reduceAdd, Nat.reduceSub, Array.replicate_succ, Array.replicate_zero, List.push_toArray, List.append_toArray, List.nil_append, List.cons_append]
  gi_wp2_with (refine ⟨trivial, ?_⟩; gi_at_call 22; refine (callsIn_wide.2 (find_any _ _ h0 h1 Ht.out)).mono ?_; rintro e w1 ⟨rfl, hb1⟩; rw [HAT.out])
  refine ⟨trivial, ?_⟩
  refine (callsIn_wide.2 (splitSeq_any namesS ⟨#[32]⟩ _)).mono ?_
  rintro e w2 ⟨rfl, S, hS, rfl⟩
  gi_wp2
  obtain ⟨A, hA⟩ : ∃ A, A = w1.heap.size := ⟨_, rfl⟩
  have hzA : w.heap.size < A := by have := hb1.size; simp at this; omega
  have e1 : w1.cell? ⟨w.heap.size, 0, none⟩ = some (.string ⟨#[]⟩) := by rw [hb1.cell (by simp)]; simp
  have e2 : w1.frozen? ⟨w.heap.size, 0, none⟩ = false := by rw [hb1.frozen (by simp)]; simp
  have bel : Below w.heap.size w w1 := ((Below.refl _ _).alloc (Nat.le_refl _) _).trans (hb1.mono (by simp))
  obtain ⟨wl, hwl⟩ : ∃ wl, wl = ((((w1.alloc (.cells #[.int .i64 at0] 3)).alloc (.cells #[.string S] 9)).alloc (.cells #[.string ⟨#[32]⟩] 9)).alloc (.cells #[.int .i64 0] 3)) := ⟨_, rfl⟩
  have bW : Below w1.heap.size w1 wl := by rw [hwl]; exact ((((Below.refl _ _).alloc (Nat.le_refl _) _).alloc (by simp) _).alloc (by simp; omega) _).alloc (by simp; omega) _
  have hI0 : NameI w A at0 [] wl := by
    refine ⟨(bW.cell (by simp; omega)).trans e1, (bW.frozen (by simp; omega)).trans e2, ?_, ?_, fun j hj => by simp at hj, bel.trans (bW.mono bel.size)⟩
    · rw [hwl, World.cell?_alloc_past _ _ _ (by simp; omega), World.cell?_alloc_past _ _ _ (by simp; omega), World.cell?_alloc_past _ _ _ (by simp; omega), World.cell?_alloc_at _ _ _ _ hA]; simp
    · rw [hwl, World.frozen?_alloc_past _ _ _ (by simp; omega), World.frozen?_alloc_past _ _ _ (by simp; omega), World.frozen?_alloc_past _ _ _ (by simp; omega), World.frozen?_alloc_at _ _ _ _ hA]
  have hC0 : Capt (A + 1) 32 S wl := by
    refine ⟨?_, ?_, ?_, ?_⟩
    · rw [hwl, World.cell?_alloc_past _ _ _ (by simp; omega), World.cell?_alloc_past _ _ _ (by simp; omega), World.cell?_alloc_at _ _ _ _ (by simp; omega)]; simp
    · rw [hwl, World.frozen?_alloc_past _ _ _ (by simp; omega), World.frozen?_alloc_past _ _ _ (by simp; omega), World.frozen?_alloc_at _ _ _ _ (by simp; omega)]
    · rw [hwl, World.cell?_alloc_past _ _ _ (by simp; omega), World.cell?_alloc_at _ _ _ _ (by simp; omega)]; simp
    · rw [hwl, World.cell?_alloc_at _ _ _ _ (by simp; omega)]; simp
  clear bW
  have hSz : S.size ≤ 9223372036854775807 := by rw [hS.out]; decide
  have hsz : wl.heap.size = A + 4 := by rw [hwl, hA]; simp
  simp only [World.size_alloc, ← hA, Nat.add_assoc, Nat.reduceAdd]
  rw [← hwl]
  refine wpIn_range_at (F := Fence.wide) (n := 6) rfl (by omega) (gf := 31) (lb := #[.pointer (some ⟨A + 2, 0, none⟩), .pointer (some ⟨A + 1, 0, none⟩), .pointer (some ⟨A + 3, 0, none⟩)]) rfl trivial (enters_of Tryd.func31 (by kernel_rfl) rfl)
    (encs := fun x : ByteArray => #[.string x]) (fun _ => rfl) (fun W W' => ∀ r, Capt (A + 1) 32 r W → Capt (A + 1) 32 r W') (NameI w A at0) (NameX w at0)
    (fun h k r hr => k r (h r hr)) (fun W l o o' hl h ho r hr => hr.putObj o' h ho)
    (fun pre W l o o' hl h ho hi => hi.putObj o' (by omega) h ho) (fun c pre W l o o' hl h ho hi => hi.putObj o' (by omega) h ho)
    (fun o o' => hI0.alloc2 o o') (fun x => { tmps := #[.int .i64 op, undef, .pointer (some ⟨w.heap.size, 0, none⟩), .pointer (some ⟨A, 0, none⟩), .int .u8 (findL op), .string x, .tuple #[.int .i64 at0, .int .u8 (findL op)], .int .i64 op, .tuple #[.int .i64 at0, .int .u8 (findL op)], .int .i64 at0, .int .u8 (findL op), .func (.func 31) #[] #[.pointer (some ⟨A + 2, 0, none⟩), .pointer (some ⟨A + 1, 0, none⟩), .pointer (some ⟨A + 3, 0, none⟩)], .string x, undef, undef, undef, undef, undef], defers := [] })
    (splitSeq_iter 5 (A + 1) (by omega) 32 S hSz wl (by omega) hC0 _ _ _ (fun W W' r h k => h r k) (fun pre W r hi => hi.set _ (by omega) (by omega) (by omega))) ?assign ?body ?done ?stop
  case assign =>
    clear hA hwl hsz
    intro l x W K hK
    gi_wp2
    exact hK
  case body =>
    rintro l pre x W ⟨i1, i2, i3, i4, i5, i6⟩ hlen
    have hl2 : pre.length < 200 := by have := HN.out; rw [hS.out] at hlen; omega
    have HI6 := Lib.hid i6
    have HI5 := Lib.hid i5
    clear hlen i5 i6 e1 e2 bel hI0 hC0 hA hwl
    have hAz : A < wl.heap.size := by omega
    clear hsz
    by_cases hz : at0 = pre.length
    · have hz' : at0 - (pre.length : Int) = 0 := by omega
      rw [hz'] at i3
      have HZ := Lib.hid hz
      clear hz hz'
      gi_wp2
      exact ⟨KeepsOthers.setCell _ _ _, rfl, ⟨pre, x, rfl, HZ.out, World.cell?_setCell_same' _ _ _ (by rw [i1]; rfl)⟩, HI6.out.setCell (Nat.le_refl _) _⟩
    · have hz' : ((at0 - (pre.length : Int)) == 0) = false := by simp; omega
      have HZ := Lib.hid hz
      clear hz
      gi_wp2
      refine ⟨KeepsOthers.setCell _ _ _, fun r hr => ?_, ?_⟩
      · refine ⟨?_, by rw [World.frozen?_setCell]; exact hr.free, ?_, ?_⟩
        · rw [World.cell?_setCell_other]
          · exact hr.txt
          · intro e; have := congrArg Addr.block e; simp at this
        · rw [World.cell?_setCell_other]
          · exact hr.sep
          · intro e; have := congrArg Addr.block e; simp at this; omega
        · rw [World.cell?_setCell_other]
          · exact hr.sav
          · intro e; have := congrArg Addr.block e; simp at this; omega
      · refine ⟨?_, by rw [World.frozen?_setCell]; exact i2, ?_, by rw [World.frozen?_setCell]; exact i4, ?_, HI6.out.setCell (by simp; omega) _⟩
        · rw [World.cell?_setCell_other]
          · exact i1
          · intro e; have := congrArg Addr.block e; simp at this; omega
        · rw [World.cell?_setCell_same' _ _ _ (by rw [i3]; rfl)]
          have : at0 - (pre.length : Int) - 1 = at0 - ((pre ++ [x]).length : Nat) := by simp; omega
          rw [this]
        · intro j hj
          simp at hj
          by_cases hjl : j < pre.length
          · exact HI5.out j hjl
          · obtain rfl : j = pre.length := by omega
            have := HZ.out
            intro e
            rw [e] at this
            simp at this
  case done =>
    have hAz : w.heap.size ≤ wl.heap.size := by omega
    clear hA hwl hsz e1 e2 bel
    rintro D xs W hxs ⟨i1, i2, i3, i4, i5, i6⟩ hK hle
    have HI5 := Lib.hid i5
    clear i5 i3 i4
    gi_wp2
    have hK2 := (KeepsOthers.setCell W ⟨w.heap.size, 0, none⟩ (.string ⟨#[]⟩)).same D _ hK rfl
    refine ⟨by simp, .inl ⟨_, _, rfl, run_takeDeferred hK2, ?_⟩⟩
    have c1 : (W.setCell ⟨w.heap.size, 0, none⟩ (.string ⟨#[]⟩)).cell? ⟨w.heap.size, 0, none⟩ = some (.string ⟨#[]⟩) := World.cell?_setCell_same' _ _ _ (by rw [i1]; rfl)
    have c2 := cell_putObj (.deferred none) hK2 rfl c1
    refine ⟨.string ⟨#[]⟩, by simp [results, Tryd.results12, go_sem, c2], ⟨#[]⟩, rfl, ?_, ?_⟩
    · exact (i6.setCell (Nat.le_refl _) _).grown (grownBy_putObj' _ D _) (by have := i6.size; simp; omega) (fun k e => by cases e; omega)
    · split
      · rfl
      · have hl : xs.length = (pieces 32 namesS.data.toList).length := by rw [← hS.out, ← hxs]; simp
        rw [List.getD_eq_getElem?_getD, List.getElem?_eq_none]
        · rfl
        · rw [← hl]
          rcases Nat.lt_or_ge at0.toNat xs.length with h | h
          · exact absurd (HI5.out at0.toNat h) (by omega)
          · exact h
  case stop =>
    have hAz : w.heap.size ≤ wl.heap.size := by omega
    clear hA hwl hsz e1 e2 bel
    rintro D c pre W hpre ⟨rfl, ⟨pre', nm, rfl, hat, i1⟩, i6⟩ hK hle
    have HAT2 := Lib.hid hat
    clear hat
    gi_wp2
    refine ⟨by simp, .inl ⟨_, _, rfl, run_takeDeferred hK, ?_⟩⟩
    have c2 := cell_putObj (.deferred none) hK rfl i1
    refine ⟨.string nm, by simp [results, Tryd.results12, go_sem, c2], nm, rfl, ?_, ?_⟩
    · exact i6.grown (grownBy_putObj' _ D _) i6.size (fun k e => by cases e; omega)
    · have hat := HAT2.out
      rw [if_neg (by omega)]
      obtain ⟨rest, hr⟩ := hpre
      rw [← hS.out, ← hr]
      have : at0.toNat = pre'.length := by omega
      rw [this]
      simp
end Go.Proofs.YtfjjecffeeffcaaDoor
