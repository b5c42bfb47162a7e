/- package kind: a row of bytes that a constant was made into: it is full, so what is appended goes into a new block. -/
import Derived.Test.YtcihideabmpmjaaDoorQKdOwn
import Derived.ArgAppend
import Derived.Lib.BufferRead
namespace Go.Proofs.YtcihideabmpmjaaDoor
open Go.RowKit

/-- A row of the call's own, or one that a constant was made into. -/
def OwnC (B : Bs) (w : World) (v : Value) (l : List UInt8) : Prop := OwnB B w v l ∨ ∃ g fr, v = .slice (some ⟨g, 0, none⟩) l.length l.length ∧ w.heap[g]? = some (.cells (Lib.byteCells l).toArray 5 fr)
theorem OwnC.alloc {B : Bs} {w : World} {v : Value} {l : List UInt8} (h : OwnC B w v l) (o : Obj) : OwnC B (w.alloc o) v l := by
  rcases h with h | ⟨g, fr, rfl, h⟩
  · exact .inl (h.alloc o)
  · exact .inr ⟨g, fr, rfl, heap_alloc_keep h o⟩
theorem OwnC.drew {B : Bs} {w : World} {v : Value} {l : List UInt8} (h : OwnC B w v l) : OwnC B w.drew v l := by
  rcases h with h | ⟨g, fr, rfl, h⟩
  · exact .inl h.drew
  · exact .inr ⟨g, fr, rfl, h⟩
theorem OwnC.form {B : Bs} {w : World} {v : Value} {l : List UInt8} (h : OwnC B w v l) : ∃ ao cap, v = .slice ao l.length cap := by
  rcases h with h | ⟨g, fr, rfl, h⟩
  · exact h.form
  · exact ⟨_, _, rfl⟩
theorem OwnC.add {B : Bs} {w : World} {v : Value} {l : List UInt8} (h : OwnC B w v l) {c : Nat} (hc : w.heap.size ≤ c) : OwnC (B.add c) w v l := by
  rcases h with h | ⟨g, fr, rfl, h⟩
  · exact .inl (h.add (h.lt hc))
  · exact .inr ⟨g, fr, rfl, h⟩
section
variable {B : Bs} {w : World} {v : Value} {l : List UInt8}
theorem full_cells {g : Nat} {fr : Nat × Nat} (h : w.heap[g]? = some (.cells (Lib.byteCells l).toArray 5 fr)) : ∀ j u, (Lib.byteCells l)[j]? = some u → w.cell? ((⟨g, 0, none⟩ : Addr).add j) = some u := fun j u hj => by
  rw [Addr.add_lit, Nat.zero_add, heap_cell h]; simpa using hj
theorem run_ap_str_c (ty : TypeId) (hown : OwnC B w v l) (f : Fit B w) (s : ByteArray) (hs : 0 < s.size) (hb : l.length + s.size ≤ 1000000000) :
    ∃ v' w', (Builtin.append_ #[116, 9] ty #[v, .string s]).run Tryd.prog w = .ok v' w' ∧ OwnB B w' v' (l ++ s.data.toList) ∧ Wr B w w' := by
  rcases hown with h | ⟨g, fr, rfl, h⟩
  · obtain ⟨v', w', h1, h2, h3, _⟩ := run_ap_str (B := B) ty h f s hb
    exact ⟨v', w', h1, h2, h3⟩
  · obtain ⟨i, hi, hz, hsize, hby⟩ := info_parts Tryd.infoU8
    have hlen : (Lib.byteCells l).length = l.length := by simp [Lib.byteCells]
    have hr := Lib.run_append_grow_string (P := Tryd.prog) w 116 9 ty 5 i (.int .u8 0) Tryd.underlying116 Tryd.underlying9 hi hz ⟨g, 0, none⟩ l.length l.length (Lib.byteCells l) (by rw [hsize]; simpa using hlen) (full_cells h) s (by omega) (by omega) (by rw [hby]; exact growslice_fits (by omega) (by omega))
    have hge := grownCap_ge w (l.length + s.size) l.length 5
    have hcm : grownCap w (l.length + s.size) l.length 5 ≤ maxLen := grownCap_le_maxLen w (l.length + s.size) l.length 5 (by unfold maxLen; omega)
    refine ⟨_, _, hr, ⟨⟨?_, .inr ⟨w.heap.size, _, _, ?_, f.le, heap_alloc_new w.drew _, ?_, hcm, ?_, ?_⟩⟩, fun k hk hq => ?_⟩, (Wr.refl B w).drew.alloc (f.on (Wr.refl B w).drew) _⟩
    · simp [Lib.byteCells]
    · rw [List.length_append]; rfl
    · rw [List.length_append]; exact hge
    · have hz1 : (Value.int IntKind.u8 0).cells.size = 1 := rfl
      have hge' := hge
      simp only [Array.size_append, List.size_toArray, size_zeroCells, hz1, hlen, Lib.strCells_length]
      omega
    · simp only [Array.toList_append, List.append_assoc]
      rw [byteCells_append, ← strCells_bytes, ← List.append_assoc, show (l ++ s.data.toList).length * 1 = (Lib.byteCells l ++ Lib.strCells s).length by simp [Lib.byteCells, Lib.strCells_length, List.length_append]]
      exact List.take_left
    · have := f.lt k hq
      simp [Value.ownBlock] at hk; omega
theorem run_ap_row_c (ty : TypeId) (hown : OwnC B w v l) (f : Fit B w) (ad : Addr) (c : Nat) (news : List UInt8) (hne : 0 < news.length) (hc : ∀ j u, (Lib.byteCells news)[j]? = some u → w.cell? (ad.add j) = some u) (hb : l.length + news.length ≤ 1000000000) :
    ∃ v' w', (Builtin.append_ #[116, 116] ty #[v, .slice (some ad) news.length c]).run Tryd.prog w = .ok v' w' ∧ OwnB B w' v' (l ++ news) ∧ Wr B w w' := by
  rcases hown with h | ⟨g, fr, rfl, h⟩
  · obtain ⟨v', w', h1, h2, h3, _⟩ := run_ap_row (B := B) ty h f ad c news hc hb
    exact ⟨v', w', h1, h2, h3⟩
  · obtain ⟨i, hi, hz, hsize, hby⟩ := info_parts Tryd.infoU8
    obtain ⟨v', w', hr, r1, r2⟩ := run_append_arg_grows (P := Tryd.prog) w 116 ty 5 i (.int .u8 0) 1 1 Tryd.underlying116 hi hz hsize hby rfl (by decide) ⟨g, 0, none⟩ l.length l.length (Lib.byteCells l) (by simp [Lib.byteCells]) (full_cells h) ad news.length c (Lib.byteCells news) (by simp [Lib.byteCells]) hc (by omega) (by unfold maxLen; omega) (by omega)
    have hrow : w'.ownsRow w.heap.size 5 1 v' (l ++ news).length (Lib.byteCells (l ++ news)) := by rw [byteCells_append, List.length_append]; exact r1
    refine ⟨v', w', hr, ⟨ownsRow_low hrow f.le, fun k hk hq => by have := (hrow.lt k hk).1; have := f.lt k hq; omega⟩, (Wr.refl B w).next f ⟨r2.os, r2.tape, r2.output, r2.size, fun k hk => r2.block k hk (by simp)⟩⟩
theorem wpList_ap_str_c {ops : Array Oper} {rest : List Oper} {o : Oper} {a : Act} {Q : Exit → Act → World → Prop} (hgd : o.guard = none) (sl x : Operand) (ho : o.op = .call { callee := .builtin .append, args := #[sl, x], argTypes := #[116, 9] })
    (hs : a.eval sl = v) (hown : OwnC B w v l) (s : ByteArray) (hx : a.eval x = .string s) (f : Fit B w) (hs0 : 0 < s.size) (hb : l.length + s.size ≤ 1000000000)
    (h : ∀ v' w', OwnB B w' v' (l ++ s.data.toList) → Wr B w w' → wpList Tryd.prog ops Q rest (a.put o.dst v') w') : wpList Tryd.prog ops Q (o :: rest) a w := by
  refine wpList_plain hgd fun K hK => ?_
  obtain ⟨v', w', hr, h2, h3⟩ := run_ap_str_c (B := B) o.type hown f s hs0 hb
  unfold Oper.wp execOp
  simp only [ho, resolve, invoke, builtin, Sem.run_bind, Sem.run_pure, Result.andThen_ok, List.map_toArray, List.map_cons, List.map_nil, hs, hx, hr]
  exact hK _ _ (h v' w' h2 h3)
theorem step_ap_row_c {ops : Array Oper} {o : Oper} {a : Act} {K : Act → World → Prop} {Q : Exit → Act → World → Prop} {E : Prop} (hg : o.guard = none) (sl x : Operand) (ho : o.op = .call { callee := .builtin .append, args := #[sl, x], argTypes := #[116, 116] })
    (hs : a.eval sl = v) (hown : OwnC B w v l) (ad : Addr) (m c : Nat) (news : List UInt8) (hx : a.eval x = .slice (some ad) m c) (hm : m = news.length) (h0 : 0 < news.length) (hc : ∀ j u, (Lib.byteCells news)[j]? = some u → w.cell? (ad.add j) = some u) (f : Fit B w) (hb : l.length + news.length ≤ 1000000000)
    (hK : ∀ v' w', OwnB B w' v' (l ++ news) → Wr B w w' → K (a.put o.dst v') w') :
    if Region.wanted o (yielded ops a.tmps) = true then Oper.wp Tryd.prog o a w K Q else E := by
  subst hm
  rw [if_pos (by simp [Region.wanted, hg])]
  obtain ⟨v', w', hr, h2, h3⟩ := run_ap_row_c (B := B) o.type hown f ad c news h0 hc hb
  unfold Oper.wp
  simp [execOp, ho, resolve, invoke, builtin, hs, hx, hr, Result.andThen]
  exact hK v' w' h2 h3
/-- A row of bytes made a string. -/
theorem run_string (hown : OwnB B w v l) : (convert 116 9 v).run Tryd.prog w = .ok (.string ⟨l.toArray⟩) w := by
  rcases hown.row.2 with ⟨rfl, h0⟩ | ⟨g, cap, cur, rfl, hg⟩
  · have : l = [] := List.eq_nil_of_length_eq_zero h0
    subst this
    exact Lib.run_convert_nil_bytes w 116 9 5 0 Tryd.underlying116 Tryd.underlying5 Tryd.underlying9
  · exact run_convert_bytes_back w 116 9 5 ⟨g, 0, none⟩ cap l Tryd.underlying116 Tryd.underlying5 Tryd.underlying9 (fun j hj => hown.row.cells (g := g) rfl j _ (by simp [Lib.byteCells, hj]))
end
end Go.Proofs.YtcihideabmpmjaaDoor
