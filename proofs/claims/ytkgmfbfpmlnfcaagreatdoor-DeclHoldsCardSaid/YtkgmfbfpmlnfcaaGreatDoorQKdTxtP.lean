/- package kind: a row of bytes that a constant was made into: it is full, so what is appended goes into a new block. -/
import Derived.Test.YtkgmfbfpmlnfcaaGreatDoorQKdIntP
import Derived.ArgAppend
import Derived.Lib.BufferRead
import Derived.Test.YtkgmfbfpmlnfcaaGreatDoorQKdComp
import Derived.Lib.SlBytesConst
import Derived.Deep.CutRange
namespace Go.Proofs.YtkgmfbfpmlnfcaaGreatDoor
open Go.RowKit

/-- A row of the call's own, or one that a constant was made into. -/
def OwnC (B : Bs) (w : World) (v : Value) (l : List UInt8) : Prop := OwnB B w v l ∨ ∃ g fr, v = .slice (some ⟨g, 0, none⟩) l.length l.length ∧ w.heap[g]? = some (.cells (Lib.byteCells l).toArray 5 fr)
theorem OwnC.alloc {B : Bs} {w : World} {v : Value} {l : List UInt8} (h : OwnC B w v l) (o : Obj) : OwnC B (w.alloc o) v l := by
  rcases h with h | ⟨g, fr, rfl, h⟩
  · exact .inl (h.alloc o)
  · exact .inr ⟨g, fr, rfl, heap_alloc_keep h o⟩
theorem OwnC.drew {B : Bs} {w : World} {v : Value} {l : List UInt8} (h : OwnC B w v l) : OwnC B w.drew v l := by
  rcases h with h | ⟨g, fr, rfl, h⟩
  · exact .inl h.drew
  · exact .inr ⟨g, fr, rfl, h⟩
theorem OwnC.form {B : Bs} {w : World} {v : Value} {l : List UInt8} (h : OwnC B w v l) : ∃ ao cap, v = .slice ao l.length cap := by
  rcases h with h | ⟨g, fr, rfl, h⟩
  · exact h.form
  · exact ⟨_, _, rfl⟩
theorem OwnC.add {B : Bs} {w : World} {v : Value} {l : List UInt8} (h : OwnC B w v l) {c : Nat} (hc : w.heap.size ≤ c) : OwnC (B.add c) w v l := by
  rcases h with h | ⟨g, fr, rfl, h⟩
  · exact .inl (h.add (h.lt hc))
  · exact .inr ⟨g, fr, rfl, h⟩
section
variable {B : Bs} {w : World} {v : Value} {l : List UInt8}
theorem full_cells {g : Nat} {fr : Nat × Nat} (h : w.heap[g]? = some (.cells (Lib.byteCells l).toArray 5 fr)) : ∀ j u, (Lib.byteCells l)[j]? = some u → w.cell? ((⟨g, 0, none⟩ : Addr).add j) = some u := fun j u hj => by
  rw [Addr.add_lit, Nat.zero_add, heap_cell h]; simpa using hj
theorem run_ap_str_c (ty : TypeId) (hown : OwnC B w v l) (f : Fit B w) (s : ByteArray) (hs : 0 < s.size) (hb : l.length + s.size ≤ 1000000000) :
    ∃ v' w', (Builtin.append_ #[133, 9] ty #[v, .string s]).run Tryz.prog w = .ok v' w' ∧ OwnB B w' v' (l ++ s.data.toList) ∧ Wr B w w' := by
  rcases hown with h | ⟨g, fr, rfl, h⟩
  · obtain ⟨v', w', h1, h2, h3, _⟩ := run_ap_str (B := B) ty h f s hb
    exact ⟨v', w', h1, h2, h3⟩
  · obtain ⟨i, hi, hz, hsize, hby⟩ := info_parts Tryz.infoU8
    have hlen : (Lib.byteCells l).length = l.length := by simp [Lib.byteCells]
    have hr := Lib.run_append_grow_string (P := Tryz.prog) w 133 9 ty 5 i (.int .u8 0) Tryz.underlying133 Tryz.underlying9 hi hz ⟨g, 0, none⟩ l.length l.length (Lib.byteCells l) (by rw [hsize]; simpa using hlen) (full_cells h) s (by omega) (by omega) (by rw [hby]; exact growslice_fits (by omega) (by omega))
    have hge := grownCap_ge w (l.length + s.size) l.length 5
    have hcm : grownCap w (l.length + s.size) l.length 5 ≤ maxLen := grownCap_le_maxLen w (l.length + s.size) l.length 5 (by unfold maxLen; omega)
    refine ⟨_, _, hr, ⟨⟨?_, .inr ⟨w.heap.size, _, _, ?_, f.le, heap_alloc_new w.drew _, ?_, hcm, ?_, ?_⟩⟩, fun k hk hq => ?_⟩, (Wr.refl B w).drew.alloc (f.on (Wr.refl B w).drew) _⟩
    · simp [Lib.byteCells]
    · rw [List.length_append]; rfl
    · rw [List.length_append]; exact hge
    · have hz1 : (Value.int IntKind.u8 0).cells.size = 1 := rfl
      have hge' := hge
      simp only [Array.size_append, List.size_toArray, size_zeroCells, hz1, hlen, Lib.strCells_length]
      omega
    · simp only [Array.toList_append, List.append_assoc]
      rw [byteCells_append, ← strCells_bytes, ← List.append_assoc, show (l ++ s.data.toList).length * 1 = (Lib.byteCells l ++ Lib.strCells s).length by simp [Lib.byteCells, Lib.strCells_length, List.length_append]]
      exact List.take_left
    · have := f.lt k hq
      simp [Value.ownBlock] at hk; omega
theorem run_ap_row_c (ty : TypeId) (hown : OwnC B w v l) (f : Fit B w) (ad : Addr) (c : Nat) (news : List UInt8) (hne : 0 < news.length) (hc : ∀ j u, (Lib.byteCells news)[j]? = some u → w.cell? (ad.add j) = some u) (hb : l.length + news.length ≤ 1000000000) :
    ∃ v' w', (Builtin.append_ #[133, 133] ty #[v, .slice (some ad) news.length c]).run Tryz.prog w = .ok v' w' ∧ OwnB B w' v' (l ++ news) ∧ Wr B w w' := by
  rcases hown with h | ⟨g, fr, rfl, h⟩
  · obtain ⟨v', w', h1, h2, h3, _⟩ := run_ap_row (B := B) ty h f ad c news hc hb
    exact ⟨v', w', h1, h2, h3⟩
  · obtain ⟨i, hi, hz, hsize, hby⟩ := info_parts Tryz.infoU8
    obtain ⟨v', w', hr, r1, r2⟩ := run_append_arg_grows (P := Tryz.prog) w 133 ty 5 i (.int .u8 0) 1 1 Tryz.underlying133 hi hz hsize hby rfl (by decide) ⟨g, 0, none⟩ l.length l.length (Lib.byteCells l) (by simp [Lib.byteCells]) (full_cells h) ad news.length c (Lib.byteCells news) (by simp [Lib.byteCells]) hc (by omega) (by unfold maxLen; omega) (by omega)
    have hrow : w'.ownsRow w.heap.size 5 1 v' (l ++ news).length (Lib.byteCells (l ++ news)) := by rw [byteCells_append, List.length_append]; exact r1
    refine ⟨v', w', hr, ⟨ownsRow_low hrow f.le, fun k hk hq => by have := (hrow.lt k hk).1; have := f.lt k hq; omega⟩, (Wr.refl B w).next f ⟨r2.os, r2.tape, r2.output, r2.size, fun k hk => r2.block k hk (by simp)⟩⟩
theorem wpList_ap_str_c {ops : Array Oper} {rest : List Oper} {o : Oper} {a : Act} {Q : Exit → Act → World → Prop} (hgd : o.guard = none) (sl x : Operand) (ho : o.op = .call { callee := .builtin .append, args := #[sl, x], argTypes := #[133, 9] })
    (hs : a.eval sl = v) (hown : OwnC B w v l) (s : ByteArray) (hx : a.eval x = .string s) (f : Fit B w) (hs0 : 0 < s.size) (hb : l.length + s.size ≤ 1000000000)
    (h : ∀ v' w', OwnB B w' v' (l ++ s.data.toList) → Wr B w w' → wpList Tryz.prog ops Q rest (a.put o.dst v') w') : wpList Tryz.prog ops Q (o :: rest) a w := by
  refine wpList_plain hgd fun K hK => ?_
  obtain ⟨v', w', hr, h2, h3⟩ := run_ap_str_c (B := B) o.type hown f s hs0 hb
  unfold Oper.wp execOp
  simp only [ho, resolve, invoke, builtin, Sem.run_bind, Sem.run_pure, Result.andThen_ok, List.map_toArray, List.map_cons, List.map_nil, hs, hx, hr]
  exact hK _ _ (h v' w' h2 h3)
theorem step_ap_row_c {ops : Array Oper} {o : Oper} {a : Act} {K : Act → World → Prop} {Q : Exit → Act → World → Prop} {E : Prop} (hg : o.guard = none) (sl x : Operand) (ho : o.op = .call { callee := .builtin .append, args := #[sl, x], argTypes := #[133, 133] })
    (hs : a.eval sl = v) (hown : OwnC B w v l) (ad : Addr) (m c : Nat) (news : List UInt8) (hx : a.eval x = .slice (some ad) m c) (hm : m = news.length) (h0 : 0 < news.length) (hc : ∀ j u, (Lib.byteCells news)[j]? = some u → w.cell? (ad.add j) = some u) (f : Fit B w) (hb : l.length + news.length ≤ 1000000000)
    (hK : ∀ v' w', OwnB B w' v' (l ++ news) → Wr B w w' → K (a.put o.dst v') w') :
    if Region.wanted o (yielded ops a.tmps) = true then Oper.wp Tryz.prog o a w K Q else E := by
  subst hm
  rw [if_pos (by simp [Region.wanted, hg])]
  obtain ⟨v', w', hr, h2, h3⟩ := run_ap_row_c (B := B) o.type hown f ad c news h0 hc hb
  unfold Oper.wp
  simp [execOp, ho, resolve, invoke, builtin, hs, hx, hr, Result.andThen]
  exact hK v' w' h2 h3
/-- A row of bytes made a string. -/
theorem run_string (hown : OwnB B w v l) : (convert 133 9 v).run Tryz.prog w = .ok (.string ⟨l.toArray⟩) w := by
  rcases hown.row.2 with ⟨rfl, h0⟩ | ⟨g, cap, cur, rfl, hg⟩
  · have : l = [] := List.eq_nil_of_length_eq_zero h0
    subst this
    exact Lib.run_convert_nil_bytes w 133 9 5 0 Tryz.underlying133 Tryz.underlying5 Tryz.underlying9
  · exact run_convert_bytes_back w 133 9 5 ⟨g, 0, none⟩ cap l Tryz.underlying133 Tryz.underlying5 Tryz.underlying9 (fun j hj => hown.row.cells (g := g) rfl j _ (by simp [Lib.byteCells, hj]))
end
end Go.Proofs.YtkgmfbfpmlnfcaaGreatDoor

/- package kind: the writing of a declared type, of a value type. -/
namespace Go.Proofs.YtkgmfbfpmlnfcaaGreatDoor
open Go.RowKit

def Own0 (w : World) : Bs := ⟨w.heap.size, fun _ => False⟩
theorem fit0 (w : World) : Fit (Own0 w) w := ⟨Nat.le_refl _, fun _ h => h.elim⟩
/-- The table of powers of ten stands, whatever is made. -/
def Tab (w : World) : Prop := ∀ w', Below w.heap.size w w' → Lib.TabIs Tryz.prog w' "internal/strconv.uint64pow10" .u64 Lib.pow10Tab
theorem Tab.tb {w : World} (h : Tab w) : Tb (Own0 w) w := h
theorem Tab.on {w w' : World} (h : Tab w) (hb : Below w.heap.size w w') : Tab w' := fun w2 h2 => h w2 (hb.trans (h2.mono hb.size))
theorem compT_len (s : Sb) (h : Fits s) : (compT s).length ≤ 210000000 := by
  have h1 := headT_len s h
  have h2 := listT_len (f := fieldT) (c := 70) s.fs (fun v hv => fieldT_len v (h.fs v hv).1 (h.fs v hv).2)
  have h3 := h.small.fs
  unfold compT
  simp only [List.length_append, List.length_cons, List.length_nil]; omega
theorem ret_str {a b : List UInt8} (h : a = b) : Ending.returned (.string ⟨a.toArray⟩) = .returned (.string ⟨b.toArray⟩) := by rw [h]
set_option maxRecDepth 100000 in
set_option maxHeartbeats 32000000 in
theorem text_any (cs : List Value) (s : Sb) (hf : Fits s) (w : World) (hs : SubAt w cs s) (ht : Tab w) :
    Calls Tryz.prog 72 #[.agg cs.toArray] w fun e w' => e = .returned (.string ⟨(subT s).toArray⟩) ∧ Below w.heap.size w w' := by
  obtain ⟨vs, vp, vr, vf, rfl, q1, q2, q3, q4⟩ := hs.ex
  obtain ⟨fin, sups, k, lp, lr, lf⟩ := s
  dsimp only at q1 q2 q3 q4 ⊢
  obtain ⟨so, sc, rfl⟩ := RowAt.form q1
  obtain ⟨n, hn⟩ : ∃ n, sups.length = n := ⟨_, rfl⟩
  have hnl := hf.small.sups
  dsimp only at hnl
  rw [hn] at hnl ⊢
  obtain ⟨B, hBB⟩ : ∃ B, Own0 w = B := ⟨_, rfl⟩
  have hB : Fit B w := by rw [← hBB]; exact fit0 w
  have hbb : B.b = w.heap.size := by rw [← hBB]; rfl
  have hv1 : ∀ w', Wr B w w' → HpsAt w' (.slice so n sc) sups := fun w' h => by rw [← hn]; exact h.row q1 (by omega)
  have hv : ∀ w', Wr B w w' → ValsAt w' vp lp ∧ ValsAt w' vr lr ∧ FlsAt w' vf lf := fun w' h => ⟨h.row q2 (by omega), h.row q3 (by omega), h.row q4 (by omega)⟩
  have ht0 : Tb B w := by rw [← hBB]; exact ht.tb
  -- the box, and the row that the constant was made into
  obtain ⟨W0, hW0⟩ : ∃ W0, (w.alloc (.cells #[.bool fin, .slice so n sc, .int .i64 k, vp, vr, vf] 44)).alloc (.cells #[.int .u8 40, .int .u8 115, .int .u8 117, .int .u8 98] 5 (4, 5)) = W0 := ⟨_, rfl⟩
  have hwr : Wr B w W0 := by rw [← hW0]; exact (Wr.new hB _).alloc (hB.alloc _) _
  have z0 : W0.heap[w.heap.size]? = some (.cells #[.bool fin, .slice so n sc, .int .i64 k, vp, vr, vf] 44 (0, 0)) := by rw [← hW0]; exact heap_alloc_keep (heap_alloc_at _ _ rfl) _
  have hO : OwnC B W0 (.slice (some ⟨w.heap.size + 1, 0, none⟩) 4 4) [40, 115, 117, 98] := .inr ⟨w.heap.size + 1, (4, 5), rfl, by rw [← hW0]; exact heap_alloc_at _ _ (by simp)⟩
  have HBX := Lib.hid (show ∀ i x, sups[i]? = some x → B64 x.n from fun i x h => hf.sups x (List.mem_of_getElem? h))
  have HWx := Lib.hid hW0; have HW0 := Lib.hid hwr; have Z0 := Lib.hid z0; have HO0 := Lib.hid hO; have HT := Lib.hid ht0
  have HV := Lib.hid hv; have HV9 := Lib.hid hv1; have HB := Lib.hid hB; have HN := Lib.hid hn; have HNL := Lib.hid hnl; have HFT := Lib.hid hf; have HBBB := Lib.hid hbb; have HF0 := Lib.hid (hB.on hwr)
  have HO0x := HO0; have HF0x := HF0
  rw [← HWx.out] at HO0x HF0x
  clear hs q1 q2 q3 q4 hv hv1 hB ht ht0 hn hnl hf hwr z0 hO hW0 hBB hbb
  have kc : (convert 133 133 (.slice (some ⟨w.heap.size + 1, 0, none⟩) 4 4)).run Tryz.prog ((w.alloc (.cells #[.bool fin, .slice so n sc, .int .i64 k, vp, vr, vf] 44)).alloc (.cells #[.int .u8 40, .int .u8 115, .int .u8 117, .int .u8 98] 5)) = .ok (.slice (some ⟨w.heap.size + 1, 0, none⟩) 4 4) ((w.alloc (.cells #[.bool fin, .slice so n sc, .int .i64 k, vp, vr, vf] 44)).alloc (.cells #[.int .u8 40, .int .u8 115, .int .u8 117, .int .u8 98] 5 (4, 5))) := by
    have := Lib.run_convert_bytes_const (P := Tryz.prog) (w.alloc (.cells #[.bool fin, .slice so n sc, .int .i64 k, vp, vr, vf] 44)) 133 5 #[.int .u8 40, .int .u8 115, .int .u8 117, .int .u8 98] 4 4 Tryz.underlying133 Tryz.underlying5
    simpa using this
  have hfl : ([32, 102, 105, 110, 97, 108] : List UInt8).length = 6 := rfl
  rw [← HBBB.out]
  go_enter Tryz.func72, Tryz.ntmps72
  go_upto_if 9 with fail
  go_cut [3] from 10 to 11 (fun s3 wx => ∃ L, L = [40, 115, 117, 98] ++ (if fin then [32, 102, 105, 110, 97, 108] else []) ∧ OwnC B wx s3 L ∧ Wr B W0 wx)
  case first =>
    cases fin
    · go_wp2_with fail
      rw [HWx.out]
      go_meet
      case rel => exact ⟨_, by simp, HO0.out, Wr.refl _ _⟩
    · go_wp2_with (at_builtin; refine wpList_ap_str_c rfl _ _ rfl rfl HO0x.out ⟨#[32, 102, 105, 110, 97, 108]⟩ rfl HF0x.out (by decide) (by decide) ?_)
      intro v1 w1 o1 r1
      rw [HWx.out] at r1
      have HO1 := Lib.hid o1; have HR1 := Lib.hid r1
      clear o1 r1
      go_wp2_with fail
      go_meet
      case rel => exact ⟨_, by simp, .inl HO1.out, HR1.out⟩
  case rest =>
    obtain ⟨Lt, hLt, hot, hvt⟩ := hcut
    obtain ⟨at', ct, rfl⟩ := hot.form
    have HKt := Lib.hid (show Lt.length ≤ 10 by rw [hLt]; split <;> decide)
    obtain ⟨nt, hnt⟩ : ∃ nn, Lt.length = nn := ⟨_, rfl⟩
    rw [hnt] at hot ⊢
    have HOt := Lib.hid hot; have HVt := Lib.hid hvt; have HEt := Lib.hid hLt
    have zt := hvt.box Z0.out (by decide)
    have qt := heap_cell zt 1
    simp at qt
    clear zt hot hvt hLt hnt
    go_wp2_with fail
    go_loopw [3, 5, 15] (fun t3 _ t15 wr => ∃ (i : Nat) (L : List UInt8), t15 = .int .i64 (i : Nat) ∧ i ≤ n ∧ L = Lt ++ listT heapT (sups.take i) ∧ OwnC B wr t3 L ∧ Wr B W0 wr) (fun _ _ t15 _ => n - (intOf t15).toNat)
    case atStart => exact ⟨0, _, rfl, Nat.zero_le _, by simp [listT], HOt.out, HVt.out⟩
    case round =>
      obtain ⟨i, L, rfl, hi, hL, ho, hw0⟩ := hrel
      have hw := HW0.out.trans hw0
      obtain ⟨a2, c2, rfl⟩ := ho.form
      have hlb : L.length ≤ 50000000 := by
        have h1 := listT_len (f := heapT) (c := 40) (sups.take i) (fun v hv => heapT_len v (HFT.out.sups v (List.mem_of_mem_take hv)))
        have h2 : (sups.take i).length ≤ i := List.length_take_le _ _
        have h3 : (sups.take i).length * 41 ≤ i * 41 := Nat.mul_le_mul_right _ h2
        have := HKt.out; have := HNL.out
        rw [hL, List.length_append]; omega
      obtain ⟨ln, hln⟩ : ∃ ln, L.length = ln := ⟨_, rfl⟩
      rw [hln] at ho hlb ⊢
      have HO := Lib.hid ho; have HW := Lib.hid hw; have HWz := Lib.hid hw0; have HLL := Lib.hid hL; have HLN := Lib.hid hln
      have HLB := Lib.hid (show L.length ≤ 50000000 by rw [hln]; exact hlb)
      clear ho hw hw0 hL hln hlb
      by_cases hlt : i < n
      · obtain ⟨x, hx⟩ : ∃ x, sups[i]? = some x := ⟨sups[i]'(by rw [HN.out]; exact hlt), by simp⟩
        have hvr := HV9.out wr HW.out
        rw [← HN.out] at hvr
        obtain ⟨xk, xn⟩ := x
        obtain ⟨b, off, rfl, hbl, p0, p1⟩ := hps_at hvr hx
        dsimp only at p0 p1
        have HX := Lib.hid hx; have HI := Lib.hid hlt
        have hlt' : (i : Int) < n := by omega
        have HI6 := Lib.hid (show (i : Int) < 1000000 by have := HNL.out; omega)
        have HOx := Lib.hid (show OwnC B (((wr.alloc (.cells #[.int .i64 xk, .int .i64 xn] 49)).alloc (.cells #[.int .u8 32] 5)).drew) _ L from ((HO.out.alloc _).alloc _).drew)
        have HWx := Lib.hid (show Wr B w (((wr.alloc (.cells #[.int .i64 xk, .int .i64 xn] 49)).alloc (.cells #[.int .u8 32] 5)).drew) from ((HW.out.alloc (HB.out.on HW.out) _).alloc ((HB.out.on HW.out).alloc _) _).drew)
        have HZx := Lib.hid (show (((wr.alloc (.cells #[.int .i64 xk, .int .i64 xn] 49)).alloc (.cells #[.int .u8 32] 5)).drew).heap[wr.heap.size]? = some (.cells #[.int .i64 xk, .int .i64 xn] 49 (0, 0)) from heap_alloc_keep (heap_alloc_at _ _ rfl) _)
        have HCx := Lib.hid (chr_cells (c := 32) (W := (((wr.alloc (.cells #[.int .i64 xk, .int .i64 xn] 49)).alloc (.cells #[.int .u8 32] 5)).drew)) (q := wr.heap.size + 1) (heap_alloc_at (wr.alloc (.cells #[.int .i64 xk, .int .i64 xn] 49)) (.cells #[.int .u8 32] 5) (by simp)))
        have HWq := Lib.hid (show Wr B W0 (((wr.alloc (.cells #[.int .i64 xk, .int .i64 xn] 49)).alloc (.cells #[.int .u8 32] 5)).drew) from ((HWz.out.alloc (HB.out.on HW.out) _).alloc ((HB.out.on HW.out).alloc _) _).drew)
        clear hx hvr hbl hlt hi
        go_wp2_with fail
        go_region_held_law (fun w' => w'.cell? ⟨wr.heap.size, 0, none⟩ = some (.int .i64 xk) ∧ w'.cell? ⟨wr.heap.size, 1, none⟩ = some (.int .i64 xn)) (first | exact HK1.out | exact HK2.out | simp)
          (first
            | (refine step_ap_row_c rfl (.tmp 19) (.tmp 20) rfl rfl HOx.out ⟨wr.heap.size + 1, 0, none⟩ 1 1 [32] rfl rfl (by decide) HCx.out (HB.out.on HWx.out) (by have := HLB.out; simp; omega) ?_
               intro v1 w1 o1 r1
               have HO1 := Lib.hid o1; have HQ1 := Lib.hid (HWq.out.trans r1); have HV1 := Lib.hid (HWx.out.trans r1)
               have HZ1 := Lib.hid (r1.box HZx.out (by decide))
               have HK1 : Hid (w1.cell? ⟨wr.heap.size, 0, none⟩ = some (.int .i64 xk) ∧ w1.cell? ⟨wr.heap.size, 1, none⟩ = some (.int .i64 xn)) := Lib.hid ⟨box1 HZ1.out 0 _ rfl, box1 HZ1.out 1 _ rfl⟩
               clear o1 r1)
            | (go_simp; go_at_call 79; refine (putHeap_any B (L ++ [32]) ⟨xk, xn⟩ (HBX.out i ⟨xk, xn⟩ HX.out) _ _ HO1.out (HB.out.on HV1.out) (by rw [List.length_append]; have := HLB.out; simp; omega) (HT.out.on HV1.out)).mono ?_
               rintro e w2 ⟨v2, rfl, ho2, hb2⟩
               have HO2 := Lib.hid ho2; have HZ9 := Lib.hid (HQ1.out.trans hb2); have HW2 := Lib.hid (HV1.out.trans hb2)
               have HK2 : Hid (w2.cell? ⟨wr.heap.size, 0, none⟩ = some (.int .i64 xk) ∧ w2.cell? ⟨wr.heap.size, 1, none⟩ = some (.int .i64 xn)) := (have HZ2 := hb2.box HZ1.out (by decide); Lib.hid ⟨box1 HZ2 0 _ rfl, box1 HZ2 1 _ rfl⟩)
               clear ho2 hb2))
        have hi6 := HI6.out
        go_wp2
        go_roundw
        case rel => exact ⟨i + 1, _, by go_num, HI.out, by rw [HLL.out, listT_snoc HX.out]; simp, .inl HO2.out, HZ9.out⟩
        case measure => have := HI.out; simp [intOf]; omega
      · have hlt' : ¬ (i : Int) < n := by omega
        have HE := Lib.hid (show L = [40, 115, 117, 98] ++ (if fin then [32, 102, 105, 110, 97, 108] else []) ++ listT heapT sups by rw [HLL.out, HEt.out, List.take_of_length_le (by rw [HN.out]; omega)])
        have hfz := HF0.out
        have f0 := HB.out.on HW.out
        have HWz9 := Lib.hid (HWz.out.box Z0.out (by decide))
        have HOp0 := Lib.hid (show OwnC (B.add wr.heap.size) (((wr.alloc (.cells #[.int .u8 41] 5)).alloc (.cells #[.int .u8 32] 5)).drew) (.slice a2 ln c2) L from ((((HO.out.add (Nat.le_refl _)).alloc _).alloc _).drew))
        have HFp0 := Lib.hid (show Fit (B.add wr.heap.size) (((wr.alloc (.cells #[.int .u8 41] 5)).alloc (.cells #[.int .u8 32] 5)).drew) from ⟨by have := f0.le; show B.b ≤ _; simp; omega, fun q hq => hq.elim (fun h => by have := f0.lt q h; simp; omega) (fun e => by rw [e]; simp; omega)⟩)
        have HVp0 := Lib.hid (show Wr B w (((wr.alloc (.cells #[.int .u8 41] 5)).alloc (.cells #[.int .u8 32] 5)).drew) from ((HW.out.alloc f0 _).alloc (f0.alloc _) _).drew)
        have HQp0 := Lib.hid (show (((wr.alloc (.cells #[.int .u8 41] 5)).alloc (.cells #[.int .u8 32] 5)).drew).heap[wr.heap.size]? = some (.cells #[.int .u8 41] 5 (0, 0)) from heap_alloc_keep (heap_alloc_at wr (.cells #[.int .u8 41] 5) rfl) _)
        have HCp0 := Lib.hid (chr_cells (c := 32) (W := (((wr.alloc (.cells #[.int .u8 41] 5)).alloc (.cells #[.int .u8 32] 5)).drew)) (q := wr.heap.size + 1) (heap_alloc_at (wr.alloc (.cells #[.int .u8 41] 5)) (.cells #[.int .u8 32] 5) (by simp)))
        have HZp0 := Lib.hid (show (((wr.alloc (.cells #[.int .u8 41] 5)).alloc (.cells #[.int .u8 32] 5)).drew).heap[w.heap.size]? = some (.cells #[.bool fin, .slice so n sc, .int .i64 k, vp, vr, vf] 44 (0, 0)) from heap_alloc_keep (heap_alloc_keep HWz9.out _) _)
        have HOp1 := Lib.hid (show OwnC (B.add (wr.heap.size + 1)) (((wr.alloc (.cells #[.int .u8 32] 5)).alloc (.cells #[.int .u8 41] 5)).drew) (.slice a2 ln c2) L from ((((HO.out.add (Nat.le_succ _)).alloc _).alloc _).drew))
        have HFp1 := Lib.hid (show Fit (B.add (wr.heap.size + 1)) (((wr.alloc (.cells #[.int .u8 32] 5)).alloc (.cells #[.int .u8 41] 5)).drew) from ⟨by have := f0.le; show B.b ≤ _; simp; omega, fun q hq => hq.elim (fun h => by have := f0.lt q h; simp; omega) (fun e => by rw [e]; simp)⟩)
        have HVp1 := Lib.hid (show Wr B w (((wr.alloc (.cells #[.int .u8 32] 5)).alloc (.cells #[.int .u8 41] 5)).drew) from ((HW.out.alloc f0 _).alloc (f0.alloc _) _).drew)
        have HQp1 := Lib.hid (show (((wr.alloc (.cells #[.int .u8 32] 5)).alloc (.cells #[.int .u8 41] 5)).drew).heap[wr.heap.size + 1]? = some (.cells #[.int .u8 41] 5 (0, 0)) from heap_alloc_at (wr.alloc (.cells #[.int .u8 32] 5)) (.cells #[.int .u8 41] 5) (by simp))
        have HCp1 := Lib.hid (chr_cells (c := 32) (W := (((wr.alloc (.cells #[.int .u8 32] 5)).alloc (.cells #[.int .u8 41] 5)).drew)) (q := wr.heap.size) (heap_alloc_keep (heap_alloc_at wr (.cells #[.int .u8 32] 5) rfl) _))
        have HZp1 := Lib.hid (show (((wr.alloc (.cells #[.int .u8 32] 5)).alloc (.cells #[.int .u8 41] 5)).drew).heap[w.heap.size]? = some (.cells #[.bool fin, .slice so n sc, .int .i64 k, vp, vr, vf] 44 (0, 0)) from heap_alloc_keep (heap_alloc_keep HWz9.out _) _)
        have HOp2 := Lib.hid (show OwnC B ((wr.alloc (.cells #[.int .u8 32] 5)).drew) (.slice a2 ln c2) L from ((HO.out.alloc _).drew))
        have HVp2 := Lib.hid (show Wr B w ((wr.alloc (.cells #[.int .u8 32] 5)).drew) from (HW.out.alloc f0 _).drew)
        have HCp2 := Lib.hid (chr_cells (c := 32) (W := ((wr.alloc (.cells #[.int .u8 32] 5)).drew)) (q := wr.heap.size) (heap_alloc_at wr (.cells #[.int .u8 32] 5) rfl))
        have HZp2 := Lib.hid (show ((wr.alloc (.cells #[.int .u8 32] 5)).drew).heap[w.heap.size]? = some (.cells #[.bool fin, .slice so n sc, .int .i64 k, vp, vr, vf] 44 (0, 0)) from heap_alloc_keep HWz9.out _)
        have HZr := Lib.hid (show (wr.alloc (.cells #[.int .u8 41] 5)).drew.heap[w.heap.size]? = some (.cells #[.bool fin, .slice so n sc, .int .i64 k, vp, vr, vf] 44 (0, 0)) from heap_alloc_keep HWz9.out _)
        clear hfz f0 hlt hi
        go_wp2_with fail
        go_region_held_law (fun w' => w'.cell? ⟨w.heap.size, 2, none⟩ = some (.int .i64 k) ∧ w'.cell? ⟨w.heap.size, 3, none⟩ = some (vp) ∧ w'.cell? ⟨w.heap.size, 4, none⟩ = some (vr) ∧ w'.cell? ⟨w.heap.size, 5, none⟩ = some (vf)) (first | exact ⟨box1 HZ3.out 2 _ rfl, box1 HZ3.out 3 _ rfl, box1 HZ3.out 4 _ rfl, box1 HZ3.out 5 _ rfl⟩ | exact ⟨box1 HZ4.out 2 _ rfl, box1 HZ4.out 3 _ rfl, box1 HZ4.out 4 _ rfl, box1 HZ4.out 5 _ rfl⟩ | exact ⟨box1 HZ2.out 2 _ rfl, box1 HZ2.out 3 _ rfl, box1 HZ2.out 4 _ rfl, box1 HZ2.out 5 _ rfl⟩ | exact ⟨box1 HZc.out 2 _ rfl, box1 HZc.out 3 _ rfl, box1 HZc.out 4 _ rfl, box1 HZc.out 5 _ rfl⟩ | exact ⟨box1 HZ1.out 2 _ rfl, box1 HZ1.out 3 _ rfl, box1 HZ1.out 4 _ rfl, box1 HZ1.out 5 _ rfl⟩ | exact ⟨box1 HZp0.out 2 _ rfl, box1 HZp0.out 3 _ rfl, box1 HZp0.out 4 _ rfl, box1 HZp0.out 5 _ rfl⟩ | exact ⟨box1 HZp1.out 2 _ rfl, box1 HZp1.out 3 _ rfl, box1 HZp1.out 4 _ rfl, box1 HZp1.out 5 _ rfl⟩ | exact ⟨box1 HZp2.out 2 _ rfl, box1 HZp2.out 3 _ rfl, box1 HZp2.out 4 _ rfl, box1 HZp2.out 5 _ rfl⟩ | exact ⟨box1 HZr.out 2 _ rfl, box1 HZr.out 3 _ rfl, box1 HZr.out 4 _ rfl, box1 HZr.out 5 _ rfl⟩ | exact ⟨box1 HWz9.out 2 _ rfl, box1 HWz9.out 3 _ rfl, box1 HWz9.out 4 _ rfl, box1 HWz9.out 5 _ rfl⟩)
          (first
            | (refine step_ap_row_c rfl (.tmp 25) (.tmp 26) rfl rfl HOp0.out ⟨wr.heap.size + 1, 0, none⟩ 1 1 [32] rfl rfl (by decide) HCp0.out HFp0.out (by have := HLB.out; simp; omega) ?_
               intro v1 w1 o1 r1
               have HO1 := Lib.hid o1; have HF1 := Lib.hid (HFp0.out.on r1); have HV1 := Lib.hid (HVp0.out.trans r1.less)
               have HZ1 := Lib.hid (r1.box HZp0.out (by decide)); have HC1 := Lib.hid ((r1.prot _ (.inr rfl)).trans HQp0.out)
               clear o1 r1)
            | (refine step_ap_row_c rfl (.tmp 25) (.tmp 26) rfl rfl HOp1.out ⟨wr.heap.size, 0, none⟩ 1 1 [32] rfl rfl (by decide) HCp1.out HFp1.out (by have := HLB.out; simp; omega) ?_
               intro v1 w1 o1 r1
               have HO1 := Lib.hid o1; have HF1 := Lib.hid (HFp1.out.on r1); have HV1 := Lib.hid (HVp1.out.trans r1.less)
               have HZ1 := Lib.hid (r1.box HZp1.out (by decide)); have HC1 := Lib.hid ((r1.prot _ (.inr rfl)).trans HQp1.out)
               clear o1 r1)
            | (refine step_ap_row_c rfl (.tmp 25) (.tmp 26) rfl rfl HOp2.out ⟨wr.heap.size, 0, none⟩ 1 1 [32] rfl rfl (by decide) HCp2.out (HB.out.on HVp2.out) (by have := HLB.out; simp; omega) ?_
               intro v1 w1 o1 r1
               have HP1 := Lib.hid o1; have HV1 := Lib.hid (HVp2.out.trans r1)
               have HZ1 := Lib.hid (r1.box HZp2.out (by decide))
               have HOc := Lib.hid ((HP1.out.add (HP1.out.lt (Nat.le_refl _))).alloc (.cells #[.int .u8 41] 5))
               have HFc := Lib.hid (((HB.out.on HV1.out).alloc (.cells #[.int .u8 41] 5)).add (c := w1.heap.size) (by simp))
               have HCc := Lib.hid (heap_alloc_at w1 (.cells #[.int .u8 41] 5) rfl)
               have HZc := Lib.hid (heap_alloc_keep HZ1.out (.cells #[.int .u8 41] 5))
               have HVc := Lib.hid (HV1.out.alloc (HB.out.on HV1.out) (.cells #[.int .u8 41] 5))
               clear o1 r1)
            | (go_simp; go_at_call 80; refine (putComp_any _ (L ++ [32]) ⟨fin, sups, k, lp, lr, lf⟩ HFT.out _ _ _ _ _ (fun w' h => HV.out w' (HV1.out.trans h.less)) HO1.out HF1.out (by rw [List.length_append]; have := HLB.out; simp; omega) (HT.out.on HV1.out)).mono ?_
               rintro e w2 ⟨v2, rfl, o2, r2⟩
               have HO2 := Lib.hid o2.less; have HV2 := Lib.hid (HV1.out.trans r2.less)
               have HC2 := Lib.hid (chr_cells (c := 41) ((r2.prot _ (.inr rfl)).trans HC1.out))
               have HZ2 := Lib.hid (r2.box HZ1.out (by decide))
               clear o2 r2)
            | (go_simp; go_at_call 80; refine (putComp_any _ (L ++ [32]) ⟨fin, sups, k, lp, lr, lf⟩ HFT.out _ _ _ _ _ (fun w' h => HV.out w' (HVc.out.trans h.less)) HOc.out HFc.out (by rw [List.length_append]; have := HLB.out; simp; omega) (HT.out.on HVc.out)).mono ?_
               rintro e w2 ⟨v2, rfl, o2, r2⟩
               have HO2 := Lib.hid o2.less; have HV2 := Lib.hid (HVc.out.trans r2.less)
               have HC2 := Lib.hid (chr_cells (c := 41) ((r2.prot _ (.inr rfl)).trans HCc.out))
               have HZ2 := Lib.hid (r2.box HZc.out (by decide))
               clear o2 r2)
            | (go_simp; go_at_call 80; refine (putComp_any B (L ++ [32]) ⟨fin, sups, k, lp, lr, lf⟩ HFT.out _ _ _ _ _ (fun w' h => HV.out w' (HV1.out.trans h)) HP1.out (HB.out.on HV1.out) (by rw [List.length_append]; have := HLB.out; simp; omega) (HT.out.on HV1.out)).mono ?_
               rintro e w2 ⟨v2, rfl, o2, r2⟩
               have HV0 := Lib.hid (HV1.out.trans r2)
               have HO2 := Lib.hid (o2.alloc (.cells #[.int .u8 41] 5)); have HV2 := Lib.hid (HV0.out.alloc (HB.out.on HV0.out) (.cells #[.int .u8 41] 5))
               have HC2 := Lib.hid (chr_cells (c := 41) (heap_alloc_at w2 (.cells #[.int .u8 41] 5) rfl))
               have HZ2 := Lib.hid (r2.box HZ1.out (by decide)); have HZ4 := Lib.hid (heap_alloc_keep HZ2.out (.cells #[.int .u8 41] 5))
               clear o2 r2)
            | (refine step_ap_row rfl (.tmp 30) (.tmp 31) rfl rfl HO2.out _ 1 1 [41] rfl rfl HC2.out (HB.out.on HV2.out) (by have h1 := HLB.out; have h2 := compT_len ⟨fin, sups, k, lp, lr, lf⟩ HFT.out; simp only [List.length_append, List.length_cons, List.length_nil]; omega) ?_
               intro v3 w3 o3 r3
               have hst := run_string o3
               have HV3 := Lib.hid (HV2.out.trans r3)
               have HZ3 := Lib.hid (by first | exact r3.box HZ4.out (by decide) | exact r3.box HZ2.out (by decide))
               clear o3 r3))
        all_goals go_wp2
        all_goals go_ret
        all_goals exact ⟨ret_str (by rw [HE.out]; unfold subT; simp [List.append_assoc]), HV3.out.below⟩
end Go.Proofs.YtkgmfbfpmlnfcaaGreatDoor
