import Derived.Lib.BufferRead
import Derived.Test.YtpddbaijnjbfdaaGreatDoorQKdComp
import Derived.Deep.CutRange
namespace Go.Proofs.YtpddbaijnjbfdaaGreatDoor
open Lib (hid)
section
open Go.RowKit
def OwnC (B : Bs) (w : World) (v : Value) (l : List UInt8) : Prop := OwnB B w v l ∨ ∃ g fr, v = .slice (some ⟨g, 0, none⟩) l.length l.length ∧ w.heap[g]? = some (.cells (Lib.byteCells l).toArray 5 fr)
theorem OwnC.alloc {B : Bs} {w : World} {v : Value} {l : List UInt8} (h : OwnC B w v l) (o : Obj) : OwnC B (w.alloc o) v l := by
  rcases h with h | ⟨g, fr, rfl, h⟩
  · exact .inl (h.alloc o)
  · exact .inr ⟨g, fr, rfl, heap_alloc_keep h o⟩
theorem OwnC.drew {B : Bs} {w : World} {v : Value} {l : List UInt8} (h : OwnC B w v l) : OwnC B w.drew v l := by
  rcases h with h | ⟨g, fr, rfl, h⟩
  · exact .inl h.drew
  · exact .inr ⟨g, fr, rfl, h⟩
theorem OwnC.form {B : Bs} {w : World} {v : Value} {l : List UInt8} (h : OwnC B w v l) : ∃ ao cap, v = .slice ao l.length cap := by
  rcases h with h | ⟨g, fr, rfl, h⟩
  · exact h.form
  · exact ⟨_, _, rfl⟩
theorem OwnC.add {B : Bs} {w : World} {v : Value} {l : List UInt8} (h : OwnC B w v l) {c : Nat} (hc : w.heap.size ≤ c) : OwnC (B.add c) w v l := by
  rcases h with h | ⟨g, fr, rfl, h⟩
  · exact .inl (h.add (h.lt hc))
  · exact .inr ⟨g, fr, rfl, h⟩
section
variable {B : Bs} {w : World} {v : Value} {l : List UInt8}
theorem full_cells {g : Nat} {fr : Nat × Nat} (h : w.heap[g]? = some (.cells (Lib.byteCells l).toArray 5 fr)) : ∀ j u, (Lib.byteCells l)[j]? = some u → w.cell? ((⟨g, 0, none⟩ : Addr).add j) = some u := fun j u hj => by
  rw [Addr.add_lit, Nat.zero_add, heap_cell h]; simpa using hj
theorem run_ap_str_c (ty : TypeId) (hown : OwnC B w v l) (f : Fit B w) (s : ByteArray) (hs : 0 < s.size) (hb : l.length + s.size ≤ 1000000000) :
    ∃ v' w', (Builtin.append_ #[124, 9] ty #[v, .string s]).run Tryz.prog w = .ok v' w' ∧ OwnB B w' v' (l ++ s.data.toList) ∧ Wr B w w' := by
  rcases hown with h | ⟨g, fr, rfl, h⟩
  · obtain ⟨v', w', h1, h2, h3, _⟩ := run_ap_str (B := B) ty h f s hb
    exact ⟨v', w', h1, h2, h3⟩
  · obtain ⟨i, hi, hz, hsize, hby⟩ := info_parts Tryz.infoU8
    have hlen : (Lib.byteCells l).length = l.length := by simp [Lib.byteCells]
    have hr := Lib.run_append_grow_string (P := Tryz.prog) w 124 9 ty 5 i (.int .u8 0) Tryz.underlying124 Tryz.underlying9 hi hz ⟨g, 0, none⟩ l.length l.length (Lib.byteCells l) (by rw [hsize]; simpa using hlen) (full_cells h) s (by omega) (by omega) (by rw [hby]; exact growslice_fits (by omega) (by omega))
    have hge := grownCap_ge w (l.length + s.size) l.length 5
    have hcm : grownCap w (l.length + s.size) l.length 5 ≤ maxLen := grownCap_le_maxLen w (l.length + s.size) l.length 5 (by unfold maxLen; omega)
    refine ⟨_, _, hr, ⟨⟨?_, .inr ⟨w.heap.size, _, _, ?_, f.le, heap_alloc_new w.drew _, ?_, hcm, ?_, ?_⟩⟩, fun k hk hq => ?_⟩, (Wr.refl B w).drew.alloc (f.on (Wr.refl B w).drew) _⟩
    · simp [Lib.byteCells]
    · rw [List.length_append]; rfl
    · rw [List.length_append]; exact hge
    · have hz1 : (Value.int IntKind.u8 0).cells.size = 1 := rfl
      have hge' := hge
      simp only [Array.size_append, List.size_toArray, size_zeroCells, hz1, hlen, Lib.strCells_length]
      omega
    · simp only [Array.toList_append, List.append_assoc]
      rw [byteCells_append, ← strCells_bytes, ← List.append_assoc, show (l ++ s.data.toList).length * 1 = (Lib.byteCells l ++ Lib.strCells s).length by simp [Lib.byteCells, Lib.strCells_length, List.length_append]]
      exact List.take_left
    · have := f.lt k hq
      simp [Value.ownBlock] at hk; omega
theorem run_ap_row_c (ty : TypeId) (hown : OwnC B w v l) (f : Fit B w) (ad : Addr) (c : Nat) (news : List UInt8) (hne : 0 < news.length) (hc : ∀ j u, (Lib.byteCells news)[j]? = some u → w.cell? (ad.add j) = some u) (hb : l.length + news.length ≤ 1000000000) :
    ∃ v' w', (Builtin.append_ #[124, 124] ty #[v, .slice (some ad) news.length c]).run Tryz.prog w = .ok v' w' ∧ OwnB B w' v' (l ++ news) ∧ Wr B w w' := by
  rcases hown with h | ⟨g, fr, rfl, h⟩
  · obtain ⟨v', w', h1, h2, h3, _⟩ := run_ap_row (B := B) ty h f ad c news hc hb
    exact ⟨v', w', h1, h2, h3⟩
  · obtain ⟨i, hi, hz, hsize, hby⟩ := info_parts Tryz.infoU8
    obtain ⟨v', w', hr, r1, r2⟩ := run_append_arg_grows (P := Tryz.prog) w 124 ty 5 i (.int .u8 0) 1 1 Tryz.underlying124 hi hz hsize hby rfl (by decide) ⟨g, 0, none⟩ l.length l.length (Lib.byteCells l) (by simp [Lib.byteCells]) (full_cells h) ad news.length c (Lib.byteCells news) (by simp [Lib.byteCells]) hc (by omega) (by unfold maxLen; omega) (by omega)
    have hrow : w'.ownsRow w.heap.size 5 1 v' (l ++ news).length (Lib.byteCells (l ++ news)) := by rw [byteCells_append, List.length_append]; exact r1
    refine ⟨v', w', hr, ⟨ownsRow_low hrow f.le, fun k hk hq => by have := (hrow.lt k hk).1; have := f.lt k hq; omega⟩, (Wr.refl B w).next f ⟨r2.os, r2.tape, r2.output, r2.size, fun k hk => r2.block k hk (by simp)⟩⟩
theorem wpList_ap_str_c {ops : Array Oper} {rest : List Oper} {o : Oper} {a : Act} {Q : Exit → Act → World → Prop} (hgd : o.guard = none) (sl x : Operand) (ho : o.op = .call { callee := .builtin .append, args := #[sl, x], argTypes := #[124, 9] })
    (hs : a.eval sl = v) (hown : OwnC B w v l) (s : ByteArray) (hx : a.eval x = .string s) (f : Fit B w) (hs0 : 0 < s.size) (hb : l.length + s.size ≤ 1000000000)
    (h : ∀ v' w', OwnB B w' v' (l ++ s.data.toList) → Wr B w w' → wpList Tryz.prog ops Q rest (a.put o.dst v') w') : wpList Tryz.prog ops Q (o :: rest) a w := by
  refine wpList_plain hgd fun K hK => ?_
  obtain ⟨v', w', hr, h2, h3⟩ := run_ap_str_c (B := B) o.type hown f s hs0 hb
  unfold Oper.wp execOp
  simp only [ho, resolve, invoke, builtin, Sem.run_bind, Sem.run_pure, Result.andThen_ok, List.map_toArray, List.map_cons, List.map_nil, hs, hx, hr]
  exact hK _ _ (h v' w' h2 h3)
theorem step_ap_row_c {ops : Array Oper} {o : Oper} {a : Act} {K : Act → World → Prop} {Q : Exit → Act → World → Prop} {E : Prop} (hg : o.guard = none) (sl x : Operand) (ho : o.op = .call { callee := .builtin .append, args := #[sl, x], argTypes := #[124, 124] })
    (hs : a.eval sl = v) (hown : OwnC B w v l) (ad : Addr) (m c : Nat) (news : List UInt8) (hx : a.eval x = .slice (some ad) m c) (hm : m = news.length) (h0 : 0 < news.length) (hc : ∀ j u, (Lib.byteCells news)[j]? = some u → w.cell? (ad.add j) = some u) (f : Fit B w) (hb : l.length + news.length ≤ 1000000000)
    (hK : ∀ v' w', OwnB B w' v' (l ++ news) → Wr B w w' → K (a.put o.dst v') w') :
    if Region.wanted o (yielded ops a.tmps) = true then Oper.wp Tryz.prog o a w K Q else E := by
  subst hm
  rw [if_pos (by simp [Region.wanted, hg])]
  obtain ⟨v', w', hr, h2, h3⟩ := run_ap_row_c (B := B) o.type hown f ad c news h0 hc hb
  unfold Oper.wp
  simp [execOp, ho, resolve, invoke, builtin, hs, hx, hr, Result.andThen]
  exact hK v' w' h2 h3
theorem run_string (hown : OwnB B w v l) : (convert 124 9 v).run Tryz.prog w = .ok (.string ⟨l.toArray⟩) w := by
  rcases hown.row.2 with ⟨rfl, h0⟩ | ⟨g, cap, cur, rfl, hg⟩
  · have : l = [] := List.eq_nil_of_length_eq_zero h0
    subst this
    exact Lib.run_convert_nil_bytes w 124 9 5 0 Tryz.underlying124 Tryz.underlying5 Tryz.underlying9
  · exact run_convert_bytes_back w 124 9 5 ⟨g, 0, none⟩ cap l Tryz.underlying124 Tryz.underlying5 Tryz.underlying9 (fun j hj => hown.row.cells (g := g) rfl j _ (by simp [Lib.byteCells, hj]))
end
end
section
open Go.RowKit
def Own0 (w : World) : Bs := ⟨w.heap.size, fun _ => False⟩
theorem fit0 (w : World) : Fit (Own0 w) w := ⟨Nat.le_refl _, fun _ h => h.elim⟩
def Tab (w : World) : Prop := ∀ w', Below w.heap.size w w' → Lib.TabIs Tryz.prog w' "internal/strconv.uint64pow10" .u64 Lib.pow10Tab
theorem Tab.tb {w : World} (h : Tab w) : Tb (Own0 w) w := h
theorem Tab.on {w w' : World} (h : Tab w) (hb : Below w.heap.size w w') : Tab w' := fun w2 h2 => h w2 (hb.trans (h2.mono hb.size))
theorem compT_len (s : Sb) (h : Fits s) : (compT s).length ≤ 210000000 := by
  have h1 := headT_len s h
  have h2 := listT_len (f := fieldT) (c := 70) s.fs (fun v hv => fieldT_len v (h.fs v hv).1 (h.fs v hv).2)
  have h3 := h.small.fs
  unfold compT
  simp only [List.length_append, List.length_cons, List.length_nil]; omega
theorem ret_str {a b : List UInt8} (h : a = b) : Ending.returned (.string ⟨a.toArray⟩) = .returned (.string ⟨b.toArray⟩) := by rw [h]
set_option maxRecDepth 100000 in
set_option maxHeartbeats 32000000 in
theorem text_any (cs : List Value) (s : Sb) (hf : Fits s) (w : World) (hs : SubAt w cs s) (ht : Tab w) :
    Calls Tryz.prog 109 #[.agg cs.toArray] w fun e w' => e = .returned (.string ⟨(subT s).toArray⟩) ∧ Below w.heap.size w w' := by
  obtain ⟨vs, vp, vr, vf, rfl, q1, q2, q3, q4⟩ := hs.ex
  obtain ⟨fin, sups, k, lp, lr, lf⟩ := s
  dsimp only at q1 q2 q3 q4 ⊢
  obtain ⟨so, sc, rfl⟩ := RowAt.form q1
  obtain ⟨n, hn⟩ : ∃ n, sups.length = n := ⟨_, rfl⟩
  have hnl := hf.small.sups
  dsimp only at hnl
  rw [hn] at hnl ⊢
  obtain ⟨B, hBB⟩ : ∃ B, Own0 w = B := ⟨_, rfl⟩
  have hB : Fit B w := by rw [← hBB]; exact fit0 w
  have hbb : B.b = w.heap.size := by rw [← hBB]; rfl
  have hv1 : ∀ w', Wr B w w' → HpsAt w' (.slice so n sc) sups := fun w' h => by rw [← hn]; exact h.row q1 (by omega)
  have hv : ∀ w', Wr B w w' → ValsAt w' vp lp ∧ ValsAt w' vr lr ∧ FlsAt w' vf lf := fun w' h => ⟨h.row q2 (by omega), h.row q3 (by omega), h.row q4 (by omega)⟩
  have ht0 : Tb B w := by rw [← hBB]; exact ht.tb
  -- the box, and the row that the constant was made into
  obtain ⟨W0, hW0⟩ : ∃ W0, (w.alloc (.cells #[.bool fin, .slice so n sc, .int .i64 k, vp, vr, vf] 46)).alloc (.cells #[.int .u8 40, .int .u8 115, .int .u8 117, .int .u8 98] 5 (4, 5)) = W0 := ⟨_, rfl⟩
  have hwr : Wr B w W0 := by rw [← hW0]; exact (Wr.new hB _).alloc (hB.alloc _) _
  have z0 : W0.heap[w.heap.size]? = some (.cells #[.bool fin, .slice so n sc, .int .i64 k, vp, vr, vf] 46 (0, 0)) := by rw [← hW0]; exact heap_alloc_keep (heap_alloc_at _ _ rfl) _
  have hO : OwnC B W0 (.slice (some ⟨w.heap.size + 1, 0, none⟩) 4 4) [40, 115, 117, 98] := .inr ⟨w.heap.size + 1, (4, 5), rfl, by rw [← hW0]; exact heap_alloc_at _ _ (by simp)⟩
  have HBX := hid (show ∀ i x, sups[i]? = some x → B64 x.n from fun i x h => hf.sups x (List.mem_of_getElem? h))
  have HWx := hid hW0; have HW0 := hid hwr; have Z0 := hid z0; have HO0 := hid hO; have HT := hid ht0
  have HV := hid hv; have HV9 := hid hv1; have HB := hid hB; have HN := hid hn; have HNL := hid hnl; have HFT := hid hf; have HBBB := hid hbb; have HF0 := hid (hB.on hwr)
  have HO0x := HO0; have HF0x := HF0
  rw [← HWx.out] at HO0x HF0x
  clear hs q1 q2 q3 q4 hv hv1 hB ht ht0 hn hnl hf hwr z0 hO hW0 hBB hbb
  have kc : (convert 124 124 (.slice (some ⟨w.heap.size + 1, 0, none⟩) 4 4)).run Tryz.prog ((w.alloc (.cells #[.bool fin, .slice so n sc, .int .i64 k, vp, vr, vf] 46)).alloc (.cells #[.int .u8 40, .int .u8 115, .int .u8 117, .int .u8 98] 5)) = .ok (.slice (some ⟨w.heap.size + 1, 0, none⟩) 4 4) ((w.alloc (.cells #[.bool fin, .slice so n sc, .int .i64 k, vp, vr, vf] 46)).alloc (.cells #[.int .u8 40, .int .u8 115, .int .u8 117, .int .u8 98] 5 (4, 5))) := by
    have := Lib.run_convert_bytes_const (P := Tryz.prog) (w.alloc (.cells #[.bool fin, .slice so n sc, .int .i64 k, vp, vr, vf] 46)) 124 5 #[.int .u8 40, .int .u8 115, .int .u8 117, .int .u8 98] 4 4 Tryz.underlying124 Tryz.underlying5
    simpa using this
  have hfl : ([32, 102, 105, 110, 97, 108] : List UInt8).length = 6 := rfl
  rw [← HBBB.out]
  go_enter Tryz.func109, Tryz.ntmps109
  go_upto_if 9 with fail
  go_cut [3] from 10 to 11 (fun s3 wx => ∃ L, L = [40, 115, 117, 98] ++ (if fin then [32, 102, 105, 110, 97, 108] else []) ∧ OwnC B wx s3 L ∧ Wr B W0 wx)
  case first =>
    cases fin
    · go_wp2_with fail
      rw [HWx.out]
      go_meet
      case rel => exact ⟨_, by simp, HO0.out, Wr.refl _ _⟩
    · go_wp2_with (at_builtin; refine wpList_ap_str_c rfl _ _ rfl rfl HO0x.out ⟨#[32, 102, 105, 110, 97, 108]⟩ rfl HF0x.out (by decide) (by decide) ?_)
      intro v1 w1 o1 r1
      rw [HWx.out] at r1
      have HO1 := hid o1; have HR1 := hid r1
      clear o1 r1
      go_wp2_with fail
      go_meet
      case rel => exact ⟨_, by simp, .inl HO1.out, HR1.out⟩
  case rest =>
    obtain ⟨Lt, hLt, hot, hvt⟩ := hcut
    obtain ⟨at', ct, rfl⟩ := hot.form
    have HKt := hid (show Lt.length ≤ 10 by rw [hLt]; split <;> decide)
    obtain ⟨nt, hnt⟩ : ∃ nn, Lt.length = nn := ⟨_, rfl⟩
    rw [hnt] at hot ⊢
    have HOt := hid hot; have HVt := hid hvt; have HEt := hid hLt
    have zt := hvt.box Z0.out (by decide)
    have qt := heap_cell zt 1
    simp at qt
    clear zt hot hvt hLt hnt
    go_wp2_with fail
    go_loopw [3, 5, 15] (fun t3 _ t15 wr => ∃ (i : Nat) (L : List UInt8), t15 = .int .i64 (i : Nat) ∧ i ≤ n ∧ L = Lt ++ listT heapT (sups.take i) ∧ OwnC B wr t3 L ∧ Wr B W0 wr) (fun _ _ t15 _ => n - (intOf t15).toNat)
    case atStart => exact ⟨0, _, rfl, Nat.zero_le _, by simp [listT], HOt.out, HVt.out⟩
    case round =>
      obtain ⟨i, L, rfl, hi, hL, ho, hw0⟩ := hrel
      have hw := HW0.out.trans hw0
      obtain ⟨a2, c2, rfl⟩ := ho.form
      have hlb : L.length ≤ 50000000 := by
        have h1 := listT_len (f := heapT) (c := 40) (sups.take i) (fun v hv => heapT_len v (HFT.out.sups v (List.mem_of_mem_take hv)))
        have h2 : (sups.take i).length ≤ i := List.length_take_le _ _
        have h3 : (sups.take i).length * 41 ≤ i * 41 := Nat.mul_le_mul_right _ h2
        have := HKt.out; have := HNL.out
        rw [hL, List.length_append]; omega
      obtain ⟨ln, hln⟩ : ∃ ln, L.length = ln := ⟨_, rfl⟩
      rw [hln] at ho hlb ⊢
      have HO := hid ho; have HW := hid hw; have HWz := hid hw0; have HLL := hid hL; have HLN := hid hln
      have HLB := hid (show L.length ≤ 50000000 by rw [hln]; exact hlb)
      clear ho hw hw0 hL hln hlb
      by_cases hlt : i < n
      · obtain ⟨x, hx⟩ : ∃ x, sups[i]? = some x := ⟨sups[i]'(by rw [HN.out]; exact hlt), by simp⟩
        have hvr := HV9.out wr HW.out
        rw [← HN.out] at hvr
        obtain ⟨xk, xn⟩ := x
        obtain ⟨b, off, rfl, hbl, p0, p1⟩ := hps_at hvr hx
        dsimp only at p0 p1
        have HX := hid hx; have HI := hid hlt
        have hlt' : (i : Int) < n := by omega
        have HI6 := hid (show (i : Int) < 1000000 by have := HNL.out; omega)
        have HOx := hid (show OwnC B (((wr.alloc (.cells #[.int .i64 xk, .int .i64 xn] 75)).alloc (.cells #[.int .u8 32] 5)).drew) _ L from ((HO.out.alloc _).alloc _).drew)
        have HWx := hid (show Wr B w (((wr.alloc (.cells #[.int .i64 xk, .int .i64 xn] 75)).alloc (.cells #[.int .u8 32] 5)).drew) from ((HW.out.alloc (HB.out.on HW.out) _).alloc ((HB.out.on HW.out).alloc _) _).drew)
        have HZx := hid (show (((wr.alloc (.cells #[.int .i64 xk, .int .i64 xn] 75)).alloc (.cells #[.int .u8 32] 5)).drew).heap[wr.heap.size]? = some (.cells #[.int .i64 xk, .int .i64 xn] 75 (0, 0)) from heap_alloc_keep (heap_alloc_at _ _ rfl) _)
        have HCx := hid (chr_cells (c := 32) (W := (((wr.alloc (.cells #[.int .i64 xk, .int .i64 xn] 75)).alloc (.cells #[.int .u8 32] 5)).drew)) (q := wr.heap.size + 1) (heap_alloc_at (wr.alloc (.cells #[.int .i64 xk, .int .i64 xn] 75)) (.cells #[.int .u8 32] 5) (by simp)))
        have HWq := hid (show Wr B W0 (((wr.alloc (.cells #[.int .i64 xk, .int .i64 xn] 75)).alloc (.cells #[.int .u8 32] 5)).drew) from ((HWz.out.alloc (HB.out.on HW.out) _).alloc ((HB.out.on HW.out).alloc _) _).drew)
        clear hx hvr hbl hlt hi
        go_wp2_with fail
        go_region_held_law (fun w' => w'.cell? ⟨wr.heap.size, 0, none⟩ = some (.int .i64 xk) ∧ w'.cell? ⟨wr.heap.size, 1, none⟩ = some (.int .i64 xn)) (first | exact HK1.out | exact HK2.out | simp)
          (first
            | (refine step_ap_row_c rfl (.tmp 19) (.tmp 20) rfl rfl HOx.out ⟨wr.heap.size + 1, 0, none⟩ 1 1 [32] rfl rfl (by decide) HCx.out (HB.out.on HWx.out) (by have := HLB.out; simp; omega) ?_
               intro v1 w1 o1 r1
               have HO1 := hid o1; have HQ1 := hid (HWq.out.trans r1); have HV1 := hid (HWx.out.trans r1)
               have HZ1 := hid (r1.box HZx.out (by decide))
               have HK1 : Hid (w1.cell? ⟨wr.heap.size, 0, none⟩ = some (.int .i64 xk) ∧ w1.cell? ⟨wr.heap.size, 1, none⟩ = some (.int .i64 xn)) := hid ⟨box1 HZ1.out 0 _ rfl, box1 HZ1.out 1 _ rfl⟩
               clear o1 r1)
            | (go_simp; go_at_call 124; refine (putHeap_any B (L ++ [32]) ⟨xk, xn⟩ (HBX.out i ⟨xk, xn⟩ HX.out) _ _ HO1.out (HB.out.on HV1.out) (by rw [List.length_append]; have := HLB.out; simp; omega) (HT.out.on HV1.out)).mono ?_
               rintro e w2 ⟨v2, rfl, ho2, hb2⟩
               have HO2 := hid ho2; have HZ9 := hid (HQ1.out.trans hb2); have HW2 := hid (HV1.out.trans hb2)
               have HK2 : Hid (w2.cell? ⟨wr.heap.size, 0, none⟩ = some (.int .i64 xk) ∧ w2.cell? ⟨wr.heap.size, 1, none⟩ = some (.int .i64 xn)) := (have HZ2 := hb2.box HZ1.out (by decide); hid ⟨box1 HZ2 0 _ rfl, box1 HZ2 1 _ rfl⟩)
               clear ho2 hb2))
        have hi6 := HI6.out
        go_wp2
        go_roundw
        case rel => exact ⟨i + 1, _, by go_num, HI.out, by rw [HLL.out, listT_snoc HX.out]; simp, .inl HO2.out, HZ9.out⟩
        case measure => have := HI.out; simp [intOf]; omega
      · have hlt' : ¬ (i : Int) < n := by omega
        have HE := hid (show L = [40, 115, 117, 98] ++ (if fin then [32, 102, 105, 110, 97, 108] else []) ++ listT heapT sups by rw [HLL.out, HEt.out, List.take_of_length_le (by rw [HN.out]; omega)])
        have hfz := HF0.out
        have f0 := HB.out.on HW.out
        have HWz9 := hid (HWz.out.box Z0.out (by decide))
        have HOp0 := hid (show OwnC (B.add wr.heap.size) (((wr.alloc (.cells #[.int .u8 41] 5)).alloc (.cells #[.int .u8 32] 5)).drew) (.slice a2 ln c2) L from ((((HO.out.add (Nat.le_refl _)).alloc _).alloc _).drew))
        have HFp0 := hid (show Fit (B.add wr.heap.size) (((wr.alloc (.cells #[.int .u8 41] 5)).alloc (.cells #[.int .u8 32] 5)).drew) from ⟨by have := f0.le; show B.b ≤ _; simp; omega, fun q hq => hq.elim (fun h => by have := f0.lt q h; simp; omega) (fun e => by rw [e]; simp; omega)⟩)
        have HVp0 := hid (show Wr B w (((wr.alloc (.cells #[.int .u8 41] 5)).alloc (.cells #[.int .u8 32] 5)).drew) from ((HW.out.alloc f0 _).alloc (f0.alloc _) _).drew)
        have HQp0 := hid (show (((wr.alloc (.cells #[.int .u8 41] 5)).alloc (.cells #[.int .u8 32] 5)).drew).heap[wr.heap.size]? = some (.cells #[.int .u8 41] 5 (0, 0)) from heap_alloc_keep (heap_alloc_at wr (.cells #[.int .u8 41] 5) rfl) _)
        have HCp0 := hid (chr_cells (c := 32) (W := (((wr.alloc (.cells #[.int .u8 41] 5)).alloc (.cells #[.int .u8 32] 5)).drew)) (q := wr.heap.size + 1) (heap_alloc_at (wr.alloc (.cells #[.int .u8 41] 5)) (.cells #[.int .u8 32] 5) (by simp)))
        have HZp0 := hid (show (((wr.alloc (.cells #[.int .u8 41] 5)).alloc (.cells #[.int .u8 32] 5)).drew).heap[w.heap.size]? = some (.cells #[.bool fin, .slice so n sc, .int .i64 k, vp, vr, vf] 46 (0, 0)) from heap_alloc_keep (heap_alloc_keep HWz9.out _) _)
        have HOp1 := hid (show OwnC (B.add (wr.heap.size + 1)) (((wr.alloc (.cells #[.int .u8 32] 5)).alloc (.cells #[.int .u8 41] 5)).drew) (.slice a2 ln c2) L from ((((HO.out.add (Nat.le_succ _)).alloc _).alloc _).drew))
        have HFp1 := hid (show Fit (B.add (wr.heap.size + 1)) (((wr.alloc (.cells #[.int .u8 32] 5)).alloc (.cells #[.int .u8 41] 5)).drew) from ⟨by have := f0.le; show B.b ≤ _; simp; omega, fun q hq => hq.elim (fun h => by have := f0.lt q h; simp; omega) (fun e => by rw [e]; simp)⟩)
        have HVp1 := hid (show Wr B w (((wr.alloc (.cells #[.int .u8 32] 5)).alloc (.cells #[.int .u8 41] 5)).drew) from ((HW.out.alloc f0 _).alloc (f0.alloc _) _).drew)
        have HQp1 := hid (show (((wr.alloc (.cells #[.int .u8 32] 5)).alloc (.cells #[.int .u8 41] 5)).drew).heap[wr.heap.size + 1]? = some (.cells #[.int .u8 41] 5 (0, 0)) from heap_alloc_at (wr.alloc (.cells #[.int .u8 32] 5)) (.cells #[.int .u8 41] 5) (by simp))
        have HCp1 := hid (chr_cells (c := 32) (W := (((wr.alloc (.cells #[.int .u8 32] 5)).alloc (.cells #[.int .u8 41] 5)).drew)) (q := wr.heap.size) (heap_alloc_keep (heap_alloc_at wr (.cells #[.int .u8 32] 5) rfl) _))
        have HZp1 := hid (show (((wr.alloc (.cells #[.int .u8 32] 5)).alloc (.cells #[.int .u8 41] 5)).drew).heap[w.heap.size]? = some (.cells #[.bool fin, .slice so n sc, .int .i64 k, vp, vr, vf] 46 (0, 0)) from heap_alloc_keep (heap_alloc_keep HWz9.out _) _)
        have HOp2 := hid (show OwnC B ((wr.alloc (.cells #[.int .u8 32] 5)).drew) (.slice a2 ln c2) L from ((HO.out.alloc _).drew))
        have HVp2 := hid (show Wr B w ((wr.alloc (.cells #[.int .u8 32] 5)).drew) from (HW.out.alloc f0 _).drew)
        have HCp2 := hid (chr_cells (c := 32) (W := ((wr.alloc (.cells #[.int .u8 32] 5)).drew)) (q := wr.heap.size) (heap_alloc_at wr (.cells #[.int .u8 32] 5) rfl))
        have HZp2 := hid (show ((wr.alloc (.cells #[.int .u8 32] 5)).drew).heap[w.heap.size]? = some (.cells #[.bool fin, .slice so n sc, .int .i64 k, vp, vr, vf] 46 (0, 0)) from heap_alloc_keep HWz9.out _)
        have HZr := hid (show (wr.alloc (.cells #[.int .u8 41] 5)).drew.heap[w.heap.size]? = some (.cells #[.bool fin, .slice so n sc, .int .i64 k, vp, vr, vf] 46 (0, 0)) from heap_alloc_keep HWz9.out _)
        clear hfz f0 hlt hi
        go_wp2_with fail
        go_region_held_law (fun w' => w'.cell? ⟨w.heap.size, 2, none⟩ = some (.int .i64 k) ∧ w'.cell? ⟨w.heap.size, 3, none⟩ = some (vp) ∧ w'.cell? ⟨w.heap.size, 4, none⟩ = some (vr) ∧ w'.cell? ⟨w.heap.size, 5, none⟩ = some (vf)) (first | exact ⟨box1 HZ3.out 2 _ rfl, box1 HZ3.out 3 _ rfl, box1 HZ3.out 4 _ rfl, box1 HZ3.out 5 _ rfl⟩ | exact ⟨box1 HZ4.out 2 _ rfl, box1 HZ4.out 3 _ rfl, box1 HZ4.out 4 _ rfl, box1 HZ4.out 5 _ rfl⟩ | exact ⟨box1 HZ2.out 2 _ rfl, box1 HZ2.out 3 _ rfl, box1 HZ2.out 4 _ rfl, box1 HZ2.out 5 _ rfl⟩ | exact ⟨box1 HZc.out 2 _ rfl, box1 HZc.out 3 _ rfl, box1 HZc.out 4 _ rfl, box1 HZc.out 5 _ rfl⟩ | exact ⟨box1 HZ1.out 2 _ rfl, box1 HZ1.out 3 _ rfl, box1 HZ1.out 4 _ rfl, box1 HZ1.out 5 _ rfl⟩ | exact ⟨box1 HZp0.out 2 _ rfl, box1 HZp0.out 3 _ rfl, box1 HZp0.out 4 _ rfl, box1 HZp0.out 5 _ rfl⟩ | exact ⟨box1 HZp1.out 2 _ rfl, box1 HZp1.out 3 _ rfl, box1 HZp1.out 4 _ rfl, box1 HZp1.out 5 _ rfl⟩ | exact ⟨box1 HZp2.out 2 _ rfl, box1 HZp2.out 3 _ rfl, box1 HZp2.out 4 _ rfl, box1 HZp2.out 5 _ rfl⟩ | exact ⟨box1 HZr.out 2 _ rfl, box1 HZr.out 3 _ rfl, box1 HZr.out 4 _ rfl, box1 HZr.out 5 _ rfl⟩ | exact ⟨box1 HWz9.out 2 _ rfl, box1 HWz9.out 3 _ rfl, box1 HWz9.out 4 _ rfl, box1 HWz9.out 5 _ rfl⟩)
          (first
            | (refine step_ap_row_c rfl (.tmp 25) (.tmp 26) rfl rfl HOp0.out ⟨wr.heap.size + 1, 0, none⟩ 1 1 [32] rfl rfl (by decide) HCp0.out HFp0.out (by have := HLB.out; simp; omega) ?_
               intro v1 w1 o1 r1
               have HO1 := hid o1; have HF1 := hid (HFp0.out.on r1); have HV1 := hid (HVp0.out.trans r1.less)
               have HZ1 := hid (r1.box HZp0.out (by decide)); have HC1 := hid ((r1.prot _ (.inr rfl)).trans HQp0.out)
               clear o1 r1)
            | (refine step_ap_row_c rfl (.tmp 25) (.tmp 26) rfl rfl HOp1.out ⟨wr.heap.size, 0, none⟩ 1 1 [32] rfl rfl (by decide) HCp1.out HFp1.out (by have := HLB.out; simp; omega) ?_
               intro v1 w1 o1 r1
               have HO1 := hid o1; have HF1 := hid (HFp1.out.on r1); have HV1 := hid (HVp1.out.trans r1.less)
               have HZ1 := hid (r1.box HZp1.out (by decide)); have HC1 := hid ((r1.prot _ (.inr rfl)).trans HQp1.out)
               clear o1 r1)
            | (refine step_ap_row_c rfl (.tmp 25) (.tmp 26) rfl rfl HOp2.out ⟨wr.heap.size, 0, none⟩ 1 1 [32] rfl rfl (by decide) HCp2.out (HB.out.on HVp2.out) (by have := HLB.out; simp; omega) ?_
               intro v1 w1 o1 r1
               have HP1 := hid o1; have HV1 := hid (HVp2.out.trans r1)
               have HZ1 := hid (r1.box HZp2.out (by decide))
               have HOc := hid ((HP1.out.add (HP1.out.lt (Nat.le_refl _))).alloc (.cells #[.int .u8 41] 5))
               have HFc := hid (((HB.out.on HV1.out).alloc (.cells #[.int .u8 41] 5)).add (c := w1.heap.size) (by simp))
               have HCc := hid (heap_alloc_at w1 (.cells #[.int .u8 41] 5) rfl)
               have HZc := hid (heap_alloc_keep HZ1.out (.cells #[.int .u8 41] 5))
               have HVc := hid (HV1.out.alloc (HB.out.on HV1.out) (.cells #[.int .u8 41] 5))
               clear o1 r1)
            | (go_simp; go_at_call 125; refine (putComp_any _ (L ++ [32]) ⟨fin, sups, k, lp, lr, lf⟩ HFT.out _ _ _ _ _ (fun w' h => HV.out w' (HV1.out.trans h.less)) HO1.out HF1.out (by rw [List.length_append]; have := HLB.out; simp; omega) (HT.out.on HV1.out)).mono ?_
               rintro e w2 ⟨v2, rfl, o2, r2⟩
               have HO2 := hid o2.less; have HV2 := hid (HV1.out.trans r2.less)
               have HC2 := hid (chr_cells (c := 41) ((r2.prot _ (.inr rfl)).trans HC1.out))
               have HZ2 := hid (r2.box HZ1.out (by decide))
               clear o2 r2)
            | (go_simp; go_at_call 125; refine (putComp_any _ (L ++ [32]) ⟨fin, sups, k, lp, lr, lf⟩ HFT.out _ _ _ _ _ (fun w' h => HV.out w' (HVc.out.trans h.less)) HOc.out HFc.out (by rw [List.length_append]; have := HLB.out; simp; omega) (HT.out.on HVc.out)).mono ?_
               rintro e w2 ⟨v2, rfl, o2, r2⟩
               have HO2 := hid o2.less; have HV2 := hid (HVc.out.trans r2.less)
               have HC2 := hid (chr_cells (c := 41) ((r2.prot _ (.inr rfl)).trans HCc.out))
               have HZ2 := hid (r2.box HZc.out (by decide))
               clear o2 r2)
            | (go_simp; go_at_call 125; refine (putComp_any B (L ++ [32]) ⟨fin, sups, k, lp, lr, lf⟩ HFT.out _ _ _ _ _ (fun w' h => HV.out w' (HV1.out.trans h)) HP1.out (HB.out.on HV1.out) (by rw [List.length_append]; have := HLB.out; simp; omega) (HT.out.on HV1.out)).mono ?_
               rintro e w2 ⟨v2, rfl, o2, r2⟩
               have HV0 := hid (HV1.out.trans r2)
               have HO2 := hid (o2.alloc (.cells #[.int .u8 41] 5)); have HV2 := hid (HV0.out.alloc (HB.out.on HV0.out) (.cells #[.int .u8 41] 5))
               have HC2 := hid (chr_cells (c := 41) (heap_alloc_at w2 (.cells #[.int .u8 41] 5) rfl))
               have HZ2 := hid (r2.box HZ1.out (by decide)); have HZ4 := hid (heap_alloc_keep HZ2.out (.cells #[.int .u8 41] 5))
               clear o2 r2)
            | (refine step_ap_row rfl (.tmp 30) (.tmp 31) rfl rfl HO2.out _ 1 1 [41] rfl rfl HC2.out (HB.out.on HV2.out) (by have h1 := HLB.out; have h2 := compT_len ⟨fin, sups, k, lp, lr, lf⟩ HFT.out; simp only [List.length_append, List.length_cons, List.length_nil]; omega) ?_
               intro v3 w3 o3 r3
               have hst := run_string o3
               have HV3 := hid (HV2.out.trans r3)
               have HZ3 := hid (by first | exact r3.box HZ4.out (by decide) | exact r3.box HZ2.out (by decide))
               clear o3 r3))
        all_goals go_wp2
        all_goals go_ret
        all_goals exact ⟨ret_str (by rw [HE.out]; unfold subT; simp [List.append_assoc]), HV3.out.below⟩
end
section
open Go.RowKit
theorem Tryz.sizeBuilder : (Tryz.prog.info? 215).map (·.size) = some 2 := by kernel_rfl
theorem Tryz.liesBuilder : liesAt Tryz.prog Tryz.prog.depth 215 (2 / Tryz.prog.cellsOf 215) 0 215 1 = true := by kernel_rfl
set_option maxHeartbeats 1000000 in
set_option maxRecDepth 100000 in
theorem copyCheck_used (b : Nat) (w : World) (h0 : w.cell? ⟨b, 0, none⟩ = some (.pointer (some ⟨b, 0, none⟩))) :
    Calls Tryz.prog 123 #[.pointer (some ⟨b, 0, none⟩)] w fun e w' => e = .returned (.tuple #[]) ∧ w' = w := by
  obtain ⟨j, hj, _⟩ := Option.map_eq_some_iff.1 Tryz.sizeBuilder
  go_enter Tryz.func123, Tryz.ntmps123
  go_wp2
  rw [Lib.run_neq_ptr_same w _ Tryz.underlying213 hj]
  go_wp2
  go_end0
  exact ⟨rfl, rfl⟩
set_option maxHeartbeats 1000000 in
set_option maxRecDepth 100000 in
theorem copyCheck_fresh (b : Nat) (w : World) (h0 : w.cell? ⟨b, 0, none⟩ = some (.pointer none)) (hsh : w.shape? b = some (215, 2)) (hfz : w.frozen? ⟨b, 0, none⟩ = false) :
    Calls Tryz.prog 123 #[.pointer (some ⟨b, 0, none⟩)] w fun e w' => e = .returned (.tuple #[]) ∧ w' = w.setCell ⟨b, 0, none⟩ (.pointer (some ⟨b, 0, none⟩)) := by
  obtain ⟨j, hj, hjs⟩ := Option.map_eq_some_iff.1 Tryz.sizeBuilder
  go_enter Tryz.func123, Tryz.ntmps123
  go_wp2
  rw [Lib.run_to_unsafe w ⟨b, 0, none⟩ Tryz.underlying213 Tryz.underlying245 hj (by rw [hjs]; decide) hsh (Nat.zero_lt_succ 1)]
  simp only [Result.andThen]
  rw [Oper.upon_value]
  go_wp2
  rw [run_callFunc_extern Tryz.func134 (by kernel_rfl) (by kernel_rfl) (by kernel_rfl) (e := Extern.AbiNoEscape.same) (by kernel_rfl)]
  rw [Lib.run_noEscape]
  simp only [Result.andThen]
  rw [Oper.upon_value]
  go_wp2
  rw [Lib.run_from_unsafe w ⟨b, 0, none⟩ Tryz.underlying245 Tryz.underlying213 hj hsh Tryz.liesBuilder]
  simp only [Result.andThen]
  rw [Oper.upon_value]
  go_wp2
  go_end0
  exact ⟨rfl, rfl⟩
theorem copyCheck_any (B b : Nat) (bs : List Value) (w : World) (h : Lib.IsBuilder 215 5 B b bs w) :
    Calls Tryz.prog 123 #[.pointer (some ⟨b, 0, none⟩)] w fun e w' => e = .returned (.tuple #[]) ∧ (Lib.BuilderAt 215 5 B b (.pointer (some ⟨b, 0, none⟩)) bs w' ∧ Below B w w') := by
  rcases h with h | h
  · refine (copyCheck_fresh b w h.cell0 h.shape h.frozen0).mono ?_
    rintro e w' ⟨rfl, rfl⟩
    exact ⟨rfl, h.used _, (Below.refl B w).setCell (p := ⟨b, 0, none⟩) h.1 _⟩
  · refine (copyCheck_used b w h.cell0).mono ?_
    rintro e w' ⟨rfl, rfl⟩
    exact ⟨rfl, h, Below.refl B _⟩
set_option maxHeartbeats 1000000 in
set_option maxRecDepth 100000 in
theorem writeString_any (B b : Nat) (bs : List Value) (s : ByteArray) (w : World) (h : Lib.IsBuilder 215 5 B b bs w) (hlen : bs.length + s.size ≤ 140737488355328) (hBw : B ≤ w.heap.size) :
    Calls Tryz.prog 108 #[.pointer (some ⟨b, 0, none⟩), .string s] w fun e w' => e = .returned (.tuple #[.int .i64 s.size, .nilIface]) ∧ (Lib.BuilderAt 215 5 B b (.pointer (some ⟨b, 0, none⟩)) (bs ++ Lib.strCells s) w' ∧ Below B w w') := by
  obtain ⟨i0, hi, hz0, hz1, hz2⟩ := info_parts Tryz.infoU8
  have HC := hid (copyCheck_any B b bs w h)
  have Hi := hid hi; have Hz0 := hid hz0; have Hz1 := hid hz1; have Hz2 := hid hz2
  clear hi hz0 hz1 hz2 h
  go_enter Tryz.func108, Tryz.ntmps108
  go_wp2_with fail
  refine HC.out.mono ?_
  rintro e w1 ⟨rfl, h1, hb1⟩
  obtain ⟨hB, v, hbk, hown, hne⟩ := h1
  have c0 : w1.cell? ⟨b, 0, none⟩ = some (.pointer (some ⟨b, 0, none⟩)) := by rw [Lib.cell_of_heap hbk]; rfl
  have c1 : w1.cell? ⟨b, 1, none⟩ = some v := by rw [Lib.cell_of_heap hbk]; rfl
  have HOW := hid hown; have HBK := hid hbk; have HNE := hid hne; have HB1 := hid hb1; have HB := hid hB
  clear hown hbk hne hb1 hB
  go_wp2_with (at_builtin; refine Lib.wpList_append_own_string _ rfl _ _ 124 9 rfl B 5 i0 Tryz.underlying124 Tryz.underlying9 Hi.out Hz0.out Hz1.out Hz2.out _ _ _ rfl HOW.out s rfl ?c3 ?c4 ?c5 ?_)
  case c3 => unfold maxLen; omega
  case c4 => omega
  case c5 => have := HB1.out.size; omega
  intro v' w2 hown' hgrow _
  have hlt : b < w1.heap.size := heap_lt HBK.out
  have hb2 : w2.heap[b]? = some (.cells #[.pointer (some ⟨b, 0, none⟩), v] 215 (0, 0)) := by
    rw [hgrow.block b hlt (fun e => HNE.out e.symm)]
    exact HBK.out
  have d0 : w2.cell? ⟨b, 0, none⟩ = some (.pointer (some ⟨b, 0, none⟩)) := by rw [Lib.cell_of_heap hb2]; rfl
  have d1 : w2.cell? ⟨b, 1, none⟩ = some v := by rw [Lib.cell_of_heap hb2]; rfl
  have f1 : w2.frozen? ⟨b, 1, none⟩ = false := Lib.frozen_of_heap hb2 1
  obtain ⟨ao, n', cap, rfl⟩ : ∃ ao n' cap, v' = .slice ao n' cap := by
    rcases hown'.2 with ⟨hv, _⟩ | ⟨g, cap, cur, hv, _⟩
    · exact ⟨_, _, _, hv⟩
    · exact ⟨_, _, _, hv⟩
  have HO2 := hid hown'; have HG := hid hgrow; have HB2 := hid hb2
  clear hown' hgrow hb2 c0 c1
  go_wp2
  go_ret2
  refine ⟨rfl, ?_, ?_⟩
  · exact Lib.BuilderAt.put (T := 215) (e := 5) HB.out HB2.out (bs' := bs ++ Lib.strCells s) (by simpa [Lib.strCells_length] using HO2.out) (by decide)
  · exact (HB1.out.grown HG.out (by have := HB1.out.size; omega) (fun k hk => (HOW.out.lt k hk).1)).setCell (p := ⟨b, 1, none⟩) HB.out _
end
section
open Go.RowKit
theorem subT_len (s : Sb) (h : Fits s) : (subT s).length ≤ 300000000 := by
  have h1 := compT_len s h
  have h2 := listT_len (f := heapT) (c := 40) s.sups (fun v hv => heapT_len v (h.sups v hv))
  have h3 := h.small.sups
  unfold subT
  simp only [List.length_append, List.length_cons, List.length_nil]
  split <;> simp <;> omega
theorem groupT_len (g : List Sb) (h : ∀ x ∈ g, Fits x) : (groupT g).length ≤ g.length * 300000000 := by
  induction g with
  | nil => simp [groupT]
  | cons x g ih =>
    have h1 := subT_len x (h x (by simp))
    have h2 := ih (fun y hy => h y (by simp [hy]))
    have h3 : groupT (x :: g) = subT x ++ groupT g := by simp [groupT]
    rw [h3, List.length_append, List.length_cons]; omega
theorem IsBuilder_on {B b : Nat} {bs : List Value} {W W' : World} (h : Lib.IsBuilder 215 5 B b bs W) (hb : Below W.heap.size W W') : Lib.IsBuilder 215 5 B b bs W' := by
  have k : ∀ p, Lib.BuilderAt 215 5 B b p bs W → Lib.BuilderAt 215 5 B b p bs W' := fun p ⟨h1, v, h2, h3, h4⟩ =>
    ⟨h1, v, by rw [hb.block b (heap_lt h2)]; exact h2, ownsRow_upd h3 (Upd.of_below hb : Upd (fun _ => False) W W') (fun _ _ h => h), h4⟩
  exact h.elim (fun h => .inl (k _ h)) (fun h => .inr (k _ h))
set_option maxHeartbeats 4000000 in
set_option maxRecDepth 100000 in
theorem writing_any (v : Value) (g : List Sb) (w : World) (hg : GrpAt w v g) (hl : g.length ≤ 1000) (hf : ∀ x ∈ g, Fits x) (ht : Tab w) :
    Calls Tryz.prog 100 #[v] w fun e w' => e = .returned (.string ⟨(groupT g).toArray⟩) ∧ Below w.heap.size w w' := by
  obtain ⟨ao, ca, rfl⟩ := hg.form
  have HG := hid hg; have HL := hid hl; have HF := hid hf; have HT := hid ht
  obtain ⟨W0, hW⟩ : ∃ W0 : World, W0 = w.alloc (.cells #[.pointer none, .slice none 0 0] 215) := ⟨_, rfl⟩
  have z0 : W0.heap[w.heap.size]? = some (.cells #[.pointer none, .slice none 0 0] 215 (0, 0)) := by rw [hW]; exact heap_alloc_at _ _ rfl
  have hb0 : Below w.heap.size w W0 := by rw [hW]; exact (Below.refl _ _).alloc (Nat.le_refl _) _
  have HW := hid hW; have Z0 := hid z0; have HB0 := hid hb0
  clear hg hl hf ht hW z0 hb0
  go_enter Tryz.func100, Tryz.ntmps100
  go_wp2
  rw [← HW.out]
  go_loopw [8] (fun t8 wr => ∃ i : Nat, t8 = .int .i64 i ∧ i ≤ g.length ∧ Lib.IsBuilder 215 5 w.heap.size w.heap.size (Lib.byteCells (groupT (g.take i))) wr ∧ Below w.heap.size w wr) (fun t8 _ => g.length - (intOf t8).toNat)
  case atStart => exact ⟨0, rfl, Nat.zero_le _, .inl ⟨Nat.le_refl _, _, Z0.out, owns_zero _ _ _ _, by simp [Value.ownBlock]⟩, HB0.out⟩
  case round =>
    obtain ⟨i, rfl, hi, hbd, hbe⟩ := hrel
    by_cases hlt : i < g.length
    · obtain ⟨x, hx⟩ : ∃ x, g[i]? = some x := ⟨g[i], by simp [hlt]⟩
      obtain ⟨b2, o2, e2, _, d1, f1, d2, f2, d3, f3, d4, f4, sb, q0, q1, q2, q3, q4, q5⟩ := (HG.out.below hbe (Nat.le_refl _)).at hx
      subst e2
      have hlt' : (i : Int) < g.length := by omega
      have hi6 : (i : Int) < 1000000 := by have := HL.out; omega
      have hfx := HF.out x (List.mem_of_getElem? hx)
      obtain ⟨cs, hcs⟩ : ∃ cs : List Value, cs = [.bool x.fin, .slice d1 x.sups.length f1, .int .i64 x.k, .slice d2 x.ps.length f2, .slice d3 x.rs.length f3, .slice d4 x.fs.length f4] := ⟨_, rfl⟩
      have hal : Below w.heap.size w (wr.alloc (.cells cs.toArray 46)) := hbe.alloc hbe.size _
      have C := text_any cs x hfx (wr.alloc (.cells cs.toArray 46)) (by rw [hcs]; exact sb.below ((Below.refl _ _).alloc (Nat.le_refl _) _) (Nat.le_refl _)) (HT.out.on hal)
      have hbd2 := hbd
      rw [hcs] at C hal
      have HC := hid C; have HBD := hid hbd; have HAL := hid hal; have HX := hid hx; have HLT := hid hlt; have HFX := hid hfx; have HBE := hid hbe
      clear C hbd hbd2 hal hx hlt hi hfx sb hbe
      go_wp2_with fail
      refine HC.out.mono ?_
      rintro e w1 ⟨rfl, hb1⟩
      have hbd1 : Lib.IsBuilder 215 5 w.heap.size w.heap.size (Lib.byteCells (groupT (g.take i))) w1 :=
        IsBuilder_on (IsBuilder_on HBD.out ((Below.refl _ _).alloc (Nat.le_refl _) _)) hb1
      have hbe1 : Below w.heap.size w w1 := HAL.out.trans (hb1.mono HAL.out.size)
      have hlen : (Lib.byteCells (groupT (g.take i))).length + (ByteArray.mk (subT x).toArray).size ≤ 140737488355328 := by
        have h1 := groupT_len (g.take i) (fun y hy => HF.out y (List.mem_of_mem_take hy))
        have h2 : (g.take i).length ≤ 1000 := by have := HL.out; rw [List.length_take]; omega
        have h3 := subT_len x HFX.out
        have h4 : (Lib.byteCells (groupT (g.take i))).length = (groupT (g.take i)).length := by simp [Lib.byteCells]
        have h5 : (ByteArray.mk (subT x).toArray).size = (subT x).length := by simp [ByteArray.size]
        rw [h4, h5]; omega
      have HC2 := hid (writeString_any w.heap.size w.heap.size _ ⟨(subT x).toArray⟩ w1 hbd1 hlen hbe1.size)
      have HBE1 := hid hbe1
      clear hbd1 hbe1 hlen hb1 q0 q1 q2 q3 q4 q5
      go_wp2_with fail
      refine HC2.out.mono ?_
      rintro e w2 ⟨rfl, hbd2, hb2⟩
      have HBD2 := hid hbd2; have HB2 := hid hb2
      clear hbd2 hb2
      go_wp2
      go_roundw
      case rel =>
        refine ⟨i + 1, by go_num, HLT.out, .inr ?_, HBE1.out.trans HB2.out⟩
        have e1 : groupT (g.take (i + 1)) = groupT (g.take i) ++ subT x := by
          rw [List.take_add_one, HX.out]; simp [groupT]
        have h := HBD2.out
        rw [strCells_bytes] at h
        rw [e1, byteCells_append]; simpa using h
      case measure => have := HLT.out; simp [intOf]; omega
    · obtain rfl : i = g.length := by omega
      have hlt' : ¬ (g.length : Int) < g.length := by omega
      rw [List.take_length] at hbd
      have HBD := hid hbd; have HBE := hid hbe
      clear hbd hbe
      go_wp2_with fail
      refine (Tryz.Builder_String_any w.heap.size w.heap.size (groupT g) _ HBD.out HBE.out.size).mono ?_
      rintro e w1 ⟨rfl, hb1⟩
      have HB1 := hid hb1
      clear hb1
      go_wp2
      go_ret
      exact ⟨rfl, HBE.out.trans HB1.out⟩
end
section
open Go.RowKit Go.Maps Go.WideMaps
def total (gs : List (List Sb)) : Nat := (gs.map List.length).sum
def firstOf (gs : List (List Sb)) (i : Nat) : Nat := total (gs.take i)
def ofL (gs : List (List Sb)) : List Int := (gs.zipIdx).flatMap fun p => List.replicate p.1.length (p.2 : Int)
theorem total_snoc (gs : List (List Sb)) (g : List Sb) : total (gs ++ [g]) = total gs + g.length := by simp [total]
theorem ofL_snoc (gs : List (List Sb)) (g : List Sb) : ofL (gs ++ [g]) = ofL gs ++ List.replicate g.length (gs.length : Int) := by
  simp [ofL, List.zipIdx_append]
theorem ofL_len (gs : List (List Sb)) : (ofL gs).length = total gs := by
  have h : ∀ (gs : List (List Sb)) (n : Nat), ((gs.zipIdx n).flatMap fun p => List.replicate p.1.length (p.2 : Int)).length = total gs := by
    intro gs
    induction gs with
    | nil => intro n; rfl
    | cons g gs ih => intro n; rw [List.zipIdx_cons, List.flatMap_cons, List.length_append, ih, List.length_replicate]; simp [total]
  exact h gs 0
theorem flatMap_congr' {α β : Type} {l : List α} {f g : α → List β} (h : ∀ a ∈ l, f a = g a) : l.flatMap f = l.flatMap g := by
  induction l with
  | nil => rfl
  | cons a l ih => rw [List.flatMap_cons, List.flatMap_cons, h a (by simp), ih (fun b hb => h b (by simp [hb]))]
theorem firstOf_snoc {gs : List (List Sb)} {g : List Sb} {i : Nat} (h : i ≤ gs.length) : firstOf (gs ++ [g]) i = firstOf gs i := by
  unfold firstOf; rw [List.take_append_of_le_length h]
theorem firstOf_len (gs : List (List Sb)) : firstOf gs gs.length = total gs := by unfold firstOf; rw [List.take_length]
def entC (es : List (List Sb)) (vs : List Value) : List Value := (List.range es.length).flatMap fun i => [.int .i64 (firstOf es i), vs.getD i undef]
theorem entC_snoc {es : List (List Sb)} {vs : List Value} (h : vs.length = es.length) (g : List Sb) (v : Value) : entC (es ++ [g]) (vs ++ [v]) = entC es vs ++ [.int .i64 (total es), v] := by
  unfold entC
  rw [List.length_append, List.length_singleton, List.range_succ, List.flatMap_append]
  have e1 : (List.range es.length).flatMap (fun i => ([.int .i64 (firstOf (es ++ [g]) i), (vs ++ [v]).getD i undef] : List Value)) = (List.range es.length).flatMap fun i => [.int .i64 (firstOf es i), vs.getD i undef] := flatMap_congr' fun i hi => by
    have hi' : i < es.length := List.mem_range.1 hi
    rw [firstOf_snoc (by omega), List.getD_eq_getElem?_getD, List.getElem?_append_left (by omega), List.getD_eq_getElem?_getD]
  rw [e1]
  congr 1
  rw [List.flatMap_cons, List.flatMap_nil, firstOf_snoc (Nat.le_refl _), firstOf_len, List.getD_eq_getElem?_getD, ← h]
  simp
structure EntsAt (R : Nat → Prop) (w : World) (ev : Value) (es : List (List Sb)) : Prop where
  ex : ∃ vs : List Value, vs.length = es.length ∧ w.ownsRow 0 159 2 ev es.length (entC es vs) ∧ ∀ (i : Nat) v g, vs[i]? = some v → es[i]? = some g → ∀ w'', Upd (fun b => ¬ R b) w w'' → GrpAt w'' v g
structure FoundAt (w : World) (M : Nat) (gs : List (List Sb)) : Prop where
  ex : ∃ D : DataW Unit, w.ownsMap Tryz.prog 9 (plainElem Tryz.prog 3) M gs.length D ∧ IsMap D ∧ (∀ k, has D (.string k) = gs.any (fun g => groupT g == k)) ∧ ∀ (i : Nat) g, gs[i]? = some g → D.atKey (.string (groupT g)) (.lit (.int .i64 0)) = .lit (.int .i64 i)
structure TabM (S R : Nat → Prop) (w : World) (t : Nat) (es ms : List (List Sb)) (ofl : List Int) : Prop where
  ex : ∃ ev ov M, w.heap[t]? = some (.cells #[ev, ov, .map (some M), .pointer (some ⟨t, 0, none⟩)] 101 (0, 0)) ∧ EntsAt R w ev es ∧ w.ownsRow 0 3 1 ov ofl.length (ofl.map (Value.int .i64)) ∧ FoundAt w M ms ∧ S M ∧ (∀ b, ev.ownBlock = some b → S b) ∧ (∀ b, ov.ownBlock = some b → S b)
  st : S t
  lt : ∀ k, S k → k < w.heap.size ∧ ¬ R k
  rlt : ∀ k, R k → k < w.heap.size
def TabAt (S R : Nat → Prop) (w : World) (t : Nat) (gs : List (List Sb)) : Prop := TabM S R w t gs gs (ofL gs)
variable {S R : Nat → Prop} {w w' : World} {t : Nat} {es ms : List (List Sb)} {ofl : List Int}
theorem FoundAt.keep {M : Nat} (h : FoundAt w M ms) (hm : w'.heap[M]? = w.heap[M]?) : FoundAt w' M ms := by
  obtain ⟨D, ⟨xs, c, h1, h2⟩, h3⟩ := h.ex
  exact ⟨D, ⟨xs, c, by rw [hm]; exact h1, h2⟩, h3⟩
theorem EntsAt.keep {ev : Value} (h : EntsAt R w ev es) (u : Upd (fun b => ¬ R b ∧ ev.ownBlock ≠ some b) w w') : EntsAt R w' ev es := by
  obtain ⟨vs, h1, h2, h3⟩ := h.ex
  exact ⟨vs, h1, ownsRow_upd h2 u (fun b hb hk => hk.2 hb), fun i v g hv hg w'' u'' => h3 i v g hv hg w'' ((u.mono fun _ _ hk => hk.1).trans' u'')⟩
theorem TabM.keep (h : TabM S R w t es ms ofl) (u : Upd (fun b => ¬ S b ∧ ¬ R b) w w') : TabM S R w' t es ms ofl := by
  obtain ⟨⟨ev, ov, M, h1, h2, h3, h4, h5, h6, h7⟩, hs, hl, hr⟩ := h
  exact ⟨⟨ev, ov, M, u.heap_some h1 (fun hk => hk.1 hs), h2.keep (u.mono fun b _ hk => ⟨hk.2, fun e => hk.1 (h6 b e)⟩), ownsRow_upd h3 u (fun b hb hk => hk.1 (h7 b hb)), h4.keep (u.block M (hl M h5).1 (fun hk => hk.1 h5)), h5, h6, h7⟩, hs, fun k hk => ⟨Nat.lt_of_lt_of_le (hl k hk).1 u.size, (hl k hk).2⟩, fun k hk => Nat.lt_of_lt_of_le (hr k hk) u.size⟩
theorem TabM.below (h : TabM S R w t es ms ofl) (u : Below w.heap.size w w') : TabM S R w' t es ms ofl := h.keep ((Upd.of_below u : Upd (fun _ => False) w w').mono fun _ _ h => h.elim)
end
end Go.Proofs.YtpddbaijnjbfdaaGreatDoor
