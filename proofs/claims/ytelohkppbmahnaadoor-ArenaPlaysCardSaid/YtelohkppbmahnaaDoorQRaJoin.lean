/- geoderef20: join. -/
import Derived.Test.YtelohkppbmahnaaDoorQRaUseBd
import Derived.Test.YtelohkppbmahnaaDoorQPlPairBd
import Derived.Test.YtelohkppbmahnaaDoorQMid
namespace Go.Proofs.YtelohkppbmahnaaDoor
open Go.RowKit

variable {S : Nat → Prop} {W W' : World} {p cap : Nat} {rs : List RBk}
/-- Between two rounds: what was joined so far. -/
structure JoI (S : Nat → Prop) (W : World) (rs : List RBk) (i : Nat) (ao : Option Addr) (n c : Nat) (out : List RBk) (wr : World) : Prop where
  row : wr.ownsRow W.heap.size 59 4 (.slice ao n c) n (out.flatMap cellsR)
  bl : blks out = joinL ((blks rs).take i)
  wd : ∀ r ∈ out, wr.heap[r.g]? = some (.cells (u64s r.b.ws).toArray 28 (0, 0)) ∧ (S r.g ∨ W.heap.size ≤ r.g)
  nd : ((out ++ rs.drop i).map RBk.g).Nodup
  be : Below W.heap.size W wr
  u64 : ∀ r ∈ out, ∀ x ∈ r.b.ws, x < 18446744073709551616
theorem JoI.len {i n c : Nat} {ao : Option Addr} {out : List RBk} {wr : World} (h : JoI S W rs i ao n c out wr) : out.length = n := by
  have := h.row.1
  rw [flatG_len cellsR_len] at this; omega
theorem putJ_len (l : List Blk) (b : Blk) : (putJ l b).length ≤ l.length + 1 := by
  rcases List.eq_nil_or_concat l with rfl | ⟨o, x, rfl⟩
  · simp [putJ_nil]
  · rw [List.concat_eq_append, putJ_snoc]; split <;> simp
theorem joinL_len (l : List Blk) : (joinL l).length ≤ l.length := by
  have go : ∀ (l out : List Blk), (l.foldl putJ out).length ≤ out.length + l.length := by
    intro l
    induction l with
    | nil => intro out; simp
    | cons b l ih =>
      intro out
      have h1 := ih (putJ out b)
      have h2 := putJ_len out b
      simp only [List.foldl_cons, List.length_cons]; omega
  have h1 := go l []
  unfold joinL
  rw [List.length_nil, Nat.zero_add] at h1
  exact h1
theorem joinL_step {l : List Blk} {i : Nat} {b : Blk} (h : l[i]? = some b) : joinL (l.take (i + 1)) = putJ (joinL (l.take i)) b := by
  unfold joinL
  rw [take_step h, List.foldl_append]; rfl
def JoinPost (S : Nat → Prop) (W : World) (p cap : Nat) (bs : List Blk) (e : Ending) (W' : World) : Prop :=
  e = .returned (.tuple #[]) ∧ ∃ S' rs', RaW S' W' p cap rs' ∧ blks rs' = joinL bs ∧ Upd S W W' ∧ Fresh S W S'
theorem JoI.below {i n c : Nat} {ao : Option Addr} {out : List RBk} {wr wr' : World} (h : JoI S W rs i ao n c out wr) (hb : Below wr.heap.size wr wr') : JoI S W rs i ao n c out wr' := by
  have u : Upd (fun _ => False) wr wr' := Upd.of_below hb
  exact ⟨ownsRow_upd h.row u (fun _ _ h => h), h.bl, fun r hr => ⟨u.heap_some (h.wd r hr).1 (fun h => h), (h.wd r hr).2⟩, h.nd, h.be.trans (hb.mono h.be.size), h.u64⟩
theorem joinL_part {l1 l2 : List Blk} {s t : Nat} (h : Span s (l1 ++ l2) t) : Span s (joinL l1 ++ l2) t := by
  have go : ∀ (l out : List Blk), Span s (out ++ (l ++ l2)) t → Span s (l.foldl putJ out ++ l2) t := by
    intro l
    induction l with
    | nil => intro out h; exact h
    | cons b l ih =>
      intro out h
      exact ih _ (putJ_span (l := l ++ l2) h)
  exact go l1 [] h
theorem JoI.le {i n c : Nat} {ao : Option Addr} {out : List RBk} {wr : World} (h : JoI S W rs i ao n c out wr) : n ≤ i := by
  have h1 := congrArg List.length h.bl
  have h2 := joinL_len ((blks rs).take i)
  rw [← h1, List.length_take] at h2
  have h3 : (blks out).length = n := by unfold blks; rw [List.length_map]; exact h.len
  omega
theorem flat_set1 {o : List RBk} {x : RBk} {n1 ng k z : Nat} (ho : o.length = n1) (hu : x.b.u = false) (hk : z = k) : ((o ++ [x]).flatMap cellsR).set (n1 * 4 + 1) (.slice (some ⟨ng, 0, none⟩) k k) = (o ++ [(⟨ng, ⟨x.b.a, zeros z, false, x.b.m⟩⟩ : RBk)]).flatMap cellsR := by
  subst hk; subst ho
  have h1 : (o.flatMap cellsR).length = o.length * 4 := flatG_len cellsR_len o
  rw [List.flatMap_append, List.flatMap_append, List.set_append_right _ _ (by omega), h1, show o.length * 4 + 1 - o.length * 4 = 1 by omega]
  congr 1
  simp [cellsR, hu, Blk.n, zeros_len]
theorem row_nbJ {w : World} {B b n : Nat} {e T : TypeId} {c : Nat} {v : Value} {xs : List Value} {cs : Array Value} {fr : Nat × Nat} (h : w.ownsRow B e c v n xs) (hb : w.heap[b]? = some (.cells cs T fr)) (ht : e ≠ T) (hv : v.ownBlock = some b) : False := by
  obtain ⟨cur, hc⟩ := row_block h hv
  rw [hc] at hb; simp at hb; exact ht hb.2.1
theorem JoI.push {i n c c' : Nat} {ao ao' : Option Addr} {out : List RBk} {wr wr' : World} (h : JoI S W rs i ao n c out wr) {r : RBk} (hr : rs[i]? = some r) (hp : putJ (blks out) r.b = blks out ++ [r.b]) (hw : W.heap[r.g]? = some (.cells (u64s r.b.ws).toArray 28 (0, 0)) ∧ S r.g) (h64 : ∀ x ∈ r.b.ws, x < 18446744073709551616)
    (ho : wr'.ownsRow W.heap.size 59 4 (.slice ao' (n + 1) c') (n + 1) (out.flatMap cellsR ++ cellsR r)) (u : Upd (fun k => (Value.slice ao n c).ownBlock = some k) wr wr') (hb : Below W.heap.size W wr') : JoI S W rs (i + 1) ao' (n + 1) c' (out ++ [r]) wr' := by
  have hbk : (blks rs)[i]? = some r.b := by unfold blks; rw [List.getElem?_map, hr]; rfl
  have hdr : rs.drop i = r :: rs.drop (i + 1) := by
    have := (List.getElem?_eq_some_iff.1 hr)
    rw [← this.2]; exact List.drop_eq_getElem_cons this.1
  have e1 : (out ++ [r]).flatMap cellsR = out.flatMap cellsR ++ cellsR r := by simp
  refine ⟨by rw [e1]; exact ho, ?_, fun q hq => ?_, ?_, hb, fun q hq => ?_⟩
  · rw [joinL_step hbk, ← h.bl, hp]; unfold blks; simp
  · rcases List.mem_append.1 hq with h1 | h1
    · exact ⟨u.heap_some (h.wd q h1).1 (fun hc => row_nbJ h.row (h.wd q h1).1 (by decide) hc), (h.wd q h1).2⟩
    · rw [List.mem_singleton.1 h1]
      exact ⟨(Upd.of_below (S := fun _ => False) hb).heap_some hw.1 (fun hc => hc), .inl hw.2⟩
  · have h1 := h.nd
    rw [hdr] at h1
    simpa using h1
  · rcases List.mem_append.1 hq with h1 | h1
    · exact h.u64 q h1
    · rw [List.mem_singleton.1 h1]; exact h64
theorem JoI.glue {i n c : Nat} {ao : Option Addr} {o : List RBk} {x : RBk} {wr wr' : World} (h : JoI S W rs i ao n c (o ++ [x]) wr) {r : RBk} (hr : rs[i]? = some r) (hu : r.b.u = false) (hx : x.b.u = false) {ng : Nat} (hng : wr.heap.size ≤ ng)
    (hmade : wr'.heap[ng]? = some (.cells (u64s (zeros (x.b.n + 1 + r.b.n))).toArray 28 (0, 0)))
    (ho : wr'.ownsRow W.heap.size 59 4 (.slice ao n c) n ((o ++ [(⟨ng, ⟨x.b.a, zeros (x.b.n + 1 + r.b.n), false, x.b.m⟩⟩ : RBk)]).flatMap cellsR)) (u : Upd (fun k => (Value.slice ao n c).ownBlock = some k) wr wr') (hb : Below W.heap.size W wr')
    (hold : ∀ r ∈ rs, r.g < W.heap.size) : JoI S W rs (i + 1) ao n c (o ++ [⟨ng, ⟨x.b.a, zeros (x.b.n + 1 + r.b.n), false, x.b.m⟩⟩]) wr' := by
  have hbk : (blks rs)[i]? = some r.b := by unfold blks; rw [List.getElem?_map, hr]; rfl
  have hdr : rs.drop i = r :: rs.drop (i + 1) := by
    have := (List.getElem?_eq_some_iff.1 hr)
    rw [← this.2]; exact List.drop_eq_getElem_cons this.1
  have hS := h.be.size
  refine ⟨ho, ?_, fun q hq => ?_, ?_, hb, fun q hq => ?_⟩
  · have e1 : blks (o ++ [x]) = blks o ++ [x.b] := by unfold blks; simp
    rw [joinL_step hbk, ← h.bl, e1, putJ_snoc, if_pos ⟨hu, hx⟩]; unfold blks; simp
  · rcases List.mem_append.1 hq with h1 | h1
    · have h2 := h.wd q (by simp [h1])
      exact ⟨u.heap_some h2.1 (fun hc => row_nbJ h.row h2.1 (by decide) hc), h2.2⟩
    · rw [List.mem_singleton.1 h1]
      exact ⟨hmade, .inr (by show W.heap.size ≤ ng; omega)⟩
  · have h1 := h.nd
    rw [hdr] at h1
    have hlt : ∀ q ∈ o, q.g < wr.heap.size := fun q hq => heap_lt (h.wd q (by simp [hq])).1
    have hlt2 : ∀ q ∈ rs.drop (i + 1), q.g < W.heap.size := fun q hq => hold q (List.mem_of_mem_drop hq)
    simp only [List.map_append, List.map_cons, List.append_assoc, List.singleton_append] at h1 ⊢
    rw [List.nodup_append] at h1 ⊢
    obtain ⟨a1, a2, a3⟩ := h1
    rw [List.nodup_cons, List.nodup_cons] at a2
    refine ⟨a1, ?_, ?_⟩
    · rw [List.nodup_cons]
      refine ⟨fun hc => ?_, a2.2.2⟩
      obtain ⟨q, hq, e⟩ := List.mem_map.1 hc
      have := hlt2 q hq
      have e' : q.g = ng := e
      omega
    · intro y hy z hz
      rcases List.mem_cons.1 hz with hz | hz
      · obtain ⟨q, hq, rfl⟩ := List.mem_map.1 hy
        have := hlt q hq
        have hz' : z = ng := hz
        omega
      · exact a3 y hy z (List.mem_cons_of_mem _ (List.mem_cons_of_mem _ hz))
  · rcases List.mem_append.1 hq with h1 | h1
    · exact h.u64 q (by simp [h1])
    · rw [List.mem_singleton.1 h1]
      intro y hy
      simp [zeros] at hy; omega
set_option maxRecDepth 100000 in
set_option maxHeartbeats 4000000 in
theorem rJoin_at (h : RaW S W p cap rs) :
    Calls Tryd.prog 37 #[.pointer (some ⟨p, 0, none⟩)] W (JoinPost S W p cap (blks rs)) := by
  obtain ⟨ao, c, R, hpc, hown, howS⟩ := h.rowF
  have c1 := R.c1
  have hlen := h.len
  obtain ⟨i0, hi0, hz0, hz1, hz2⟩ := info_parts Tryd.infoBlk
  have Hi := Lib.hid hi0; have Hz0 := Lib.hid hz0; have Hz1 := Lib.hid hz1; have Hz2 := Lib.hid hz2
  obtain ⟨L, hL⟩ : ∃ L, rs.length = L := ⟨_, rfl⟩
  rw [hL] at c1 hlen hpc
  have HPC := Lib.hid hpc
  have H := Lib.hid h; have HR := Lib.hid R; have HL := Lib.hid hL; have HLN := Lib.hid hlen; have HC1 := Lib.hid c1
  clear h R hL hlen hpc hown howS hi0 hz0 hz1 hz2
  go_enter Tryd.func37, Tryd.ntmps37
  go_wp2
  go_loopw [2, 3] (fun t2 t3 wr => ∃ (i : Nat) (ao1 : Option Addr) (n c1 : Nat) (out : List RBk), t2 = .slice ao1 n c1 ∧ t3 = .int .i64 i ∧ i ≤ L ∧ JoI S W rs i ao1 n c1 out wr) (fun _ t3 _ => L - (intOf t3).toNat)
  case atStart => exact ⟨0, none, 0, 0, [], rfl, rfl, Nat.zero_le _, ⟨rfl, .inl ⟨rfl, rfl⟩⟩, rfl, fun r hr => by simp at hr, by simpa using H.out.nd, Below.refl _ _, fun r hr => by simp at hr⟩
  case round =>
    obtain ⟨i, ao1, n, cc, out, rfl, rfl, hi, hj⟩ := hrel
    have c1 := below_cell hj.be HC1.out
    by_cases hlt : i < L
    · obtain ⟨r, hr⟩ : ∃ r, rs[i]? = some r := ⟨rs[i]'(by rw [HL.out]; exact hlt), by simp [HL.out, hlt]⟩
      obtain ⟨g, rfl, k0, k1, k2, k3⟩ := HR.out.at' i r hr
      have k0 := below_cell hj.be k0; have k1 := below_cell hj.be k1; have k2 := below_cell hj.be k2; have k3 := below_cell hj.be k3
      have hbk : (blks rs)[i]? = some r.b := by unfold blks; rw [List.getElem?_map, hr]; rfl
      have hstep := joinL_step hbk
      rw [← hj.bl] at hstep
      have hbd := H.out.bound (List.mem_of_getElem? hr)
      obtain ⟨a, ha⟩ : ∃ a, r.b.a = a := ⟨_, rfl⟩
      obtain ⟨sz, hsz⟩ : ∃ sz, r.b.n = sz := ⟨_, rfl⟩
      obtain ⟨u, hu⟩ : ∃ u, r.b.u = u := ⟨_, rfl⟩
      obtain ⟨mk, hmk⟩ : ∃ mk, r.b.m = mk := ⟨_, rfl⟩
      obtain ⟨rg, hrg⟩ : ∃ rg, r.g = rg := ⟨_, rfl⟩
      rw [ha] at k0; rw [hsz, hrg] at k1; rw [hu] at k2; rw [hmk] at k3
      have hlt' : (i : Int) < L := by omega
      have hi0 : (0 : Int) ≤ i := by omega
      have HI6 := Lib.hid (show (i : Int) < 1048577 by have := HLN.out; omega)
      have HLT := Lib.hid hlt; have HS := Lib.hid hstep; have HSZ := Lib.hid hsz; have HU := Lib.hid hu; have HA := Lib.hid ha; have HMK := Lib.hid hmk; have HRG := Lib.hid hrg; have HRR := Lib.hid hr; have HJ := Lib.hid hj; have HBD := Lib.hid hbd
      clear hlt hi hr hbk hstep ha hsz hu hmk hrg hj hbd
      go_upto_region 5 with fail
      obtain ⟨bb, hbb⟩ : ∃ bb, wr.heap.size = bb := ⟨_, rfl⟩
      obtain ⟨V1, hV1⟩ : ∃ V1, V1 = wr.alloc (.cells #[.int .i64 a, .slice (some ⟨rg, 0, none⟩) sz sz, .bool u, .bool mk] 59) := ⟨_, rfl⟩
      rw [← hV1, hbb]
      have q1 : V1.heap[bb]? = some (.cells #[.int .i64 a, .slice (some ⟨rg, 0, none⟩) sz sz, .bool u, .bool mk] 59 (0, 0)) := by rw [hV1]; exact heap_alloc_at _ _ hbb.symm
      have b1 : Below wr.heap.size wr V1 := by rw [hV1]; exact (Below.refl _ _).alloc (Nat.le_refl _) _
      have HJ1 := Lib.hid (HJ.out.below b1)
      have c1 := below_cell b1 c1
      have y0 := heap_cell q1 0; have y1 := heap_cell q1 1; have y2 := heap_cell q1 2; have y3 := heap_cell q1 3
      simp at y0 y1 y2 y3
      have HBB := Lib.hid hbb; have HQ1 := Lib.hid q1
      clear hV1 q1 b1 hbb k0 k1 k2 k3
      by_cases hn0 : n = 0
      · subst hn0
        have hn1 : ¬ ((0 : Int) < ((0 : Nat) : Int)) := by omega
        have HOE := Lib.hid (show blks out = [] by rw [List.eq_nil_of_length_eq_zero HJ1.out.len]; rfl)
        have HNB := Lib.hid (show 0 ≤ 1048576 by omega)
        have HROW := Lib.hid (HJ1.out.row.alloc (.cells #[.int .i64 a, .slice (some ⟨rg, 0, none⟩) sz sz, .bool u, .bool mk] 59))
        have HCE := Lib.hid (show cellsR r = [.int .i64 a, .slice (some ⟨rg, 0, none⟩) sz sz, .bool u, .bool mk] by unfold cellsR; rw [HA.out, HSZ.out, HU.out, HMK.out, HRG.out])
        have HSV := Lib.hid (show W.heap.size ≤ (V1.alloc (.cells #[.int .i64 a, .slice (some ⟨rg, 0, none⟩) sz sz, .bool u, .bool mk] 59)).heap.size by have := HJ1.out.be.size; simp; omega)
        have HNEWS := Lib.hid (show ∀ (j : Nat) (v : Value), ([Value.int .i64 a, .slice (some ⟨rg, 0, none⟩) sz sz, .bool u, .bool mk] : List Value)[j]? = some v → (V1.alloc (.cells #[.int .i64 a, .slice (some ⟨rg, 0, none⟩) sz sz, .bool u, .bool mk] 59)).cell? ((⟨V1.heap.size, 0, none⟩ : Addr).add j) = some v from by
          intro j v hj
          rw [Addr.add_lit, Nat.zero_add, heap_cell (heap_alloc_at V1 (.cells #[.int .i64 a, .slice (some ⟨rg, 0, none⟩) sz sz, .bool u, .bool mk] 59) rfl)]
          simpa using hj)
        have HONE := Lib.hid (show ∀ v ∈ ([Value.int .i64 a, .slice (some ⟨rg, 0, none⟩) sz sz, .bool u, .bool mk] : List Value), v.oneCell' = true by
          intro v hu
          simp at hu
          rcases hu with rfl | rfl | rfl | rfl <;> rfl)
        have HL1 := Lib.hid (show 0 + 1 ≤ maxLen by have := HNB.out; unfold maxLen; omega)
        have HL2 := Lib.hid (show (0 + 1) * 40 ≤ 140737488355328 by have := HNB.out; omega)
        have hput : putJ (blks out) r.b = blks out ++ [r.b] := (by rw [HOE.out]; rfl)
        have HPUT := Lib.hid hput
        have HI6' := HI6.out
        clear hput
        go_wp2_with (at_builtin; refine wpList_append_own2 _ rfl _ _ 55 rfl W.heap.size 59 i0 _ 4 40 Tryd.underlying55 Hi.out Hz0.out Hz1.out Hz2.out rfl (by decide) _ _ _ rfl HROW.out ⟨V1.heap.size, 0, none⟩ 1 1 [.int .i64 a, .slice (some ⟨rg, 0, none⟩) sz sz, .bool u, .bool mk] rfl rfl HNEWS.out HONE.out HL1.out HL2.out HSV.out (by decide) ?_; intro v4 V4 r4 g4 mu4; obtain ⟨ao4, c4, rfl, _⟩ := ownsRow_form r4; have HR4 := Lib.hid r4; have HG4 := Lib.hid g4; clear r4 g4 mu4)
        have hr4 := HR4.out
        rw [← HCE.out] at hr4
        have u4 : Upd (fun k => (Value.slice ao1 0 cc).ownBlock = some k) V1 V4 := ((Upd.refl _ _).alloc _).grown HG4.out (fun k hk => .inl hk)
        have hrr := List.mem_of_getElem? HRR.out
        have b4 : Below W.heap.size W V4 := (HJ1.out.be.alloc HJ1.out.be.size _).grown HG4.out HSV.out (fun k hk => (HJ1.out.row.lt k hk).1)
        refine ⟨⟨i + 1, ao4, _, c4, _, rfl, by go_num, HLT.out, HJ1.out.push HRR.out HPUT.out (H.out.wd r hrr) (H.out.u64 r hrr) hr4 u4 b4⟩, ?_⟩
        have := HLT.out; simp [intOf]; omega
      · obtain ⟨n1, hnn⟩ : ∃ n1, n = n1 + 1 := ⟨n - 1, by omega⟩
        obtain ⟨o, x, rfl⟩ : ∃ o x, out = o ++ [x] := by
          rcases List.eq_nil_or_concat out with rfl | ⟨o, x, rfl⟩
          · have := HJ1.out.len; simp at this; omega
          · exact ⟨o, x, List.concat_eq_append⟩
        have ho : o.length = n1 := by have := HJ1.out.len; simp at this; omega
        obtain ⟨og, cc', ocur, e0, _, _, _, hoc⟩ := ownsRow_some HJ1.out.row (by omega)
        simp only [Value.slice.injEq] at e0
        obtain ⟨rfl, _, rfl⟩ := e0
        have hy2 := hoc (n1 * 4 + 2) (by omega)
        rw [flatG_at cellsR_len (o ++ [x]) n1 2 x (by rw [← ho]; simp) (by decide)] at hy2
        have hx2 : V1.cell? ⟨og, n1 * 4 + 2, none⟩ = some (.bool x.b.u) := hy2
        have hy1 := hoc (n1 * 4 + 1) (by omega)
        rw [flatG_at cellsR_len (o ++ [x]) n1 1 x (by rw [← ho]; simp) (by decide)] at hy1
        have hx1 : V1.cell? ⟨og, n1 * 4 + 1, none⟩ = some (.slice (some ⟨x.g, 0, none⟩) x.b.n x.b.n) := hy1
        obtain ⟨xu, hxu⟩ : ∃ xu, x.b.u = xu := ⟨_, rfl⟩
        rw [hxu] at hx2
        have HXU := Lib.hid hxu
        have HNB := Lib.hid (show n ≤ 1048576 by have h1 := HJ.out.le; have h2 := HLN.out; have h3 := HLT.out; omega)
        have HN6 := Lib.hid (show (n : Int) < 1048577 by have := HNB.out; omega)
        have hn1 : (0 : Int) < (n : Int) := by omega
        have hd1 : decide ((0 : Int) < (n : Int)) = true := decide_eq_true hn1
        have hn0' : 0 < n := by omega
        have hd2 : decide (0 < n) = true := decide_eq_true hn0'
        have hn2 : ((n : Int) - 1) = (n1 : Int) := by omega
        have e2 : IntKind.i64.wrap ((n : Int) - 1) = (n1 : Int) := by have := HN6.out; rw [IntWalk.i64_in _ ⟨by omega, by omega⟩]; omega
        have hn4 : (n1 : Int) < n := by omega
        have hn5 : n1 < n := by omega
        have e3 : wrap64 ((n : Int) - 1) = (n1 : Int) := by have := HN6.out; rw [IntWalk.wrap64_in _ ⟨by omega, by omega⟩]; omega
        have hn3 : (0 : Int) ≤ n1 := by omega
        have HO := Lib.hid ho; have HNN := Lib.hid hnn
        clear hoc hy1 hy2 hxu ho hn0 hnn hn2
        cases u
        · cases xu
          · obtain ⟨xn, hxn⟩ : ∃ xn, x.b.n = xn := ⟨_, rfl⟩
            obtain ⟨xg, hxg⟩ : ∃ xg, x.g = xg := ⟨_, rfl⟩
            rw [hxn, hxg] at hx1
            have hxb : xn ≤ 1048576 ∧ sz ≤ 1048576 := by
              have h1 := H.out.span
              rw [← List.take_append_drop i (blks rs)] at h1
              have h2 := joinL_part h1
              rw [← HJ.out.bl] at h2
              have h3 := h2.mem x.b (by unfold blks; simp)
              have h4 := H.out.small
              have h5 : endOf cap ≤ cap + 1 := by unfold endOf; split <;> omega
              have h6 := HBD.out
              rw [HSZ.out] at h6
              rw [hxn] at h3
              omega
            obtain ⟨k1, hk1⟩ : ∃ k1, xn + 1 = k1 := ⟨_, rfl⟩
            obtain ⟨k, hk⟩ : ∃ k, k1 + sz = k := ⟨_, rfl⟩
            have e5 : IntKind.i64.wrap ((xn : Int) + 1) = (k1 : Int) := by rw [IntWalk.i64_in _ ⟨by omega, by omega⟩]; omega
            have e6 : IntKind.i64.wrap ((k1 : Int) + sz) = (k : Int) := by rw [IntWalk.i64_in _ ⟨by omega, by omega⟩]; omega
            have hm1 := fun W => run_make_row' (P := Tryd.prog) 47 28 (.int .u64 0) 8 Tryd.underlying47 Tryd.infoU64 rfl .i64 .i64 k (by omega) (by omega) W
            have hz1 := HJ1.out.row.frozenAt (n1 * 4 + 1)
            have hogl : og < V1.heap.size := (HJ1.out.row.lt og rfl).2
            have HXB := Lib.hid hxb; have HK1 := Lib.hid hk1; have HK := Lib.hid hk; have HXN := Lib.hid hxn; have HXG := Lib.hid hxg
            have HI6' := HI6.out
            go_upto_region 7 with fail
            have f1 := ExtU.cells (R := fun _ => False) hx1 (fun h => h)
            have f2 := ExtU.cells (R := fun _ => False) y1 (fun h => h)
            clear hxb hk1 hk hxn hxg hx1 y1 y0 y2 y3 hx2 c1
            refine wp_region_midX (fun x : ExtU (fun _ => False) V1 => x.val) 16 [0, 1, 2, 3, 4, 5, 6, 7, 8, 9, 10, 11, 12, 13, 14] [15] (by kernel_rfl) (by kernel_rfl) (by kernel_rfl) (by kernel_rfl) (by rintro c a (_ | d) v w h <;> exact h) ⟨⟨_, (Upd.refl _ _).drew⟩, rfl⟩ ?_
            simp only [pickO, List.getD_cons_succ, List.getD_cons_zero, List.drop_succ_cons, List.drop_zero]
            repeat (go_big_quiet_step (fail))
            refine wpQuiet_nil ?_
            unfold wpMids
            go_wp2_with fail
            refine ⟨⟨⟨_, ((Upd.refl _ _).alloc _).drew⟩, rfl⟩, ?_⟩
            unfold wpMids
            obtain ⟨ng, hng⟩ : ∃ ng, V1.heap.size = ng := ⟨_, rfl⟩
            obtain ⟨V2, hV2⟩ : ∃ V2, V2 = (V1.alloc (.cells (madeCells #[.int .u64 0] k) 28)).drew := ⟨_, rfl⟩
            rw [← hV2, hng]
            have g2 : V2.heap[ng]? = some (.cells (madeCells #[.int .u64 0] k) 28 (0, 0)) := by rw [hV2]; exact heap_alloc_at _ _ hng.symm
            have b2 : Below V1.heap.size V1 V2 := by rw [hV2]; exact ((Below.refl _ _).alloc (Nat.le_refl _) _).drew
            have hro2 := ownsRow_upd (S := fun _ => False) HJ1.out.row (Upd.of_below b2) (fun _ _ h => h)
            have hz1 := hro2.frozenAt (n1 * 4 + 1)
            have hogl : og < V2.heap.size := (hro2.lt og rfl).2
            have hx1 := hro2.cellAt (n1 * 4 + 1) (by have := HNN.out; omega)
            rw [flatG_at cellsR_len (o ++ [x]) n1 1 x (by rw [← HO.out]; simp) (by decide)] at hx1
            have HG2 := Lib.hid g2; have HB2 := Lib.hid b2; have HRO2 := Lib.hid hro2; have HNG := Lib.hid hng
            have hx1' : V2.cell? ⟨og, n1 * 4 + 1, none⟩ = some (.slice (some ⟨x.g, 0, none⟩) x.b.n x.b.n) := hx1
            clear hV2 hng g2 b2 hro2 hx1 f1 f2 hm1
            go_wp2_with fail
            obtain ⟨V3, hV3⟩ : ∃ V3, V3 = V2.setCell ⟨og, n1 * 4 + 1, none⟩ (.slice (some ⟨ng, 0, none⟩) k k) := ⟨_, rfl⟩
            rw [← hV3]
            have hkz : x.b.n + 1 + r.b.n = k := by rw [HXN.out, HSZ.out, HK1.out, HK.out]
            have hst := (HRO2.out.stored (n1 * 4 + 1) (.slice (some ⟨ng, 0, none⟩) k k)).1
            rw [← hV3, flat_set1 (o := o) (x := x) HO.out HXU.out hkz] at hst
            have u23 : Upd (fun b => b = og) V2 V3 := by rw [hV3]; exact upd_set _ _ _ _
            have hnog : ng ≠ og := fun e => by
              have h1 := (HJ1.out.row.lt og rfl).2
              have h2 := HNG.out
              omega
            have g3 := u23.heap_some HG2.out hnog
            rw [made_u64, ← hkz] at g3
            have u13 : Upd (fun b => (Value.slice (some ⟨og, 0, none⟩) n cc).ownBlock = some b) V1 V3 := (Upd.of_below HB2.out).trans' (u23.mono (fun b _ h => by rw [h]; rfl))
            have b3 : Below W.heap.size W V3 := by
              rw [hV3]
              exact (HJ1.out.be.trans (HB2.out.mono HJ1.out.be.size)).setCell (HJ1.out.row.lt og rfl).1 _
            refine ⟨⟨i + 1, _, n, cc, _, rfl, by go_num, HLT.out, HJ1.out.glue HRR.out HU.out HXU.out (Nat.le_of_eq HNG.out) g3 hst u13 b3 (fun q hq => heap_lt (H.out.wd q hq).1)⟩, ?_⟩
            have := HLT.out; simp [intOf]; omega
          · have HROW := Lib.hid (HJ1.out.row.alloc (.cells #[.int .i64 a, .slice (some ⟨rg, 0, none⟩) sz sz, .bool false, .bool mk] 59))
            have HCE := Lib.hid (show cellsR r = [.int .i64 a, .slice (some ⟨rg, 0, none⟩) sz sz, .bool false, .bool mk] by unfold cellsR; rw [HA.out, HSZ.out, HU.out, HMK.out, HRG.out])
            have HSV := Lib.hid (show W.heap.size ≤ (V1.alloc (.cells #[.int .i64 a, .slice (some ⟨rg, 0, none⟩) sz sz, .bool false, .bool mk] 59)).heap.size by have := HJ1.out.be.size; simp; omega)
            have HNEWS := Lib.hid (show ∀ (j : Nat) (v : Value), ([Value.int .i64 a, .slice (some ⟨rg, 0, none⟩) sz sz, .bool false, .bool mk] : List Value)[j]? = some v → (V1.alloc (.cells #[.int .i64 a, .slice (some ⟨rg, 0, none⟩) sz sz, .bool false, .bool mk] 59)).cell? ((⟨V1.heap.size, 0, none⟩ : Addr).add j) = some v from by
              intro j v hj
              rw [Addr.add_lit, Nat.zero_add, heap_cell (heap_alloc_at V1 (.cells #[.int .i64 a, .slice (some ⟨rg, 0, none⟩) sz sz, .bool false, .bool mk] 59) rfl)]
              simpa using hj)
            have HONE := Lib.hid (show ∀ v ∈ ([Value.int .i64 a, .slice (some ⟨rg, 0, none⟩) sz sz, .bool false, .bool mk] : List Value), v.oneCell' = true by
              intro v hu
              simp at hu
              rcases hu with rfl | rfl | rfl | rfl <;> rfl)
            have HL1 := Lib.hid (show n + 1 ≤ maxLen by have := HNB.out; unfold maxLen; omega)
            have HL2 := Lib.hid (show (n + 1) * 40 ≤ 140737488355328 by have := HNB.out; omega)
            have hput : putJ (blks (o ++ [x])) r.b = blks (o ++ [x]) ++ [r.b] := (by rw [show blks (o ++ [x]) = blks o ++ [x.b] by unfold blks; simp]; rw [putJ_snoc, if_neg (by rw [HXU.out]; simp)])
            have HPUT := Lib.hid hput
            have HI6' := HI6.out
            clear hput
            go_wp2_with (at_builtin; refine wpList_append_own2 _ rfl _ _ 55 rfl W.heap.size 59 i0 _ 4 40 Tryd.underlying55 Hi.out Hz0.out Hz1.out Hz2.out rfl (by decide) _ _ _ rfl HROW.out ⟨V1.heap.size, 0, none⟩ 1 1 [.int .i64 a, .slice (some ⟨rg, 0, none⟩) sz sz, .bool false, .bool mk] rfl rfl HNEWS.out HONE.out HL1.out HL2.out HSV.out (by decide) ?_; intro v4 V4 r4 g4 mu4; obtain ⟨ao4, c4, rfl, _⟩ := ownsRow_form r4; have HR4 := Lib.hid r4; have HG4 := Lib.hid g4; clear r4 g4 mu4)
            have hr4 := HR4.out
            rw [← HCE.out] at hr4
            have u4 : Upd (fun k => (Value.slice (some ⟨og, 0, none⟩) n cc).ownBlock = some k) V1 V4 := ((Upd.refl _ _).alloc _).grown HG4.out (fun k hk => .inl hk)
            have hrr := List.mem_of_getElem? HRR.out
            have b4 : Below W.heap.size W V4 := (HJ1.out.be.alloc HJ1.out.be.size _).grown HG4.out HSV.out (fun k hk => (HJ1.out.row.lt k hk).1)
            refine ⟨⟨i + 1, ao4, _, c4, _, rfl, by go_num, HLT.out, HJ1.out.push HRR.out HPUT.out (H.out.wd r hrr) (H.out.u64 r hrr) hr4 u4 b4⟩, ?_⟩
            have := HLT.out; simp [intOf]; omega
        · have HROW := Lib.hid (HJ1.out.row.alloc (.cells #[.int .i64 a, .slice (some ⟨rg, 0, none⟩) sz sz, .bool true, .bool mk] 59))
          have HCE := Lib.hid (show cellsR r = [.int .i64 a, .slice (some ⟨rg, 0, none⟩) sz sz, .bool true, .bool mk] by unfold cellsR; rw [HA.out, HSZ.out, HU.out, HMK.out, HRG.out])
          have HSV := Lib.hid (show W.heap.size ≤ (V1.alloc (.cells #[.int .i64 a, .slice (some ⟨rg, 0, none⟩) sz sz, .bool true, .bool mk] 59)).heap.size by have := HJ1.out.be.size; simp; omega)
          have HNEWS := Lib.hid (show ∀ (j : Nat) (v : Value), ([Value.int .i64 a, .slice (some ⟨rg, 0, none⟩) sz sz, .bool true, .bool mk] : List Value)[j]? = some v → (V1.alloc (.cells #[.int .i64 a, .slice (some ⟨rg, 0, none⟩) sz sz, .bool true, .bool mk] 59)).cell? ((⟨V1.heap.size, 0, none⟩ : Addr).add j) = some v from by
            intro j v hj
            rw [Addr.add_lit, Nat.zero_add, heap_cell (heap_alloc_at V1 (.cells #[.int .i64 a, .slice (some ⟨rg, 0, none⟩) sz sz, .bool true, .bool mk] 59) rfl)]
            simpa using hj)
          have HONE := Lib.hid (show ∀ v ∈ ([Value.int .i64 a, .slice (some ⟨rg, 0, none⟩) sz sz, .bool true, .bool mk] : List Value), v.oneCell' = true by
            intro v hu
            simp at hu
            rcases hu with rfl | rfl | rfl | rfl <;> rfl)
          have HL1 := Lib.hid (show n + 1 ≤ maxLen by have := HNB.out; unfold maxLen; omega)
          have HL2 := Lib.hid (show (n + 1) * 40 ≤ 140737488355328 by have := HNB.out; omega)
          have hput : putJ (blks (o ++ [x])) r.b = blks (o ++ [x]) ++ [r.b] := (by rw [show blks (o ++ [x]) = blks o ++ [x.b] by unfold blks; simp]; rw [putJ_snoc, if_neg (by rw [HU.out]; simp)])
          have HPUT := Lib.hid hput
          have HI6' := HI6.out
          clear hput
          go_wp2_with (at_builtin; refine wpList_append_own2 _ rfl _ _ 55 rfl W.heap.size 59 i0 _ 4 40 Tryd.underlying55 Hi.out Hz0.out Hz1.out Hz2.out rfl (by decide) _ _ _ rfl HROW.out ⟨V1.heap.size, 0, none⟩ 1 1 [.int .i64 a, .slice (some ⟨rg, 0, none⟩) sz sz, .bool true, .bool mk] rfl rfl HNEWS.out HONE.out HL1.out HL2.out HSV.out (by decide) ?_; intro v4 V4 r4 g4 mu4; obtain ⟨ao4, c4, rfl, _⟩ := ownsRow_form r4; have HR4 := Lib.hid r4; have HG4 := Lib.hid g4; clear r4 g4 mu4)
          have hr4 := HR4.out
          rw [← HCE.out] at hr4
          have u4 : Upd (fun k => (Value.slice (some ⟨og, 0, none⟩) n cc).ownBlock = some k) V1 V4 := ((Upd.refl _ _).alloc _).grown HG4.out (fun k hk => .inl hk)
          have hrr := List.mem_of_getElem? HRR.out
          have b4 : Below W.heap.size W V4 := (HJ1.out.be.alloc HJ1.out.be.size _).grown HG4.out HSV.out (fun k hk => (HJ1.out.row.lt k hk).1)
          refine ⟨⟨i + 1, ao4, _, c4, _, rfl, by go_num, HLT.out, HJ1.out.push HRR.out HPUT.out (H.out.wd r hrr) (H.out.u64 r hrr) hr4 u4 b4⟩, ?_⟩
          have := HLT.out; simp [intOf]; omega
    · obtain rfl : i = L := by omega
      have hlt' : ¬ (i : Int) < i := by omega
      have hph := (Upd.of_below (S := fun _ => False) hj.be).heap_some HPC.out (fun h => h)
      have hz1 := heap_frozen hph 1
      have HPH := Lib.hid hph; have HJ := Lib.hid hj
      clear hlt hi hj hph
      go_wp2_with fail
      obtain ⟨Vz, hVz⟩ : ∃ Vz, Vz = wr.setCell ⟨p, 1, none⟩ (.slice ao1 n cc) := ⟨_, rfl⟩
      rw [← hVz]
      refine bodyPost_end (v := .tuple #[]) (results_none rfl _ _ _) rfl ⟨rfl, fun b => S b ∨ (W.heap.size ≤ b ∧ b < Vz.heap.size), out, ?_, ?_, ?_, fun b hb => hb.elim .inl (fun h => .inr h.1)⟩
      · have u1 : Upd (fun b => b = p) wr Vz := by rw [hVz]; exact upd_set _ _ _ _
        have hp1 := heap_set_at HPH.out 1 (.slice ao1 n cc)
        rw [← hVz] at hp1
        have hne : ∀ b, (Value.slice ao1 n cc).ownBlock = some b → ¬ b = p := fun b hb e => row_nbJ HJ.out.row HPH.out (by decide) (by rw [← e]; exact hb)
        have hr1 := ownsRow_upd HJ.out.row u1 hne
        have hln := HJ.out.len
        refine ⟨⟨.slice ao1 n cc, by simpa using hp1, by rw [hln]; exact ownsRow_low hr1 (Nat.zero_le _), fun g hg => .inr ⟨(hr1.lt g hg).1, (hr1.lt g hg).2⟩⟩, fun q hq => ?_, ?_, .inl H.out.sp, ?_, H.out.small, HJ.out.u64⟩
        · have h1 := HJ.out.wd q hq
          have h2 := u1.heap_some h1.1 (fun e => by rw [e] at h1; have h3 := h1.1; rw [HPH.out] at h3; simp at h3)
          exact ⟨h2, h1.2.elim .inl (fun h => .inr ⟨h, heap_lt h2⟩)⟩
        · have h1 := HJ.out.nd
          rw [List.drop_of_length_le (by rw [HL.out]; exact Nat.le_refl _), List.append_nil] at h1
          exact h1
        · rw [HJ.out.bl, List.take_of_length_le (by unfold blks; rw [List.length_map, HL.out]; exact Nat.le_refl _)]
          exact joinL_span H.out.span
      · rw [HJ.out.bl, List.take_of_length_le (by unfold blks; rw [List.length_map, HL.out]; exact Nat.le_refl _)]
      · rw [hVz]
        exact (Upd.of_below HJ.out.be).setCell (p := ⟨p, 1, none⟩) (.inl H.out.sp) _
end Go.Proofs.YtelohkppbmahnaaDoor
