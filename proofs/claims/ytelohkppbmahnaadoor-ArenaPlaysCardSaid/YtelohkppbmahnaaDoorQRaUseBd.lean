/- geoderef20: the document's arena in memory while two free blocks may stand side by side; flags that are set. -/
import Derived.Test.YtelohkppbmahnaaDoorQRaTake
import Derived.Test.YtelohkppbmahnaaDoorQRaEqP
namespace Go.Proofs.YtelohkppbmahnaaDoor
open Go.RowKit

/-- As RaAt, but free blocks may stand side by side. -/
structure RaW (S : Nat → Prop) (W : World) (p cap : Nat) (rs : List RBk) : Prop where
  hd : ∃ v, W.heap[p]? = some (.cells #[.int .i64 (cap : Nat), v] 57 (0, 0)) ∧ W.ownsRow 0 59 4 v rs.length (rs.flatMap cellsR) ∧ ∀ g, v.ownBlock = some g → S g
  wd : ∀ r ∈ rs, W.heap[r.g]? = some (.cells (u64s r.b.ws).toArray 28 (0, 0)) ∧ S r.g
  nd : (rs.map RBk.g).Nodup
  sp : S p
  span : Span 1 (blks rs) (endOf cap)
  small : cap ≤ 1048576
  u64 : ∀ r ∈ rs, ∀ x ∈ r.b.ws, x < 18446744073709551616
variable {S : Nat → Prop} {W W' : World} {p cap : Nat} {rs : List RBk}
theorem RaAt.weak (h : RaAt S W p cap rs) : RaW S W p cap rs := ⟨h.hd, h.wd, h.nd, h.sp, h.wf.span, h.wf.small, h.u64⟩
theorem RaW.strong (h : RaW S W p cap rs) (hw : Wf cap (blks rs)) : RaAt S W p cap rs := ⟨h.hd, h.wd, h.nd, h.sp, hw, h.u64⟩
theorem RaW.lt (h : RaW S W p cap rs) : p < W.heap.size := by
  obtain ⟨v, h1, _⟩ := h.hd
  exact heap_lt h1
theorem RaW.bound (h : RaW S W p cap rs) {r : RBk} (hr : r ∈ rs) : 1 ≤ r.b.a ∧ 0 < r.b.n ∧ r.b.a + r.b.n ≤ 1048576 := by
  have h1 := h.span.mem r.b (List.mem_map.2 ⟨r, hr, rfl⟩)
  have h2 := h.small
  have h3 : endOf cap ≤ cap + 1 := by unfold endOf; split <;> omega
  omega
theorem RaW.len (h : RaW S W p cap rs) : rs.length ≤ 1048576 := by
  have h1 := SpanR.count h.span
  have h2 := h.small
  have h3 : endOf cap ≤ cap + 1 := by unfold endOf; split <;> omega
  unfold blks at h1
  rw [List.length_map] at h1
  omega
theorem RaW.upd {T : Nat → Prop} (h : RaW S W p cap rs) (u : Upd T W W') (hT : ∀ b, S b → ¬ T b) : RaW S W' p cap rs := by
  obtain ⟨v, h1, h2, h3⟩ := h.hd
  exact ⟨⟨v, u.heap_some h1 (hT _ h.sp), ownsRow_upd h2 u (fun b hb => hT b (h3 b hb)), h3⟩, fun r hr => ⟨u.heap_some (h.wd r hr).1 (hT _ (h.wd r hr).2), (h.wd r hr).2⟩, h.nd, h.sp, h.span, h.small, h.u64⟩
theorem RaW.below (h : RaW S W p cap rs) (hb : Below W.heap.size W W') : RaW S W' p cap rs := h.upd (T := fun _ => False) (Upd.of_below hb) (fun _ _ h => h)
/-- The row of blocks, all of it. -/
theorem RaW.rowF (h : RaW S W p cap rs) : ∃ ao c, RowC W p rs ao c ∧ W.heap[p]? = some (.cells #[.int .i64 (cap : Nat), .slice ao rs.length c] 57 (0, 0)) ∧ W.ownsRow 0 59 4 (.slice ao rs.length c) rs.length (rs.flatMap cellsR) ∧ ∀ g, (Value.slice ao rs.length c).ownBlock = some g → S g := by
  obtain ⟨v, h1, h2, h3⟩ := h.hd
  have c1 := heap_cell h1 1
  simp at c1
  obtain ⟨ao, c, rfl, _⟩ := ownsRow_form h2
  refine ⟨ao, c, ⟨c1, fun i r hi => ?_⟩, h1, h2, h3⟩
  have hlt := (List.getElem?_eq_some_iff.1 hi).1
  obtain ⟨g, cap', cur, e, _, _, _, hc⟩ := ownsRow_some h2 (by omega)
  simp only [Value.slice.injEq] at e
  refine ⟨g, e.1, ?_⟩
  have hj : ∀ j, j < 4 → W.cell? ⟨g, i * 4 + j, none⟩ = (cellsR r)[j]? := fun j hj => by
    rw [hc (i * 4 + j) (by rw [Nat.mul_comm]; omega)]
    exact flatG_at cellsR_len rs i j r hi hj
  exact ⟨hj 0 (by decide), hj 1 (by decide), hj 2 (by decide), hj 3 (by decide)⟩
/-- One block's flags. -/
def setUR (u : Bool) (r : RBk) : RBk := ⟨r.g, ⟨r.b.a, r.b.ws, u, r.b.m⟩⟩
def setMR (m : Bool) (r : RBk) : RBk := ⟨r.g, ⟨r.b.a, r.b.ws, r.b.u, m⟩⟩
theorem flat_set2 : ∀ (l : List RBk) (i : Nat) (r : RBk) (u : Bool), l[i]? = some r → (l.flatMap cellsR).set (i * 4 + 2) (.bool u) = (l.set i (setUR u r)).flatMap cellsR
  | [], i, r, u, h => by simp at h
  | x :: l, 0, r, u, h => by simp at h; subst h; rfl
  | x :: l, i + 1, r, u, h => by
    rw [List.flatMap_cons, List.set_cons_succ, List.flatMap_cons, ← flat_set2 l i r u (by simpa using h), show (i + 1) * 4 + 2 = (i * 4 + 2) + 4 by omega]
    show ([_, _, _, _] ++ _ : List Value).set _ _ = _
    simp [cellsR]
theorem flat_set3 : ∀ (l : List RBk) (i : Nat) (r : RBk) (m : Bool), l[i]? = some r → (l.flatMap cellsR).set (i * 4 + 3) (.bool m) = (l.set i (setMR m r)).flatMap cellsR
  | [], i, r, m, h => by simp at h
  | x :: l, 0, r, m, h => by simp at h; subst h; rfl
  | x :: l, i + 1, r, m, h => by
    rw [List.flatMap_cons, List.set_cons_succ, List.flatMap_cons, ← flat_set3 l i r m (by simpa using h), show (i + 1) * 4 + 3 = (i * 4 + 3) + 4 by omega]
    show ([_, _, _, _] ++ _ : List Value).set _ _ = _
    simp [cellsR]
theorem span_same : ∀ {l : List Blk} {i s t : Nat} {b c : Blk}, Span s l t → l[i]? = some b → c.a = b.a → c.n = b.n → Span s (l.set i c) t
  | [], i, s, t, b, c, _, h, _, _ => by simp at h
  | x :: l, 0, s, t, b, c, ⟨h1, h2, h3⟩, h, ha, hn => by
    simp at h; subst h
    exact ⟨by rw [ha]; exact h1, by rw [hn]; exact h2, by rw [hn]; exact h3⟩
  | x :: l, i + 1, s, t, b, c, ⟨h1, h2, h3⟩, h, ha, hn => ⟨h1, h2, span_same h3 (by simpa using h) ha hn⟩
theorem blks_set (rs : List RBk) (i : Nat) (r : RBk) : blks (rs.set i r) = (blks rs).set i r.b := by unfold blks; rw [List.map_set]
theorem RaW.flag (h : RaW S W p cap rs) {i g : Nat} {r q : RBk} {k : Nat} {v : Value} {n c : Nat} (hr : rs[i]? = some r) (hp : W.heap[p]? = some (.cells #[.int .i64 (cap : Nat), .slice (some ⟨g, 0, none⟩) n c] 57 (0, 0)))
    (hf : (rs.flatMap cellsR).set k v = (rs.set i q).flatMap cellsR) (hq : q.g = r.g ∧ q.b.a = r.b.a ∧ q.b.ws = r.b.ws) : RaW S (W.setCell ⟨g, k, none⟩ v) p cap (rs.set i q) ∧ S g := by
  obtain ⟨v0, h1, h2, h3⟩ := h.hd
  have e0 : v0 = .slice (some ⟨g, 0, none⟩) n c := by rw [h1] at hp; simpa using hp
  subst e0
  have hn : n = rs.length := by
    obtain ⟨ao, c', e, _⟩ := ownsRow_form h2
    simp only [Value.slice.injEq] at e; exact e.2.1
  subst hn
  have hSg := h3 g rfl
  obtain ⟨o1, g1⟩ := h2.stored k v
  have u : Upd (fun b => b = g) W (W.setCell ⟨g, k, none⟩ v) := (Upd.refl (fun b => b = g) W).setCell (p := ⟨g, k, none⟩) (.inl rfl) _
  have hrow : ∃ cur, W.heap[g]? = some (.cells cur 59 (0, 0)) := by
    obtain ⟨_, ⟨h, _⟩ | ⟨q, cap', cur, e, _, hh, _⟩⟩ := h2
    · cases h
    · simp only [Value.slice.injEq, Option.some.injEq, Addr.mk.injEq, and_true] at e
      rw [← e.1] at hh; exact ⟨cur, hh⟩
  obtain ⟨cur, hg⟩ := hrow
  have hpg : p ≠ g := fun e => by rw [e, hg] at h1; simp at h1
  have hri := List.mem_of_getElem? hr
  have hmem : ∀ x ∈ rs.set i q, x = q ∨ x ∈ rs := fun x hx => (List.mem_or_eq_of_mem_set hx).symm
  have hwd : ∀ x ∈ rs, (W.setCell ⟨g, k, none⟩ v).heap[x.g]? = some (.cells (u64s x.b.ws).toArray 28 (0, 0)) ∧ S x.g := fun x hx => ⟨u.heap_some (h.wd x hx).1 (fun e => by have := (h.wd x hx).1; rw [e, hg] at this; simp at this), (h.wd x hx).2⟩
  have hb : (blks rs)[i]? = some r.b := by unfold blks; rw [List.getElem?_map, hr]; rfl
  refine ⟨⟨⟨_, u.heap_some h1 hpg, ?_, h3⟩, fun x hx => ?_, ?_, h.sp, ?_, h.small, fun x hx y hy => ?_⟩, hSg⟩
  · rw [List.length_set, ← hf]; exact o1
  · rcases hmem x hx with rfl | hx
    · rw [hq.1, hq.2.2]; exact hwd r hri
    · exact hwd x hx
  · rw [List.map_set, hq.1]
    have e : (rs.map RBk.g).set i r.g = rs.map RBk.g := by
      refine List.ext_getElem? fun j => ?_
      rw [List.getElem?_set]
      split
      · rename_i e; subst e
        rw [List.getElem?_map, hr]; simp [(List.getElem?_eq_some_iff.1 hr).1]
      · rfl
    rw [e]; exact h.nd
  · rw [blks_set]
    exact span_same h.span hb hq.2.1 (by unfold Blk.n; rw [hq.2.2])
  · rcases hmem x hx with rfl | hx
    · rw [hq.2.2] at hy; exact h.u64 r hri y hy
    · exact h.u64 x hx y hy
/-- Joined blocks take the same room. -/
theorem putJ_span {out l : List Blk} {b : Blk} {s t : Nat} (h : Span s (out ++ b :: l) t) : Span s (putJ out b ++ l) t := by
  rcases List.eq_nil_or_concat out with rfl | ⟨o, x, rfl⟩
  · exact h
  · rw [List.concat_eq_append] at h ⊢
    rw [putJ_snoc]
    split
    · rw [List.append_assoc, Span.append] at h ⊢
      obtain ⟨s2, h1, h2, h3, h4, h5, h6⟩ := h
      refine ⟨s2, h1, h2, by simp [Blk.n, zeros_len]; omega, ?_⟩
      simp only [Blk.n, zeros_len] at h6 ⊢
      have : s2 + x.ws.length + 1 + b.ws.length + 1 = s2 + (x.ws.length + 1 + b.ws.length) + 1 := by omega
      rw [← this]; exact h6
    · simpa using h
theorem joinL_span {l : List Blk} {s t : Nat} (h : Span s l t) : Span s (joinL l) t := by
  have go : ∀ (l out : List Blk), Span s (out ++ l) t → Span s (l.foldl putJ out) t := by
    intro l
    induction l with
    | nil => intro out h; simpa using h
    | cons b l ih => intro out h; exact ih _ (putJ_span h)
  exact go l [] h
end Go.Proofs.YtelohkppbmahnaaDoor

/- geoderef20: Used, Room, Mark. -/
namespace Go.Proofs.YtelohkppbmahnaaDoor
open Go.RowKit

variable {S : Nat → Prop} {W W' : World} {p cap : Nat} {rs : List RBk}
theorem usedSum_take (l : List Blk) (i : Nat) : usedSum (l.take i) ≤ usedSum l := by
  have := usedSum_append (l.take i) (l.drop i)
  rw [List.take_append_drop] at this; omega
theorem take_step {l : List Blk} {i : Nat} {b : Blk} (h : l[i]? = some b) : l.take (i + 1) = l.take i ++ [b] := by
  rw [List.take_add_one, h]; rfl
theorem roomOf_snoc : ∀ (l : List Blk) (b : Blk), roomOf (l ++ [b]) = if b.u then roomOf l else max b.n (roomOf l)
  | [], b => by
    show (if b.u then roomOf [] else max b.n (roomOf [])) = _
    rfl
  | c :: l, b => by
    have ih := roomOf_snoc l b
    show (if c.u then roomOf (l ++ [b]) else max c.n (roomOf (l ++ [b]))) = if b.u then (if c.u then roomOf l else max c.n (roomOf l)) else max b.n (if c.u then roomOf l else max c.n (roomOf l))
    rw [ih]
    cases c.u <;> cases b.u <;> simp <;> omega
set_option maxRecDepth 100000 in
theorem rUsed_at (h : RaAt S W p cap rs) :
    Calls Tryd.prog 39 #[.pointer (some ⟨p, 0, none⟩)] W fun e w' => e = .returned (.int .i64 (usedSum (blks rs) : Nat)) ∧ Below W.heap.size W w' := by
  obtain ⟨ao, c, R⟩ := h.rowC
  have c1 := R.c1
  have hlen := h.len
  have HU := Lib.hid (show usedSum (blks rs) ≤ 1048576 by
    have h1 := h.wf.span.used_le; have h2 := h.wf.small
    have h3 : endOf cap ≤ cap + 1 := by unfold endOf; split <;> omega
    omega)
  have HBD := Lib.hid (fun r hr => h.bound (r := r) hr)
  obtain ⟨n, hn⟩ : ∃ n, rs.length = n := ⟨_, rfl⟩
  rw [hn] at c1 hlen
  have HR := Lib.hid R; have HN := Lib.hid hn; have HL := Lib.hid hlen
  clear h R hn hlen
  go_enter Tryd.func39, Tryd.ntmps39
  go_wp2
  go_loopw [3, 4] (fun t3 t4 wr => ∃ i : Nat, t3 = .int .i64 (usedSum ((blks rs).take i) : Nat) ∧ t4 = .int .i64 i ∧ i ≤ n ∧ Below W.heap.size W wr) (fun _ t4 _ => n - (intOf t4).toNat)
  case atStart => exact ⟨0, rfl, rfl, Nat.zero_le _, Below.refl _ _⟩
  case round =>
    obtain ⟨i, rfl, rfl, hi, hb⟩ := hrel
    have c1' := below_cell hb c1
    obtain ⟨m, hm⟩ : ∃ m, usedSum ((blks rs).take i) = m := ⟨_, rfl⟩
    rw [hm]
    have HM := Lib.hid hm; have HB := Lib.hid hb
    have hm6 := usedSum_take (blks rs) i
    rw [hm] at hm6
    have HM6 := Lib.hid (show (m : Int) < 1048577 by have := HU.out; omega)
    clear hm hm6 c1
    by_cases hlt : i < n
    · obtain ⟨r, hr⟩ : ∃ r, rs[i]? = some r := ⟨rs[i]'(by rw [HN.out]; exact hlt), by simp [HN.out, hlt]⟩
      obtain ⟨g, rfl, k0, k1, k2, k3⟩ := HR.out.at' i r hr
      have k1 := below_cell hb k1; have k2 := below_cell hb k2
      have hbk : (blks rs)[i]? = some r.b := by unfold blks; rw [List.getElem?_map, hr]; rfl
      have hstep := take_step hbk
      obtain ⟨u, hu⟩ : ∃ u, r.b.u = u := ⟨_, rfl⟩
      obtain ⟨sz, hsz⟩ : ∃ sz, r.b.n = sz := ⟨_, rfl⟩
      rw [hu] at k2
      rw [hsz] at k1
      have hlt' : (i : Int) < n := by omega
      have hi0 : (0 : Int) ≤ i := by omega
      have HI6 := Lib.hid (show (i : Int) < 1048577 by have := HL.out; omega)
      have HSZ6 := Lib.hid (show (sz : Int) < 1048577 by have := HBD.out r (List.mem_of_getElem? hr); omega)
      have HLT := Lib.hid hlt
      have HNX := Lib.hid (show usedSum ((blks rs).take (i + 1)) = m + (if u then sz + 1 else 0) by rw [hstep, usedSum_append, HM.out, usedSum_cons, hu, hsz]; rfl)
      clear hstep hu hsz hlt hi hr hbk hb k0 k3
      cases u
      · have HI6' := HI6.out
        go_wp2
        go_roundw
        case rel => exact ⟨i + 1, by rw [HNX.out]; rfl, by go_num, HLT.out, HB.out⟩
        case measure => have := HLT.out; simp [intOf]; omega
      · have HI6' := HI6.out; have HM6' := HM6.out; have HSZ6' := HSZ6.out
        go_wp2
        go_roundw
        case rel => exact ⟨i + 1, by rw [HNX.out, if_pos rfl]; go_num, by go_num, HLT.out, HB.out⟩
        case measure => have := HLT.out; simp [intOf]; omega
    · obtain rfl : i = n := by omega
      have hlt' : ¬ (i : Int) < i := by omega
      have hm : m = usedSum (blks rs) := by rw [← HM.out, List.take_of_length_le (by unfold blks; rw [List.length_map, HN.out]; exact Nat.le_refl _)]
      have HME := Lib.hid hm
      clear hm hlt hi
      go_wp2
      go_ret
      exact ⟨by rw [← HME.out]; rfl, HB.out⟩
set_option maxRecDepth 100000 in
theorem rRoom_at (h : RaAt S W p cap rs) :
    Calls Tryd.prog 41 #[.pointer (some ⟨p, 0, none⟩)] W fun e w' => e = .returned (.int .i64 (roomOf (blks rs) : Nat)) ∧ Below W.heap.size W w' := by
  obtain ⟨ao, c, R⟩ := h.rowC
  have c1 := R.c1
  have hlen := h.len
  have HBD := Lib.hid (fun r hr => h.bound (r := r) hr)
  obtain ⟨n, hn⟩ : ∃ n, rs.length = n := ⟨_, rfl⟩
  rw [hn] at c1 hlen
  have HR := Lib.hid R; have HN := Lib.hid hn; have HL := Lib.hid hlen
  clear h R hn hlen
  go_enter Tryd.func41, Tryd.ntmps41
  go_wp2
  go_loopw [3, 4] (fun t3 t4 wr => ∃ i : Nat, t3 = .int .i64 (roomOf ((blks rs).take i) : Nat) ∧ t4 = .int .i64 i ∧ i ≤ n ∧ Below W.heap.size W wr) (fun _ t4 _ => n - (intOf t4).toNat)
  case atStart => exact ⟨0, rfl, rfl, Nat.zero_le _, Below.refl _ _⟩
  case round =>
    obtain ⟨i, rfl, rfl, hi, hb⟩ := hrel
    have c1' := below_cell hb c1
    obtain ⟨m, hm⟩ : ∃ m, roomOf ((blks rs).take i) = m := ⟨_, rfl⟩
    rw [hm]
    have HM := Lib.hid hm; have HB := Lib.hid hb
    clear hm c1
    by_cases hlt : i < n
    · obtain ⟨r, hr⟩ : ∃ r, rs[i]? = some r := ⟨rs[i]'(by rw [HN.out]; exact hlt), by simp [HN.out, hlt]⟩
      obtain ⟨g, rfl, k0, k1, k2, k3⟩ := HR.out.at' i r hr
      have k1 := below_cell hb k1; have k2 := below_cell hb k2
      have hbk : (blks rs)[i]? = some r.b := by unfold blks; rw [List.getElem?_map, hr]; rfl
      have hstep := take_step hbk
      obtain ⟨u, hu⟩ : ∃ u, r.b.u = u := ⟨_, rfl⟩
      obtain ⟨sz, hsz⟩ : ∃ sz, r.b.n = sz := ⟨_, rfl⟩
      rw [hu] at k2
      rw [hsz] at k1
      have hlt' : (i : Int) < n := by omega
      have hi0 : (0 : Int) ≤ i := by omega
      have HI6 := Lib.hid (show (i : Int) < 1048577 by have := HL.out; omega)
      have HLT := Lib.hid hlt
      have HNX := Lib.hid (show roomOf ((blks rs).take (i + 1)) = (if u then m else max sz m) by rw [hstep, roomOf_snoc, HM.out, hu, hsz])
      clear hstep hu hsz hlt hi hr hbk hb k0 k3
      cases u
      · by_cases hmz : m < sz
        · have hmz1 : (m : Int) < sz := by omega
          have hmz2 : decide ((m : Int) < sz) = true := decide_eq_true hmz1
          have hmz3 : decide (m < sz) = true := decide_eq_true hmz
          have HMZ := Lib.hid hmz
          have HI6' := HI6.out
          clear hmz
          go_wp2
          refine ⟨⟨i + 1, by rw [HNX.out, if_neg (by simp), Nat.max_eq_left (Nat.le_of_lt HMZ.out)], by go_num, HLT.out, HB.out⟩, ?_⟩
          have := HLT.out; simp [intOf]; omega
        · have hmz1 : ¬ (m : Int) < sz := by omega
          have hmz2 : decide ((m : Int) < sz) = false := decide_eq_false hmz1
          have hmz3 : decide (m < sz) = false := decide_eq_false hmz
          have HMZ := Lib.hid hmz
          have HI6' := HI6.out
          go_wp2
          refine ⟨⟨i + 1, by rw [HNX.out, if_neg (by simp), Nat.max_eq_right (by have := HMZ.out; omega)], by go_num, HLT.out, HB.out⟩, ?_⟩
          have := HLT.out; simp [intOf]; omega
      · have HI6' := HI6.out
        go_wp2
        refine ⟨⟨i + 1, by rw [HNX.out, if_pos rfl], by go_num, HLT.out, HB.out⟩, ?_⟩
        have := HLT.out; simp [intOf]; omega
    · obtain rfl : i = n := by omega
      have hlt' : ¬ (i : Int) < i := by omega
      have hm : m = roomOf (blks rs) := by rw [← HM.out, List.take_of_length_le (by unfold blks; rw [List.length_map, HN.out]; exact Nat.le_refl _)]
      have HME := Lib.hid hm
      clear hm hlt hi
      go_wp2
      go_ret
      exact ⟨by rw [← HME.out]; rfl, HB.out⟩
end Go.Proofs.YtelohkppbmahnaaDoor
