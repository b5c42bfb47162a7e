/- A machine of package stack: Open. -/
import Derived.Test.YtjjhdbjbjgkijaaStL
import Derived.Test.YtjjhdbjbjgkijaaMid
import Derived.Deep.AppendLies
namespace Go.Proofs.Ytjjhdbjbjgkijaa
open Go.RowKit Go.Maps Go.WideMaps

theorem Try.infoFrame : (Try.prog.info? 78).map (fun i => (i.zero, i.size, i.bytes)) = some (some (.agg #[.int .i64 0, .slice none 0 0, .slice none 0 0, .int .i64 0, .bool false, .slice none 0 0]), 6, 96) := by kernel_rfl
theorem below_cell {w w' : World} (h : Below w.heap.size w w') {p : Addr} {v : Value} (hc : w.cell? p = some v) : w'.cell? p = some v := by
  rw [h.cell (World.block_lt_of_cell? _ _ hc)]; exact hc
theorem frozen_of_block {w w' : World} {p : Addr} (h : w'.heap[p.block]? = w.heap[p.block]?) : w'.frozen? p = w.frozen? p := World.frozen?_of_block (w := w) h
theorem below_frozen {w w' : World} (h : Below w.heap.size w w') {p : Addr} {v : Value} (hc : w.cell? p = some v) (hf : w.frozen? p = false) : w'.frozen? p = false := by
  rw [h.frozen (World.block_lt_of_cell? _ _ hc)]; exact hf
theorem alloc_frozen {w : World} {p : Addr} {v : Value} (hc : w.cell? p = some v) (hf : w.frozen? p = false) (o : Obj) : (w.alloc o).frozen? p = false :=
  below_frozen ((Below.refl _ _).alloc (Nat.le_refl _) o) hc hf
theorem grown_frozen {w w' : World} {row : Option Nat} (h : w.grownBy w' row) {p : Addr} {v : Value} (hc : w.cell? p = some v) (hf : w.frozen? p = false) (hne : some p.block ≠ row) : w'.frozen? p = false := by
  rw [frozen_of_block (h.block p.block (World.block_lt_of_cell? _ _ hc) hne)]; exact hf
theorem below_drew (w : World) : Below w.heap.size w w.drew := (Below.refl _ _).drew
theorem own_ext {w w' : World} {base : Nat} {e : TypeId} {size : Nat} {v : Value} {n : Nat} {xs : List Value} (h : w.ownsRow base e size v n xs) (hb : Below w.heap.size w w') : w'.ownsRow base e size v n xs :=
  ownsRow_upd h (Upd.of_below (S := fun _ => False) hb) (fun _ _ h => h)
theorem clone_at (a : Value) (l : List Vl) (w0 w : World) (hb : Below w0.heap.size w0 w) (ha : ValsAt w0 a l) (hl : l.length ≤ 1000000) :
    Calls Try.prog 29 #[a] w fun e w' => ∃ ao cap, e = .returned (.slice ao l.length cap) ∧ w'.ownsRow w0.heap.size 41 4 (.slice ao l.length cap) l.length (flatV l) ∧ Below w.heap.size w w' ∧ Below w0.heap.size w0 w' :=
  (clone_any a l w (ha.below hb) hl).mono fun e w' ⟨v, he, h1, h2⟩ => by
    obtain ⟨ao, cap, rfl, _⟩ := ownsRow_form h1
    exact ⟨ao, cap, he, ownsRow_low h1 hb.size, h2, hb.trans (h2.mono hb.size)⟩
/-- The machine behind an append to its frames. -/
theorem MachAt.opened {S : Nat → Prop} {w1 w4 : World} {M T : Nat} {vs : List Vl} {frs : List Frm} {gs : List Int} {vv fv : Value} {G : Nat} (k0 : ∀ k, S k → k < w1.heap.size) (k1 : S M) (k2 : ¬ S T) (kT : T < w1.heap.size) (k3 : S G)
    (k4 : w1.heap[M]? = some (.cells #[.pointer (some ⟨T, 0, none⟩), vv, fv, .map (some G)] 57 (0, 0))) (k5 : w1.ownsRow 0 41 4 vv vs.length (flatV vs)) (k6 : ∀ b, vv.ownBlock = some b → S b) (k8 : GivenAt w1 G gs)
    {cs : List (List Value)} (o1 : w1.ownsRow 0 78 6 fv frs.length cs.flatten) (o2 : ∀ b, fv.ownBlock = some b → S b) (o3 : cs.length = frs.length) (o4 : ∀ (i : Nat) (f : Frm), frs[i]? = some f → ∃ c, cs[i]? = some c ∧ FrmAt S w1 vv f c)
    (hu : Upd (fun k => fv.ownBlock = some k) w1 w4) {cp cr fv' : Value} {f : Frm} (hg : f.g = false) (hp : w4.ownsRow w1.heap.size 41 4 cp f.ps.length (flatV f.ps)) (hr : w4.ownsRow w1.heap.size 41 4 cr f.rs.length (flatV f.rs))
    (hown : w4.ownsRow 0 78 6 fv' (frs.length + 1) (cs.flatten ++ [.int .i64 f.op, cp, cr, .int .i64 f.ht, .bool f.dead, .slice none 0 0])) (hat : fv'.ownBlock = fv.ownBlock ∨ ∀ b, fv'.ownBlock = some b → w1.heap.size ≤ b) :
    w4.heap[M]? = some (.cells #[.pointer (some ⟨T, 0, none⟩), vv, fv, .map (some G)] 57 (0, 0)) ∧ ∃ S', MachAt S' (w4.setCell ⟨M, 2, none⟩ fv') M T vs (frs ++ [f]) gs ∧ Fresh S w1 S' ∧ Upd S w1 (w4.setCell ⟨M, 2, none⟩ fv') ∧ ∀ b, S' b → b < w4.heap.size := by
  have tyne : ∀ (b : Nat) (t : TypeId) (cur : Array Value), w1.heap[b]? = some (.cells cur t (0, 0)) → t ≠ 78 → ¬ fv.ownBlock = some b := fun b t cur hb ht hc => by
    obtain ⟨cur', h'⟩ := ownsRow_block o1 hc
    rw [hb] at h'; simp at h'; exact ht h'.2
  have m4 := hu.heap_some k4 (tyne M _ _ k4 (by decide))
  refine ⟨m4, fun k => S k ∨ cp.ownBlock = some k ∨ cr.ownBlock = some k ∨ fv'.ownBlock = some k, ?_, ?_, ?_, ?_⟩
  · have us : Upd (fun k => k = M) w4 (w4.setCell ⟨M, 2, none⟩ fv') := (Upd.refl (fun k => k = M) w4).setCell (p := ⟨M, 2, none⟩) (.inl rfl) fv'
    have tm : ∀ (b : Nat) (t : TypeId) (cur : Array Value), w4.heap[b]? = some (.cells cur t (0, 0)) → t ≠ 57 → ¬ b = M := fun b t cur hb ht e => by
      subst e; rw [m4] at hb; simp at hb; exact ht hb.2.symm
    have vrow : ∀ v l, w4.ownsRow w1.heap.size 41 4 v l.length (flatV l) → (∀ b, v.ownBlock = some b → (S b ∨ cp.ownBlock = some b ∨ cr.ownBlock = some b ∨ fv'.ownBlock = some b)) → BlkVals (fun k => S k ∨ cp.ownBlock = some k ∨ cr.ownBlock = some k ∨ fv'.ownBlock = some k) (w4.setCell ⟨M, 2, none⟩ fv') vv v l := fun v l h hs => by
      refine ⟨ownsRow_upd (ownsRow_low h (Nat.zero_le _)) us (fun b hb => ?_), fun b hb => ⟨hs b hb, fun e => ?_⟩⟩
      · obtain ⟨cur, hc⟩ := ownsRow_block h hb; exact tm b _ cur hc (by decide)
      · have h1 := (h.lt b hb).1
        have h2 := k0 b (k6 b e)
        omega
    have hv4 : w4.ownsRow 0 41 4 vv vs.length (flatV vs) := ownsRow_upd k5 hu (fun b hb => by obtain ⟨cur, hc⟩ := ownsRow_block k5 hb; exact tyne b _ cur hc (by decide))
    have hg4 : GivenAt w4 G gs := k8.upd hu (by
      obtain ⟨es, ck, hG⟩ := k8.block
      intro e
      obtain ⟨cur', h'⟩ := ownsRow_block o1 e
      rw [hG] at h'; simp at h')
    refine ⟨vv, fv', G, ?_, .inl k1, ?_, .inl k3, heap_set_at m4 2 _, ownsRow_upd hv4 us (fun b hb => by obtain ⟨cur, hc⟩ := ownsRow_block hv4 hb; exact tm b _ cur hc (by decide)), fun b hb => .inl (k6 b hb), ?_, hg4.upd us ?_⟩
    · rintro k (h | h | h | h)
      · exact Nat.lt_of_lt_of_le (k0 k h) (Nat.le_trans hu.size us.size)
      · exact Nat.lt_of_lt_of_le (hp.lt k h).2 us.size
      · exact Nat.lt_of_lt_of_le (hr.lt k h).2 us.size
      · exact Nat.lt_of_lt_of_le (hown.lt k h).2 us.size
    · rintro (h | h | h | h)
      · exact k2 h
      · have := (hp.lt T h).1; omega
      · have := (hr.lt T h).1; omega
      · rcases hat with e | e
        · exact k2 (o2 T (e ▸ h))
        · have := e T h; omega
    · refine ⟨cs ++ [[.int .i64 f.op, cp, cr, .int .i64 f.ht, .bool f.dead, .slice none 0 0]], ?_, fun b hb => .inr (.inr (.inr hb)), by simp [o3], ?_⟩
      · rw [List.length_append, List.flatten_append]
        simp only [List.flatten_cons, List.flatten_nil, List.append_nil, List.length_singleton]
        exact ownsRow_upd hown us (fun b hb => by obtain ⟨cur, hc⟩ := ownsRow_block hown hb; exact tm b _ cur hc (by decide))
      · intro i g hi
        by_cases hlt : i < frs.length
        · rw [List.getElem?_append_left hlt] at hi
          obtain ⟨c, hc, pv, rv, gv, rfl, r1, r2, r3⟩ := o4 i g hi
          have go : ∀ v l, BlkVals S w1 vv v l → BlkVals (fun k => S k ∨ cp.ownBlock = some k ∨ cr.ownBlock = some k ∨ fv'.ownBlock = some k) (w4.setCell ⟨M, 2, none⟩ fv') vv v l := fun v l k => by
            have a4 : w4.ownsRow 0 41 4 v l.length (flatV l) := ownsRow_upd k.1 hu (fun b hb => by obtain ⟨cur, hc⟩ := ownsRow_block k.1 hb; exact tyne b _ cur hc (by decide))
            exact ⟨ownsRow_upd a4 us (fun b hb => by obtain ⟨cur, hc⟩ := ownsRow_block a4 hb; exact tm b _ cur hc (by decide)), fun b hb => ⟨.inl (k.2 b hb).1, (k.2 b hb).2⟩⟩
          exact ⟨_, by rw [List.getElem?_append_left (by omega)]; exact hc, pv, rv, gv, rfl, go _ _ r1, go _ _ r2, r3⟩
        · have hii : i = frs.length := by
            have := (List.getElem?_eq_some_iff.1 hi).1
            simp at this; omega
          subst hii
          simp at hi
          subst hi
          refine ⟨_, by rw [← o3]; simp, cp, cr, .slice none 0 0, rfl, vrow _ _ hp (fun b hb => .inr (.inl hb)), vrow _ _ hr (fun b hb => .inr (.inr (.inl hb))), ⟨fun _ => rfl, _, _, _, rfl⟩⟩
    · obtain ⟨es, ck, hG⟩ := hg4.block
      intro e; subst e; rw [m4] at hG; simp at hG
  · rintro k (h | h | h | h)
    · exact .inl h
    · exact .inr (hp.lt k h).1
    · exact .inr (hr.lt k h).1
    · rcases hat with e | e
      · exact .inl (o2 k (e ▸ h))
      · exact .inr (e k h)
  · exact (hu.mono (fun k _ h => o2 k h)).setCell (.inl k1) _
  · rintro k (h | h | h | h)
    · exact Nat.lt_of_lt_of_le (k0 k h) hu.size
    · exact (hp.lt k h).2
    · exact (hr.lt k h).2
    · exact (hown.lt k h).2
set_option maxRecDepth 100000 in
set_option maxHeartbeats 3000000 in
theorem open_at (S : Nat → Prop) (w : World) (M T : Nat) (vals : List Vl) (frs : List Frm) (gs : List Int) (h : MachAt S w M T vals frs gs) (ht : TabAt w T) (op : Int) (p r : Value) (ps rs : List Vl) (hp : ValsAt w p ps) (hr : ValsAt w r rs) (hpS : 0 < ps.length → ∀ b, p.ownBlock = some b → ¬ S b) (hrS : 0 < rs.length → ∀ b, r.ownBlock = some b → ¬ S b)
    (b0 : ps.length ≤ 1000000) (b00 : rs.length ≤ 1000000) (b1 : vals.length ≤ 1000000) (b2 : frs.length ≤ 1000000) (b3 : ∀ f ∈ frs, f.ht ≤ 1000000) (er : Int) (vs : List Vl) (htk : takeR (topF frs).1 (topF frs).2 ps.reverse vals = (er, vs)) (her : er = 0) :
    Calls Try.prog 11 #[.pointer (some ⟨M, 0, none⟩), .int .i64 op, p, r] w (MPost S w M T (.int .i64 0) (vs ++ ps) (frs ++ [⟨op, ps, rs, vs.length, false, false⟩]) gs) := by
  have hS := h
  obtain ⟨vv, fv, G, k0, k1, k2, k3, k4, k5, k6, k7, k8⟩ := hS
  have hpM : 0 < ps.length → p.ownBlock ≠ some M := fun h0 e => hpS h0 M e k1
  have HM := Lib.hid h; have HT := Lib.hid ht; have HP := Lib.hid hp; have HR := Lib.hid hr; have HPS := Lib.hid hpS; have HRS := Lib.hid hrS; have B3 := Lib.hid b3; have HTK := Lib.hid htk
  obtain ⟨pao, pca, rfl⟩ := hp.form
  obtain ⟨rao, rca, rfl⟩ := hr.form
  have hvl : vs.length ≤ 1000000 := by have := takeR_len (topF frs).1 (topF frs).2 ps.reverse vals; rw [htk] at this; exact Nat.le_trans this b1
  clear h ht hp hr hpS hrS b3 htk k0 k4 k5 k6 k7 k8
  subst her
  go_enter Try.func11, Try.ntmps11
  go_wp2_with fail
  refine (absent_at S _ M T _ _ gs HM.out).mono ?_
  rintro e w' ⟨rfl, rfl⟩
  go_wp2_with fail
  refine (take_at S _ M T vals frs gs HM.out HT.out _ ps HP.out hpM b0 b1 b2 B3.out).mono ?_
  rw [HTK.out]
  rintro e w1 ⟨rfl, hm1, hu1⟩
  have HM1 := Lib.hid hm1; have HU1 := Lib.hid hu1
  have HP1 := Lib.hid (valsAt_upd HP.out hu1 (fun h0 b hb e => hpM h0 (by rw [hb, e])))
  have hrM : 0 < rs.length → ∀ b, (Value.slice rao rs.length rca).ownBlock = some b → ¬ b = M := fun h0 b hb e => HRS.out h0 b hb (e ▸ k1)
  have HR1 := Lib.hid (valsAt_upd HR.out hu1 hrM)
  obtain ⟨vv1, fv1, G1, j0, j1, j2, j3, j4, j5, j6, j7, j8⟩ := hm1
  obtain ⟨vao, vcap, rfl, _⟩ := ownsRow_form j5
  obtain ⟨fao, fcap, rfl, fc1, fc2⟩ := j7.form
  have hMf : some M ≠ (Value.slice fao frs.length fcap).ownBlock := by
    obtain ⟨cs, o1, _⟩ := j7
    intro e
    obtain ⟨cur, hc⟩ := ownsRow_block o1 e.symm
    exact ne_of_types j4 hc (by decide) rfl
  have q1 := heap_cell j4 1
  have q2 := heap_cell j4 2
  obtain ⟨cs, o1, o2, o3, o4⟩ := id j7
  have HOWN := Lib.hid o1; have O2 := Lib.hid o2; have O3 := Lib.hid o3; have O4 := Lib.hid o4
  have qz := heap_frozen j4 2
  have J7 := Lib.hid j7; have J0 := Lib.hid j0; have J4 := Lib.hid j4; have J6 := Lib.hid j6; have J5 := Lib.hid j5; have J8 := Lib.hid j8
  simp at q1 q2
  obtain ⟨i0, hi, hz0, hz1, hz2⟩ := info_parts Try.infoFrame
  have Hi := Lib.hid hi; have Hz0 := Lib.hid hz0; have Hz1 := Lib.hid hz1; have Hz2 := Lib.hid hz2
  clear o1 o2 o3 o4 hu1 hrM j0 j4 j5 j6 j7 j8 hi hz0 hz1 hz2
  go_wp2
  have mF : ¬ (Value.slice fao frs.length fcap).ownBlock = some M := fun e => hMf e.symm
  have d1 := ExtU.cells (R := fun k => (Value.slice fao frs.length fcap).ownBlock = some k) q1 mF
  have d2 := ExtU.cells (R := fun k => (Value.slice fao frs.length fcap).ownBlock = some k) q2 mF
  refine wp_region_midX (fun x : ExtU (fun k => (Value.slice fao frs.length fcap).ownBlock = some k) w1 => x.val) 18 [0, 1, 2, 3, 4, 5, 6, 8, 10, 11, 12, 13, 14] [7, 9, 15, 16, 17] (by kernel_rfl) (by kernel_rfl) (by kernel_rfl) (by kernel_rfl) (by rintro c a (_ | d) v w h <;> exact h) ⟨⟨_, (Upd.refl _ _).drew⟩, rfl⟩ ?_
  simp only [pickO, List.getD_cons_succ, List.getD_cons_zero, List.drop_succ_cons, List.drop_zero]
  repeat (go_big_quiet_step (fail))
  refine wpQuiet_nil ?_
  unfold wpMids
  go_wp2_with fail
  refine (clone_at (.slice pao ps.length pca) ps w1 _ (below_drew _) HP1.out b0).mono ?_
  rintro e w2 ⟨cpo, cpc, rfl, rp, r2, r3⟩
  have RP := Lib.hid rp; have R3 := Lib.hid r3
  clear rp r2 r3
  go_wp2
  refine ⟨⟨⟨_, Upd.of_below R3.out⟩, rfl⟩, ?_⟩
  unfold wpMids
  go_wp2_with fail
  refine (clone_at (.slice rao rs.length rca) rs w1 _ R3.out HR1.out b00).mono ?_
  rintro e w3 ⟨cro, crc, rfl, rr, r4, r5⟩
  have RR := Lib.hid rr; have R4 := Lib.hid r4; have R5 := Lib.hid r5
  clear rr r4 r5
  go_wp2
  refine ⟨⟨⟨_, Upd.of_below R5.out⟩, rfl⟩, ?_⟩
  unfold wpMids
  go_wp2
  refine ⟨⟨⟨_, Upd.of_below R5.out⟩, rfl⟩, ?_⟩
  unfold wpMids
  go_wp2
  have hb6 : Below w1.heap.size w1 (w3.alloc (.cells #[.int .i64 op, .slice cpo ps.length cpc, .slice cro rs.length crc, .int .i64 vs.length, .bool false, .slice none 0 0] 78)) := R5.out.alloc R5.out.size _
  have HB6 := Lib.hid hb6
  clear hb6
  refine ⟨⟨⟨_, Upd.of_below HB6.out⟩, rfl⟩, ?_⟩
  unfold wpMids
  go_wp2_with (at_builtin; refine wpList_append_own_at _ rfl _ _ 54 rfl 0 78 i0 _ 6 96 Try.underlying54 Hi.out Hz0.out Hz1.out Hz2.out rfl (by decide) (.slice fao frs.length fcap) frs.length cs.flatten rfl (own_ext HOWN.out HB6.out) ⟨w3.heap.size, 0, none⟩ 1 1 [.int .i64 op, .slice cpo ps.length cpc, .slice cro rs.length crc, .int .i64 vs.length, .bool false, .slice none 0 0] rfl rfl (World.news_of_block (cs := #[.int .i64 op, .slice cpo ps.length cpc, .slice cro rs.length crc, .int .i64 vs.length, .bool false, .slice none 0 0]) (t := 78) (fr := (0, 0)) (heap_alloc_new w3 _)) (by simp [Value.oneCell']) ?c3 ?c4 ?c5 ?_)
  case c3 => unfold maxLen; omega
  case c4 => omega
  case c5 => simp
  intro fv2 w4 hown4 hgrow _ hat
  obtain ⟨gao, gcap, rfl, gc1, gc2, _⟩ := ownsRow_form hown4
  have hu4 : Upd (fun k => (Value.slice fao frs.length fcap).ownBlock = some k) w1 w4 := (Upd.of_below HB6.out).grown hgrow (fun k e => .inl e)
  have hfw : ∀ b, (Value.slice fao frs.length fcap).ownBlock = some b → b < w1.heap.size := fun b hb => J0.out b (O2.out b hb)
  have hnp : ∀ (v : Value) (W : World) (n : Nat) (xs : List Value), W.ownsRow w1.heap.size 41 4 v n xs → v.ownBlock = none ∨ v.ownBlock ≠ (Value.slice fao frs.length fcap).ownBlock := fun v W n xs h => by
    cases hv : v.ownBlock with
    | none => exact .inl rfl
    | some b => exact .inr fun e => by have h1 := (h.lt b hv).1; have h2 := hfw b e.symm; omega
  have hp4 := ((own_ext RP.out R4.out).alloc (.cells #[.int .i64 op, .slice cpo ps.length cpc, .slice cro rs.length crc, .int .i64 vs.length, .bool false, .slice none 0 0] 78)).kept hgrow (hnp _ _ _ _ RP.out)
  have hr4 := (RR.out.alloc (.cells #[.int .i64 op, .slice cpo ps.length cpc, .slice cro rs.length crc, .int .i64 vs.length, .bool false, .slice none 0 0] 78)).kept hgrow (hnp _ _ _ _ RR.out)
  have hT1 : T < w1.heap.size := Nat.lt_of_lt_of_le HT.out.lt HU1.out.size
  have hb3 := R5.out.size
  obtain ⟨m4, S', a1, a2, a3, a4⟩ := MachAt.opened (f := ⟨op, ps, rs, vs.length, false, false⟩) J0.out j1 j2 hT1 j3 J4.out J5.out J6.out J8.out HOWN.out O2.out O3.out O4.out hu4 rfl hp4 hr4 hown4 (by
    rcases hat with e | e
    · exact .inl e
    · exact .inr fun b hb => by rw [e] at hb; simp at hb; omega)
  have A1 := Lib.hid a1; have A2 := Lib.hid a2; have A3 := Lib.hid a3; have HU4 := Lib.hid hu4
  have u15 : Upd S w (w4.setCell ⟨M, 2, none⟩ (.slice gao (frs.length + 1) gcap)) := (HU1.out.mono (fun k _ h => by subst h; exact k1)).trans' a3
  have U15 := Lib.hid u15
  have HP5 := Lib.hid (valsAt_upd HP.out u15 HPS.out)
  have q2y := heap_cell m4 2
  have qzy := heap_frozen m4 2
  simp at q2y
  have hT5 : T < (w4.setCell ⟨M, 2, none⟩ (.slice gao (frs.length + 1) gcap)).heap.size := Nat.lt_of_lt_of_le HT.out.lt u15.size
  have HT5 := Lib.hid hT5
  clear a1 a2 a3 a4 hat hgrow hown4 hp4 hr4 hnp hfw hu4 u15 hT5 m4 hb3
  refine ⟨⟨⟨_, HU4.out⟩, rfl⟩, ?_⟩
  unfold wpMids
  go_wp2_with fail
  refine (push_at S' _ M T vs _ gs A1.out (.slice pao ps.length pca) ps HP5.out HT5.out hvl b0).mono ?_
  rintro e w6 ⟨rfl, S6, m6, f6, u6⟩
  have M6 := Lib.hid m6; have F6 := Lib.hid f6; have U6 := Lib.hid u6
  clear m6 f6 u6
  go_wp2
  go_ret
  have fr : Fresh S w S' := fun k hk => by
    rcases A2.out k hk with h | h
    · exact .inl h
    · exact .inr (Nat.le_trans HU1.out.size h)
  exact ⟨rfl, S6, M6.out, fr.trans F6.out U15.out.size, U15.out.trans fr U6.out⟩
end Go.Proofs.Ytjjhdbjbjgkijaa
