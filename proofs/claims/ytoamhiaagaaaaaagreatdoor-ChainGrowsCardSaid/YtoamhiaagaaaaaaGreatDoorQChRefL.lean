/- geoderef11: Line, Lines, Below. -/
import Derived.Test.YtoamhiaagaaaaaaGreatDoorQChRefP
import Derived.Test.YtoamhiaagaaaaaaGreatDoorQMaWalkP
import Derived.Test.YtoamhiaagaaaaaaGreatDoorQRfHeapsP
namespace Go.Proofs.YtoamhiaagaaaaaaGreatDoor
open Go.RowKit

def intsN (l : List Nat) : List Int := l.map fun k : Nat => (k : Int)
theorem owns_one (W : World) {B : Nat} (hB : B ≤ W.heap.size) (e : TypeId) (v : Value) : (W.alloc (.cells #[v] e)).ownsRow B e 1 (.slice (some ⟨W.heap.size, 0, none⟩) 1 1) 1 [v] :=
  ⟨by simp, .inr ⟨W.heap.size, 1, #[v], rfl, hB, World.alloc_heap_new _ _, Nat.le_refl _, by simp [maxLen], by simp, by simp⟩⟩
/-- The line on its way upwards. -/
structure LiJ (w : World) (ts : List Sb) (id : Nat) (f cur : Nat) (out : List Nat) (v : Value) (W : World) : Prop where
  lt : cur < f
  le : f + out.length = id + 2
  hd : ∃ r, out = cur :: r
  eq : lineR ts (id + 1) id [id] = lineR ts f cur out
  own : W.ownsRow w.heap.size 3 1 v out.length ((intsN out).map (Value.int .i64))
  be : Below w.heap.size w W
/-- What Line tells. -/
def LineT (w : World) (r : Int × List Nat) (e : Ending) (w' : World) : Prop :=
  ∃ u, e = .returned (.tuple #[u, .int .i64 r.1]) ∧ (r.1 = 0 → ∀ w'', Upd (fun b => b < w.heap.size) w' w'' → IntsAt w'' u (intsN r.2)) ∧ Below w.heap.size w w'
set_option maxRecDepth 100000 in
set_option maxHeartbeats 16000000 in
theorem rLine_any {R : Nat → Prop} {w : World} {t n : Nat} {gs : List (List Sb)} (hk : RefK R w t n gs) (ok : TabOk gs) (hc : TabC gs) (hn : n ≤ 1000000) (id : Nat) (hid : id < total gs) :
    Calls Tryz.prog 59 #[.pointer (some ⟨t, 0, none⟩), .int .i64 id] w (LineT w (lineR (tabL gs) (id + 1) id [id])) := by
  obtain ⟨i1, hi', hz0', hz1', hz2'⟩ := info_parts Tryz.infoInt
  have Hi' := Lib.hid hi'; have Hz0' := Lib.hid hz0'; have Hz1' := Lib.hid hz1'; have Hz2' := Lib.hid hz2'
  have HK := Lib.hid hk; have HOK := Lib.hid ok; have HC := Lib.hid hc; have HN := Lib.hid hn; have HID := Lib.hid hid
  have h6 := ok.total
  have HT6 := Lib.hid (show id ≤ 10000 by omega)
  obtain ⟨res, hres⟩ : ∃ r, lineR (tabL gs) (id + 1) id [id] = r := ⟨_, rfl⟩
  rw [hres]
  have HRES := Lib.hid hres
  clear hk ok hc hn hid h6 hres hi' hz0' hz1' hz2'
  go_enter Tryz.func59, Tryz.ntmps59
  go_wp2
  go_loopw [6] (fun t6 wr => ∃ (f cur : Nat) (out : List Nat), LiJ w (tabL gs) id f cur out t6 wr) (fun t6 _ => id + 2 - (match t6 with | .slice _ n _ => n | _ => 0))
  case atStart => exact ⟨id + 1, id, [id], by omega, rfl, ⟨_, rfl⟩, rfl, owns_one w (Nat.le_refl _) _ _, (Below.refl _ _).alloc (Nat.le_refl _) _⟩
  case round =>
    obtain ⟨f, cur, out, hJ⟩ := hrel
    obtain ⟨r, rfl⟩ := hJ.hd
    have hcf := hJ.lt
    have hle := hJ.le
    have hown := hJ.own
    have hbe := hJ.be
    have heq := hJ.eq
    obtain ⟨m, hm⟩ : ∃ m, r.length = m := ⟨_, rfl⟩
    simp only [List.length_cons] at hle hown
    rw [hm] at hle hown
    obtain ⟨ao, co, rfl, _⟩ := ownsRow_form hown
    obtain ⟨g, rfl, hg⟩ := own_form hown (Nat.succ_pos m)
    obtain ⟨b, off, e, _, p0⟩ := IntsAt.at (l := intsN (cur :: r)) (i := 0) (x := (cur : Int)) (show IntsAt wr (.slice (some ⟨g, 0, none⟩) (intsN (cur :: r)).length co) (intsN (cur :: r)) from by have h := RowAt.of_own hown; unfold IntsAt; rw [show (intsN (cur :: r)).length = m + 1 by simp [intsN, hm]]; exact h) rfl
    simp at e
    obtain ⟨rfl, rfl⟩ := e
    simp at p0
    rw [HRES.out] at heq
    have HCF := Lib.hid hcf; have HLE := Lib.hid hle; have HOWN := Lib.hid hown; have HBE := Lib.hid hbe; have HEQ := Lib.hid heq; have HM := Lib.hid hm
    have hm1 : (0 : Int) < ((m + 1 : Nat) : Int) := by omega
    have CG := kGet_any (HK.out.below HBE.out) HOK.out HC.out HN.out (cur : Int)
    have HCG := Lib.hid CG
    clear hJ hcf hle hown hbe heq hm CG hg
    go_wp2_with fail
    refine HCG.out.mono ?_
    rintro e w7 ⟨hor, hb7⟩
    rcases hor with ⟨n', y, cs, hn', hy, rfl, hc6, hs⟩ | ⟨hno, _⟩
    case inr =>
      exfalso
      have h1 := HCF.out; have h2 := HLE.out; have h3 := HID.out
      simp only [inTab, Bool.and_eq_false_iff, decide_eq_false_iff_not] at hno; omega
    obtain rfl : n' = cur := by omega
    obtain ⟨vs, vp, vr, vf, rfl, k1, k2, k3, k4⟩ := (hs w7 (Upd.refl _ _)).ex
    obtain ⟨a5, c5, rfl⟩ := RowAt.form k1
    obtain ⟨a6, c6, rfl⟩ := RowAt.form k2
    obtain ⟨a7, c7, rfl⟩ := RowAt.form k3
    obtain ⟨a8, c8, rfl⟩ := RowAt.form k4
    obtain ⟨ns, hns⟩ : ∃ k, y.sups.length = k := ⟨_, rfl⟩
    rw [hns]
    obtain ⟨W8, hW8⟩ : ∃ W8 : World, W8 = w7.alloc (.cells #[.bool y.fin, .slice a5 ns c5, .int .i64 y.k, .slice a6 y.ps.length c6, .slice a7 y.rs.length c7, .slice a8 y.fs.length c8] 48) := ⟨_, rfl⟩
    have hb8 : Below w7.heap.size w7 W8 := by rw [hW8]; exact (Below.refl _ _).alloc (Nat.le_refl _) _
    have z8 : W8.heap[w7.heap.size]? = some (.cells #[.bool y.fin, .slice a5 ns c5, .int .i64 y.k, .slice a6 y.ps.length c6, .slice a7 y.rs.length c7, .slice a8 y.fs.length c8] 48 (0, 0)) := by rw [hW8]; exact heap_alloc_at _ _ rfl
    have hsup : HpsAt W8 (.slice a5 y.sups.length c5) y.sups := RowAt.below k1 hb8 (Nat.le_refl _)
    have hb78 := hb7.trans (hb8.mono hb7.size)
    have hbw8 : Below w.heap.size w W8 := HBE.out.trans (hb78.mono HBE.out.size)
    have s1 : ∀ n, (W8.drewN n).cell? ⟨w7.heap.size, 1, none⟩ = some (.slice a5 ns c5) := fun _ => heap_cell z8 1
    have o1 : ∀ n, (W8.drewN n).cell? ⟨g, 0, none⟩ = some (.int .i64 (n' : Nat)) := fun _ => (hb78.cell (World.block_lt_of_cell? _ _ p0)).trans p0
    have hown8 : W8.ownsRow w.heap.size 3 1 (.slice (some ⟨g, 0, none⟩) (m + 1) co) (m + 1) ((intsN (n' :: r)).map (Value.int .i64)) := ownsRow_upd HOWN.out (Upd.of_below hb78 : Upd (fun _ => False) wr W8) (fun _ _ h => h)
    have hnum := (HC.out.typ (List.mem_of_getElem? hy)).sups
    have HW8 := Lib.hid hW8; have HBW8 := Lib.hid hbw8; have HO8 := Lib.hid hown8; have HSU := Lib.hid hsup; have HY := Lib.hid hy; have HNS := Lib.hid hns; have HNUM := Lib.hid hnum
    have s10 := s1 0; have o10 := o1 0
    clear hb7 hs hc6 hn' k1 k2 k3 k4 hW8 hb8 z8 hsup hb78 hbw8 hown8 hy hns hnum HCG p0
    obtain ⟨f, rfl⟩ : ∃ g, f = g + 1 := ⟨f - 1, by have := HCF.out; omega⟩
    have hstep := HEQ.out
    rw [lineR, HY.out] at hstep
    dsimp only at hstep
    rcases hsp : y.sups with _ | ⟨sp, _ | ⟨s2, rr⟩⟩
    · rw [hsp] at hstep
      dsimp only at hstep
      obtain rfl : ns = 0 := by have := HNS.out; rw [hsp] at this; simpa using this.symm
      have HST := Lib.hid hstep
      clear hstep hsp
      by_cases h64 : 64 < m + 1
      · have h64a : (64 : Int) < ((m + 1 : Nat) : Int) := by omega
        have HR1 := Lib.hid (show res = (111, []) by rw [HST.out, if_pos (by rw [List.length_cons, HM.out]; exact h64)])
        clear h64
        go_wp2
        rw [← HW8.out]
        refine bodyPost_ret (v := .tuple #[.slice none 0 0, .int .i64 111]) (by simp [results, Tryz.results59, go_sem]) rfl ?_
        rw [HR1.out]
        exact ⟨_, rfl, (fun h => by cases h), HBW8.out⟩
      · have h64a : ¬ (64 : Int) < ((m + 1 : Nat) : Int) := by omega
        have HR1 := Lib.hid (show res = (0, n' :: r) by rw [HST.out, if_neg (by rw [List.length_cons, HM.out]; exact h64)])
        clear h64
        go_wp2
        rw [← HW8.out]
        refine bodyPost_ret (v := .tuple #[.slice (some ⟨g, 0, none⟩) (m + 1) co, .int .i64 0]) (by simp [results, Tryz.results59, go_sem]) rfl ?_
        rw [HR1.out]
        exact ⟨_, rfl, (fun _ w'' hu => ints_own HO8.out hu (Nat.le_refl _)), HBW8.out⟩
    · have hsn := HNUM.out sp (by rw [hsp]; simp)
      obtain ⟨pk, pn⟩ := sp
      obtain ⟨hpk, hp0, hp1⟩ := hsn
      dsimp only at hpk hp0 hp1
      subst hpk
      obtain ⟨q, rfl⟩ := Int.eq_ofNat_of_zero_le hp0
      rw [hsp] at hstep
      dsimp only at hstep
      obtain rfl : ns = 1 := by have := HNS.out; rw [hsp] at this; simpa using this.symm
      have hsu := HSU.out
      rw [HNS.out, hsp] at hsu
      obtain ⟨b9, o9, e9, _, q0, q1⟩ := hps_at (l := [⟨15, (q : Int)⟩]) (i := 0) (x := ⟨15, (q : Int)⟩) (by simpa using hsu) rfl
      obtain rfl : a5 = some ⟨b9, o9, none⟩ := e9
      dsimp only at q0 q1
      simp only [Nat.zero_mul, Nat.add_zero] at q0 q1
      have q0n : ∀ n, (W8.drewN n).cell? ⟨b9, o9, none⟩ = some (.int .i64 15) := fun _ => q0
      have q1n : ∀ n, (W8.drewN n).cell? ⟨b9, o9 + 1, none⟩ = some (.int .i64 (q : Nat)) := fun _ => q1
      have HQ0 := Lib.hid q0; have HQ1 := Lib.hid q1; have HS1 := Lib.hid s1; have HO1 := Lib.hid o1; have HQ0N := Lib.hid q0n; have HQ1N := Lib.hid q1n
      have HST := Lib.hid hstep
      clear hstep hsp hsu hp0 hp1
      by_cases hge : (n' : Int) ≤ q
      · have hged : decide ((n' : Int) ≤ q) = true := by simpa using hge
        have HR1 := Lib.hid (show res = (110, []) by rw [HST.out, if_pos (.inr hge)])
        clear s10 o10 q0 q1
        go_upto_region 6 with fail
        rw [← HW8.out]
        go_quiet (fail)
        go_wp2
        refine bodyPost_ret (v := .tuple #[.slice none 0 0, .int .i64 110]) (by simp [results, Tryz.results59, go_sem]) rfl ?_
        rw [HR1.out]
        exact ⟨_, rfl, (fun h => by cases h), HBW8.out.trans (below_drewN _ _)⟩
      · have hged : decide ((n' : Int) ≤ q) = false := by simpa using hge
        have HGE := Lib.hid (show q < n' by omega)
        have HR1 := Lib.hid (show res = lineR (tabL gs) f q (q :: n' :: r) by rw [HST.out, if_neg (by simpa using hge)]; rfl)
        clear s10 o10 q0 q1
        go_upto_region 6 with fail
        rw [← HW8.out]
        go_quiet (fail)
        obtain ⟨W9, hW9⟩ : ∃ W9 : World, W8.drewN nq = W9 := ⟨_, rfl⟩
        have hb9 : Below w.heap.size w W9 := by rw [← hW9]; exact HBW8.out.trans (below_drewN _ _)
        have O9 := Lib.hid (show W9.ownsRow w.heap.size 3 1 (.slice (some ⟨g, 0, none⟩) (m + 1) co) (m + 1) ((intsN (n' :: r)).map (Value.int .i64)) from by rw [← hW9]; exact HO8.out)
        have s19 : W9.cell? ⟨w7.heap.size, 1, none⟩ = some (.slice (some ⟨b9, o9, none⟩) 1 c5) := by rw [← hW9]; exact HS1.out _
        have q19 : W9.cell? ⟨b9, o9 + 1, none⟩ = some (.int .i64 (q : Nat)) := by rw [← hW9]; exact HQ1N.out _
        have HB9 := Lib.hid hb9
        rw [hW9]
        clear hW9 hb9 s1 o1 q0n q1n
        go_wp2_with (at_builtin; refine wpList_append_row _ rfl _ _ 36 rfl w.heap.size 3 i1 _ 1 8 Tryz.underlying36 Hi'.out Hz0'.out Hz1'.out Hz2'.out rfl (by decide) _ 1 _ rfl (owns_one W9 HB9.out.size _ _) _ (m + 1) ((intsN (n' :: r)).map (Value.int .i64)) rfl (RowAt.of_own (O9.out.alloc _)) (by intro u hu; obtain ⟨x, _, rfl⟩ := List.mem_map.1 hu; rfl) (by have := HLE.out; have := HT6.out; unfold maxLen; omega) (by have := HLE.out; have := HT6.out; omega) (by have := HB9.out.size; simp; omega) ?_)
        intro v2 w2 o2 gr2
        have hb2 : Below w.heap.size w w2 := (HB9.out.alloc HB9.out.size _).grown gr2 (by have := HB9.out.size; simp; omega) (fun k hk => by simp [Value.ownBlock] at hk; have := HB9.out.size; omega)
        have O2 := Lib.hid o2; have HB2 := Lib.hid hb2
        obtain ⟨a2, c2, rfl, _⟩ := ownsRow_form o2
        clear o2 gr2 hb2
        go_wp2
        go_roundw
        case rel =>
          refine ⟨f, q, q :: n' :: r, ?_, ?_, ⟨_, rfl⟩, ?_, ?_, HB2.out⟩
          · have := HCF.out; have := HGE.out; omega
          · have := HLE.out; have := HM.out; simp; omega
          · rw [HRES.out]; exact HR1.out
          · have h := O2.out
            rw [show (q :: n' :: r).length = 1 + (m + 1) by have := HM.out; simp; omega]
            exact h
        case measure =>
          have := HLE.out
          simp only []
          omega
    · rw [hsp] at hstep
      dsimp only at hstep
      have hns : ns = rr.length + 2 := by have := HNS.out; rw [hsp] at this; simpa using this.symm
      have n1 : (1 : Int) < ns := by omega
      have n0 : ¬ (ns : Int) = 0 := by omega
      have n0b : ((ns : Int) == 0) = false := by simp; omega
      have n1d : decide ((1 : Int) < ns) = true := by simpa using n1
      have HR1 := Lib.hid (show res = (110, []) from hstep)
      clear hstep hsp hns
      go_upto_region 6 with fail
      rw [← HW8.out]
      go_quiet (fail)
      go_wp2
      refine bodyPost_ret (v := .tuple #[.slice none 0 0, .int .i64 110]) (by simp [results, Tryz.results59, go_sem]) rfl ?_
      rw [HR1.out]
      exact ⟨_, rfl, (fun h => by cases h), HBW8.out.trans (below_drewN _ _)⟩
theorem wrap_nx {k : Nat} (h : k ≤ 1000000) : wrap64 ((k : Int) + 1) = ((k + 1 : Nat) : Int) := by unfold wrap64; omega
theorem meas_nx {n i : Nat} (h : i < n) : n - (intOf (.int .i64 ((i + 1 : Nat) : Int))).toNat < n - (intOf (.int .i64 (i : Int))).toNat := by simp [intOf]; omega
/-- Lines in memory. -/
structure LlsAt (w : World) (v : Value) (L : List (List Nat)) : Prop where
  ex : ∃ vs : List Value, vs.length = L.length ∧ RowAt w 1 v L.length vs ∧ ∀ (i : Nat) x l, vs[i]? = some x → L[i]? = some l → IntsAt w x (intsN l)
theorem LlsAt.form {w : World} {v : Value} {L : List (List Nat)} (h : LlsAt w v L) : ∃ ao cap, v = .slice ao L.length cap := by
  obtain ⟨_, _, h, _⟩ := h.ex; exact RowAt.form h
theorem LlsAt.keep {w w' : World} {v : Value} {L : List (List Nat)} (h : LlsAt w v L) (hk : ∀ p u, w.cell? p = some u → w'.cell? p = some u) : LlsAt w' v L := by
  obtain ⟨vs, h1, h2, h3⟩ := h.ex
  exact ⟨vs, h1, h2.keep hk, fun i x g hx hg => RowAt.keep (h3 i x g hx hg) hk⟩
theorem LlsAt.below {w w' : World} {B : Nat} {v : Value} {L : List (List Nat)} (h : LlsAt w v L) (hb : Below B w w') (hB : w.heap.size ≤ B) : LlsAt w' v L :=
  h.keep fun p u hp => by rw [hb.cell (Nat.lt_of_lt_of_le (World.block_lt_of_cell? _ _ hp) hB)]; exact hp
theorem LlsAt.at {w : World} {ao : Option Addr} {cap : Nat} {L : List (List Nat)} (h : LlsAt w (.slice ao L.length cap) L) {i : Nat} {l : List Nat} (hi : L[i]? = some l) : ∃ b off a c, ao = some ⟨b, off, none⟩ ∧ w.cell? ⟨b, off + i, none⟩ = some (.slice a l.length c) ∧ IntsAt w (.slice a l.length c) (intsN l) := by
  have hlt := (List.getElem?_eq_some_iff.1 hi).1
  obtain ⟨vs, h1, h2, h3⟩ := h.ex
  obtain ⟨b, off, rfl, _, _, hc⟩ := RowAt.at h2 (by decide) (by omega)
  obtain ⟨x, hx⟩ : ∃ x, vs[i]? = some x := ⟨vs[i]'(by omega), by simp⟩
  have hg := h3 i x l hx hi
  obtain ⟨a, c, rfl⟩ := RowAt.form hg
  have hn : (intsN l).length = l.length := by simp [intsN]
  rw [hn] at hx hg
  exact ⟨b, off, a, c, rfl, by rw [hc i (by omega), hx], hg⟩
theorem Tryz.infoInts : (Tryz.prog.info? 36).map (fun i => (i.zero, i.size, i.bytes)) = some (some (.slice none 0 0), 1, 24) := by kernel_rfl
/-- The lines on their way. -/
structure LnJ (w : World) (ts : List Sb) (L : List (List Nat)) (v : Value) (W : World) : Prop where
  le : L.length ≤ ts.length
  eq : linesR ts ts.length [] = linesR ts (ts.length - L.length) L
  ex : ∃ vs : List Value, vs.length = L.length ∧ W.ownsRow w.heap.size 36 1 v L.length vs ∧ ∀ (i : Nat) x l, vs[i]? = some x → L[i]? = some l → ∀ w'', Upd (fun b => b < w.heap.size ∨ v.ownBlock = some b) W w'' → IntsAt w'' x (intsN l)
  be : Below w.heap.size w W
theorem LnJ.lls {w W w'' : World} {ts : List Sb} {L : List (List Nat)} {v : Value} (h : LnJ w ts L v W) (hu : Upd (fun b => b < w.heap.size) W w'') : LlsAt w'' v L := by
  obtain ⟨vs, h1, h2, h3⟩ := h.ex
  exact ⟨vs, h1, RowAt.of_own (ownsRow_upd h2 hu (fun b hb q => by have := (h2.lt b hb).1; omega)), fun i x l hx hl => h3 i x l hx hl w'' (hu.mono fun _ _ q => .inl q)⟩
theorem LnJ.same {w W W' : World} {ts : List Sb} {L : List (List Nat)} {v : Value} (h : LnJ w ts L v W) (hb : Below W.heap.size W W') : LnJ w ts L v W' := by
  obtain ⟨vs, h1, h2, h3⟩ := h.ex
  exact ⟨h.le, h.eq, ⟨vs, h1, ownsRow_upd h2 (Upd.of_below hb : Upd (fun _ => False) W W') (fun _ _ q => q), fun i x l hx hl w'' hu => h3 i x l hx hl w'' ((Upd.of_below hb : Upd _ W W').trans' hu)⟩, h.be.trans (hb.mono h.be.size)⟩
/-- What Lines tells. -/
def LinesT (w : World) (r : Int × List (List Nat)) (e : Ending) (w' : World) : Prop :=
  ∃ u, e = .returned (.tuple #[u, .int .i64 r.1]) ∧ (∀ w'', Upd (fun b => b < w.heap.size) w' w'' → LlsAt w'' u r.2) ∧ Below w.heap.size w w'
theorem lnj_step {w wr w1 w2 : World} {ts : List Sb} {L : List (List Nat)} {l : List Nat} {v u v2 : Value} {o : Obj} {vs : List Value} (h : LnJ w ts L v wr) (hlt : L.length < ts.length) (hl : lineR ts (L.length + 1) L.length [L.length] = (0, l)) (hb1 : Below wr.heap.size wr w1) (hu : ∀ w'', Upd (fun b => b < wr.heap.size) w1 w'' → IntsAt w'' u (intsN l))
    (h1 : vs.length = L.length) (h2 : wr.ownsRow w.heap.size 36 1 v L.length vs) (h3 : ∀ (i : Nat) x l, vs[i]? = some x → L[i]? = some l → ∀ w'', Upd (fun b => b < w.heap.size ∨ v.ownBlock = some b) wr w'' → IntsAt w'' x (intsN l))
    (o2 : w2.ownsRow w.heap.size 36 1 v2 (L.length + 1) (vs ++ [u])) (gr : (w1.alloc o).grownBy w2 v.ownBlock) (mv : MovedUp (w1.alloc o) v v2) : LnJ w ts (L ++ [l]) v2 w2 := by
  have hs := h.be.size
  have hs1 := hb1.size
  have hob : ∀ k, v.ownBlock = some k → w.heap.size ≤ k ∧ k < wr.heap.size := fun k hk => h2.lt k hk
  have hmv : ∀ b, v2.ownBlock = some b → v.ownBlock = some b ∨ w1.heap.size ≤ b := fun b hb => by
    rcases mv with e | e
    · exact .inl (by rw [← e]; exact hb)
    · have := e b hb; simp at this; exact .inr (by omega)
  have u02 : Upd (fun b => b < w.heap.size ∨ v.ownBlock = some b) wr w2 := ((Upd.of_below hb1).alloc o).grown gr (fun k hk => .inl (.inr hk))
  have u12 : Upd (fun b => b < wr.heap.size) w1 w2 := ((Upd.refl _ w1).alloc o).grown gr (fun k hk => .inl (hob k hk).2)
  refine ⟨by simp; omega, ?_, ⟨vs ++ [u], by simp [h1], by simpa using o2, fun i x l' hx hl' w'' q => ?_⟩, ?_⟩
  · rw [h.eq, show ts.length - L.length = (ts.length - (L.length + 1)) + 1 by omega, linesR, hl, if_pos rfl]
    simp
  · by_cases hj : i < L.length
    · rw [List.getElem?_append_left (by omega)] at hx hl'
      refine h3 i x l' hx hl' w'' (u02.trans (fun b hb => ?_) q)
      rcases hb with hb | hb
      · exact .inl (.inl hb)
      · rcases hmv b hb with e | e
        · exact .inl (.inr e)
        · exact .inr (by omega)
    · have hj2 : i = L.length := by have := (List.getElem?_eq_some_iff.1 hl').1; simp at this; omega
      subst hj2
      rw [List.getElem?_append_right (by omega)] at hx hl'
      simp [h1] at hx hl'
      subst hx hl'
      refine hu w'' (u12.trans (fun b hb => ?_) q)
      rcases hb with hb | hb
      · exact .inl (by omega)
      · rcases hmv b hb with e | e
        · exact .inl (by have := (hob b e).2; omega)
        · exact .inr e
  · have hb : Below w.heap.size w w1 := h.be.trans (hb1.mono hs)
    exact (hb.alloc hb.size o).grown gr (by have := hb.size; simp; omega) (fun k hk => (hob k hk).1)
set_option maxRecDepth 100000 in
set_option maxHeartbeats 16000000 in
theorem rLines_any {R : Nat → Prop} {w : World} {t n : Nat} {gs : List (List Sb)} (hk : RefK R w t n gs) (ok : TabOk gs) (hc : TabC gs) (hn : n ≤ 1000000) :
    Calls Tryz.prog 23 #[.pointer (some ⟨t, 0, none⟩)] w (LinesT w (linesR (tabL gs) (tabL gs).length [])) := by
  obtain ⟨i1, hi', hz0', hz1', hz2'⟩ := info_parts Tryz.infoInts
  have Hi' := Lib.hid hi'; have Hz0' := Lib.hid hz0'; have Hz1' := Lib.hid hz1'; have Hz2' := Lib.hid hz2'
  have HK := Lib.hid hk; have HOK := Lib.hid ok; have HC := Lib.hid hc; have HN := Lib.hid hn
  obtain ⟨tt, htt⟩ : ∃ n, total gs = n := ⟨_, rfl⟩
  have htl : (tabL gs).length = tt := by rw [tabL_len]; exact htt
  have HTT := Lib.hid htt; have HTL := Lib.hid htl
  have HT6 := Lib.hid (show tt ≤ 10000 by have := ok.total; omega)
  obtain ⟨res, hres⟩ : ∃ r, linesR (tabL gs) (tabL gs).length [] = r := ⟨_, rfl⟩
  rw [hres]
  have HRES := Lib.hid hres
  clear hk ok hc hn hres htt htl hi' hz0' hz1' hz2'
  go_enter Tryz.func23, Tryz.ntmps23
  go_wp2
  go_loopw [4, 5] (fun t4 t5 wr => ∃ L : List (List Nat), t5 = .int .i64 L.length ∧ LnJ w (tabL gs) L t4 wr) (fun _ t5 _ => tt - (intOf t5).toNat)
  case atStart => exact ⟨[], rfl, Nat.zero_le _, by simp, ⟨[], rfl, owns_zero _ _ _ _, by simp⟩, Below.refl _ _⟩
  case round =>
    obtain ⟨L, rfl, hJ⟩ := hrel
    obtain ⟨k, hk⟩ : ∃ k, L.length = k := ⟨_, rfl⟩
    have hkt : k ≤ tt := by have h1 := hJ.le; have h2 := HTL.out; omega
    have CL := kLen_dr (HK.out.below hJ.be) HOK.out HN.out
    rw [HTT.out] at CL
    have HCL := Lib.hid CL; have HJ := Lib.hid hJ; have HKL := Lib.hid hk
    rw [hk]
    clear hJ CL hk
    by_cases hlt : k < tt
    · have hlt' : (k : Int) < tt := by omega
      have HLT := Lib.hid hlt
      clear hlt hkt
      go_wp2_with fail
      refine HCL.out.mono ?_
      rintro e _ ⟨rfl, nd, rfl⟩
      have hJ1 := HJ.out.same (below_drewN wr nd)
      have CI := rLine_any (HK.out.below hJ1.be) HOK.out HC.out HN.out k (by rw [HTT.out]; exact HLT.out)
      obtain ⟨rl, hrl⟩ : ∃ r, lineR (tabL gs) (k + 1) k [k] = r := ⟨_, rfl⟩
      rw [hrl] at CI
      have HCI := Lib.hid CI; have HJ1 := Lib.hid hJ1; have HRL := Lib.hid hrl
      clear CI hJ1 hrl HCL
      go_wp2_with fail
      refine HCI.out.mono ?_
      rintro e w1 ⟨u, rfl, hu, hb1⟩
      obtain ⟨er, l⟩ := rl
      have HU := Lib.hid hu; have HB1 := Lib.hid hb1
      dsimp only
      clear hu hb1
      by_cases he : er = 0
      · subst he
        have hui := HU.out rfl
        dsimp only at hui
        obtain ⟨ua, uc, rfl⟩ := RowAt.form (hui w1 (Upd.refl _ _))
        rw [show (intsN l).length = l.length by simp [intsN]] at hui
        obtain ⟨vs, hvs, hown, hall⟩ := HJ1.out.ex
        have HVS := Lib.hid hvs; have HOWN0 := Lib.hid hown; have HALL := Lib.hid hall
        rw [HKL.out] at hown
        have hown1 := ownsRow_upd hown (Upd.of_below HB1.out : Upd (fun _ => False) _ w1) (fun _ _ q => q)
        have hbe1 : Below w.heap.size w w1 := HJ1.out.be.trans (HB1.out.mono HJ1.out.be.size)
        have HUI := Lib.hid hui; have HOWN := Lib.hid hown1; have HBE1 := Lib.hid hbe1
        have HR := Lib.hid (row_cells (cs := [.slice ua l.length uc]) (heap_alloc_at w1 (.cells #[.slice ua l.length uc] 36) rfl))
        rw [show (intsN l).length = l.length by simp [intsN]]
        clear hui hown hown1 hbe1 hvs hall
        go_wp2_with (at_builtin; refine wpList_append_own2 _ rfl _ _ 65 rfl w.heap.size 36 i1 _ 1 24 Tryz.underlying65 Hi'.out Hz0'.out Hz1'.out Hz2'.out rfl (by decide) _ _ _ rfl (HOWN.out.alloc _) ⟨w1.heap.size, 0, none⟩ 1 1 [.slice ua l.length uc] rfl rfl HR.out (by intro u hu; simp at hu; rcases hu with rfl; rfl) (by have := HLT.out; have := HT6.out; unfold maxLen; omega) (by have := HLT.out; have := HT6.out; omega) (by have := HBE1.out.size; simp; omega) (by decide) ?_)
        intro v2 w2 o2 gr2 mv2
        have O2 := Lib.hid o2; have GR := Lib.hid gr2; have MV := Lib.hid mv2
        clear o2 gr2 mv2
        go_wp2
        go_roundw
        case rel =>
          refine ⟨L ++ [l], ?_, ?_⟩
          · rw [List.length_append, HKL.out, wrap_nx (by have := HLT.out; have := HT6.out; omega)]; rfl
          · refine lnj_step HJ1.out (by rw [HTL.out, HKL.out]; exact HLT.out) (by rw [HKL.out]; exact HRL.out) HB1.out HUI.out HVS.out HOWN0.out HALL.out (by rw [HKL.out]; exact O2.out) GR.out MV.out
        case measure => rw [wrap_nx (by have := HLT.out; have := HT6.out; omega)]; exact meas_nx HLT.out
      · have he' : (er == 0) = false := by simpa using he
        have he2 : (er != 0) = true := by simpa using he
        have HER := Lib.hid he
        clear he
        go_wp2
        refine bodyPost_ret (v := .tuple #[u4, .int .i64 er]) (by simp [results, Tryz.results23, go_sem]) rfl ?_
        have hres : res = (er, L) := by
          rw [← HRES.out, HJ1.out.eq, HTL.out, HKL.out, show tt - k = (tt - (k + 1)) + 1 by have := HLT.out; omega, linesR, HKL.out, HRL.out, if_neg HER.out]
        rw [hres]
        have h2 := HJ1.out.same HB1.out
        exact ⟨_, rfl, fun w'' hu => h2.lls hu, h2.be⟩
    · obtain rfl : k = tt := by omega
      have hlt' : ¬ (k : Int) < k := by omega
      clear hlt hkt
      go_wp2_with fail
      refine HCL.out.mono ?_
      rintro e _ ⟨rfl, nd, rfl⟩
      go_wp2
      refine bodyPost_ret (v := .tuple #[u4, .int .i64 0]) (by simp [results, Tryz.results23, go_sem]) rfl ?_
      have hres : res = (0, L) := by
        rw [← HRES.out, HJ.out.eq, HTL.out, HKL.out, Nat.sub_self, linesR]
      rw [hres]
      have h2 := HJ.out.same (below_drewN wr nd)
      exact ⟨_, rfl, fun w'' hu => h2.lls hu, h2.be⟩
end Go.Proofs.YtoamhiaagaaaaaaGreatDoor
