/- package arena: ArenaKeeps walked. -/
import Derived.Test.YtofoaheiblhpoaaArKnown
import Derived.Test.YtofoaheiblhpoaaArKeepsP
import Derived.Test.YtofoaheiblhpoaaArFrame
import Derived.Test.YtofoaheiblhpoaaAppend2
import Derived.Test.YtofoaheiblhpoaaGrid
import Derived.Test.YtofoaheiblhpoaaCells
import Derived.Deep.CutRange
import Derived.IntWalk
namespace Go.Proofs.Ytofoaheiblhpoaa
open Go.RowKit

theorem cells_int {w : World} {ao : Option Addr} {n cap : Nat} {k : IntKind} {l : List Int} (h : CellsAt w (.slice ao n cap) (l.map (.int k))) {i : Nat} (hi : i < l.length) : ∃ b off, ao = some ⟨b, off, none⟩ ∧ b < w.heap.size ∧ w.cell? ⟨b, off + i, none⟩ = some (.int k (l.getD i 0)) := by
  obtain ⟨b, off, rfl, hb, hc⟩ := h.at (by rw [List.length_map]; omega)
  refine ⟨b, off, rfl, hb, ?_⟩
  rw [hc i (by rw [List.length_map]; exact hi)]
  simp [List.getD_eq_getElem?_getD, hi]
theorem owns_kept {w w' : World} {B : Nat} {e : TypeId} {v : Value} {n : Nat} {vs : List Value} (h : w.ownsRow B e 1 v n vs) (hb : ∀ q, v.ownBlock = some q → w'.heap[q]? = w.heap[q]?) : w'.ownsRow B e 1 v n vs := by
  obtain ⟨hl, (⟨h0, h1⟩ | ⟨g, cap, cur, rfl, hg2, hcur, hr⟩)⟩ := h
  · exact ⟨hl, .inl ⟨h0, h1⟩⟩
  · exact ⟨hl, .inr ⟨g, cap, cur, rfl, hg2, by rw [hb g rfl]; exact hcur, hr⟩⟩
/-- The rows of addresses and of sizes. -/
structure KRows (B : Nat) (w : World) (va vm : Value) (A : List (Nat × Nat)) : Prop where
  ra : w.ownsRow B 3 1 va A.length (ints (A.map (·.1)))
  rm : w.ownsRow B 3 1 vm A.length (ints (A.map (·.2)))
  ne : ∀ q, va.ownBlock = some q → vm.ownBlock ≠ some q
def RR (va vm : Value) : Nat → Prop := fun q => va.ownBlock = some q ∨ vm.ownBlock = some q
/-- Between two rounds. -/
structure KS (w3 wr : World) (p m : Nat) (bs : List Blk) (A : List (Nat × Nat)) (va vm : Value) : Prop where
  ar : ArR (RR va vm) w3 wr p m bs
  rows : KRows w3.heap.size wr va vm A
  keep : KeepA bs A
theorem KRows.kept {B : Nat} {w w' : World} {va vm : Value} {A : List (Nat × Nat)} (k : KRows B w va vm A) (h : Kept (RR va vm) w w') : KRows B w' va vm A :=
  ⟨owns_kept k.ra (fun q hq => h.blk q (.inl hq)), owns_kept k.rm (fun q hq => h.blk q (.inr hq)), k.ne⟩
theorem KRows.lt {B : Nat} {w : World} {va vm : Value} {A : List (Nat × Nat)} (k : KRows B w va vm A) : ∀ q, RR va vm q → q < w.heap.size := fun q h => by
  rcases h with h | h
  · exact (k.ra.lt q h).2
  · exact (k.rm.lt q h).2
theorem sl_front (w : World) (a : Addr) (n cap k : Nat) (h : k ≤ cap) : (Instr.slice 22 (.slice (some a) n cap) none (some (.int .i64 (k : Nat))) none).run Try.prog w = .ok (.slice (some a) k cap) w := by
  rw [run_slice_h (P := Try.prog) (w := w) 22 (some a) n cap (by kernel_rfl) .i64 (k : Int) (by omega) (by omega)]
  have : (sizeOf (Try.prog.elem 22)).run Try.prog w = .ok 1 w := by kernel_rfl
  rw [this]
  simp [Result.andThen, sliced, Addr.add]
theorem sl_back (a : Addr) (n cap k : Nat) (h : k ≤ n) (hn : n ≤ cap) : ∃ ad c, (∀ w, (Instr.slice 22 (.slice (some a) n cap) (some (.int .i64 (k : Nat))) none none).run Try.prog w = .ok (.slice (some ad) (n - k) c) w) ∧ (k < n → ad = a.add k) := by
  refine ⟨if cap = k then a else a.add k, cap - k, fun w => ?_, fun h => by rw [if_neg (by omega)]⟩
  rw [run_slice_l (P := Try.prog) (w := w) 22 (some a) n cap (by kernel_rfl) .i64 (k : Int) (by omega) (by omega)]
  have : (sizeOf (Try.prog.elem 22)).run Try.prog w = .ok 1 w := by kernel_rfl
  rw [this]
  simp [Result.andThen, sliced]
  split <;> rfl
theorem cells_front {W : World} {a : Addr} {l1 l2 : List Value} (h : ∀ j u, (l1 ++ l2)[j]? = some u → W.cell? (a.add j) = some u) : ∀ j u, l1[j]? = some u → W.cell? (a.add j) = some u := fun j u hj => h j u (by rw [List.getElem?_append_left (List.getElem?_eq_some_iff.1 hj).1]; exact hj)
theorem cells_back {W : World} {b : Nat} {ad : Addr} {k n : Nat} {l1 l2 : List Value} (h : ∀ j u, (l1 ++ l2)[j]? = some u → W.cell? ((⟨b, 0, none⟩ : Addr).add j) = some u) (hk : l1.length = k) (hl : l2.length = n - k) (hd : k < n → ad = (⟨b, 0, none⟩ : Addr).add k) : ∀ j u, l2[j]? = some u → W.cell? (ad.add j) = some u := fun j u hj => by
  have hlt := (List.getElem?_eq_some_iff.1 hj).1
  rw [hd (by omega), Addr.add_lit, Addr.add_lit]
  have := h (k + j) u (by rw [List.getElem?_append_right (by omega), hk, Nat.add_sub_cancel_left]; exact hj)
  rw [Addr.add_lit] at this
  rwa [Nat.zero_add] at this ⊢
theorem one_ints (l : List Nat) : ∀ u ∈ ints l, u.oneCell' = true := fun u hu => by
  unfold ints at hu
  obtain ⟨x, _, rfl⟩ := List.mem_map.1 hu; rfl
theorem KS.paired {w3 w14 wx : World} {p m : Nat} {bs : List Blk} {A : List (Nat × Nat)} {va vm v1 v2 : Value} {n1 n2 : Nat} {x1 x2 : List Value} (ar : ArR (RR va vm) w3 w14 p m bs) (K : KeepA bs A) (J : Pair w14 3 1 wx n1 v1 x1 n2 v2 x2)
    (h1 : n1 = A.length) (h2 : n2 = A.length) (h3 : x1 = ints (A.map (·.1))) (h4 : x2 = ints (A.map (·.2))) : KS w3 wx p m bs A v1 v2 := by
  subst h3 h4
  rw [h1, h2] at J
  exact ⟨(ar.then J.below).less (fun b h => .inr (h.elim (fun h => (J.r1.lt b h).1) (fun h => (J.r2.lt b h).1))), ⟨ownsRow_low J.r1 ar.below.size, ownsRow_low J.r2 ar.below.size, J.ne⟩, K⟩
/-- Behind an append to each of the two rows. -/
theorem rows_appended {w3 w6 w7 w8 : World} {p m : Nat} {bs : List Blk} {A A2 : List (Nat × Nat)} {va vm v1 v2 : Value} (ar : ArR (RR va vm) w3 w6 p m bs) (rows : KRows w3.heap.size w6 va vm A) (U : Upd (RR va vm) w6 w8) (hs : w6.heap.size ≤ w7.heap.size) (h1 : ∀ q, v1.ownBlock = some q → q < w7.heap.size) (m1 : MovedUp w6 va v1) (m2 : MovedUp w7 vm v2)
    (r1 : w8.ownsRow w3.heap.size 3 1 v1 A2.length (ints (A2.map (·.1)))) (r2 : w8.ownsRow w3.heap.size 3 1 v2 A2.length (ints (A2.map (·.2)))) : ArR (RR v1 v2) w3 w8 p m bs ∧ KRows w3.heap.size w8 v1 v2 A2 := by
  have lta : ∀ q, va.ownBlock = some q → w3.heap.size ≤ q ∧ q < w6.heap.size := fun q h => rows.ra.lt q h
  have ltm : ∀ q, vm.ownBlock = some q → w3.heap.size ≤ q ∧ q < w6.heap.size := fun q h => rows.rm.lt q h
  refine ⟨(ar.next U (fun b h _ => h) (fun b h => h.elim (fun h => (lta b h).1) (fun h => (ltm b h).1))).less (fun b h => ?_), ⟨r1, r2, fun q hq hq2 => ?_⟩⟩
  · rcases h with h | h
    · rcases m1 with e | e
      · exact .inl (.inl (by rw [← e]; exact h))
      · exact .inr (e b h)
    · rcases m2 with e | e
      · exact .inl (.inr (by rw [← e]; exact h))
      · exact .inr (Nat.le_trans hs (e b h))
  · rcases m2 with e | e
    · rw [e] at hq2
      rcases m1 with e1 | e1
      · rw [e1] at hq; exact rows.ne q hq hq2
      · have := e1 q hq; have := ltm q hq2; omega
    · have := e q hq2; have := h1 q hq; omega
theorem keeps_free {m : Nat} {bs : List Blk} (hs : Span 1 bs (endOf m)) (hn : noTwo bs) (hu : ∀ b ∈ bs, b.u = false) : usedSum bs = 0 ∧ (2 ≤ m → roomOf bs = m - 1) := by
  refine ⟨?_, fun h2 => ?_⟩
  · clear hs hn
    induction bs with
    | nil => rfl
    | cons b l ih => rw [usedSum_cons, hu b (by simp), ih (fun c hc => hu c (by simp [hc]))]; simp
  · match bs, hs, hn, hu with
    | [], hs, _, _ => have hs : 1 = endOf m := hs; unfold endOf at hs; rw [if_pos h2] at hs; omega
    | [b], hs, _, hu =>
      obtain ⟨ha, h0, he⟩ := hs
      have he : 1 + b.n + 1 = endOf m := he
      unfold endOf at he; rw [if_pos h2] at he
      show (if b.u then 0 else max b.n 0) = m - 1
      rw [hu b (by simp)]; simp; omega
    | b :: c :: r, hs, hn, hu =>
      obtain ⟨ha, _, hc, _⟩ := hs
      exact absurd (show c.a = b.a + b.n + 1 by omega) (hn b (by simp) c (by simp) (hu b (by simp)) (hu c (by simp)))
theorem keeps_end {m : Nat} {bs : List Blk} {A : List (Nat × Nat)} (W : Wf m bs) (K : KeepM bs A A.length) : usedSum (sweepF bs) = usedSum bs ∧ roomOf (sweepF bs) = roomOf bs ∧ ∀ b ∈ sweepF bs, b.m = false :=
  sweep_all W.span W.two (fun b hb hu => by
    obtain ⟨j, hj, e⟩ := K.only b hb hu
    exact (K.mark b hb hu j hj e).2 hj) K.unm
theorem markF_sums (bs : List Blk) (x : Nat) : usedSum (markF bs x) = usedSum bs ∧ roomOf (markF bs x) = roomOf bs := by
  unfold markF
  exact ⟨usedSum_map (fun c _ => by split <;> exact ⟨rfl, rfl⟩), roomOf_map (fun c _ => by split <;> exact ⟨rfl, rfl⟩)⟩
theorem Mark_r {R : Nat → Prop} {w0 w : World} {p m : Nat} {bs : List Blk} (A : ArR R w0 w p m bs) (hR : ∀ b, R b → b < w.heap.size) {q : Int} {r : Bool} {bs' : List Blk} (h : markG bs q = (r, bs')) (h1 : -9223372036854775808 ≤ q) (h2 : q < 9223372036854775808) :
    Calls Try.prog 12 #[.pointer (some ⟨p, 0, none⟩), .int .i64 q] w fun e w' => e = .returned (.bool r) ∧ ArR R w0 w' p m bs' ∧ Kept R w w' :=
  A.call hR fun S a => (Mark_at a q h1 h2).mono fun e w' ⟨r', bs'', hr, he, hp⟩ => by
    have W := A.wf
    unfold markG at h
    rcases hr with ⟨hu, rfl, rfl⟩ | ⟨pre, b, post, rfl, hu, rfl, ⟨hm, rfl, rfl⟩ | ⟨hm, rfl, rfl⟩⟩
    · rw [blkAt_none hu] at h
      simp only [Prod.mk.injEq] at h
      rw [← h.1, ← h.2]; exact ⟨he, hp⟩
    · rw [blkAt_some W.span (by simp) hu] at h
      dsimp only at h
      rw [if_pos hm] at h
      simp only [Prod.mk.injEq] at h
      rw [← h.1, ← h.2]; exact ⟨he, hp⟩
    · rw [blkAt_some W.span (by simp) hu] at h
      dsimp only at h
      rw [if_neg (by rw [hm]; simp)] at h
      unfold markF at h
      rw [map_at W.span, hu] at h
      simp only [Prod.mk.injEq] at h
      rw [← h.1, ← h.2]; exact ⟨he, hp⟩
theorem KS.below {w3 wr wx : World} {p m : Nat} {bs : List Blk} {A : List (Nat × Nat)} {va vm : Value} (k : KS w3 wr p m bs A va vm) (h : Below wr.heap.size wr wx) : KS w3 wx p m bs A va vm :=
  ⟨k.ar.stay h, k.rows.kept (Kept.of_below k.rows.lt h), k.keep⟩
/-- The cells of a pair of the rows. -/
theorem KRows.pair {B : Nat} {w : World} {va vm : Value} {A : List (Nat × Nat)} (k : KRows B w va vm A) {j x n : Nat} (hj : j < A.length) (hp : A.getD j (0, 0) = (x, n)) {g : Nat} {cap : Nat} (hv : va = .slice (some ⟨g, 0, none⟩) A.length cap) {g' : Nat} {cap' : Nat} (hv' : vm = .slice (some ⟨g', 0, none⟩) A.length cap') :
    w.cell? ⟨g, j, none⟩ = some (.int .i64 (x : Nat)) ∧ w.cell? ⟨g', j, none⟩ = some (.int .i64 (n : Nat)) := by
  have e : A[j]? = some (x, n) := by rw [← hp, List.getD_eq_getElem?_getD, List.getElem?_eq_getElem hj]; rfl
  have h1 := k.ra.cells (g := g) (by rw [hv]; rfl) j (.int .i64 (x : Nat)) (by unfold ints; simp [e])
  have h2 := k.rm.cells (g := g') (by rw [hv']; rfl) j (.int .i64 (n : Nat)) (by unfold ints; simp [e])
  rw [Addr.add_lit, Nat.zero_add] at h1 h2
  exact ⟨h1, h2⟩
set_option maxRecDepth 100000 in
set_option maxHeartbeats 16000000 in
theorem keeps_main (w : World) (m : Nat) (hm : m ≤ 300) (sv fv : Value) (sl fl : List Int) (hs : CellsAt w sv (sl.map (.int .i64))) (hls : sl.length ≤ 100) (hf : CellsAt w fv (fl.map (.int .i64))) (hlf : fl.length ≤ maxLen) (hus : ∀ u ∈ sl, -9223372036854775808 ≤ u ∧ u < 9223372036854775808) (huf : ∀ u ∈ fl, -9223372036854775808 ≤ u ∧ u < 9223372036854775808) :
    Calls Try.prog 3 #[.int .i64 (m : Nat), sv, fv] w fun e w' => e = .returned (.bool true) ∧ Below w.heap.size w w' := by
  obtain ⟨ns, hns⟩ : ∃ ns, sl.length = ns := ⟨_, rfl⟩
  obtain ⟨nf, hnf⟩ : ∃ nf, fl.length = nf := ⟨_, rfl⟩
  obtain ⟨sao, scap, hsv⟩ := hs.form
  obtain ⟨fao, fcap, hfv⟩ := hf.form
  rw [List.length_map, hns] at hsv
  rw [List.length_map, hnf] at hfv
  subst hsv hfv
  unfold maxLen at hlf
  have t1 : ¬ (m : Int) < 0 := by omega
  have t1' : decide ((m : Int) < 0) = false := decide_eq_false t1
  have t2 : ¬ (300 : Int) < m := by omega
  have t2' : decide ((300 : Int) < m) = false := decide_eq_false t2
  have t3 : ¬ (100 : Int) < ns := by omega
  have t3' : decide ((100 : Int) < ns) = false := decide_eq_false t3
  have HCS := Lib.hid hs; have HCF := Lib.hid hf; have HUS := Lib.hid hus; have HUF := Lib.hid huf; have HNS := Lib.hid hns; have HNF := Lib.hid hnf
  have HM := Lib.hid (show m ≤ 300 ∧ ns ≤ 100 ∧ nf ≤ 9223372036854775807 by omega)
  clear hs hf hus huf hns hnf hm hls hlf
  obtain ⟨i0, hi, hz0, hz1, hz2⟩ := info_parts Try.infoInt8
  have Hi := Lib.hid hi; have Hz0 := Lib.hid hz0; have Hz1 := Lib.hid hz1; have Hz2 := Lib.hid hz2
  clear hi hz0 hz1 hz2
  go_enter Try.func3, Try.ntmps3
  go_wp2_with fail
  refine (known_any w).mono ?_
  rintro e w3 ⟨rfl, hb3⟩
  have HB3 := Lib.hid hb3; have HCS3 := Lib.hid (HCS.out.below hb3); have HCF3 := Lib.hid (HCF.out.below hb3)
  clear hb3 HCS HCF
  go_wp2_with fail
  refine (New_n w3 m m (by have := HM.out; omega) (by have := HM.out; omega)).mono ?_
  rintro e w4 ⟨p, rfl, A0⟩
  have hK : KS w3 w4 p m (newBs m) [] (.slice none 0 0) (.slice none 0 0) :=
    ⟨A0.beside.less (fun b h => by simp [RR, Value.ownBlock] at h), ⟨⟨rfl, .inl ⟨rfl, rfl⟩⟩, ⟨rfl, .inl ⟨rfl, rfl⟩⟩, fun q h => by simp [Value.ownBlock] at h⟩, KeepA.start m⟩
  have HK := Lib.hid hK
  clear A0 hK
  go_wp2
  go_loopw [8, 9, 10] (fun t8 t9 t10 wr => ∃ (i : Nat) (A : List (Nat × Nat)) (bs : List Blk), t10 = .int .i64 (i : Nat) ∧ i ≤ ns ∧ A.length ≤ i ∧ KS w3 wr p m bs A t8 t9) (fun _ _ t10 _ => ns - (intOf t10).toNat)
  case atStart => exact ⟨0, [], _, rfl, Nat.zero_le _, Nat.zero_le _, HK.out⟩
  case round =>
    clear HK
    obtain ⟨i, A, bs, rfl, hi, hAi, hK⟩ := hrel
    obtain ⟨aao, acap, hva, hac, ham, _⟩ := ownsRow_form hK.rows.ra
    obtain ⟨mao, mcap, hvm, hmc, hmm, _⟩ := ownsRow_form hK.rows.rm
    obtain ⟨la, hla⟩ : ∃ la, A.length = la := ⟨_, rfl⟩
    rw [hla] at hva hvm hAi
    subst hva hvm
    have HK := Lib.hid hK; have HLA := Lib.hid hla
    clear hK hla hac ham hmc hmm
    by_cases h1 : i < ns
    · have h1' : (i : Int) < ns := by omega
      have hz := cells_int (HCS3.out.below HK.out.ar.below) (i := i) (by rw [HNS.out]; exact h1)
      obtain ⟨sb, soff, rfl, hsb, hsc⟩ := hz
      obtain ⟨z, hzz⟩ : ∃ z, sl.getD i 0 = z := ⟨_, rfl⟩
      rw [hzz] at hsc
      clear hsb hzz
      by_cases h2 : z < 1
      · have h2' : decide (z < 1) = true := decide_eq_true h2
        go_wp2
        go_ret
        exact ⟨rfl, HB3.out.trans (HK.out.ar.below.mono HB3.out.size)⟩
      by_cases h3 : 40 < z
      · have h2' : decide (z < 1) = false := decide_eq_false h2
        have h3' : decide (40 < z) = true := decide_eq_true h3
        go_wp2
        go_ret
        exact ⟨rfl, HB3.out.trans (HK.out.ar.below.mono HB3.out.size)⟩
      have h2' : decide (z < 1) = false := decide_eq_false h2
      have h3' : decide (40 < z) = false := decide_eq_false h3
      obtain ⟨n, rfl⟩ : ∃ n : Nat, z = (n : Int) := ⟨z.toNat, by omega⟩
      obtain ⟨rm, hrm⟩ : ∃ rm, roomOf bs = rm := ⟨_, rfl⟩
      have HRM := Lib.hid hrm
      clear hrm
      go_wp2_with fail
      refine (Room_r HK.out.ar HK.out.rows.lt HRM.out rm rfl).mono ?_
      rintro e w5 ⟨rfl, A5, K5⟩
      have hsp : ∃ t, Span 1 bs t := ⟨_, A5.wf.span⟩
      obtain ⟨t0, hsp⟩ := hsp
      have hrows5 : KRows w3.heap.size w5 (.slice aao la acap) (.slice mao la mcap) A := HK.out.rows.kept K5
      have HA5 := Lib.hid A5; have HR5 := Lib.hid hrows5
      have htk := HK.out.keep.take (n := n) (by omega) hsp
      have HNR := Lib.hid (show 1 ≤ n ∧ n ≤ 40 ∧ -9223372036854775808 ≤ (n : Int) ∧ (n : Int) < 9223372036854775808 by omega)
      rw [HRM.out] at htk
      have HTK := Lib.hid htk
      clear A5 K5 hsp hrows5 htk
      -- Take, and what is done with the block
      have hcut : ∃ er : Int, ∃ x : Nat, ∃ bs', takeF bs n = (x, er, bs') ∧ ((er = 5 ∧ x = 0 ∧ bs' = bs ∧ rm < n) ∨ (er = 0 ∧ n ≤ rm ∧ KeepB bs' A x n 0)) := by
        rcases HTK.out with ⟨h1, h2⟩ | ⟨h1, x, bs', h2, h3⟩
        · exact ⟨5, 0, bs, h2, .inl ⟨rfl, rfl, rfl, h1⟩⟩
        · exact ⟨0, x, bs', h2, .inr ⟨rfl, h1, h3⟩⟩
      obtain ⟨er, x, bs1, htf, hcase⟩ := hcut
      have HTF := Lib.hid htf; have HCASE := Lib.hid hcase
      clear htf hcase HTK
      go_wp2_with fail
      refine (Take_r HA5.out HR5.out.lt HTF.out x rfl HNR.out.2.2.1 HNR.out.2.2.2).mono ?_
      rintro e w6 ⟨rfl, A6, K6⟩
      have HA6 := Lib.hid A6; have HR6 := Lib.hid (HR5.out.kept K6)
      clear A6 K6 HA5 HR5
      have hb1 : (!(er == 0) == decide (n ≤ rm)) = false ∧ (er = 0 ∨ er = 5) := by
        rcases HCASE.out with ⟨rfl, _, _, h⟩ | ⟨rfl, h, _⟩
        · exact ⟨by rw [decide_eq_false (by omega)]; rfl, .inr rfl⟩
        · exact ⟨by rw [decide_eq_true (by omega)]; rfl, .inl rfl⟩
      have hb0 := hb1.1
      have HER := Lib.hid hb1.2
      clear hb1
      go_upto_if 75 with fail
      go_cut [8, 9, 15, 16, 17] from 44 to 245 (fun s8 s9 _ _ _ wx => ∃ (A2 : List (Nat × Nat)) (bs2 : List Blk), A2.length ≤ i + 1 ∧ KS w3 wx p m bs2 A2 s8 s9)
      case first =>
        as_aux_lemma =>
          rcases HCASE.out with ⟨rfl, rfl, rfl, _⟩ | ⟨rfl, hnr, hKB⟩
          · go_wp2_with fail
            go_meet
            case rel => exact ⟨A, _, by rw [HLA.out]; omega, ⟨HA6.out, HR6.out, HK.out.keep⟩⟩
          · have R1 := (HR6.out.ra).alloc (.cells #[.int .i64 (x : Nat)] 3)
            rw [HLA.out] at R1
            have RA := Lib.hid R1
            have HKB := Lib.hid hKB; have HNr := Lib.hid hnr
            clear R1 hKB hnr
            have HC1 := Lib.hid (show ∀ (j : Nat) (u : Value), [Value.int .i64 (x : Nat)][j]? = some u → (w6.alloc (.cells #[.int .i64 (x : Nat)] 3)).cell? ((⟨w6.heap.size, 0, none⟩ : Addr).add j) = some u by
              intro j u hj
              rw [Addr.add_lit, Nat.zero_add, heap_cell (heap_alloc_at w6 (.cells #[.int .i64 (x : Nat)] 3) rfl)]
              simpa using hj)
            have HC3 := Lib.hid (show la + 1 ≤ maxLen ∧ (la + 1) * 8 ≤ 140737488355328 by have := HM.out; unfold maxLen; omega)
            have HC5 := Lib.hid (show w3.heap.size ≤ (w6.alloc (.cells #[.int .i64 (x : Nat)] 3)).heap.size from Nat.le_trans HA6.out.below.size ((Below.refl w6.heap.size w6).alloc (Nat.le_refl _) _).size)
            go_wp2_with (at_builtin; refine wpList_append_own2 _ rfl _ _ 22 rfl w3.heap.size 3 i0 _ 1 8 Try.underlying22 Hi.out Hz0.out Hz1.out Hz2.out rfl (by decide) (.slice aao la acap) la (ints (A.map (·.1))) rfl RA.out _ 1 1 [.int .i64 (x : Nat)] rfl rfl HC1.out (by intro u hu; rw [List.mem_singleton.1 hu]; rfl) HC3.out.1 HC3.out.2 HC5.out (by decide) ?_)
            intro v1 w7 r1 g1 mu1
            obtain ⟨a1, cp1, cur1, rfl, _⟩ := ownsRow_some r1 (by omega)
            have UA := Upd.grown ((Upd.refl (RR (.slice aao la acap) (.slice mao la mcap)) w6).alloc (.cells #[.int .i64 (x : Nat)] 3)) g1 (fun k hk => .inl (.inl hk))
            have L1 := fun q hq => (r1.lt q hq).2
            have RM6 := (HR6.out.rm).alloc (.cells #[.int .i64 (x : Nat)] 3)
            have RM7 : w7.ownsRow w3.heap.size 3 1 (.slice mao la mcap) A.length (ints (A.map (·.2))) := owns_kept RM6 (fun q hq => g1.block q (RM6.lt q hq).2 (fun e => HR6.out.ne q e.symm hq))
            have RM7a := RM7.alloc (.cells #[.int .i64 (n : Nat)] 3)
            rw [HLA.out] at RM7a
            have HUA := Lib.hid UA; have HL1 := Lib.hid L1; have HRMa := Lib.hid RM7a; have HR1 := Lib.hid r1; have HMU1 := Lib.hid mu1
            clear UA L1 RM6 RM7 RM7a r1 g1 mu1
            have HC1b := Lib.hid (show ∀ (j : Nat) (u : Value), [Value.int .i64 (n : Nat)][j]? = some u → (w7.alloc (.cells #[.int .i64 (n : Nat)] 3)).cell? ((⟨w7.heap.size, 0, none⟩ : Addr).add j) = some u by
              intro j u hj
              rw [Addr.add_lit, Nat.zero_add, heap_cell (heap_alloc_at w7 (.cells #[.int .i64 (n : Nat)] 3) rfl)]
              simpa using hj)
            have HC5b := Lib.hid (show w3.heap.size ≤ (w7.alloc (.cells #[.int .i64 (n : Nat)] 3)).heap.size from Nat.le_trans (Nat.le_trans HA6.out.below.size HUA.out.size) ((Below.refl w7.heap.size w7).alloc (Nat.le_refl _) _).size)
            go_wp2_with (at_builtin; refine wpList_append_own2 _ rfl _ _ 22 rfl w3.heap.size 3 i0 _ 1 8 Try.underlying22 Hi.out Hz0.out Hz1.out Hz2.out rfl (by decide) (.slice mao la mcap) la (ints (A.map (·.2))) rfl HRMa.out _ 1 1 [.int .i64 (n : Nat)] rfl rfl HC1b.out (by intro u hu; rw [List.mem_singleton.1 hu]; rfl) HC3.out.1 HC3.out.2 HC5b.out (by decide) ?_)
            intro v2 w8 r2 g2 mu2
            obtain ⟨a2, cp2, cur2, rfl, _⟩ := ownsRow_some r2 (by omega)
            have UB := Upd.grown (HUA.out.alloc (.cells #[.int .i64 (n : Nat)] 3)) g2 (fun k hk => .inl (.inr hk))
            have al6 := ((Below.refl w6.heap.size w6).alloc (Nat.le_refl _) (.cells #[.int .i64 (x : Nat)] 3)).size
            have al7 := ((Below.refl w7.heap.size w7).alloc (Nat.le_refl _) (.cells #[.int .i64 (n : Nat)] 3)).size
            have M1 : MovedUp w6 (.slice aao la acap) (.slice (some ⟨a1, 0, none⟩) (la + 1) cp1) := HMU1.out.imp id (fun h g hg => Nat.le_trans al6 (h g hg))
            have M2 : MovedUp w7 (.slice mao la mcap) (.slice (some ⟨a2, 0, none⟩) (la + 1) cp2) := mu2.imp id (fun h g hg => Nat.le_trans al7 (h g hg))
            have R18 : w8.ownsRow w3.heap.size 3 1 (.slice (some ⟨a1, 0, none⟩) (la + 1) cp1) (la + 1) (ints (A.map (·.1)) ++ [.int .i64 (x : Nat)]) := owns_kept (HR1.out.alloc (.cells #[.int .i64 (n : Nat)] 3)) (fun q hq => g2.block q (Nat.lt_of_lt_of_le (HL1.out q hq) al7) (fun e => by
              rcases HMU1.out with h | h
              · rw [h] at hq; exact HR6.out.ne q hq e.symm
              · have h2 := h q hq; have h3 := (HR6.out.rm.lt q e.symm).2; omega))
            have hl2 : (A ++ [(x, n)]).length = la + 1 := by rw [List.length_append, HLA.out]; rfl
            have hi1 : ints ((A ++ [(x, n)]).map (·.1)) = ints (A.map (·.1)) ++ [.int .i64 (x : Nat)] := by unfold ints; simp
            have hi2 : ints ((A ++ [(x, n)]).map (·.2)) = ints (A.map (·.2)) ++ [.int .i64 (n : Nat)] := by unfold ints; simp
            have RQ := rows_appended (A2 := A ++ [(x, n)]) HA6.out HR6.out UB HUA.out.size HL1.out M1 M2 (by rw [hl2, hi1]; exact R18) (by rw [hl2, hi2]; exact r2)
            have HRQ := Lib.hid RQ; have HL2 := Lib.hid hl2
            clear RQ hl2 hi1 hi2 R18 M1 M2 al6 al7 UB mu2 g2 r2 HR1 HMU1 HL1 HUA HRMa HC1 HC1b HC5 HC5b RA
            obtain ⟨V1, hV1⟩ : ∃ V1, (Value.slice (some ⟨a1, 0, none⟩) (la + 1) cp1) = V1 := ⟨_, rfl⟩
            obtain ⟨V2, hV2⟩ : ∃ V2, (Value.slice (some ⟨a2, 0, none⟩) (la + 1) cp2) = V2 := ⟨_, rfl⟩
            rw [hV1, hV2] at HRQ
            go_wp2_with fail
            rw [hV1, hV2]
            clear hV1 hV2
            go_loopw [15] (fun t15 wr => ∃ (k : Nat) (bs2 : List Blk), t15 = .int .i64 (k : Nat) ∧ k ≤ n ∧ ArR (RR V1 V2) w3 wr p m bs2 ∧ KRows w3.heap.size wr V1 V2 (A ++ [(x, n)]) ∧ KeepB bs2 A x n k) (fun t15 _ => n - (intOf t15).toNat)
            case atStart => exact ⟨0, _, rfl, Nat.zero_le _, HRQ.out.1, HRQ.out.2, HKB.out⟩
            case round =>
              obtain ⟨k, bs2, rfl, hk, hA9, hR9, hK9⟩ := hrel
              have HA9 := Lib.hid hA9; have HR9 := Lib.hid hR9; have HK9 := Lib.hid hK9
              clear hA9 hR9 hK9
              by_cases h4 : k < n
              · have h4' : (k : Int) < n := by omega
                obtain ⟨hget, bs3, hset, hK3⟩ := HK9.out.step HA9.out.wf.span h4
                obtain ⟨bb, hbb, _, hba, hbn, _⟩ := HK9.out.new
                have hxb : x ≤ 302 := by
                  have := (HA9.out.wf.span.mem bb hbb).2.2
                  have he : endOf m ≤ m + 1 := by unfold endOf; split <;> omega
                  have := HM.out; omega
                obtain ⟨sv, hsv⟩ : ∃ sv : Nat, 1000 * x + k = sv := ⟨_, rfl⟩
                have hsvI : (1000 : Int) * x + k = sv := by omega
                rw [hsv] at hset
                have hsvb : sv < 1000000 := by have := HNR.out; omega
                have hkn := HNR.out.2.1
                have hV : (sv : Int) = IntKind.u64.wrap (wrap64 (wrap64 (1000 * (x : Int)) + (k : Int))) := by
                  rw [show wrap64 (1000 * (x : Int)) = 1000 * (x : Int) from by unfold wrap64; omega, show wrap64 (1000 * (x : Int) + (k : Int)) = 1000 * (x : Int) + (k : Int) from by unfold wrap64; omega, wrap_u64_in (by omega) (by omega)]; omega
                have HV := Lib.hid hV
                have HG := Lib.hid hget; have HS := Lib.hid hset; have HK3 := Lib.hid hK3; have HXB := Lib.hid hxb; have HSV := Lib.hid hsvI; have HSVb := Lib.hid hsvb
                clear hget hset hK3 hxb hsv hsvI hsvb hbb hba hbn hV hkn
                go_wp2_with fail
                refine (Get_r HA9.out HG.out 0 rfl (by omega) (by have := HXB.out; omega)).mono ?_
                rintro e w10 ⟨rfl, rfl⟩
                go_wp2_with fail
                refine (Set_r HA9.out HR9.out.lt HS.out _ HV.out (by omega) (by have := HXB.out; omega) (by have := HSVb.out; omega)).mono ?_
                rintro e w11 ⟨rfl, A11, K11⟩
                have HA11 := Lib.hid A11; have HR11 := Lib.hid (HR9.out.kept K11); have HKN := Lib.hid (show k + 1 ≤ n by omega)
                have hk1 : (k : Int) < 1000 := by have := HNR.out; omega
                clear A11 K11
                go_wp2_with fail
                go_roundw
                case rel => exact ⟨k + 1, bs3, rfl, HKN.out, HA11.out, HR11.out, HK3.out⟩
                case measure => simp only [intOf]; omega
              · have h4' : ¬ (k : Int) < n := by omega
                obtain rfl : k = n := by omega
                go_wp2_with fail
                go_meet
                case rel => exact ⟨A ++ [(x, k)], bs2, by rw [HL2.out]; omega, ⟨HA9.out, HR9.out, HK9.out.done⟩⟩
      case rest =>
        obtain ⟨A2, bs2, hA2, hK2⟩ := hcut
        clear HA6 HR6 HCASE HER
        obtain ⟨bao, bcap, hva, _⟩ := ownsRow_form hK2.rows.ra
        obtain ⟨nao, ncap, hvm, _⟩ := ownsRow_form hK2.rows.rm
        obtain ⟨lb, hlb⟩ : ∃ lb, A2.length = lb := ⟨_, rfl⟩
        rw [hlb] at hva hvm hA2
        subst hva hvm
        have HK2 := Lib.hid hK2; have HLB := Lib.hid hlb; have HA2 := Lib.hid hA2
        clear hK2 hlb hA2
        go_upto_region 27 with fail
        go_cut [129] from 44 to 245 (fun s129 wx => wx = wc ∧ ∃ d : Bool, s129 = .bool d ∧ (d = true → i < nf ∧ 0 < lb ∧ 0 ≤ fl.getD i 0))
        case first =>
          as_aux_lemma =>
            by_cases f1 : i < nf
            · have f1' : (i : Int) < nf := by omega
              obtain ⟨fb, foff, rfl, hfb, hfc⟩ := cells_int (HCF3.out.below HK2.out.ar.below) (i := i) (by rw [HNF.out]; exact f1)
              obtain ⟨y, hy⟩ : ∃ y, fl.getD i 0 = y := ⟨_, rfl⟩
              rw [hy] at hfc
              have HY := Lib.hid hy
              clear hfb hy
              by_cases f2 : 0 < lb
              · have f2' : (0 : Int) < lb := by omega
                by_cases f3 : 0 ≤ y
                · go_wp2_with fail
                  go_meet
                  case rel => exact ⟨rfl, true, rfl, fun _ => ⟨f1, f2, by rw [HY.out]; exact f3⟩⟩
                · go_wp2_with fail
                  go_meet
                  case rel => exact ⟨rfl, false, rfl, fun h => nomatch h⟩
              · have f2' : ¬ (0 : Int) < lb := by omega
                go_wp2_with fail
                go_meet
                case rel => exact ⟨rfl, false, rfl, fun h => nomatch h⟩
            · have f1' : ¬ (i : Int) < nf := by omega
              go_wp2_with fail
              go_meet
              case rel => exact ⟨rfl, false, rfl, fun h => nomatch h⟩
        case rest =>
          obtain ⟨rfl, d, rfl, hd⟩ := hcut
          have HD := Lib.hid hd
          clear hd
          go_upto_if 129 with fail
          go_cut [8, 9, 18] from 44 to 245 (fun s8 s9 _ wx => ∃ (A3 : List (Nat × Nat)) (bs3 : List Blk), A3.length ≤ i + 1 ∧ KS w3 wx p m bs3 A3 s8 s9)
          case first =>
            cases d
            · go_wp2_with fail
              go_meet
              case rel => exact ⟨A2, _, by rw [HLB.out]; exact HA2.out, HK2.out⟩
            · have hf := HD.out rfl
              obtain ⟨f1, f2, f3⟩ := hf
              obtain ⟨fb, foff, rfl, hfb, hfc⟩ := cells_int (HCF3.out.below HK2.out.ar.below) (i := i) (by rw [HNF.out]; exact f1)
              obtain ⟨y, hy⟩ : ∃ y, fl.getD i 0 = y := ⟨_, rfl⟩
              rw [hy] at hfc f3
              obtain ⟨g, ca1, cur1, e1, _, lc1, _, _⟩ := ownsRow_some HK2.out.rows.ra (by rw [HLB.out]; omega)
              obtain ⟨g', ca2, cur2, e2, _, lc2, _, _⟩ := ownsRow_some HK2.out.rows.rm (by rw [HLB.out]; omega)
              simp only [Value.slice.injEq] at e1 e2
              obtain ⟨rfl, e1, rfl⟩ := e1
              obtain ⟨rfl, e2, rfl⟩ := e2
              rw [HLB.out] at lc1 lc2
              have HLC := Lib.hid (And.intro lc1 lc2)
              clear e1 e2 lc1 lc2
              obtain ⟨kk, hkk⟩ : ∃ kk : Nat, y % (lb : Int) = (kk : Int) := ⟨(y % lb).toNat, by have := Int.emod_nonneg y (show (lb : Int) ≠ 0 by omega); omega⟩
              have hkl : kk < lb := by have := Int.emod_lt_of_pos y (show (0 : Int) < lb by omega); omega
              have hsplit : ∃ pre pr post, A2 = pre ++ pr :: post ∧ pre.length = kk := ⟨A2.take kk, A2[kk]'(by rw [HLB.out]; exact hkl), A2.drop (kk + 1), by simp, by rw [List.length_take, HLB.out]; omega⟩
              obtain ⟨pre, pr, post, hA, hpl⟩ := hsplit
              obtain ⟨px, pn⟩ := pr
              have hpo : kk + 1 + post.length = lb := by have := HLB.out; rw [hA, List.length_append, List.length_cons] at this; omega
              have hspan : ∃ t, Span 1 bs2 t := ⟨_, HK2.out.ar.wf.span⟩
              obtain ⟨t2, hspan⟩ := hspan
              have hfree := HK2.out.keep.free hspan hA
              have hpx : px ≤ 302 := by
                obtain ⟨b, hb, _, hba, _⟩ := HK2.out.keep.told (px, pn) (by rw [hA]; simp)
                have h1 := (HK2.out.ar.wf.span.mem b hb).2.2
                have he : endOf m ≤ m + 1 := by unfold endOf; split <;> omega
                have := HM.out
                dsimp only at hba; omega
              have hpc : wc.cell? ⟨g, kk, none⟩ = some (.int .i64 (px : Nat)) := by
                have := HK2.out.rows.ra.cells (g := g) rfl kk (.int .i64 (px : Nat)) (by rw [hA]; unfold ints; simp [List.getElem?_append_right, hpl])
                rw [Addr.add_lit, Nat.zero_add] at this; exact this
              have HF1 := Lib.hid hfree.1; have HF2 := Lib.hid hfree.2.1; have HF3 := Lib.hid hfree.2.2; have HA := Lib.hid hA; have HPL := Lib.hid hpl; have HPO := Lib.hid hpo; have HPX := Lib.hid hpx; have HPC := Lib.hid hpc
              have f1' : (i : Int) < nf := by omega
              have f2' : (0 : Int) < lb := by omega
              have hkl' : (kk : Int) < lb := by omega
              clear hfb hy hspan hfree hA hpl hpo hpx
              go_wp2_with fail
              refine (Free_r HK2.out.ar HK2.out.rows.lt HF1.out (by omega) (by have := HPX.out; omega)).mono ?_
              rintro e w13 ⟨rfl, A13, K13⟩
              have hpc13 := K13.cell HPC.out (.inl rfl)
              have HA13 := Lib.hid A13; have HR13 := Lib.hid (HK2.out.rows.kept K13)
              clear A13 K13 hpc
              go_wp2_with fail
              refine (Free_r HA13.out HR13.out.lt HF2.out (by omega) (by have := HPX.out; omega)).mono ?_
              rintro e w14 ⟨rfl, A14, K14⟩
              have HA14 := Lib.hid A14; have HR14 := Lib.hid (HR13.out.kept K14)
              clear A14 K14 hpc13 HPC
              -- the free block is taken out of both rows
              obtain ⟨kk1, hkk1⟩ : ∃ kk1 : Nat, kk + 1 = kk1 := ⟨_, rfl⟩
              have hw1 : IntKind.i64.wrap ((kk : Int) + 1) = (kk1 : Int) := by rw [IntWalk.i64_in _ (by have := HM.out; have := HA2.out; omega)]; omega
              have HJ := Pair.start w14 3 1 (Below.refl w14.heap.size w14)
              have hl1 : (ints (pre.map (·.1))).length = kk := by unfold ints; simp; exact HPL.out
              have hl2 : (ints (post.map (·.1))).length = lb - kk1 := by unfold ints; simp; have := HPO.out; omega
              have hl3 : (ints (pre.map (·.2))).length = kk := by unfold ints; simp; exact HPL.out
              have hl4 : (ints (post.map (·.2))).length = lb - kk1 := by unfold ints; simp; have := HPO.out; omega
              have lc1 := HLC.out.1; have lc2 := HLC.out.2
              obtain ⟨ada, ca, hsa, hda⟩ := sl_back ⟨g, 0, none⟩ lb bcap kk1 (by omega) lc1
              obtain ⟨adb, cb, hsb, hdb⟩ := sl_back ⟨g', 0, none⟩ lb ncap kk1 (by omega) lc2
              have hfa := fun w => sl_front w ⟨g, 0, none⟩ lb bcap kk (by omega)
              have hfb := fun w => sl_front w ⟨g', 0, none⟩ lb ncap kk (by omega)
              have hra := HR14.out.ra.cells (g := g) rfl
              have hrm := HR14.out.rm.cells (g := g') rfl
              rw [HA.out] at hra hrm
              have ei1 : ints ((pre ++ (px, pn) :: post).map (·.1)) = (ints (pre.map (·.1)) ++ [.int .i64 (px : Nat)]) ++ ints (post.map (·.1)) := by unfold ints; simp
              have ei2 : ints ((pre ++ (px, pn) :: post).map (·.2)) = (ints (pre.map (·.2)) ++ [.int .i64 (pn : Nat)]) ++ ints (post.map (·.2)) := by unfold ints; simp
              rw [ei1] at hra
              rw [ei2] at hrm
              have NA1 := Lib.hid (cells_front (cells_front hra)); have NB1 := Lib.hid (cells_front (cells_front hrm))
              have NA2 := Lib.hid (cells_back hra (k := kk1) (by rw [List.length_append, hl1]; exact hkk1) hl2 hda)
              have NB2 := Lib.hid (cells_back hrm (k := kk1) (by rw [List.length_append, hl3]; exact hkk1) hl4 hdb)
              have HL1 := Lib.hid (show (ints (pre.map (·.1))).length = kk * 1 by rw [hl1, Nat.mul_one]); have HL2 := Lib.hid (show (ints (post.map (·.1))).length = (lb - kk1) * 1 by rw [hl2, Nat.mul_one])
              have HL3 := Lib.hid (show (ints (pre.map (·.2))).length = kk * 1 by rw [hl3, Nat.mul_one]); have HL4 := Lib.hid (show (ints (post.map (·.2))).length = (lb - kk1) * 1 by rw [hl4, Nat.mul_one])
              have HB1 := Lib.hid (show 0 + kk ≤ maxLen ∧ (0 + kk) * 8 ≤ 140737488355328 by have := HM.out; have := HA2.out; unfold maxLen; omega)
              have HB2 := Lib.hid (show 0 + kk + (lb - kk1) ≤ maxLen ∧ (0 + kk + (lb - kk1)) * 8 ≤ 140737488355328 by have := HM.out; have := HA2.out; unfold maxLen; omega)
              have HKK1 := Lib.hid hkk1; have HB3x := Lib.hid (show kk + (lb - kk1) ≤ maxLen ∧ (kk + (lb - kk1)) * 8 ≤ 140737488355328 by have := HM.out; have := HA2.out; unfold maxLen; omega)
              clear hl1 hl2 hl3 hl4 lc1 lc2 hda hdb hra hrm ei1 ei2 hkk1
              go_wp2_with fail
              have hzb := fun (w : World) => (show (Instr.buildSlice 22 0 #[]).run Try.prog w = .ok (.slice (some ⟨w.heap.size, 0, none⟩) 0 0) (w.alloc (.cells #[] 3)) from by kernel_rfl)
              refine wp_frame (S := fun b => b.tmps[8]? = some (.slice (some ⟨g, 0, none⟩) lb bcap) ∧ b.tmps[9]? = some (.slice (some ⟨g', 0, none⟩) lb ncap) ∧ b.tmps[18]? = some (.int .i64 (kk : Nat)) ∧ 172 < b.tmps.size)
                (T := fun b a wx => ∃ v1 v2, Pair w14 3 1 wx (kk + (lb - kk1)) v1 ((ints (pre.map (·.1))) ++ (ints (post.map (·.1)))) (kk + (lb - kk1)) v2 ((ints (pre.map (·.2))) ++ (ints (post.map (·.2)))) ∧ a.tmps.getD 8 undef = v1 ∧ a.tmps.getD 9 undef = v2 ∧ Ag [8, 9, 153, 154, 155, 156, 157, 158, 159, 160, 161, 162, 163, 164, 165, 166, 167, 168, 169, 170, 171, 172] b a) (fun c a a' w e h => by obtain ⟨t, d⟩ := a; obtain ⟨t', d'⟩ := a'; dsimp only at e; subst e; exact h) ⟨rfl, rfl, rfl, by simp⟩ ?_ ?_
              · rintro Q' b ⟨h8, h9, h18, hbs⟩ hpan hT
                refine wp_region_any (by kernel_rfl) ?_
                have hsz : ∀ n, n ≤ 172 → n < b.tmps.size := fun n hn => by omega
                obtain ⟨_, h8'⟩ := Array.getElem?_eq_some_iff.1 h8
                obtain ⟨_, h9'⟩ := Array.getElem?_eq_some_iff.1 h9
                obtain ⟨_, h18'⟩ := Array.getElem?_eq_some_iff.1 h18
                refine wpAny_take (i := 1) (v := .slice (some ⟨g, 0, none⟩) lb bcap) rfl (by kernel_rfl) (by kernel_rfl) (by kernel_rfl) (fun c a w h => hpan c (a.put _ _) a w (aput_defers a _ _) h) (Or.inl ⟨by rfl, fun w => ?_⟩) ?_
                · first | (simp [execOp, Act.eval, Act.put, Array.getElem?_setIfInBounds, h8', h9', h18', hsz, Result.andThen]; done) | (simp [execOp, Act.eval, Act.put, Array.getElem?_setIfInBounds, h8', h9', h18', hsz]; go_simp)
                refine wpAny_take (i := 2) (v := .int .i64 (kk : Nat)) rfl (by kernel_rfl) (by kernel_rfl) (by kernel_rfl) (fun c a w h => hpan c (a.put _ _) a w (aput_defers a _ _) h) (Or.inl ⟨by rfl, fun w => ?_⟩) ?_
                · first | (simp [execOp, Act.eval, Act.put, Array.getElem?_setIfInBounds, h8', h9', h18', hsz, Result.andThen]; done) | (simp [execOp, Act.eval, Act.put, Array.getElem?_setIfInBounds, h8', h9', h18', hsz]; go_simp)
                refine wpAny_take (i := 3) (v := .slice (some ⟨g, 0, none⟩) kk bcap) rfl (by kernel_rfl) (by kernel_rfl) (by kernel_rfl) (fun c a w h => hpan c (a.put _ _) a w (aput_defers a _ _) h) (Or.inl ⟨by rfl, fun w => ?_⟩) ?_
                · first | (simp [execOp, Act.eval, Act.put, Array.getElem?_setIfInBounds, h8', h9', h18', hsz, Result.andThen]; done) | (simp [execOp, Act.eval, Act.put, Array.getElem?_setIfInBounds, h8', h9', h18', hsz]; go_simp)
                refine wpAny_take (i := 5) (v := .slice (some ⟨g, 0, none⟩) lb bcap) rfl (by kernel_rfl) (by kernel_rfl) (by kernel_rfl) (fun c a w h => hpan c (a.put _ _) a w (aput_defers a _ _) h) (Or.inl ⟨by rfl, fun w => ?_⟩) ?_
                · first | (simp [execOp, Act.eval, Act.put, Array.getElem?_setIfInBounds, h8', h9', h18', hsz, Result.andThen]; done) | (simp [execOp, Act.eval, Act.put, Array.getElem?_setIfInBounds, h8', h9', h18', hsz]; go_simp)
                refine wpAny_take (i := 6) (v := .int .i64 (kk : Nat)) rfl (by kernel_rfl) (by kernel_rfl) (by kernel_rfl) (fun c a w h => hpan c (a.put _ _) a w (aput_defers a _ _) h) (Or.inl ⟨by rfl, fun w => ?_⟩) ?_
                · first | (simp [execOp, Act.eval, Act.put, Array.getElem?_setIfInBounds, h8', h9', h18', hsz, Result.andThen]; done) | (simp [execOp, Act.eval, Act.put, Array.getElem?_setIfInBounds, h8', h9', h18', hsz]; go_simp)
                refine wpAny_take (i := 7) (v := .int .i64 (kk1 : Nat)) rfl (by kernel_rfl) (by kernel_rfl) (by kernel_rfl) (fun c a w h => hpan c (a.put _ _) a w (aput_defers a _ _) h) (Or.inl ⟨by rfl, fun w => ?_⟩) ?_
                · first | (simp [execOp, Act.eval, Act.put, Array.getElem?_setIfInBounds, h8', h9', h18', hsz, Result.andThen]; done) | (simp [execOp, Act.eval, Act.put, Array.getElem?_setIfInBounds, h8', h9', h18', hsz]; go_simp)
                refine wpAny_take (i := 8) (v := .slice (some ada) (lb - kk1) ca) rfl (by kernel_rfl) (by kernel_rfl) (by kernel_rfl) (fun c a w h => hpan c (a.put _ _) a w (aput_defers a _ _) h) (Or.inl ⟨by rfl, fun w => ?_⟩) ?_
                · first | (simp [execOp, Act.eval, Act.put, Array.getElem?_setIfInBounds, h8', h9', h18', hsz, Result.andThen]; done) | (simp [execOp, Act.eval, Act.put, Array.getElem?_setIfInBounds, h8', h9', h18', hsz]; go_simp)
                refine wpAny_take (i := 11) (v := .slice (some ⟨g', 0, none⟩) lb ncap) rfl (by kernel_rfl) (by kernel_rfl) (by kernel_rfl) (fun c a w h => hpan c (a.put _ _) a w (aput_defers a _ _) h) (Or.inl ⟨by rfl, fun w => ?_⟩) ?_
                · first | (simp [execOp, Act.eval, Act.put, Array.getElem?_setIfInBounds, h8', h9', h18', hsz, Result.andThen]; done) | (simp [execOp, Act.eval, Act.put, Array.getElem?_setIfInBounds, h8', h9', h18', hsz]; go_simp)
                refine wpAny_take (i := 12) (v := .int .i64 (kk : Nat)) rfl (by kernel_rfl) (by kernel_rfl) (by kernel_rfl) (fun c a w h => hpan c (a.put _ _) a w (aput_defers a _ _) h) (Or.inl ⟨by rfl, fun w => ?_⟩) ?_
                · first | (simp [execOp, Act.eval, Act.put, Array.getElem?_setIfInBounds, h8', h9', h18', hsz, Result.andThen]; done) | (simp [execOp, Act.eval, Act.put, Array.getElem?_setIfInBounds, h8', h9', h18', hsz]; go_simp)
                refine wpAny_take (i := 13) (v := .slice (some ⟨g', 0, none⟩) kk ncap) rfl (by kernel_rfl) (by kernel_rfl) (by kernel_rfl) (fun c a w h => hpan c (a.put _ _) a w (aput_defers a _ _) h) (Or.inl ⟨by rfl, fun w => ?_⟩) ?_
                · first | (simp [execOp, Act.eval, Act.put, Array.getElem?_setIfInBounds, h8', h9', h18', hsz, Result.andThen]; done) | (simp [execOp, Act.eval, Act.put, Array.getElem?_setIfInBounds, h8', h9', h18', hsz]; go_simp)
                refine wpAny_take (i := 15) (v := .slice (some ⟨g', 0, none⟩) lb ncap) rfl (by kernel_rfl) (by kernel_rfl) (by kernel_rfl) (fun c a w h => hpan c (a.put _ _) a w (aput_defers a _ _) h) (Or.inl ⟨by rfl, fun w => ?_⟩) ?_
                · first | (simp [execOp, Act.eval, Act.put, Array.getElem?_setIfInBounds, h8', h9', h18', hsz, Result.andThen]; done) | (simp [execOp, Act.eval, Act.put, Array.getElem?_setIfInBounds, h8', h9', h18', hsz]; go_simp)
                refine wpAny_take (i := 16) (v := .int .i64 (kk : Nat)) rfl (by kernel_rfl) (by kernel_rfl) (by kernel_rfl) (fun c a w h => hpan c (a.put _ _) a w (aput_defers a _ _) h) (Or.inl ⟨by rfl, fun w => ?_⟩) ?_
                · first | (simp [execOp, Act.eval, Act.put, Array.getElem?_setIfInBounds, h8', h9', h18', hsz, Result.andThen]; done) | (simp [execOp, Act.eval, Act.put, Array.getElem?_setIfInBounds, h8', h9', h18', hsz]; go_simp)
                refine wpAny_take (i := 17) (v := .int .i64 (kk1 : Nat)) rfl (by kernel_rfl) (by kernel_rfl) (by kernel_rfl) (fun c a w h => hpan c (a.put _ _) a w (aput_defers a _ _) h) (Or.inl ⟨by rfl, fun w => ?_⟩) ?_
                · first | (simp [execOp, Act.eval, Act.put, Array.getElem?_setIfInBounds, h8', h9', h18', hsz, Result.andThen]; done) | (simp [execOp, Act.eval, Act.put, Array.getElem?_setIfInBounds, h8', h9', h18', hsz]; go_simp)
                refine wpAny_take (i := 18) (v := .slice (some adb) (lb - kk1) cb) rfl (by kernel_rfl) (by kernel_rfl) (by kernel_rfl) (fun c a w h => hpan c (a.put _ _) a w (aput_defers a _ _) h) (Or.inl ⟨by rfl, fun w => ?_⟩) ?_
                · first | (simp [execOp, Act.eval, Act.put, Array.getElem?_setIfInBounds, h8', h9', h18', hsz, Result.andThen]; done) | (simp [execOp, Act.eval, Act.put, Array.getElem?_setIfInBounds, h8', h9', h18', hsz]; go_simp)
                refine wpAny_at (l' := ((fun p q => (Array.range 22).map fun i => [1, 2, 3, 5, 6, 7, 8, 11, 12, 13, 15, 16, 17, 18].contains i || (i == 0 && Nat.ble 1 p) || (i == 4 && Nat.ble 2 p) || (i == 9 && Nat.ble 3 p) || (i == 10 && Nat.ble 1 q) || (i == 14 && Nat.ble 2 q) || (i == 19 && Nat.ble 3 q)) : Nat → Nat → Array Bool) 0 0) (by kernel_rfl) ?_
                refine two_appends (g := 2) (t := 22) (e := 3) (c1 := fun p => [0, 4, 9].getD p 0) (c2 := fun p => [10, 14, 19].getD p 0) (d1 := 153) (d2 := 157) (d3 := 162) (e1 := 156) (e2 := 161) (f1 := 163) (f2 := 167) (f3 := 172) (g1 := 166) (g2 := 171) (L := (fun p q => (Array.range 22).map fun i => [1, 2, 3, 5, 6, 7, 8, 11, 12, 13, 15, 16, 17, 18].contains i || (i == 0 && Nat.ble 1 p) || (i == 4 && Nat.ble 2 p) || (i == 9 && Nat.ble 3 p) || (i == 10 && Nat.ble 1 q) || (i == 14 && Nat.ble 2 q) || (i == 19 && Nat.ble 3 q)))
                  ⟨⟨_, rfl, rfl, rfl, rfl⟩, ⟨_, rfl, rfl, rfl, rfl⟩, ⟨_, rfl, rfl, rfl, rfl⟩⟩ ⟨⟨_, rfl, rfl, rfl, rfl⟩, ⟨_, rfl, rfl, rfl, rfl⟩, ⟨_, rfl, rfl, rfl, rfl⟩⟩ (by decide +kernel) (by decide +kernel) (by decide +kernel) (by decide +kernel)
                  i0 _ Try.underlying22 Hi.out Hz0.out Hz1.out Hz2.out rfl hzb (Below.refl _ _).drew (by decide) (fun d hd => by simp only [aput_sizes]; exact hsz d ((show ∀ x ∈ [153, 157, 162, 163, 167, 172], x ≤ 172 from by decide) d hd))
                  (X1 := ints (pre.map (·.1))) (Y1 := ints (post.map (·.1))) (X2 := ints (pre.map (·.2))) (Y2 := ints (post.map (·.2))) (k1 := kk) (m1 := lb - kk1) (k2 := kk) (m2 := lb - kk1)
                  (A1 := ⟨g, 0, none⟩) (A2 := ada) (B1 := ⟨g', 0, none⟩) (B2 := adb) (z1 := bcap) (z2 := ca) (z3 := ncap) (z4 := cb)
                  ⟨by simp [Act.put, Array.getElem?_setIfInBounds, hsz], by simp [Act.put, Array.getElem?_setIfInBounds, hsz], HL1.out, HL2.out, NA1.out, NA2.out, one_ints _, one_ints _, HB3x.out.1, HB3x.out.2⟩
                  ⟨by simp [Act.put, Array.getElem?_setIfInBounds, hsz], by simp [Act.put, Array.getElem?_setIfInBounds, hsz], HL3.out, HL4.out, NB1.out, NB2.out, one_ints _, one_ints _, HB3x.out.1, HB3x.out.2⟩ ?_
                intro a wx v1 v2 J ha1 ha2 hag
                have hag2 : Ag [8, 9, 153, 154, 155, 156, 157, 158, 159, 160, 161, 162, 163, 164, 165, 166, 167, 168, 169, 170, 171, 172] b a := (((((((((((((((Ag.refl _ b).put (d := 154) (by simp) _).put (d := 155) (by simp) _).put (d := 156) (by simp) _).put (d := 158) (by simp) _).put (d := 159) (by simp) _).put (d := 160) (by simp) _).put (d := 161) (by simp) _).put (d := 164) (by simp) _).put (d := 165) (by simp) _).put (d := 166) (by simp) _).put (d := 168) (by simp) _).put (d := 169) (by simp) _).put (d := 170) (by simp) _).put (d := 171) (by simp) _).trans (hag.mono (by decide))
                have hasz : 172 < a.tmps.size := by rw [hag2.size]; exact hbs
                refine wpAny_take (i := 20) (v := v1) rfl (by kernel_rfl) (by kernel_rfl) (by kernel_rfl) (fun c a w h => hpan c (a.put _ _) a w (aput_defers a _ _) h) (Or.inl ⟨by rfl, fun w => ?_⟩) ?_
                · simp [execOp, aeval_tmp ha1, Result.andThen]
                refine wpAny_take (i := 21) (v := v2) rfl (by kernel_rfl) (by kernel_rfl) (by kernel_rfl) (fun c a w h => hpan c (a.put _ _) a w (aput_defers a _ _) h) (Or.inl ⟨by rfl, fun w => ?_⟩) ?_
                · simp [execOp, aeval_tmp ((aput_off a (d := 8) (t := 172) (by decide) v1).trans ha2), Result.andThen]
                refine wpAny_done (by kernel_rfl) ?_ _
                refine hT _ _ ⟨v1, v2, J, ?_, ?_, (hag2.put (d := 8) (by simp) v1).put (d := 9) (by simp) v2⟩
                · show ((a.put (some 8) v1).put (some 9) v2).tmps.getD 8 undef = v1
                  rw [Array.getD_eq_getD_getElem?, aput_off _ (by decide), aput_at _ (by omega)]; rfl
                · show ((a.put (some 8) v1).put (some 9) v2).tmps.getD 9 undef = v2
                  rw [Array.getD_eq_getD_getElem?, aput_at _ (by rw [aput_size]; omega)]; rfl
              rintro a w15 ⟨v1, v2, J, e8, e9, hag⟩
              obtain ⟨y153, hy153⟩ : ∃ y, a.tmps.getD 153 undef = y := ⟨_, rfl⟩
              obtain ⟨y154, hy154⟩ : ∃ y, a.tmps.getD 154 undef = y := ⟨_, rfl⟩
              obtain ⟨y155, hy155⟩ : ∃ y, a.tmps.getD 155 undef = y := ⟨_, rfl⟩
              obtain ⟨y156, hy156⟩ : ∃ y, a.tmps.getD 156 undef = y := ⟨_, rfl⟩
              obtain ⟨y157, hy157⟩ : ∃ y, a.tmps.getD 157 undef = y := ⟨_, rfl⟩
              obtain ⟨y158, hy158⟩ : ∃ y, a.tmps.getD 158 undef = y := ⟨_, rfl⟩
              obtain ⟨y159, hy159⟩ : ∃ y, a.tmps.getD 159 undef = y := ⟨_, rfl⟩
              obtain ⟨y160, hy160⟩ : ∃ y, a.tmps.getD 160 undef = y := ⟨_, rfl⟩
              obtain ⟨y161, hy161⟩ : ∃ y, a.tmps.getD 161 undef = y := ⟨_, rfl⟩
              obtain ⟨y162, hy162⟩ : ∃ y, a.tmps.getD 162 undef = y := ⟨_, rfl⟩
              obtain ⟨y163, hy163⟩ : ∃ y, a.tmps.getD 163 undef = y := ⟨_, rfl⟩
              obtain ⟨y164, hy164⟩ : ∃ y, a.tmps.getD 164 undef = y := ⟨_, rfl⟩
              obtain ⟨y165, hy165⟩ : ∃ y, a.tmps.getD 165 undef = y := ⟨_, rfl⟩
              obtain ⟨y166, hy166⟩ : ∃ y, a.tmps.getD 166 undef = y := ⟨_, rfl⟩
              obtain ⟨y167, hy167⟩ : ∃ y, a.tmps.getD 167 undef = y := ⟨_, rfl⟩
              obtain ⟨y168, hy168⟩ : ∃ y, a.tmps.getD 168 undef = y := ⟨_, rfl⟩
              obtain ⟨y169, hy169⟩ : ∃ y, a.tmps.getD 169 undef = y := ⟨_, rfl⟩
              obtain ⟨y170, hy170⟩ : ∃ y, a.tmps.getD 170 undef = y := ⟨_, rfl⟩
              obtain ⟨y171, hy171⟩ : ∃ y, a.tmps.getD 171 undef = y := ⟨_, rfl⟩
              obtain ⟨y172, hy172⟩ : ∃ y, a.tmps.getD 172 undef = y := ⟨_, rfl⟩
              have ha := hag.act
              simp only [List.foldl_cons, List.foldl_nil, e8, e9, hy153, hy154, hy155, hy156, hy157, hy158, hy159, hy160, hy161, hy162, hy163, hy164, hy165, hy166, hy167, hy168, hy169, hy170, hy171, hy172, List.setIfInBounds_toArray, List.set_cons_zero, List.set_cons_succ] at ha
              rw [ha]
              have HJ := Lib.hid J
              clear ha hag e8 e9 J hy153 hy154 hy155 hy156 hy157 hy158 hy159 hy160 hy161 hy162 hy163 hy164 hy165 hy166 hy167 hy168 hy169 hy170 hy171 hy172
              clear a
              go_wp2_with fail
              go_meet
              case rel =>
                refine ⟨pre ++ post, _, ?_, KS.paired HA14.out HF3.out HJ.out ?_ ?_ ?_ ?_⟩
                · have := HPO.out; have := HPL.out; have := HA2.out; rw [List.length_append]; omega
                · have := HPO.out; have := HPL.out; have := HKK1.out; rw [List.length_append]; omega
                · have := HPO.out; have := HPL.out; have := HKK1.out; rw [List.length_append]; omega
                · unfold ints; simp
                · unfold ints; simp
          case rest =>
            obtain ⟨A3, bs3, hA3, hK3⟩ := hcut
            obtain ⟨ao3, cp3, hva3, _⟩ := ownsRow_form hK3.rows.ra
            obtain ⟨no3, nc3, hvm3, _⟩ := ownsRow_form hK3.rows.rm
            obtain ⟨lc, hlc⟩ : ∃ lc, A3.length = lc := ⟨_, rfl⟩
            rw [hlc] at hva3 hvm3 hA3
            subst hva3 hvm3
            have HK3 := Lib.hid hK3; have HLC := Lib.hid hlc; have HA3 := Lib.hid hA3
            clear hK3 hlc hA3 HK2 HD HLB HA2
            as_aux_lemma =>
              go_wp2
              go_loopw [19] (fun t19 wr => ∃ k : Nat, t19 = .int .i64 (k : Nat) ∧ k ≤ lc ∧ KS w3 wr p m bs3 A3 (.slice ao3 lc cp3) (.slice no3 lc nc3)) (fun t19 _ => lc - (intOf t19).toNat)
              case atStart => exact ⟨0, rfl, Nat.zero_le _, HK3.out⟩
              case round =>
                clear HK3
                obtain ⟨k, rfl, hk, hK4⟩ := hrel
                have HK4 := Lib.hid hK4; have HKL := Lib.hid hk
                clear hK4
                by_cases q1 : k < lc
                · have q1' : (k : Int) < lc := by omega
                  have HLB1 := Lib.hid (show lc ≤ 101 by have := HM.out; have := HA3.out; omega)
                  have q6' : (k : Int) < 1000 := by have := HLB1.out; omega
                  obtain ⟨g, ca1, cur1, e1, _, lc1, _, _⟩ := ownsRow_some HK4.out.rows.ra (by rw [HLC.out]; omega)
                  obtain ⟨g', ca2, cur2, e2, _, lc2, _, _⟩ := ownsRow_some HK4.out.rows.rm (by rw [HLC.out]; omega)
                  simp only [Value.slice.injEq] at e1 e2
                  obtain ⟨rfl, e1, rfl⟩ := e1
                  obtain ⟨rfl, e2, rfl⟩ := e2
                  clear e1 e2 lc1 lc2
                  obtain ⟨px, pn, hp⟩ : ∃ px pn, A3.getD k (0, 0) = (px, pn) := ⟨_, _, rfl⟩
                  have hmem : (px, pn) ∈ A3 := by rw [← hp]; exact getD_mem (by rw [HLC.out]; exact q1)
                  obtain ⟨b0, hb0, _, hba0, hbn0, _⟩ := HK4.out.keep.told _ hmem
                  have hsp := HK4.out.ar.wf.span
                  have hbd : px ≤ 302 ∧ pn ≤ 302 := by
                    have h1 := (hsp.mem b0 hb0).2.2
                    have he : endOf m ≤ m + 1 := by unfold endOf; split <;> omega
                    have := HM.out
                    dsimp only at hba0 hbn0; omega
                  obtain ⟨hcx, hcn⟩ := HK4.out.rows.pair (by rw [HLC.out]; exact q1) hp (by rw [HLC.out]) (by rw [HLC.out])
                  have HP := Lib.hid hp; have HMEM := Lib.hid hmem; have HBD := Lib.hid hbd
                  have HCX := Lib.hid hcx; have HCN := Lib.hid hcn
                  clear hp hmem hb0 hba0 hbn0 hsp hbd
                  go_wp2
                  go_loopw [20] (fun t20 wx => wr = wx ∧ ∃ j : Nat, t20 = .int .i64 (j : Nat) ∧ j ≤ pn) (fun t20 _ => pn - (intOf t20).toNat)
                  case atStart => exact ⟨rfl, 0, rfl, Nat.zero_le _⟩
                  case round =>
                    obtain ⟨rfl, j, rfl, hj⟩ := hrel
                    by_cases q2 : j < pn
                    · have q2' : (j : Int) < pn := by omega
                      have hg := HK4.out.keep.get HK4.out.ar.wf.span HMEM.out q2
                      obtain ⟨sv, hsv⟩ : ∃ sv : Nat, 1000 * px + j = sv := ⟨_, rfl⟩
                      dsimp only at hg
                      rw [hsv] at hg
                      have HG := Lib.hid hg
                      have hsvI : (1000 : Int) * px + j = sv := by omega
                      have hsvb : sv < 1000000 := by have := HBD.out; omega
                      have hj1 : (j : Int) < 1000 := by have := HBD.out; omega
                      have hx1 : (px : Int) < 1000 := by have := HBD.out; omega
                      have hV : IntKind.u64.wrap (wrap64 (wrap64 (1000 * (px : Int)) + (j : Int))) = (sv : Int) := by
                        rw [show wrap64 (1000 * (px : Int)) = 1000 * (px : Int) from by unfold wrap64; omega, show wrap64 (1000 * (px : Int) + (j : Int)) = 1000 * (px : Int) + (j : Int) from by unfold wrap64; omega, wrap_u64_in (by omega) (by omega)]; omega
                      have HJP := Lib.hid (show j + 1 ≤ pn from q2)
                      have hsne : ((sv : Int) != 1000 * (px : Int) + (j : Int)) = false := by rw [hsvI]; simp
                      clear hg hsvI hsvb hj hsv
                      go_wp2_with fail
                      refine (Get_r HK4.out.ar HG.out sv rfl (by omega) (by omega)).mono ?_
                      rintro e w10 ⟨rfl, rfl⟩
                      go_wp2_with fail
                      exact ⟨⟨trivial, j + 1, by go_num, HJP.out⟩, by simp only [intOf]; omega⟩
                    · have q2' : ¬ (j : Int) < pn := by omega
                      clear hj
                      go_wp2
                      go_loopw [23] (fun t23 wx => ∃ j2 : Nat, t23 = .int .i64 (j2 : Nat) ∧ j2 ≤ k ∧ KS w3 wx p m bs3 A3 (.slice (some ⟨g, 0, none⟩) lc cp3) (.slice (some ⟨g', 0, none⟩) lc nc3)) (fun t23 _ => k - (intOf t23).toNat)
                      case atStart => exact ⟨0, rfl, Nat.zero_le _, HK4.out⟩
                      case round =>
                        clear HK4 hcx hcn HCX HCN
                        obtain ⟨j2, rfl, hj2, hK5⟩ := hrel
                        by_cases q3 : j2 < k
                        · have q3' : (j2 : Int) < k := by omega
                          have q4' : (j2 : Int) < lc := by omega
                          have q5' : (j2 : Int) < 1000 := by have := HLB1.out; omega
                          obtain ⟨qx, qn, hq⟩ : ∃ qx qn, A3.getD j2 (0, 0) = (qx, qn) := ⟨_, _, rfl⟩
                          have hjl : j2 < A3.length := by rw [HLC.out]; omega
                          have hkl : k < A3.length := by rw [HLC.out]; omega
                          have hqm : (qx, qn) ∈ A3 := by rw [← hq]; exact getD_mem hjl
                          have hne : qx ≠ px := fun e => by
                            have := nodup_getD hK5.keep.nodup hjl hkl (by rw [hq, HP.out]; exact e)
                            omega
                          have hap := hK5.keep.apart hK5.ar.wf.span hqm HMEM.out hne
                          obtain ⟨b1, hb1, _, hba1, hbn1, _⟩ := hK5.keep.told _ hqm
                          have hbd1 : qx ≤ 302 ∧ qn ≤ 302 := by
                            have h1 := (hK5.ar.wf.span.mem b1 hb1).2.2
                            have he : endOf m ≤ m + 1 := by unfold endOf; split <;> omega
                            have := HM.out
                            dsimp only at hba1 hbn1; omega
                          have c1 := hK5.rows.pair hkl HP.out (by rw [HLC.out]) (by rw [HLC.out])
                          have c2 := hK5.rows.pair hjl hq (by rw [HLC.out]) (by rw [HLC.out])
                          obtain ⟨cx, cn⟩ := c1
                          obtain ⟨dx, dn⟩ := c2
                          dsimp only at hap
                          have z1 : (px : Int) ≤ 302 := by have := HBD.out; omega
                          have z2 : (pn : Int) ≤ 302 := by have := HBD.out; omega
                          have z3 : (qx : Int) ≤ 302 := by omega
                          have z4 : (qn : Int) ≤ 302 := by omega
                          have HK5 := Lib.hid hK5; have HJ2 := Lib.hid (show j2 + 1 ≤ k by omega)
                          clear hK5 hq hqm hne hb1 hba1 hbn1 hbd1 hjl hkl hj2
                          by_cases r1 : qx ≤ px + pn
                          · have r1' : decide ((qx : Int) ≤ (px : Int) + (pn : Int)) = true := decide_eq_true (by omega)
                            have r2' : decide ((px : Int) ≤ (qx : Int) + (qn : Int)) = false := decide_eq_false (by omega)
                            clear hap
                            go_wp2_with fail
                            go_quiet (fail)
                            go_wp2_with fail
                            go_roundw
                            case rel => exact ⟨j2 + 1, by go_num, HJ2.out, HK5.out.below (Upd.toBelow ((Upd.refl (fun _ => False) _).drewN _) (fun _ h => h))⟩
                            case measure => simp only [intOf]; omega
                          · have r1' : decide ((qx : Int) ≤ (px : Int) + (pn : Int)) = false := decide_eq_false (by omega)
                            clear hap
                            go_wp2_with fail
                            go_quiet (fail)
                            go_wp2_with fail
                            go_roundw
                            case rel => exact ⟨j2 + 1, by go_num, HJ2.out, HK5.out.below (Upd.toBelow ((Upd.refl (fun _ => False) _).drewN _) (fun _ h => h))⟩
                            case measure => simp only [intOf]; omega
                        · have q3' : ¬ (j2 : Int) < k := by omega
                          have HK5 := Lib.hid hK5; have HK1 := Lib.hid (show k + 1 ≤ lc by omega)
                          clear hK5 hj2
                          go_wp2_with fail
                          go_roundw
                          case rel => exact ⟨k + 1, by go_num, HK1.out, HK5.out⟩
                          case measure => simp only [intOf]; omega
                · have q1' : ¬ (k : Int) < lc := by omega
                  have HI1 := Lib.hid (show i + 1 ≤ ns by omega)
                  go_wp2_with fail
                  go_roundw
                  case rel => exact ⟨i + 1, A3, bs3, by go_num, HI1.out, by rw [HLC.out]; exact HA3.out, HK4.out⟩
                  case measure => simp only [intOf]; omega
    · have h1' : ¬ (i : Int) < ns := by omega
      as_aux_lemma =>
        obtain ⟨us, hus⟩ : ∃ us, usedSum bs = us := ⟨_, rfl⟩
        obtain ⟨rm, hrm⟩ : ∃ rm, roomOf bs = rm := ⟨_, rfl⟩
        have HUS2 := Lib.hid hus; have HRM := Lib.hid hrm
        clear hus hrm
        go_wp2_with fail
        refine (Used_n HK.out.ar.toN).mono ?_
        rintro e w5 ⟨rfl, rfl⟩
        rw [HUS2.out]
        go_wp2_with fail
        refine (Room_r HK.out.ar HK.out.rows.lt HRM.out rm rfl).mono ?_
        rintro e w6 ⟨rfl, A6, K6⟩
        have HA6 := Lib.hid A6; have HR6 := Lib.hid (HK.out.rows.kept K6); have HKA := Lib.hid HK.out.keep
        clear A6 K6 HK
        go_wp2
        go_loopw [26] (fun t26 wx => ∃ (k : Nat) (bs5 : List Blk), t26 = .int .i64 (k : Nat) ∧ k ≤ la ∧ ArR (RR (.slice aao la acap) (.slice mao la mcap)) w3 wx p m bs5 ∧ KRows w3.heap.size wx (.slice aao la acap) (.slice mao la mcap) A ∧ KeepM bs5 A k ∧ usedSum bs5 = us ∧ roomOf bs5 = rm) (fun t26 _ => la - (intOf t26).toNat)
        case atStart => exact ⟨0, _, rfl, Nat.zero_le _, HA6.out, HR6.out, HKA.out.marks, HUS2.out, HRM.out⟩
        case round =>
          clear HA6 HR6
          obtain ⟨k, bs5, rfl, hk, hA7, hR7, hK7, hu7, hr7⟩ := hrel
          have HA7 := Lib.hid hA7; have HR7 := Lib.hid hR7; have HK7 := Lib.hid hK7; have HU7 := Lib.hid hu7; have HR8 := Lib.hid hr7
          clear hA7 hR7 hK7 hu7 hr7
          by_cases q1 : k < la
          · have q1' : (k : Int) < la := by omega
            have q2' : (k : Int) < 1000 := by have := HM.out; omega
            obtain ⟨g, ca1, cur1, e1, _, lc1, _, _⟩ := ownsRow_some HR7.out.ra (by rw [HLA.out]; omega)
            obtain ⟨g', ca2, cur2, e2, _, lc2, _, _⟩ := ownsRow_some HR7.out.rm (by rw [HLA.out]; omega)
            simp only [Value.slice.injEq] at e1 e2
            obtain ⟨rfl, e1, rfl⟩ := e1
            obtain ⟨rfl, e2, rfl⟩ := e2
            clear e1 e2 lc1 lc2
            obtain ⟨px, pn, hp⟩ : ∃ px pn, A.getD k (0, 0) = (px, pn) := ⟨_, _, rfl⟩
            have hkl : k < A.length := by rw [HLA.out]; exact q1
            obtain ⟨hcx, _⟩ := HR7.out.pair hkl hp (by rw [HLA.out]) (by rw [HLA.out])
            obtain ⟨hs1, hs2⟩ := HK7.out.step HKA.out.nodup HA7.out.wf.span hkl
            obtain ⟨b0, hb0, _, hba0⟩ := HK7.out.told _ (getD_mem hkl)
            rw [hp] at hs1 hs2 hba0
            dsimp only at hs1 hs2 hba0
            have hbd : px ≤ 302 := by
              have h1 := (HA7.out.wf.span.mem b0 hb0).2.2
              have he : endOf m ≤ m + 1 := by unfold endOf; split <;> omega
              have := HM.out
              omega
            have HS1 := Lib.hid hs1; have HS2 := Lib.hid hs2; have HK1 := Lib.hid (show k + 1 ≤ la by omega); have HBD := Lib.hid hbd
            clear hs1 hs2 hb0 hba0 hp hkl hbd
            go_wp2_with fail
            refine (Mark_r HA7.out HR7.out.lt HS1.out (by omega) (by have := HBD.out; omega)).mono ?_
            rintro e w8 ⟨rfl, A8, K8⟩
            have HA8 := Lib.hid A8; have HR9 := Lib.hid (HR7.out.kept K8)
            clear A8 K8
            go_wp2_with fail
            go_roundw
            case rel => exact ⟨k + 1, _, by go_num, HK1.out, HA8.out, HR9.out, HS2.out, by rw [(markF_sums _ _).1]; exact HU7.out, by rw [(markF_sums _ _).2]; exact HR8.out⟩
            case measure => simp only [intOf]; omega
          · have q1' : ¬ (k : Int) < la := by omega
            obtain rfl : k = la := by omega
            have hend := keeps_end HA7.out.wf (by rw [HLA.out]; exact HK7.out)
            obtain ⟨bs6, hbs6⟩ : ∃ bs6, sweepF bs5 = bs6 := ⟨_, rfl⟩
            rw [hbs6, HU7.out, HR8.out] at hend
            have HEND := Lib.hid hend; have HB6 := Lib.hid hbs6
            clear hend hbs6
            go_wp2_with fail
            refine (Sweep_n HA7.out.toN).mono ?_
            rintro e w9 ⟨rfl, A9⟩
            rw [HB6.out] at A9 ⊢
            rw [HU7.out, HEND.out.1, Int.sub_self]
            have HA9 := Lib.hid A9
            clear A9
            go_wp2_with fail
            refine (Used_n HA9.out).mono ?_
            rintro e w10 ⟨rfl, rfl⟩
            rw [HEND.out.1]
            go_wp2_with fail
            refine (Room_n HA9.out).mono ?_
            rintro e w10 ⟨rfl, A10⟩
            rw [HEND.out.2.1]
            have HA10 := Lib.hid A10
            clear A10
            obtain ⟨bs7, hbs7⟩ : ∃ bs7, sweepF bs6 = bs7 := ⟨_, rfl⟩
            have hnone := sweep_none HEND.out.2.2
            rw [hbs7] at hnone
            have HNO := Lib.hid hnone; have HB7 := Lib.hid hbs7
            clear hnone hbs7
            go_wp2_with fail
            refine (Sweep_n HA10.out).mono ?_
            rintro e w11 ⟨rfl, A11⟩
            rw [HB7.out] at A11 ⊢
            have hz := keeps_free A11.wf.span A11.wf.two HNO.out
            obtain ⟨r7, hr7⟩ : ∃ r7, roomOf bs7 = r7 := ⟨_, rfl⟩
            rw [hr7] at hz
            rw [HEND.out.1, hz.1, show ((us : Int) - ((0 : Nat) : Int)) = us from by omega]
            have HZ := Lib.hid hz; have HA11 := Lib.hid A11; have HR7x := Lib.hid hr7
            clear hz A11 hr7
            go_wp2_with fail
            refine (Used_n HA11.out).mono ?_
            rintro e w12 ⟨rfl, rfl⟩
            rw [HZ.out.1]
            go_wp2_with fail
            refine (Cap_n HA11.out).mono ?_
            rintro e w12 ⟨rfl, rfl⟩
            by_cases s1 : m < 2
            · have s1' : decide ((m : Int) < 2) = true := decide_eq_true (by omega)
              have s1'' : (m : Int) < 2 := by omega
              go_wp2
              go_ret
              exact ⟨rfl, HB3.out.trans (HA11.out.below.mono HB3.out.size)⟩
            · have s1' : decide ((m : Int) < 2) = false := decide_eq_false (by omega)
              have s1'' : ¬ (m : Int) < 2 := by omega
              go_wp2_with fail
              refine (Room_n HA11.out).mono ?_
              rintro e w13 ⟨rfl, A13⟩
              rw [HR7x.out, HZ.out.2 (by omega)]
              have HA13 := Lib.hid A13
              clear A13
              go_wp2_with fail
              refine (Cap_n HA13.out).mono ?_
              rintro e w14 ⟨rfl, rfl⟩
              have hm1 : ((m - 1 : Nat) : Int) = (m : Int) - 1 := by omega
              rw [hm1]
              go_wp2
              go_ret
              exact ⟨rfl, HB3.out.trans (HA13.out.below.mono HB3.out.size)⟩
end Go.Proofs.Ytofoaheiblhpoaa
