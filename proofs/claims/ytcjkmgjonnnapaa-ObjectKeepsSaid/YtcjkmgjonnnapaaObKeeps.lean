/- package object: ObjectKeeps walked. -/
import Derived.Test.YtcjkmgjonnnapaaObWordsP
import Derived.Test.YtcjkmgjonnnapaaObOpen
import Derived.Laws.Bits64
import Derived.Deep.OwnRows
namespace Go.Proofs.Ytcjkmgjonnnapaa
/-- Two used blocks, and room behind them. -/
def tri (a c r : Nat) (W1 W2 : List Nat) : List Blk := [⟨1, W1, true, false⟩, ⟨a, W2, true, false⟩, Fb c r]
section
variable {a c r : Nat} {W1 W2 : List Nat} (ha : a = W1.length + 2) (hc : c = a + W2.length + 1) (h1 : 0 < W1.length) (h2 : 0 < W2.length) (hr : 0 < r)
include ha hc h1 h2 hr
theorem tri_span : Span 1 (tri a c r W1 W2) (c + r + 1) :=
  ⟨rfl, h1, show a = 1 + W1.length + 1 by omega, h2, show c = 1 + W1.length + 1 + W2.length + 1 by omega, by rw [Fb_n]; exact hr, by rw [Fb_n]; show 1 + W1.length + 1 + W2.length + 1 + r + 1 = c + r + 1; omega⟩
theorem tri_get1 {i : Nat} (hi : i < W1.length) : getF (tri a c r W1 W2) 1 i = (W1.getD i 0, 0) := by
  unfold getF
  rw [show (1 : Int) = ((⟨1, W1, true, false⟩ : Blk).a : Int) from rfl, blkAt_some (tri_span ha hc h1 h2 hr) (b := ⟨1, W1, true, false⟩) (by simp [tri]) rfl]
  dsimp only
  rw [if_pos ⟨by omega, by show (i : Int) < W1.length; omega⟩]; simp
theorem tri_get2 {i : Nat} (hi : i < W2.length) : getF (tri a c r W1 W2) (a : Int) i = (W2.getD i 0, 0) := by
  unfold getF
  rw [show (a : Int) = ((⟨a, W2, true, false⟩ : Blk).a : Int) from rfl, blkAt_some (tri_span ha hc h1 h2 hr) (b := ⟨a, W2, true, false⟩) (by simp [tri]) rfl]
  dsimp only
  rw [if_pos ⟨by omega, by show (i : Int) < W2.length; omega⟩]; simp
theorem tri_size : sizeF (tri a c r W1 W2) 1 = W1.length := by
  unfold sizeF
  rw [show (1 : Int) = ((⟨1, W1, true, false⟩ : Blk).a : Int) from rfl, blkAt_some (tri_span ha hc h1 h2 hr) (b := ⟨1, W1, true, false⟩) (by simp [tri]) rfl]
  rfl
theorem tri_set1 {i v : Nat} (hi : i < W1.length) : setF (tri a c r W1 W2) 1 i v = (0, tri a c r (W1.set i v) W2) := by
  unfold setF
  rw [show (1 : Int) = ((⟨1, W1, true, false⟩ : Blk).a : Int) from rfl, blkAt_some (tri_span ha hc h1 h2 hr) (b := ⟨1, W1, true, false⟩) (by simp [tri]) rfl]
  dsimp only
  rw [if_pos ⟨by omega, by show (i : Int) < W1.length; omega⟩]
  have hne : ¬ a = 1 := by omega
  have hne2 : ¬ c = 1 := by omega
  simp [tri, hne, hne2]
theorem tri_set2 {i v : Nat} (hi : i < W2.length) : setF (tri a c r W1 W2) (a : Int) i v = (0, tri a c r W1 (W2.set i v)) := by
  unfold setF
  rw [show (a : Int) = ((⟨a, W2, true, false⟩ : Blk).a : Int) from rfl, blkAt_some (tri_span ha hc h1 h2 hr) (b := ⟨a, W2, true, false⟩) (by simp [tri]) rfl]
  dsimp only
  rw [if_pos ⟨by omega, by show (i : Int) < W2.length; omega⟩]
  have hne : ¬ 1 = a := by omega
  have hne2 : ¬ c = a := by omega
  simp [tri, hne, hne2]
end
theorem take_split2 {W1 : List Nat} {r t n : Nat} (hs : Span 1 (oneB W1 r) t) (h1 : 1 ≤ n) (hr : n + 2 ≤ r) : takeF (oneB W1 r) n = (W1.length + 2, 0, tri (W1.length + 2) (W1.length + 2 + n + 1) (r - n - 1) W1 (zeros n)) := by
  have h := tk_split (pre := [⟨1, W1, true, false⟩]) (b := Fb (W1.length + 2) r) (post := []) hs rfl h1 (by rw [Fb_n]; exact hr) (fun c hc hu => by
    have : c = ⟨1, W1, true, false⟩ := by simpa using hc
    rw [this] at hu; cases hu)
  rw [Fb_n] at h
  exact h
/-- How many items stand in a word. -/
def plOf (k p : Nat) : Nat := if k = 1 then p else 1
theorem plOf_pos {k p b : Nat} (hp : 1 ≤ p) (hp8 : p ≤ 8) (hpb : p * b = 64) (hb : b ≤ 64) : 1 ≤ plOf k p ∧ plOf k p ≤ 64 ∧ plOf k p * b ≤ 64 := by
  unfold plOf; split
  · omega
  · omega
/-- How many words there are. -/
def nwOf (k p n : Nat) : Nat := if k = 1 then 1 + (n + p - 1) / p else 1 + n
theorem nwOf_place {k p b n j : Nat} (hp : 1 ≤ p) (hpb : p * b = 64) (hb : b ≤ 64) (hj : j < n) : 1 + j / plOf k p < nwOf k p n ∧ j % plOf k p * b + b ≤ 64 := by
  unfold nwOf plOf
  split
  · exact item_place hp hpb hj
  · rw [Nat.div_one, Nat.mod_one]; omega
theorem nwOf_le {k p n : Nat} (hp : 1 ≤ p) : 1 ≤ nwOf k p n ∧ nwOf k p n ≤ 1 + n := by
  unfold nwOf
  split
  · obtain ⟨d, hd⟩ : ∃ d, (n + p - 1) / p = d := ⟨_, rfl⟩
    have := (words_ge (n := n) hp hd).2.2.2
    rw [hd]; omega
  · omega
/-- Two items never stand in the same bits. -/
theorem items_apart {pl b j j' : Nat} (hpl : 1 ≤ pl) (h : j ≠ j') : 1 + j / pl ≠ 1 + j' / pl ∨ j' % pl * b + b ≤ j % pl * b ∨ j % pl * b + b ≤ j' % pl * b := by
  by_cases hd : j / pl = j' / pl
  · right
    have e1 := Nat.div_add_mod j pl
    have e2 := Nat.div_add_mod j' pl
    rw [hd] at e1
    have hne : j % pl ≠ j' % pl := fun e => h (by rw [e] at e1; exact e1.symm.trans e2)
    rcases Nat.lt_or_gt_of_ne hne with hlt | hgt
    · right
      have : (j % pl + 1) * b ≤ j' % pl * b := Nat.mul_le_mul_right _ hlt
      rw [Nat.add_mul] at this; omega
    · left
      have : (j' % pl + 1) * b ≤ j % pl * b := Nat.mul_le_mul_right _ hgt
      rw [Nat.add_mul] at this; omega
  · left; omega
/-- The words tell the items. -/
def ItemsOk (W : List Nat) (n pl b : Nat) (I : List Nat) : Prop := ∀ j, j < n → itemOf (W.getD (1 + j / pl) 0) (j % pl * b) b = I.getD j 0
theorem ItemsOk.start {W : List Nat} {n pl b : Nat} (h : ∀ i, 1 ≤ i → W.getD i 0 = 0) : ItemsOk W n pl b (zeros n) := fun j _ => by
  rw [h _ (Nat.le_add_right 1 _), zeros_getD]; simp [itemOf]
theorem ItemsOk.set {W : List Nat} {n pl b : Nat} {I : List Nat} (h : ItemsOk W n pl b I) (hpl : 1 ≤ pl) {k x : Nat} (hk : k < n) (hI : I.length = n) (hwd : 1 + k / pl < W.length) (hsb : k % pl * b + b ≤ 64) (hv : W.getD (1 + k / pl) 0 < 2 ^ 64) (hx : x < 2 ^ b) :
    ItemsOk (W.set (1 + k / pl) (newW (W.getD (1 + k / pl) 0) (k % pl * b) b x)) n pl b (I.set k x) := by
  intro j hj
  rw [getD_set_list _ _ _ _ hwd, getD_set_list _ _ _ _ (by rw [hI]; exact hk)]
  by_cases e : j = k
  · subst e
    rw [if_pos rfl, if_pos rfl, item_same _ _ _ _ hv hsb hx]
  · rw [if_neg e]
    split
    · rename_i hw
      rcases items_apart (b := b) hpl e with h1 | h1 | h1
      · exact absurd hw h1
      · rw [item_other _ _ _ _ _ hv hsb hx (.inr h1), ← hw]; exact h j hj
      · rw [item_other _ _ _ _ _ hv hsb hx (.inl h1), ← hw]; exact h j hj
    · exact h j hj

open Go.RowKit

theorem row_kept {w w' : World} {e : TypeId} {G n c : Nat} {vs : List Value} (h : w.ownsRow 0 e 1 (.slice (some ⟨G, 0, none⟩) n c) n vs) (hb : w'.heap[G]? = w.heap[G]?) : w'.ownsRow 0 e 1 (.slice (some ⟨G, 0, none⟩) n c) n vs := by
  obtain ⟨hl, (⟨h0, _⟩ | ⟨g', cap', cur, h0, hg2, hcur, hc2, hm2, hsz, htk⟩)⟩ := h
  · cases h0
  simp only [Value.slice.injEq, Option.some.injEq, Addr.mk.injEq, true_and, and_true] at h0
  obtain ⟨rfl, rfl⟩ := h0
  exact ⟨hl, .inr ⟨G, c, cur, rfl, hg2, by rw [hb]; exact hcur, hc2, hm2, hsz, htk⟩⟩
theorem cells_int {w : World} {ao : Option Addr} {n cap : Nat} {k : IntKind} {l : List Int} (h : CellsAt w (.slice ao n cap) (l.map (.int k))) {i : Nat} (hi : i < l.length) : ∃ b off, ao = some ⟨b, off, none⟩ ∧ b < w.heap.size ∧ w.cell? ⟨b, off + i, none⟩ = some (.int k (l.getD i 0)) := by
  obtain ⟨b, off, rfl, hb, hc⟩ := h.at (by rw [List.length_map]; omega)
  refine ⟨b, off, rfl, hb, ?_⟩
  rw [hc i (by rw [List.length_map]; exact hi)]
  simp [List.getD_eq_getElem?_getD, hi]
/-- What holds between two rounds. -/
structure KpR (w3 wr : World) (pa a c r nw n pl b hd G : Nat) (W1 W2 I : List Nat) : Prop where
  ar : ArR (fun q => q = G) w3 wr pa 400 (tri a c r W1 W2)
  l1 : W1.length = nw
  l2 : W2.length = nw
  g1 : W1.getD 0 0 = hd
  g2 : W2.getD 0 0 = hd
  v1 : ∀ i, W1.getD i 0 < 18446744073709551616
  v2 : ∀ i, W2.getD i 0 < 18446744073709551616
  li : I.length = n
  items : ItemsOk W1 n pl b I
  u64 : ∀ i, I.getD i 0 < 18446744073709551616
  row : wr.ownsRow 0 34 1 (.slice (some ⟨G, 0, none⟩) n n) n (u64s I)
  below : Below w3.heap.size w3 wr
  gl : G < wr.heap.size
  gw : w3.heap.size ≤ G
theorem KpR.stay {w3 wr w' : World} {pa a c r nw n pl b hd G : Nat} {W1 W2 I : List Nat} (k : KpR w3 wr pa a c r nw n pl b hd G W1 W2 I) (hb : Below wr.heap.size wr w') : KpR w3 w' pa a c r nw n pl b hd G W1 W2 I :=
  ⟨k.ar.stay hb, k.l1, k.l2, k.g1, k.g2, k.v1, k.v2, k.li, k.items, k.u64, row_kept k.row (hb.block _ k.gl), k.below.trans (hb.mono k.below.size), Nat.lt_of_lt_of_le k.gl hb.size, k.gw⟩
theorem tmod_bounds (z : Int) {n : Int} (hn : 0 < n) : -n < z.tmod n ∧ z.tmod n < n := by
  rcases Int.le_total 0 z with h | h
  · rw [Int.tmod_eq_emod_of_nonneg h]
    have := Int.emod_nonneg z (show n ≠ 0 by omega)
    have := Int.emod_lt_of_pos z hn
    omega
  · have e : z.tmod n = -((-z) % n) := by
      have := Int.neg_tmod (-z) n
      rw [Int.neg_neg] at this
      rw [this, Int.tmod_eq_emod_of_nonneg (by omega)]
    rw [e]
    have := Int.emod_nonneg (-z) (show n ≠ 0 by omega)
    have := Int.emod_lt_of_pos (-z) hn
    omega
theorem wf_new {W : List Nat} {nw hd b k x sh v : Nat} (hl : W.length = nw) (hg : W.getD 0 0 = hd) (hv : ∀ i, W.getD i 0 < 18446744073709551616) (hwd : 1 + k < nw) (hsb : sh + b ≤ 64) (hx : x < 2 ^ b) (hvv : W.getD (1 + k) 0 = v) :
    (W.set (1 + k) (newW v sh b x)).length = nw ∧ (W.set (1 + k) (newW v sh b x)).getD 0 0 = hd ∧ ∀ i, (W.set (1 + k) (newW v sh b x)).getD i 0 < 18446744073709551616 := by
  have h64 : (2 : Nat) ^ 64 = 18446744073709551616 := by decide
  refine ⟨by rw [List.length_set]; exact hl, ?_, fun i => ?_⟩
  · rw [getD_set_list _ _ _ _ (by rw [hl]; exact hwd), if_neg (by omega)]; exact hg
  · rw [getD_set_list _ _ _ _ (by rw [hl]; exact hwd)]
    split
    · have := newW_lt v sh b x (by rw [h64, ← hvv]; exact hv _) hsb hx
      omega
    · exact hv i
set_option maxRecDepth 100000 in
set_option maxHeartbeats 16000000 in
theorem okeeps_main (w : World) (k xi n : Nat) (hn : n ≤ 60) (hmay : mayI (k : Int) (xi : Int) (n : Int) = true) (pack kind : Int) (bo : Bool) (hk hh : Int) (b p : Nat) (hbb : bitsI pack kind = (b : Int)) (hb1 : 1 ≤ b) (hb2 : b ≤ 64) (hp1 : 1 ≤ p) (hp8 : p ≤ 8) (hpb : p * b = 64)
    (av tv : Value) (al tl : List Int) (ha : CellsAt w av (al.map (.int .i64))) (hla : al.length ≤ 100) (ht : CellsAt w tv (tl.map (.int .u64))) (hlt : tl.length ≤ maxLen) (hua : ∀ u ∈ al, -9223372036854775808 ≤ u ∧ u < 9223372036854775808) (hut : ∀ u ∈ tl, 0 ≤ u ∧ u < 18446744073709551616) :
    Calls Try.prog 7 #[thingV k xi n, storeV pack kind bo hk hh, av, tv] w fun e w' => e = .returned (.bool true) ∧ Below w.heap.size w w' := by
  obtain ⟨hk0, hk2, hi0, hi1, hn0, hn1⟩ := (mayI_iff _ _ _).1 hmay
  obtain ⟨nw, hnw⟩ : ∃ nw, nwOf k p n = nw := ⟨_, rfl⟩
  obtain ⟨pl, hpl⟩ : ∃ pl, plOf k p = pl := ⟨_, rfl⟩
  have hnwl := nwOf_le (k := k) (n := n) hp1
  have hplp := plOf_pos (k := k) hp1 hp8 hpb hb2
  have hplace := fun j (hj : j < n) => nwOf_place (k := k) (n := n) (j := j) hp1 hpb hb2 hj
  rw [hnw] at hnwl hplace
  rw [hpl] at hplp hplace
  have hp64 : p = 64 / b := by rw [← hpb]; exact (Nat.mul_div_cancel _ (by omega)).symm
  have hpl2 : pl = if (k : Int) = 1 then 64 / b else 1 := by
    rw [← hpl, ← hp64]; unfold plOf
    by_cases h : k = 1
    · rw [if_pos h, if_pos (by omega)]
    · rw [if_neg h, if_neg (by omega)]
  have ep2 : (64 : Int) / (b : Int) = (p : Int) := by rw [hp64]; simp
  have hw1 : wordsI pack kind (k : Int) (xi : Int) (n : Int) = (nw : Int) := by
    unfold wordsI
    rw [hmay, if_pos rfl, ← hnw]
    unfold nwOf
    by_cases h : k = 1
    · rw [if_pos (by omega), if_pos h, hbb, if_neg (by omega), ep2]
      unfold wordsN
      rw [if_pos rfl]; simp only [Int.toNat_natCast]
    · rw [if_neg (by omega), if_neg h]; omega
  obtain ⟨na, hna⟩ : ∃ na, al.length = na := ⟨_, rfl⟩
  obtain ⟨nt, hnt⟩ : ∃ nt, tl.length = nt := ⟨_, rfl⟩
  obtain ⟨aao, acap, hav⟩ := ha.form
  obtain ⟨tao, tcap, htv⟩ := ht.form
  rw [List.length_map, hna] at hav
  rw [List.length_map, hnt] at htv
  subst hav htv
  unfold maxLen at hlt
  have t0 : ¬ (b : Int) = 0 := by omega
  have t0' : ¬ b = 0 := by omega
  have t1 : ¬ (n : Int) < 0 := by omega
  have t1' : decide ((n : Int) < 0) = false := decide_eq_false t1
  have t2 : ¬ (60 : Int) < n := by omega
  have t2' : decide ((60 : Int) < n) = false := decide_eq_false t2
  have t3 : ¬ (100 : Int) < na := by omega
  have t3' : decide ((100 : Int) < na) = false := decide_eq_false t3
  have t4 : ¬ (nw : Int) = 0 := by omega
  have t4' : ¬ nw = 0 := by omega
  have t4'' : ((nw : Int) == 0) = false := by simp; omega
  have t0'' : ((b : Int) == 0) = false := by simp; omega
  obtain ⟨cb, hcb⟩ : ∃ cb, 64 - b = cb := ⟨_, rfl⟩
  have f1 : IntKind.i64.wrap (64 - (b : Int)) = (cb : Int) := by rw [IntWalk.i64_in _ ⟨by omega, by omega⟩]; omega
  have f2 : IntKind.u64.wrap (cb : Int) = (cb : Int) := wrap_u64_in (by omega) (by omega)
  obtain ⟨mk, hmk⟩ : ∃ mk, 2 ^ b - 1 = mk := ⟨_, rfl⟩
  have f3 : (18446744073709551615 : Int) / 2 ^ cb = (mk : Int) := by
    rw [← hmk, ← mask_div b (by omega), ← hcb]; simp
  have f4 : cb < 64 := by omega
  have f5 : (cb : Int) < 64 := by omega
  have h64 : (2 : Nat) ^ 64 = 18446744073709551616 := by decide
  have hb64 : 2 ^ b ≤ 2 ^ 64 := Nat.pow_le_pow_right (by decide) hb2
  have hbp := Nat.two_pow_pos b
  obtain ⟨hd, hhd⟩ : ∃ h, headN k xi n = h := ⟨_, rfl⟩
  have hhl : hd < 18446744073709551616 := by rw [← hhd]; unfold headN; omega
  obtain ⟨a, haa⟩ : ∃ a, nw + 2 = a := ⟨_, rfl⟩
  obtain ⟨c, hcc⟩ : ∃ c, a + nw + 1 = c := ⟨_, rfl⟩
  obtain ⟨r, hrr⟩ : ∃ r, 398 - nw - nw - 1 = r := ⟨_, rfl⟩
  have ta : ¬ (1 : Int) = a := by omega
  have ta' : ¬ 1 = a := by omega
  have ta'' : ((1 : Int) == (a : Int)) = false := by simp; omega
  have hmkr := fun W => run_make_row' (P := Try.prog) 59 34 (.int .u64 0) 8 Try.underlying59 Try.infoU64 rfl .i64 .i64 n (by omega) (by omega) W
  -- memory
  obtain ⟨W0, hW0⟩ : ∃ W0, W0 = (w.alloc (.cells #[.int .i64 (k : Nat), .int .i64 (xi : Nat), .int .i64 (n : Nat)] 50)).alloc (.cells #[.int .i64 pack, .int .i64 kind, .bool bo, .int .i64 hk, .int .i64 hh] 47) := ⟨_, rfl⟩
  have hb0 : Below w.heap.size w W0 := by rw [hW0]; exact ((Below.refl _ _).alloc (Nat.le_refl _) _).alloc (by simp) _
  have bt := heap_alloc_keep (heap_alloc_at w (.cells #[.int .i64 (k : Nat), .int .i64 (xi : Nat), .int .i64 (n : Nat)] 50) (b := w.heap.size) rfl) (.cells #[.int .i64 pack, .int .i64 kind, .bool bo, .int .i64 hk, .int .i64 hh] 47)
  have bs0 := heap_alloc_at (w.alloc (.cells #[.int .i64 (k : Nat), .int .i64 (xi : Nat), .int .i64 (n : Nat)] 50)) (.cells #[.int .i64 pack, .int .i64 kind, .bool bo, .int .i64 hk, .int .i64 hh] 47) (b := w.heap.size + 1) (by simp)
  rw [← hW0] at bt bs0
  have HW := Lib.hid hW0; have HB0 := Lib.hid hb0; have HT0 := Lib.hid (ThingAt.of bt); have HS0 := Lib.hid (StoreAt.of bs0)
  have HCA := Lib.hid (ha.below hb0); have HCT := Lib.hid (ht.below hb0)
  have HN := Lib.hid (show 1 ≤ nw ∧ nw ≤ 61 ∧ n ≤ 60 ∧ a = nw + 2 ∧ c = a + nw + 1 ∧ r = 398 - nw - nw - 1 ∧ na ≤ 100 by omega)
  have HPL := Lib.hid hplp; have HPC := Lib.hid hplace; have HPL2 := Lib.hid hpl2
  have HB := Lib.hid (And.intro hb1 hb2); have HBB := Lib.hid hbb; have HM := Lib.hid hmay; have HW1 := Lib.hid hw1
  have HMK := Lib.hid (show mk < 2 ^ b ∧ mk < 18446744073709551616 by omega); have HMKE := Lib.hid hmk; have HHD := Lib.hid hhd; have HHL := Lib.hid hhl
  have HUA := Lib.hid hua; have HUT := Lib.hid hut; have HLA := Lib.hid hna; have HLT := Lib.hid hnt
  clear hW0 hb0 bt bs0 hnw hpl hnwl hplp hplace hp64 hpl2 ep2 hw1 ha ht hla hlt hcb hmk h64 hb64 hbp hhd hhl haa hcc hrr hua hut hmay hbb hb1 hb2 hp1 hp8 hpb hk0 hk2 hi0 hi1 hn0 hn1 hna hnt hn
  go_enter Try.func7, Try.ntmps7
  go_wp2_with fail
  rw [← HW.out]
  refine (oknown_any W0).mono ?_
  rintro e w1 ⟨rfl, hb1⟩
  have HS1 := Lib.hid (HS0.out.below hb1); have HT1 := Lib.hid (HT0.out.below hb1)
  have HB1 := Lib.hid (HB0.out.trans (hb1.mono HB0.out.size))
  have HCA1 := Lib.hid (HCA.out.below hb1); have HCT1 := Lib.hid (HCT.out.below hb1)
  obtain ⟨c0, c1, c2, c3, c4⟩ := HS1.out
  obtain ⟨x0, x1, x2⟩ := HT1.out
  clear hb1 HS0 HT0 HB0 HCA HCT
  go_wp2_with fail
  refine (words_at pack kind bo hk hh k xi n w1).mono ?_
  rintro e w2 ⟨rfl, hb2⟩
  rw [HW1.out]
  have HS2 := Lib.hid (HS1.out.below hb2); have HT2 := Lib.hid (HT1.out.below hb2)
  have HB2 := Lib.hid (HB1.out.trans (hb2.mono HB1.out.size))
  have HCA2 := Lib.hid (HCA1.out.below hb2); have HCT2 := Lib.hid (HCT1.out.below hb2)
  clear hb2 HS1 HT1 HB1 HCA1 HCT1 c0 c1 c2 c3 c4 x0 x1 x2
  obtain ⟨c0, c1, c2, c3, c4⟩ := HS2.out
  go_wp2_with fail
  refine (bits_at pack kind bo hk hh w2).mono ?_
  rintro e w3 ⟨rfl, hb3⟩
  rw [HBB.out]
  have HS3 := Lib.hid (HS2.out.below hb3); have HT3 := Lib.hid (HT2.out.below hb3)
  have HB3 := Lib.hid (HB2.out.trans (hb3.mono HB2.out.size))
  have HCA3 := Lib.hid (HCA2.out.below hb3); have HCT3 := Lib.hid (HCT2.out.below hb3)
  clear hb3 HS2 HT2 HB2 HCA2 HCT2 c0 c1 c2 c3 c4
  go_wp2_with fail
  refine (New_n w3 400 400 (by omega) (by decide)).mono ?_
  rintro e w4 ⟨pa, rfl, A⟩
  have hs4 : Span 1 (newBs 400) (400 + 1) := A.wf.span
  have ht1 := take_first (nw := nw) (r := 398 - nw) (by have := HN.out; omega) HN.out.1 (by have := HN.out; omega) hs4
  obtain ⟨V1, hV1⟩ : ∃ V1, (zeros nw).set 0 hd = V1 := ⟨_, rfl⟩
  have hspan1 : Span 1 (oneB (zeros nw) (398 - nw)) (nw + 2 + (398 - nw) + 1) := ⟨rfl, by show 0 < (zeros nw).length; rw [zeros_len]; exact HN.out.1, (by show (zeros nw).length + 2 = 1 + (zeros nw).length + 1; omega), (by rw [Fb_n]; have := HN.out; omega), (by rw [Fb_n]; show 1 + (zeros nw).length + 1 + (398 - nw) + 1 = _; rw [zeros_len]; omega)⟩
  have hst1 : setF (oneB (zeros nw) (398 - nw)) 1 0 hd = (0, oneB V1 (398 - nw)) := by
    have := oneB_set hspan1 (i := 0) (v := hd) (by rw [zeros_len]; exact HN.out.1)
    rw [hV1] at this; exact this
  have hl1 : V1.length = nw := by rw [← hV1]; simp [zeros_len]
  have hz1 : ∀ i, V1.getD i 0 = if i = 0 then hd else 0 := fun i => by
    rw [← hV1, getD_set_list _ _ _ _ (by rw [zeros_len]; exact HN.out.1)]
    split
    · rfl
    · rw [zeros_getD]
  have HT1' := Lib.hid ht1; have HST1 := Lib.hid hst1; have HV1 := Lib.hid (And.intro hl1 hz1)
  have HA := Lib.hid A.toR
  obtain ⟨c0, c1, c2, c3, c4⟩ := HS3.out.below A.below
  obtain ⟨x0, x1, x2⟩ := HT3.out.below A.below
  clear A hs4 ht1 hst1 hl1 hz1 hV1 hspan1
  go_wp2_with fail
  refine (make_r HA.out noR pack kind bo hk hh k xi n HM.out nw HW1.out HN.out.1 (by have := HN.out; omega) 1 (by omega) HT1'.out (by rw [HHD.out]; exact HST1.out)).mono ?_
  clear c0 c1 c2 c3 c4 x0 x1 x2 HA HT1' HST1
  rintro e w5 ⟨rfl, A, -⟩
  rw [show ((1 : Nat) : Int) = 1 from rfl]
  have ht2 := take_split2 (n := nw) A.wf.span HN.out.1 (by have := HN.out; omega)
  rw [HV1.out.1, ← HN.out.2.2.2.1, ← HN.out.2.2.2.2.1, ← HN.out.2.2.2.2.2.1] at ht2
  have hst2 : setF (tri a c r V1 (zeros nw)) (a : Int) 0 hd = (0, tri a c r V1 V1) := by
    have := tri_set2 (a := a) (c := c) (r := r) (W1 := V1) (W2 := zeros nw) (by rw [HV1.out.1]; exact HN.out.2.2.2.1) (by rw [zeros_len]; exact HN.out.2.2.2.2.1) (by rw [HV1.out.1]; exact HN.out.1) (by rw [zeros_len]; exact HN.out.1) (by have := HN.out; omega) (i := 0) (v := hd) (by rw [zeros_len]; exact HN.out.1)
    rw [show (zeros nw).set 0 hd = V1 from List.ext_getElem (by rw [HV1.out.1]; simp [zeros_len]) (fun i h1 h2 => by
      have e := HV1.out.2 i
      rw [List.getD_eq_getElem?_getD, List.getElem?_eq_getElem h2] at e
      simp only [Option.getD_some] at e
      rw [e, List.getElem_set]
      by_cases h : i = 0
      · rw [if_pos h.symm, if_pos h]
      · rw [if_neg (fun q => h q.symm), if_neg h]; simp [zeros])] at this
    exact this
  have HT2' := Lib.hid ht2; have HST2 := Lib.hid hst2
  have HA := Lib.hid A
  obtain ⟨c0, c1, c2, c3, c4⟩ := HS3.out.below A.below
  obtain ⟨x0, x1, x2⟩ := HT3.out.below A.below
  clear A ht2 hst2
  go_wp2_with fail
  refine (make_r HA.out noR pack kind bo hk hh k xi n HM.out nw HW1.out HN.out.1 (by have := HN.out; omega) a (by have := HN.out; omega) HT2'.out (by rw [HHD.out]; exact HST2.out)).mono ?_
  clear c0 c1 c2 c3 c4 x0 x1 x2 HA HT2' HST2
  rintro e w6 ⟨rfl, A, -⟩
  have HA := Lib.hid A
  have c6 := HS3.out.below A.below
  have x6 := HT3.out.below A.below
  have g0 := Ext.cells (w0 := w6) c6.c0
  have g1 := Ext.cells (w0 := w6) c6.c1
  have g2 := Ext.cells (w0 := w6) c6.c2
  have g3 := Ext.cells (w0 := w6) c6.c3
  have g4 := Ext.cells (w0 := w6) c6.c4
  have y0 := Ext.cells (w0 := w6) x6.c0
  have y1 := Ext.cells (w0 := w6) x6.c1
  have y2 := Ext.cells (w0 := w6) x6.c2
  have hsz : ∀ x : Ext w6, Calls Try.prog 11 #[.pointer (some ⟨pa, 0, none⟩), .int .i64 1] x.val fun e w' => e = .returned (.int .i64 (nw : Nat)) ∧ Below x.val.heap.size x.val w' := fun x =>
    (Size_n (HA.out.stay x.2).toN 1 (by decide) (by decide)).mono fun e w' ⟨he, hw⟩ => ⟨by
      rw [he, tri_size (by rw [HV1.out.1]; exact HN.out.2.2.2.1) (by rw [HV1.out.1]; exact HN.out.2.2.2.2.1) (by rw [HV1.out.1]; exact HN.out.1) (by rw [HV1.out.1]; exact HN.out.1) (by have := HN.out; omega), HV1.out.1], by rw [hw]; exact Below.refl _ _⟩
  have hwd : ∀ w, Calls Try.prog 22 #[thingV k xi n, storeV pack kind bo hk hh] w fun e w' => e = .returned (.int .i64 (nw : Nat)) ∧ Below w.heap.size w w' := fun w => (words_at pack kind bo hk hh k xi n w).mono fun e w' ⟨he, hw⟩ => ⟨by rw [he, HW1.out], hw⟩
  have HSZ := Lib.hid hsz; have HWD := Lib.hid hwd
  clear A c6 x6 hsz hwd
  go_wp2
  refine wp_region_calm (by kernel_rfl) (by kernel_rfl) ?_
  repeat (go_big_quiet_step (first | exact Ext.call _ (HSZ.out _) | exact Ext.call _ (HWD.out _)))
  refine wpQuiet_nil ?_
  rintro _ ⟨xx, rfl⟩
  have A7 := HA.out.stay xx.2
  have hr7 : w6.heap.size ≤ xx.val.heap.size := xx.2.size
  obtain ⟨w7, hw7⟩ : ∃ w7, xx.val = w7 := ⟨_, rfl⟩
  rw [hw7] at A7 ⊢
  obtain ⟨c0, c1, c2, c3, c4⟩ := HS3.out.below A7.below
  have HA7 := Lib.hid A7
  clear g0 g1 g2 g3 g4 y0 y1 y2 HSZ HWD A7 HA hr7 hw7
  go_wp2_with fail
  refine (bits_at pack kind bo hk hh w7).mono ?_
  rintro e w8 ⟨rfl, hb8⟩
  rw [HBB.out]
  have A8 := HA7.out.stay hb8
  obtain ⟨x0, x1, x2⟩ := HT3.out.below A8.below
  have HA8 := Lib.hid A8
  clear A8 hb8 HA7 c0 c1 c2 c3 c4
  go_wp2
  obtain ⟨G, hG⟩ : ∃ G, w8.heap.size = G := ⟨_, rfl⟩
  obtain ⟨W9, hW9⟩ : ∃ W9, W9 = w8.alloc (.cells (madeCells #[.int .u64 0] n) 34) := ⟨_, rfl⟩
  have hb9 : Below w8.heap.size w8 W9 := by rw [hW9]; exact alloc_below _ _
  have b9 := heap_alloc_at w8 (.cells (madeCells #[.int .u64 0] n) 34) (b := G) hG.symm
  rw [← hW9] at b9
  have hrow : W9.ownsRow 0 34 1 (.slice (some ⟨G, 0, none⟩) n n) n (u64s (zeros n)) := by
    rw [u64s_zeros]; exact made_row b9 (by unfold maxLen; have := HN.out; omega)
  have hgl : G < W9.heap.size := heap_lt b9
  have hA9 : ArR (fun q => q = G) w3 W9 pa 400 (tri a c r V1 V1) := (HA8.out.grow hb9).less (fun q hq => .inr ⟨by rw [hq, hG]; exact Nat.le_refl _, by rw [hq]; exact hgl⟩)
  have hv1 : ∀ i, V1.getD i 0 < 18446744073709551616 := fun i => by
    rw [HV1.out.2 i]
    split
    · exact HHL.out
    · omega
  have hK9 : KpR w3 W9 pa a c r nw n pl b hd G V1 V1 (zeros n) :=
    ⟨hA9, HV1.out.1, HV1.out.1, by rw [HV1.out.2 0, if_pos rfl], by rw [HV1.out.2 0, if_pos rfl], hv1, hv1, zeros_len n, ItemsOk.start (fun i hi => by rw [HV1.out.2 i, if_neg (by omega)]), fun i => by rw [zeros_getD]; omega, hrow, hA9.below, hgl, by rw [← hG]; exact HA8.out.below.size⟩
  have HK9 := Lib.hid hK9
  rw [hG, ← hW9]
  clear x0 x1 x2 hb9 b9 hrow hgl hA9 hv1 hK9 hG hW9 HA8 hmkr
  go_loopw [16] (fun t16 wr => ∃ (i : Nat) (W1 W2 I : List Nat), t16 = .int .i64 (i : Nat) ∧ i ≤ na ∧ KpR w3 wr pa a c r nw n pl b hd G W1 W2 I) (fun t16 _ => na - (intOf t16).toNat)
  case atStart => exact ⟨0, V1, V1, zeros n, rfl, Nat.zero_le _, HK9.out⟩
  case round =>
    clear HK9
    obtain ⟨i, W1, W2, I, rfl, hi, hK⟩ := hrel
    have HK := Lib.hid hK
    obtain ⟨x0, x1, x2⟩ := HT3.out.below hK.below
    have hA1 : a = W1.length + 2 := by rw [hK.l1]; exact HN.out.2.2.2.1
    have hA2 : c = a + W2.length + 1 := by rw [hK.l2]; exact HN.out.2.2.2.2.1
    have hA3 : 0 < W1.length := by rw [hK.l1]; exact HN.out.1
    have hA4 : 0 < W2.length := by rw [hK.l2]; exact HN.out.1
    have hA5 : 0 < r := by have := HN.out; omega
    have HAS := Lib.hid (And.intro hA1 (And.intro hA2 (And.intro hA3 (And.intro hA4 hA5))))
    clear hK hA1 hA2 hA3 hA4 hA5
    by_cases h1 : i < na
    · have h1' : (i : Int) < na := by omega
      by_cases h2 : i < nt
      · have h2' : (i : Int) < nt := by omega
        by_cases h3 : 0 < n
        · have h3' : (0 : Int) < n := by omega
          have hz := cells_int (HCA3.out.below HK.out.below) (i := i) (by rw [HLA.out]; exact h1)
          have hu := cells_int (HCT3.out.below HK.out.below) (i := i) (by rw [HLT.out]; exact h2)
          obtain ⟨ab, aoff, rfl, hab, hac⟩ := hz
          obtain ⟨tb, toff, rfl, htb, htc⟩ := hu
          have hzr := HUA.out (al.getD i 0) (by rw [List.getD_eq_getElem?_getD, List.getElem?_eq_getElem (by rw [HLA.out]; exact h1)]; simp)
          have hur := HUT.out (tl.getD i 0) (by rw [List.getD_eq_getElem?_getD, List.getElem?_eq_getElem (by rw [HLT.out]; exact h2)]; simp)
          obtain ⟨z, hzz⟩ : ∃ z, al.getD i 0 = z := ⟨_, rfl⟩
          obtain ⟨u, huu⟩ : ∃ u : Nat, tl.getD i 0 = (u : Int) := ⟨(tl.getD i 0).toNat, by omega⟩
          rw [hzz] at hac hzr
          rw [huu] at htc hur
          obtain ⟨q1, hq1⟩ : ∃ q1, z.tmod (n : Int) = q1 := ⟨_, rfl⟩
          have hqb := tmod_bounds z h3'
          rw [hq1] at hqb
          obtain ⟨q2, hq2⟩ : ∃ q2 : Nat, q1 + n = (q2 : Int) := ⟨(q1 + n).toNat, by omega⟩
          obtain ⟨kk, hkk⟩ : ∃ kk, q2 % n = kk := ⟨_, rfl⟩
          have hkn : kk < n := by rw [← hkk]; exact Nat.mod_lt _ h3
          have hn60 := HN.out.2.2.1
          have r1 : IntKind.i64.wrap q1 = q1 := IntWalk.i64_in _ ⟨by omega, by omega⟩
          have r2 : IntKind.i64.wrap (q1 + (n : Int)) = (q2 : Int) := by rw [hq2]; exact IntWalk.i64_in _ ⟨by omega, by omega⟩
          have r3 : (q2 : Int).tmod (n : Int) = (kk : Int) := by rw [Int.tmod_eq_emod_of_nonneg (by omega), ← hkk]; simp
          have r4 : IntKind.i64.wrap (kk : Int) = (kk : Int) := IntWalk.i64_in _ ⟨by omega, by omega⟩
          have n0 : ¬ (n : Int) = 0 := by omega
          have n0' : ¬ n = 0 := by omega
          obtain ⟨x, hx⟩ : ∃ x, u &&& mk = x := ⟨_, rfl⟩
          have s1 : bits .and .u64 (u : Int) (mk : Int) = (x : Int) := by rw [bits_and64 u mk (by omega) HMK.out.2, hx]
          have hxl : x < 2 ^ b := by
            rw [← hx, ← HMKE.out, Nat.and_two_pow_sub_one_eq_mod]; exact Nat.mod_lt _ (Nat.two_pow_pos _)
          have h64 : (2 : Nat) ^ 64 = 18446744073709551616 := by decide
          have hb64 : 2 ^ b ≤ 2 ^ 64 := Nat.pow_le_pow_right (by decide) HB.out.2
          obtain ⟨x', hx'⟩ : ∃ x', x ^^^ mk = x' := ⟨_, rfl⟩
          have s2 : bits .xor .u64 (x : Int) (mk : Int) = (x' : Int) := by rw [bits_xor_u64_nat x mk (by omega) HMK.out.2, hx']
          have hxl' : x' < 2 ^ b := by rw [← hx']; exact Nat.xor_lt_two_pow hxl HMK.out.1
          obtain ⟨hpc1, hpc2⟩ := HPC.out kk hkn
          obtain ⟨sh, hsh⟩ : ∃ sh, kk % pl * b = sh := ⟨_, rfl⟩
          rw [hsh] at hpc2
          obtain ⟨v, hv⟩ : ∃ v, W1.getD (1 + kk / pl) 0 = v := ⟨_, rfl⟩
          obtain ⟨v', hv'⟩ : ∃ v', W2.getD (1 + kk / pl) 0 = v' := ⟨_, rfl⟩
          have hvl : v < 18446744073709551616 := by rw [← hv]; exact HK.out.v1 _
          have hvl' : v' < 18446744073709551616 := by rw [← hv']; exact HK.out.v2 _
          obtain ⟨ha1, ha2, ha3, ha4, ha5⟩ := HAS.out
          have hgh : getF (tri a c r W1 W2) 1 0 = (headN k xi n, 0) := by
            have := tri_get1 ha1 ha2 ha3 ha4 ha5 (i := 0) ha3
            rw [HK.out.g1, ← HHD.out] at this; exact this
          have hgi : getF (tri a c r W1 W2) 1 ((1 + kk / pl : Nat) : Int) = (v, 0) := by rw [tri_get1 ha1 ha2 ha3 ha4 ha5 (by rw [HK.out.l1]; exact hpc1), hv]
          have hsi : setF (tri a c r W1 W2) 1 ((1 + kk / pl : Nat) : Int) (newW v sh b x) = (0, tri a c r (W1.set (1 + kk / pl) (newW v sh b x)) W2) := tri_set1 ha1 ha2 ha3 ha4 ha5 (by rw [HK.out.l1]; exact hpc1)
          have hw1 := wf_new (k := kk / pl) HK.out.l1 HK.out.g1 HK.out.v1 hpc1 hpc2 hxl hv
          have hw2 := wf_new (k := kk / pl) HK.out.l2 HK.out.g2 HK.out.v2 hpc1 hpc2 hxl' hv'
          have hitems := HK.out.items.set HPL.out.1 hkn HK.out.li (by rw [HK.out.l1]; exact hpc1) (by rw [hsh]; exact hpc2) (by rw [hv, h64]; exact hvl) hxl
          rw [hv, hsh] at hitems
          obtain ⟨N1, hN1⟩ : ∃ N1, W1.set (1 + kk / pl) (newW v sh b x) = N1 := ⟨_, rfl⟩
          obtain ⟨N2, hN2⟩ : ∃ N2, W2.set (1 + kk / pl) (newW v' sh b x') = N2 := ⟨_, rfl⟩
          rw [hN1] at hsi hw1 hitems
          rw [hN2] at hw2
          have hb1 : a = N1.length + 2 := by rw [hw1.1]; exact HN.out.2.2.2.1
          have hb3 : 0 < N1.length := by rw [hw1.1]; exact HN.out.1
          have hgq : getF (tri a c r N1 W2) (a : Int) 0 = (headN k xi n, 0) := by
            have := tri_get2 hb1 ha2 hb3 ha4 ha5 (i := 0) ha4
            rw [HK.out.g2, ← HHD.out] at this; exact this
          have hgj : getF (tri a c r N1 W2) (a : Int) ((1 + kk / pl : Nat) : Int) = (v', 0) := by rw [tri_get2 hb1 ha2 hb3 ha4 ha5 (by rw [HK.out.l2]; exact hpc1), hv']
          have hsj : setF (tri a c r N1 W2) (a : Int) ((1 + kk / pl : Nat) : Int) (newW v' sh b x') = (0, tri a c r N1 N2) := by rw [tri_set2 hb1 ha2 hb3 ha4 ha5 (by rw [HK.out.l2]; exact hpc1), hN2]
          have har : -9223372036854775808 ≤ (a : Int) ∧ (a : Int) < 9223372036854775808 := by have := HN.out; omega
          have SET1 := Lib.hid (fun (W : World) (A : ArR (fun q => q = G) w3 W pa 400 (tri a c r W1 W2)) (hR : ∀ q, q = G → q < W.heap.size) => oset_r A hR pack kind bo hk hh k xi n HM.out 1 hgh (by decide) (by decide) b pl HBB.out HB.out.1 HB.out.2 HPL2.out kk hkn (1 + kk / pl) sh v rfl hsh hpc2 hgi hvl x hxl hsi)
          have SET2 := Lib.hid (fun (W : World) (A : ArR (fun q => q = G) w3 W pa 400 (tri a c r N1 W2)) (hR : ∀ q, q = G → q < W.heap.size) => oset_r A hR pack kind bo hk hh k xi n HM.out a hgq har.1 har.2 b pl HBB.out HB.out.1 HB.out.2 HPL2.out kk hkn (1 + kk / pl) sh v' rfl hsh hpc2 hgj hvl' x' hxl' hsj)
          have HW1' := Lib.hid hw1; have HW2' := Lib.hid hw2; have HIT := Lib.hid hitems; have HKN := Lib.hid hkn
          have HXU := Lib.hid (show x < 18446744073709551616 by omega)
          have ei : IntKind.i64.wrap ((i : Int) + 1) = ((i + 1 : Nat) : Int) := by have := HN.out; rw [IntWalk.i64_in _ ⟨by omega, by omega⟩]; omega
          have g2 := Ext.cells (w0 := wr) x2
          have ga := Ext.cells (w0 := wr) hac
          have gt := Ext.cells (w0 := wr) htc
          have hkn' : (kk : Int) < n := by omega
          have hiI : ¬ (i : Int) < 0 := by omega
          clear hzr hur hzz huu hqb hq2 hkk hx hxl h64 hb64 hx' hxl' hpc1 hpc2 hsh hv hv' hvl hvl' ha1 ha2 ha3 ha4 ha5 hgh hgi hsi hw1 hw2 hitems hN1 hN2 hb1 hb3 hgq hgj hsj har hab htb HAS hn60
          go_wp2
          refine wp_region_calm (by kernel_rfl) (by kernel_rfl) ?_
          repeat (go_big_quiet_step (fail))
          refine wpQuiet_nil ?_
          rintro _ ⟨xx, rfl⟩
          have hK7 := HK.out.stay xx.2
          have htc7 := gt xx
          obtain ⟨w7, hw7⟩ : ∃ w7, xx.val = w7 := ⟨_, rfl⟩
          rw [hw7] at hK7 htc7 ⊢
          obtain ⟨c0, c1, c2, c3, c4⟩ := HS3.out.below hK7.below
          have HK7 := Lib.hid hK7
          clear g2 ga gt x0 x1 x2 hac htc hK7 hw7
          go_wp2_with fail
          refine (SET1.out w7 HK7.out.ar (fun q hq => by rw [hq]; exact HK7.out.gl)).mono ?_
          rintro e w8 ⟨rfl, A8, KK8⟩
          have row8 := row_kept HK7.out.row (KK8.blk G rfl)
          have gl8 := Nat.lt_of_lt_of_le HK7.out.gl KK8.size
          clear c0 c1 c2 c3 c4 htc7
          obtain ⟨c0, c1, c2, c3, c4⟩ := HS3.out.below A8.below
          have HA8 := Lib.hid A8; have HR8 := Lib.hid row8; have HG8 := Lib.hid gl8
          clear A8 KK8 row8 gl8 SET1
          go_wp2_with fail
          refine (SET2.out w8 HA8.out (fun q hq => by rw [hq]; exact HG8.out)).mono ?_
          rintro e w9 ⟨rfl, A9, KK9⟩
          have row9 := row_kept HR8.out (KK9.blk G rfl)
          have gl9 := Nat.lt_of_lt_of_le HG8.out KK9.size
          have cw := row9.cellAt kk (by omega)
          rw [u64s_at (by rw [HK.out.li]; exact HKN.out)] at cw
          have cf := row9.frozenAt kk
          have HA9 := Lib.hid A9; have HR9 := Lib.hid row9; have HG9 := Lib.hid gl9
          clear A9 KK9 row9 gl9 SET2 c0 c1 c2 c3 c4 HA8 HR8 HG8
          go_wp2
          have hA10 : ArR (fun q => q = G) w3 (w9.setCell ⟨G, kk, none⟩ (.int .u64 (x : Nat))) pa 400 (tri a c r N1 N2) := (HA9.out.next (upd_set w9 G kk (.int .u64 (x : Nat))) (fun q hq _ => hq) (fun q hq => by rw [hq]; exact HK7.out.gw)).less (fun q hq => .inl hq)
          have hK10 : KpR w3 (w9.setCell ⟨G, kk, none⟩ (.int .u64 (x : Nat))) pa a c r nw n pl b hd G N1 N2 (I.set kk x) :=
            ⟨hA10, HW1'.out.1, HW2'.out.1, HW1'.out.2.1, HW2'.out.2.1, HW1'.out.2.2, HW2'.out.2.2, by rw [List.length_set]; exact HK.out.li, HIT.out, fun j => by
              rw [getD_set_list _ _ _ _ (by rw [HK.out.li]; exact HKN.out)]
              split
              · exact HXU.out
              · exact HK.out.u64 j, by rw [u64s_set]; exact (HR9.out.stored kk _).1, hA10.below, Nat.lt_of_lt_of_le HG9.out (upd_set w9 G kk (.int .u64 (x : Nat))).size, HK7.out.gw⟩
          have HK10 := Lib.hid hK10
          clear hA10 hK10 cw cf HA9 HR9 HG9 HK7 HIT HW1' HW2' HKN
          go_loopw [19] (fun t19 wr2 => ∃ j : Nat, t19 = .int .i64 (j : Nat) ∧ j ≤ n ∧ KpR w3 wr2 pa a c r nw n pl b hd G N1 N2 (I.set kk x)) (fun t19 _ => n - (intOf t19).toNat)
          case atStart => exact ⟨0, rfl, Nat.zero_le _, HK10.out⟩
          case round =>
            clear HK10
            obtain ⟨j, rfl, hj, hK2⟩ := hrel
            obtain ⟨x0, x1, x2⟩ := HT3.out.below hK2.below
            have HK2 := Lib.hid hK2
            clear hK2
            by_cases hjn : j < n
            · have hjn' : (j : Int) < n := by omega
              have ej : IntKind.i64.wrap ((j : Int) + 1) = ((j + 1 : Nat) : Int) := by have := HN.out; rw [IntWalk.i64_in _ ⟨by omega, by omega⟩]; omega
              obtain ⟨hpc1, hpc2⟩ := HPC.out j hjn
              have ha1 : a = N1.length + 2 := by rw [HK2.out.l1]; exact HN.out.2.2.2.1
              have ha2 : c = a + N2.length + 1 := by rw [HK2.out.l2]; exact HN.out.2.2.2.2.1
              have ha3 : 0 < N1.length := by rw [HK2.out.l1]; exact HN.out.1
              have ha4 : 0 < N2.length := by rw [HK2.out.l2]; exact HN.out.1
              have ha5 : 0 < r := by have := HN.out; omega
              have hgh : getF (tri a c r N1 N2) 1 0 = (headN k xi n, 0) := by
                have := tri_get1 ha1 ha2 ha3 ha4 ha5 (i := 0) ha3
                rw [HK2.out.g1, ← HHD.out] at this; exact this
              have hgi : getF (tri a c r N1 N2) 1 ((1 + j / pl : Nat) : Int) = (N1.getD (1 + j / pl) 0, 0) := tri_get1 ha1 ha2 ha3 ha4 ha5 (by rw [HK2.out.l1]; exact hpc1)
              have hcall := oget_r HK2.out.ar pack kind bo hk hh k xi n HM.out 1 hgh (by decide) (by decide) b pl HBB.out HB.out.1 HB.out.2 HPL2.out j hjn (1 + j / pl) (j % pl * b) _ rfl rfl hpc2 hgi (HK2.out.v1 _)
              rw [HK2.out.items j hjn] at hcall
              obtain ⟨y, hy⟩ : ∃ y, (I.set kk x).getD j 0 = y := ⟨_, rfl⟩
              rw [hy] at hcall
              have HCALL := Lib.hid hcall; have HY := Lib.hid hy
              obtain ⟨c0, c1, c2, c3, c4⟩ := HS3.out.below HK2.out.below
              clear hpc1 hpc2 ha1 ha2 ha3 ha4 ha5 hgh hgi hcall hy
              go_wp2_with fail
              refine HCALL.out.mono ?_
              clear c0 c1 c2 c3 c4
              rintro e w16 ⟨rfl, hb16⟩
              have hK16 := HK2.out.stay hb16
              have cw := hK16.row.cellAt j (by omega)
              rw [u64s_at (by rw [HK2.out.li]; exact hjn), HY.out] at cw
              have HK16 := Lib.hid hK16
              clear hb16 hK16 x0 x1 x2
              go_wp2
              go_roundw
              case rel => exact ⟨j + 1, rfl, hjn, HK16.out⟩
              case measure => simp only [intOf]; omega
            · have hjn' : ¬ (j : Int) < n := by omega
              go_wp2
              go_roundw
              case rel => exact ⟨i + 1, N1, N2, I.set kk x, rfl, h1, HK2.out⟩
              case measure => simp only [intOf]; omega
        · have h3' : ¬ (0 : Int) < n := by omega
          have hgh : getF (tri a c r W1 W2) 1 0 = (headN k xi n, 0) := by
            have := tri_get1 HAS.out.1 HAS.out.2.1 HAS.out.2.2.1 HAS.out.2.2.2.1 HAS.out.2.2.2.2 (i := 0) HAS.out.2.2.1
            rw [HK.out.g1, ← HHD.out] at this; exact this
          have hcall := head_r HK.out.ar k xi n HM.out 1 hgh (by decide) (by decide)
          have HC := Lib.hid hcall
          clear hgh hcall
          go_wp2_with fail
          refine HC.out.mono ?_
          clear x0 x1 x2
          rintro e w9 ⟨rfl, hb9⟩
          have hK9 := HK.out.stay hb9
          have hal : Below w9.heap.size w9 (w9.alloc (.cells #[.int .i64 (k : Nat), .int .i64 (xi : Nat), .int .i64 (n : Nat)] 50)) := alloc_below _ _
          obtain ⟨x0, x1, x2⟩ := (HT3.out.below hK9.below).below hal
          have HBE := Lib.hid (hK9.below.trans (hal.mono hK9.below.size))
          clear hK9 hal hb9
          go_wp2
          go_ret
          exact ⟨rfl, HB3.out.trans (HBE.out.mono HB3.out.size)⟩
      · have h2' : ¬ (i : Int) < nt := by omega
        have hgh : getF (tri a c r W1 W2) 1 0 = (headN k xi n, 0) := by
          have := tri_get1 HAS.out.1 HAS.out.2.1 HAS.out.2.2.1 HAS.out.2.2.2.1 HAS.out.2.2.2.2 (i := 0) HAS.out.2.2.1
          rw [HK.out.g1, ← HHD.out] at this; exact this
        have hcall := head_r HK.out.ar k xi n HM.out 1 hgh (by decide) (by decide)
        have HC := Lib.hid hcall
        clear hgh hcall
        go_wp2_with fail
        refine HC.out.mono ?_
        clear x0 x1 x2
        rintro e w9 ⟨rfl, hb9⟩
        have hK9 := HK.out.stay hb9
        have hal : Below w9.heap.size w9 (w9.alloc (.cells #[.int .i64 (k : Nat), .int .i64 (xi : Nat), .int .i64 (n : Nat)] 50)) := alloc_below _ _
        obtain ⟨x0, x1, x2⟩ := (HT3.out.below hK9.below).below hal
        have HBE := Lib.hid (hK9.below.trans (hal.mono hK9.below.size))
        clear hK9 hal hb9
        go_wp2
        go_ret
        exact ⟨rfl, HB3.out.trans (HBE.out.mono HB3.out.size)⟩
    · have h1' : ¬ (i : Int) < na := by omega
      have hgh : getF (tri a c r W1 W2) 1 0 = (headN k xi n, 0) := by
        have := tri_get1 HAS.out.1 HAS.out.2.1 HAS.out.2.2.1 HAS.out.2.2.2.1 HAS.out.2.2.2.2 (i := 0) HAS.out.2.2.1
        rw [HK.out.g1, ← HHD.out] at this; exact this
      have hcall := head_r HK.out.ar k xi n HM.out 1 hgh (by decide) (by decide)
      have HC := Lib.hid hcall
      clear hgh hcall
      go_wp2_with fail
      refine HC.out.mono ?_
      clear x0 x1 x2
      rintro e w9 ⟨rfl, hb9⟩
      have hK9 := HK.out.stay hb9
      have hal : Below w9.heap.size w9 (w9.alloc (.cells #[.int .i64 (k : Nat), .int .i64 (xi : Nat), .int .i64 (n : Nat)] 50)) := alloc_below _ _
      obtain ⟨x0, x1, x2⟩ := (HT3.out.below hK9.below).below hal
      have HBE := Lib.hid (hK9.below.trans (hal.mono hK9.below.size))
      clear hK9 hal hb9
      go_wp2
      go_ret
      exact ⟨rfl, HB3.out.trans (HBE.out.mono HB3.out.size)⟩
set_option maxRecDepth 100000 in
set_option maxHeartbeats 4000000 in
theorem okeeps_any (xk xi xn : Int) (pack kind : Int) (bo : Bool) (hk hh : Int) (av tv : Value) (al tl : List Int) (w : World) (ha : CellsAt w av (al.map (.int .i64))) (hla : al.length ≤ maxLen) (ht : CellsAt w tv (tl.map (.int .u64))) (hlt : tl.length ≤ maxLen) (hua : ∀ u ∈ al, -9223372036854775808 ≤ u ∧ u < 9223372036854775808) (hut : ∀ u ∈ tl, 0 ≤ u ∧ u < 18446744073709551616) :
    Calls Try.prog 7 #[thingV xk xi xn, storeV pack kind bo hk hh, av, tv] w fun e w' => e = .returned (.bool true) ∧ Below w.heap.size w w' := by
  have HCA := Lib.hid ha; have HCT := Lib.hid ht; have HLT := Lib.hid hlt; have HUA := Lib.hid hua; have HUT := Lib.hid hut
  obtain ⟨aao, acap, hav⟩ := ha.form
  obtain ⟨tao, tcap, htv⟩ := ht.form
  rw [List.length_map] at hav htv
  obtain ⟨na, hna⟩ : ∃ na, al.length = na := ⟨_, rfl⟩
  obtain ⟨nt, hnt⟩ : ∃ nt, tl.length = nt := ⟨_, rfl⟩
  rw [hna] at hav
  rw [hnt] at htv
  subst hav htv
  have HNA := Lib.hid hna
  unfold maxLen at hla
  rw [hna] at hla
  obtain ⟨W0, hW0⟩ : ∃ W0, W0 = (w.alloc (.cells #[.int .i64 xk, .int .i64 xi, .int .i64 xn] 50)).alloc (.cells #[.int .i64 pack, .int .i64 kind, .bool bo, .int .i64 hk, .int .i64 hh] 47) := ⟨_, rfl⟩
  have hb0 : Below w.heap.size w W0 := by rw [hW0]; exact ((Below.refl _ _).alloc (Nat.le_refl _) _).alloc (by simp) _
  have bt := heap_alloc_keep (heap_alloc_at w (.cells #[.int .i64 xk, .int .i64 xi, .int .i64 xn] 50) (b := w.heap.size) rfl) (.cells #[.int .i64 pack, .int .i64 kind, .bool bo, .int .i64 hk, .int .i64 hh] 47)
  have bs0 := heap_alloc_at (w.alloc (.cells #[.int .i64 xk, .int .i64 xi, .int .i64 xn] 50)) (.cells #[.int .i64 pack, .int .i64 kind, .bool bo, .int .i64 hk, .int .i64 hh] 47) (b := w.heap.size + 1) (by simp)
  rw [← hW0] at bt bs0
  have HW := Lib.hid hW0; have HB0 := Lib.hid hb0; have HT0 := Lib.hid (ThingAt.of bt); have HS0 := Lib.hid (StoreAt.of bs0)
  clear hW0 hb0 bt bs0 ha ht hlt hua hut hna hnt
  obtain ⟨wv, hwv⟩ : ∃ wv, wordsI pack kind xk xi xn = wv := ⟨_, rfl⟩
  have HWV := Lib.hid hwv
  clear hwv
  by_cases h1 : xn < 0
  · have g1 : decide (xn < 0) = true := decide_eq_true h1
    go_enter Try.func7, Try.ntmps7
    go_wp2_with fail
    rw [← HW.out]
    refine (oknown_any W0).mono ?_
    rintro e w1 ⟨rfl, hb1⟩
    have HS1 := Lib.hid (HS0.out.below hb1)
    have HT1 := Lib.hid (HT0.out.below hb1)
    have HB1 := Lib.hid (HB0.out.trans (hb1.mono HB0.out.size))
    obtain ⟨c0, c1, c2, c3, c4⟩ := HS1.out
    obtain ⟨x0, x1, x2⟩ := HT1.out
    clear hb1
    go_wp2
    go_ret
    exact ⟨rfl, HB1.out⟩
  by_cases h2 : 60 < xn
  · have g1 : decide (xn < 0) = false := decide_eq_false h1
    have g2 : decide (60 < xn) = true := decide_eq_true h2
    go_enter Try.func7, Try.ntmps7
    go_wp2_with fail
    rw [← HW.out]
    refine (oknown_any W0).mono ?_
    rintro e w1 ⟨rfl, hb1⟩
    have HS1 := Lib.hid (HS0.out.below hb1)
    have HT1 := Lib.hid (HT0.out.below hb1)
    have HB1 := Lib.hid (HB0.out.trans (hb1.mono HB0.out.size))
    obtain ⟨c0, c1, c2, c3, c4⟩ := HS1.out
    obtain ⟨x0, x1, x2⟩ := HT1.out
    clear hb1
    go_wp2
    go_ret
    exact ⟨rfl, HB1.out⟩
  by_cases h3 : 100 < na
  · have g1 : decide (xn < 0) = false := decide_eq_false h1
    have g2 : decide (60 < xn) = false := decide_eq_false h2
    have h3' : (100 : Int) < na := by omega
    have g3 : decide ((100 : Int) < na) = true := decide_eq_true h3'
    go_enter Try.func7, Try.ntmps7
    go_wp2_with fail
    rw [← HW.out]
    refine (oknown_any W0).mono ?_
    rintro e w1 ⟨rfl, hb1⟩
    have HS1 := Lib.hid (HS0.out.below hb1)
    have HT1 := Lib.hid (HT0.out.below hb1)
    have HB1 := Lib.hid (HB0.out.trans (hb1.mono HB0.out.size))
    obtain ⟨c0, c1, c2, c3, c4⟩ := HS1.out
    obtain ⟨x0, x1, x2⟩ := HT1.out
    clear hb1
    go_wp2
    go_ret
    exact ⟨rfl, HB1.out⟩
  by_cases h4 : wv = 0
  · have g1 : decide (xn < 0) = false := decide_eq_false h1
    have g2 : decide (60 < xn) = false := decide_eq_false h2
    have h3' : ¬ (100 : Int) < na := by omega
    have g3 : decide ((100 : Int) < na) = false := decide_eq_false h3'
    subst h4
    go_enter Try.func7, Try.ntmps7
    go_wp2_with fail
    rw [← HW.out]
    refine (oknown_any W0).mono ?_
    rintro e w1 ⟨rfl, hb1⟩
    have HS1 := Lib.hid (HS0.out.below hb1)
    have HT1 := Lib.hid (HT0.out.below hb1)
    have HB1 := Lib.hid (HB0.out.trans (hb1.mono HB0.out.size))
    obtain ⟨c0, c1, c2, c3, c4⟩ := HS1.out
    obtain ⟨x0, x1, x2⟩ := HT1.out
    clear hb1
    go_wp2_with fail
    refine (words_at pack kind bo hk hh xk xi xn w1).mono ?_
    rintro e w2 ⟨rfl, hb2⟩
    rw [HWV.out]
    have HB2 := Lib.hid (HB1.out.trans (hb2.mono HB1.out.size))
    have HS2 := Lib.hid (HS1.out.below hb2)
    clear hb2 c0 c1 c2 c3 c4 x0 x1 x2
    obtain ⟨c0, c1, c2, c3, c4⟩ := HS2.out
    go_wp2
    go_ret
    exact ⟨rfl, HB2.out⟩
  rcases bits_cases pack kind with h0 | ⟨b, p, hbb, hb1, hb64, hp1, hp8, hpb⟩
  · have g1 : decide (xn < 0) = false := decide_eq_false h1
    have g2 : decide (60 < xn) = false := decide_eq_false h2
    have h3' : ¬ (100 : Int) < na := by omega
    have g3 : decide ((100 : Int) < na) = false := decide_eq_false h3'
    have g4 : (wv == 0) = false := by simp; exact h4
    have HZ := Lib.hid h0
    clear h0
    go_enter Try.func7, Try.ntmps7
    go_wp2_with fail
    rw [← HW.out]
    refine (oknown_any W0).mono ?_
    rintro e w1 ⟨rfl, hb1⟩
    have HS1 := Lib.hid (HS0.out.below hb1)
    have HT1 := Lib.hid (HT0.out.below hb1)
    have HB1 := Lib.hid (HB0.out.trans (hb1.mono HB0.out.size))
    obtain ⟨c0, c1, c2, c3, c4⟩ := HS1.out
    obtain ⟨x0, x1, x2⟩ := HT1.out
    clear hb1
    go_wp2_with fail
    refine (words_at pack kind bo hk hh xk xi xn w1).mono ?_
    rintro e w2 ⟨rfl, hb2⟩
    rw [HWV.out]
    have HB2 := Lib.hid (HB1.out.trans (hb2.mono HB1.out.size))
    have HS2 := Lib.hid (HS1.out.below hb2)
    clear hb2 c0 c1 c2 c3 c4 x0 x1 x2
    obtain ⟨c0, c1, c2, c3, c4⟩ := HS2.out
    go_wp2_with fail
    refine (bits_at pack kind bo hk hh w2).mono ?_
    rintro e w3 ⟨rfl, hb3⟩
    rw [HZ.out]
    have HB3 := Lib.hid (HB2.out.trans (hb3.mono HB2.out.size))
    clear hb3 c0 c1 c2 c3 c4
    go_wp2
    go_ret
    exact ⟨rfl, HB3.out⟩
  have hmay : mayI xk xi xn = true := by
    cases hm : mayI xk xi xn
    · exfalso
      have := HWV.out
      unfold wordsI at this
      rw [hm, if_neg (by simp)] at this
      exact h4 this.symm
    · rfl
  obtain ⟨hk0, hk2, hi0, hi1, hn0, hn1⟩ := (mayI_iff _ _ _).1 hmay
  obtain ⟨k, rfl⟩ : ∃ k : Nat, xk = (k : Int) := ⟨xk.toNat, by omega⟩
  obtain ⟨i, rfl⟩ : ∃ i : Nat, xi = (i : Int) := ⟨xi.toNat, by omega⟩
  obtain ⟨n, rfl⟩ : ∃ n : Nat, xn = (n : Int) := ⟨xn.toNat, by omega⟩
  exact okeeps_main w k i n (by omega) hmay pack kind bo hk hh b p hbb hb1 hb64 hp1 hp8 hpb _ _ al tl HCA.out (by rw [HNA.out]; omega) HCT.out HLT.out HUA.out HUT.out
end Go.Proofs.Ytcjkmgjonnnapaa
