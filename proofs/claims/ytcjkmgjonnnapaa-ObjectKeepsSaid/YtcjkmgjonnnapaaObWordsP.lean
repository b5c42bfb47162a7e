/- package object: two blocks of an arena, and the words of things, plain. -/
import Derived.Test.YtcjkmgjonnnapaaObKnown
namespace Go.Proofs.Ytcjkmgjonnnapaa

/-- Two used blocks, one behind the other. -/
def two (a : Nat) (W1 W2 : List Nat) : List Blk := [⟨1, W1, true, false⟩, ⟨a, W2, true, false⟩]
theorem two_span {a : Nat} {W1 W2 : List Nat} (ha : a = W1.length + 2) (h1 : 0 < W1.length) (h2 : 0 < W2.length) : Span 1 (two a W1 W2) (a + W2.length + 1) :=
  ⟨rfl, h1, show a = 1 + W1.length + 1 by omega, h2, show 1 + W1.length + 1 + W2.length + 1 = a + W2.length + 1 by omega⟩
theorem two_get1 {a : Nat} {W1 W2 : List Nat} (ha : a = W1.length + 2) (h1 : 0 < W1.length) (h2 : 0 < W2.length) {i : Nat} (hi : i < W1.length) : getF (two a W1 W2) 1 i = (W1.getD i 0, 0) := by
  unfold getF
  rw [show (1 : Int) = ((⟨1, W1, true, false⟩ : Blk).a : Int) from rfl, blkAt_some (two_span ha h1 h2) (b := ⟨1, W1, true, false⟩) (by simp [two]) rfl]
  dsimp only
  rw [if_pos ⟨by omega, by show (i : Int) < W1.length; omega⟩]; simp
theorem two_get2 {a : Nat} {W1 W2 : List Nat} (ha : a = W1.length + 2) (h1 : 0 < W1.length) (h2 : 0 < W2.length) {i : Nat} (hi : i < W2.length) : getF (two a W1 W2) (a : Int) i = (W2.getD i 0, 0) := by
  unfold getF
  rw [show (a : Int) = ((⟨a, W2, true, false⟩ : Blk).a : Int) from rfl, blkAt_some (two_span ha h1 h2) (b := ⟨a, W2, true, false⟩) (by simp [two]) rfl]
  dsimp only
  rw [if_pos ⟨by omega, by show (i : Int) < W2.length; omega⟩]; simp
theorem two_set1 {a : Nat} {W1 W2 : List Nat} (ha : a = W1.length + 2) (h1 : 0 < W1.length) (h2 : 0 < W2.length) {i v : Nat} (hi : i < W1.length) : setF (two a W1 W2) 1 i v = (0, two a (W1.set i v) W2) := by
  unfold setF
  rw [show (1 : Int) = ((⟨1, W1, true, false⟩ : Blk).a : Int) from rfl, blkAt_some (two_span ha h1 h2) (b := ⟨1, W1, true, false⟩) (by simp [two]) rfl]
  dsimp only
  rw [if_pos ⟨by omega, by show (i : Int) < W1.length; omega⟩]
  have hne : ¬ a = 1 := by omega
  simp [two, hne]
theorem two_set2 {a : Nat} {W1 W2 : List Nat} (ha : a = W1.length + 2) (h1 : 0 < W1.length) (h2 : 0 < W2.length) {i v : Nat} (hi : i < W2.length) : setF (two a W1 W2) (a : Int) i v = (0, two a W1 (W2.set i v)) := by
  unfold setF
  rw [show (a : Int) = ((⟨a, W2, true, false⟩ : Blk).a : Int) from rfl, blkAt_some (two_span ha h1 h2) (b := ⟨a, W2, true, false⟩) (by simp [two]) rfl]
  dsimp only
  rw [if_pos ⟨by omega, by show (i : Int) < W2.length; omega⟩]
  have hne : ¬ 1 = a := by omega
  simp [two, hne]
/-- The words that are told stand where they were told. -/
theorem getD_set_list (l : List Nat) (i j x : Nat) (hi : i < l.length) : (l.set i x).getD j 0 = if j = i then x else l.getD j 0 := getD_set l i j x hi
/-- One block, and room behind it. -/
def oneB (W1 : List Nat) (r : Nat) : List Blk := [⟨1, W1, true, false⟩, Fb (W1.length + 2) r]
theorem oneB_set {W1 : List Nat} {r t : Nat} (hs : Span 1 (oneB W1 r) t) {i v : Nat} (hi : i < W1.length) : setF (oneB W1 r) 1 i v = (0, oneB (W1.set i v) r) := by
  unfold setF
  rw [show (1 : Int) = ((⟨1, W1, true, false⟩ : Blk).a : Int) from rfl, blkAt_some hs (b := ⟨1, W1, true, false⟩) (by simp [oneB]) rfl]
  dsimp only
  rw [if_pos ⟨by omega, by show (i : Int) < W1.length; omega⟩]
  simp [oneB]
theorem take_first {m nw r : Nat} (hm : m = nw + r + 2) (h1 : 1 ≤ nw) (hr : 1 ≤ r) (hs : Span 1 (newBs m) (m + 1)) : takeF (newBs m) nw = (1, 0, oneB (zeros nw) r) := by
  have e : newBs m = [] ++ [Fb 1 (m - 1)] ++ [] := by rw [newBs, if_pos (by omega)]; rfl
  rw [e] at hs ⊢
  have h := tk_split (pre := []) (b := Fb 1 (m - 1)) (post := []) hs rfl h1 (by rw [Fb_n]; omega) (by simp)
  rw [Fb_n] at h
  refine h.trans ?_
  show (1, 0, [Ub 1 nw, Fb (1 + nw + 1) (m - 1 - nw - 1)]) = (1, 0, [Ub 1 nw, Fb ((zeros nw).length + 2) r])
  rw [zeros_len, show 1 + nw + 1 = nw + 2 by omega, show m - 1 - nw - 1 = r by omega]
theorem take_whole2 {W1 : List Nat} {r t n : Nat} (hs : Span 1 (oneB W1 r) t) (h1 : 1 ≤ n) (hr : r = n ∨ r = n + 1) : takeF (oneB W1 r) n = (W1.length + 2, 0, two (W1.length + 2) W1 (zeros r)) := by
  have h := tk_whole (pre := [⟨1, W1, true, false⟩]) (b := Fb (W1.length + 2) r) (post := []) hs rfl h1 (by rw [Fb_n]; exact hr) (fun c hc hu => by
    have : c = ⟨1, W1, true, false⟩ := by simpa using hc
    rw [this] at hu; cases hu)
  rw [Fb_n] at h
  exact h
/-- How many words n items take, p in each. -/
theorem words_ge {n p d : Nat} (hp : 1 ≤ p) (hd : (n + p - 1) / p = d) : n ≤ d * p ∧ (1 ≤ n → 1 ≤ d ∧ (d - 1) * p < n) ∧ (n = 0 → d = 0) ∧ d ≤ n := by
  have hm := Nat.div_add_mod (n + p - 1) p
  have hl := Nat.mod_lt (n + p - 1) (show 0 < p by omega)
  rw [hd] at hm
  have e : p * d = d * p := Nat.mul_comm _ _
  have hdn : d ≤ n := by
    rw [← hd]
    by_cases h : n = 0
    · rw [h, Nat.div_eq_of_lt (by omega)]; omega
    · refine Nat.div_le_of_le_mul ?_
      have : n + p - 1 ≤ p * n := by
        obtain ⟨p', rfl⟩ : ∃ p', p = p' + 1 := ⟨p - 1, by omega⟩
        obtain ⟨n', rfl⟩ : ∃ n', n = n' + 1 := ⟨n - 1, by omega⟩
        rw [Nat.add_mul, Nat.mul_add]; omega
      exact this
  refine ⟨by omega, fun h => ?_, fun h => ?_, hdn⟩
  · have h1 : 1 ≤ d := by
      rcases Nat.eq_zero_or_pos d with h0 | h0
      · rw [h0, Nat.mul_zero] at hm; omega
      · exact h0
    refine ⟨h1, ?_⟩
    rw [Nat.sub_mul]; omega
  · rw [← hd, h, Nat.div_eq_of_lt (by omega)]
theorem item_place {n p b j : Nat} (hp : 1 ≤ p) (hpb : p * b = 64) (hj : j < n) : 1 + j / p < 1 + (n + p - 1) / p ∧ j % p * b + b ≤ 64 := by
  constructor
  · have h1 : (j + p) / p = j / p + 1 := Nat.add_div_right j (by omega)
    have h2 : (j + p) / p ≤ (n + p - 1) / p := Nat.div_le_div_right (by omega)
    omega
  · have h := Nat.mod_lt j (show 0 < p by omega)
    have : (j % p + 1) * b ≤ p * b := Nat.mul_le_mul_right _ (by omega)
    rw [Nat.add_mul] at this; omega
end Go.Proofs.Ytcjkmgjonnnapaa
