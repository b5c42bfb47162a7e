/- geoderef20: Take, plain. -/
import Derived.Test.YtelohkppbmahnaaDoorQPlPairBd
import Derived.Test.YtelohkppbmahnaaDoorRows
import Derived.Orders
import Derived.OrdersIn
import Derived.RangeFuncCalls
import Derived.TacticsIn
import Derived.Tactics
namespace Go.Proofs.YtelohkppbmahnaaDoor

/-- The place of the best block among the first ones. -/
def BestP (n : Int) (l : List Blk) (t : Int) : Prop :=
  (t = -1 ∧ ∀ b ∈ l, fits n b = false) ∨ ∃ j b, l[j]? = some b ∧ t = (j : Nat) ∧ fits n b = true ∧ ∀ (j' : Nat) (c : Blk), l[j']? = some c → fits n c = true → b.n < c.n ∨ (b.n = c.n ∧ j ≤ j')
theorem BestP.nil (n : Int) : BestP n [] (-1) := .inl ⟨rfl, fun b hb => by simp at hb⟩
theorem BestP.unfit {n : Int} {l : List Blk} {t : Int} (h : BestP n l t) (b : Blk) (hb : fits n b = false) : BestP n (l ++ [b]) t := by
  rcases h with ⟨rfl, h⟩ | ⟨j, c, hj, rfl, hf, hm⟩
  · refine .inl ⟨rfl, fun c hc => ?_⟩
    rcases List.mem_append.1 hc with hc | hc
    · exact h c hc
    · rw [List.mem_singleton] at hc; rw [hc]; exact hb
  · have hlt := (List.getElem?_eq_some_iff.1 hj).1
    refine .inr ⟨j, c, by rw [List.getElem?_append_left hlt]; exact hj, rfl, hf, fun j' d hd hfd => ?_⟩
    by_cases e : j' < l.length
    · rw [List.getElem?_append_left e] at hd; exact hm j' d hd hfd
    · rw [List.getElem?_append_right (by omega)] at hd
      have := (List.getElem?_eq_some_iff.1 hd).1
      simp at this
      rw [this] at hd
      simp at hd
      rw [← hd, hb] at hfd; cases hfd
theorem BestP.first {n : Int} {l : List Blk} (h : ∀ b ∈ l, fits n b = false) (b : Blk) (hb : fits n b = true) : BestP n (l ++ [b]) (l.length : Nat) := by
  refine .inr ⟨l.length, b, by simp, rfl, hb, fun j' d hd hfd => ?_⟩
  by_cases e : j' < l.length
  · rw [List.getElem?_append_left e] at hd
    rw [h d (List.mem_of_getElem? hd)] at hfd; cases hfd
  · rw [List.getElem?_append_right (by omega)] at hd
    have := (List.getElem?_eq_some_iff.1 hd).1
    simp at this
    rw [this] at hd
    simp at hd
    right; rw [← hd]; exact ⟨rfl, by omega⟩
theorem BestP.better {n : Int} {l : List Blk} {j : Nat} {c : Blk} (_ : l[j]? = some c) (hm : ∀ (j' : Nat) (d : Blk), l[j']? = some d → fits n d = true → c.n < d.n ∨ (c.n = d.n ∧ j ≤ j')) (b : Blk) (hb : fits n b = true) (hlt : b.n < c.n) : BestP n (l ++ [b]) (l.length : Nat) := by
  refine .inr ⟨l.length, b, by simp, rfl, hb, fun j' d hd hfd => ?_⟩
  by_cases e : j' < l.length
  · rw [List.getElem?_append_left e] at hd
    have := hm j' d hd hfd
    left; omega
  · rw [List.getElem?_append_right (by omega)] at hd
    have := (List.getElem?_eq_some_iff.1 hd).1
    simp at this
    rw [this] at hd
    simp at hd
    right; rw [← hd]; exact ⟨rfl, by omega⟩
theorem BestP.worse {n : Int} {l : List Blk} {j : Nat} {c : Blk} (hj : l[j]? = some c) (hf : fits n c = true) (hm : ∀ (j' : Nat) (d : Blk), l[j']? = some d → fits n d = true → c.n < d.n ∨ (c.n = d.n ∧ j ≤ j')) (b : Blk) (hge : c.n ≤ b.n) : BestP n (l ++ [b]) (j : Nat) := by
  have hlt := (List.getElem?_eq_some_iff.1 hj).1
  refine .inr ⟨j, c, by rw [List.getElem?_append_left hlt]; exact hj, rfl, hf, fun j' d hd hfd => ?_⟩
  by_cases e : j' < l.length
  · rw [List.getElem?_append_left e] at hd; exact hm j' d hd hfd
  · rw [List.getElem?_append_right (by omega)] at hd
    have := (List.getElem?_eq_some_iff.1 hd).1
    simp at this
    rw [this] at hd
    simp at hd
    rw [← hd]; omega
theorem span_lt : ∀ {l : List Blk} {s t : Nat}, Span s l t → ∀ {i j : Nat} {b c : Blk}, l[i]? = some b → l[j]? = some c → i < j → b.a < c.a
  | [], _, _, _, i, j, b, c, hi, _, _ => by simp at hi
  | d :: l, s, t, ⟨h1, h2, h3⟩, 0, j + 1, b, c, hi, hj, _ => by
    simp at hi hj
    have := h3.mem c (List.mem_of_getElem? hj)
    rw [← hi]; omega
  | d :: l, s, t, ⟨h1, h2, h3⟩, i + 1, j + 1, b, c, hi, hj, hij => by
    simp at hi hj
    exact span_lt h3 hi hj (by omega)
/-- The best place tells what Take finds. -/
theorem BestP.pick {n : Int} {l : List Blk} {t : Int} {s e : Nat} (h : BestP n l t) (hs : Span s l e) : (t = -1 ∧ pickB n l = none) ∨ ∃ j b, l[j]? = some b ∧ t = (j : Nat) ∧ pickB n l = some b ∧ b.u = false ∧ n ≤ b.n := by
  rcases h with ⟨rfl, h⟩ | ⟨j, b, hj, rfl, hf, hm⟩
  · left
    refine ⟨rfl, ?_⟩
    rcases pickB_spec n l with ⟨h1, _⟩ | ⟨c, hc, h1, h2, h3, _⟩
    · exact h1
    · have := h c hc
      rw [(fits_iff n c).2 ⟨h2, h3⟩] at this; cases this
  · right
    have hb := (fits_iff n b).1 hf
    have hbl := List.mem_of_getElem? hj
    rcases pickB_spec n l with ⟨_, h2⟩ | ⟨c, hc, h1, h2, h3, h4⟩
    · have := h2 b hbl hb.1; omega
    · refine ⟨j, b, hj, rfl, ?_, hb⟩
      obtain ⟨k, hk⟩ := List.getElem?_of_mem hc
      have m1 := hm k c hk ((fits_iff n c).2 ⟨h2, h3⟩)
      have m2 := h4 b hbl hb.1 hb.2
      have hkj : k = j := by
        by_cases e1 : k < j
        · omega
        · by_cases e2 : j < k
          · have := span_lt hs hj hk e2; omega
          · omega
      subst hkj
      rw [hj] at hk; injection hk with hk
      rw [h1, hk]
/-- What Take makes of the blocks, by the place. -/
theorem takeF_at {n : Int} (hn : 1 ≤ n) {l : List Blk} {s e j : Nat} {b : Blk} (hs : Span s l e) (hj : l[j]? = some b) (hp : pickB n l = some b) : takeF l n = (b.a, 0, l.take j ++ takeB n b ++ l.drop (j + 1)) := by
  have hlt := (List.getElem?_eq_some_iff.1 hj).1
  have hb : l[j] = b := (List.getElem?_eq_some_iff.1 hj).2
  have e0 : l = l.take j ++ [b] ++ l.drop (j + 1) := by
    rw [← hb, List.append_assoc, List.singleton_append, ← List.drop_eq_getElem_cons hlt, List.take_append_drop]
  unfold takeF
  rw [if_neg (by omega), hp]
  dsimp only
  have h2 := hs
  rw [e0] at h2
  have := flat_at h2 (takeB n b)
  rw [← e0] at this
  rw [this]
theorem takeB_span {n : Nat} {b : Blk} (h1 : 1 ≤ n) (h2 : n ≤ b.n) : Span b.a (takeB n b) (b.a + b.n + 1) := by
  unfold takeB
  split
  · rename_i h
    have e : (zeros (b.n - n - 1)).length = b.n - n - 1 := by simp [zeros]
    have e2 : (zeros n).length = n := by simp [zeros]
    refine ⟨rfl, by show 0 < (zeros _).length; simp [zeros]; omega, ?_, by show 0 < (zeros _).length; simp [zeros]; omega, ?_⟩
    · show b.a + (n : Int).toNat + 1 = b.a + (zeros (n : Int).toNat).length + 1; simp [zeros]
    · show b.a + (zeros (n : Int).toNat).length + 1 + (zeros (b.n - (n : Int).toNat - 1)).length + 1 = _
      simp [zeros]; omega
  · refine ⟨rfl, by show 0 < (zeros _).length; simp [zeros]; omega, ?_⟩
    show b.a + (zeros b.n).length + 1 = _
    simp [zeros]
theorem takeF_wf {m n j : Nat} {l : List Blk} {b : Blk} (hw : Wf m l) (h1 : 1 ≤ n) (hj : l[j]? = some b) (hu : b.u = false) (hn : n ≤ b.n) : Wf m (l.take j ++ takeB n b ++ l.drop (j + 1)) := by
  have hlt := (List.getElem?_eq_some_iff.1 hj).1
  have hb : l[j] = b := (List.getElem?_eq_some_iff.1 hj).2
  have hbl := List.mem_of_getElem? hj
  have e0 : l = l.take j ++ [b] ++ l.drop (j + 1) := by
    rw [← hb, List.append_assoc, List.singleton_append, ← List.drop_eq_getElem_cons hlt, List.take_append_drop]
  have hs := hw.span
  have hs0 := hs
  rw [e0, Span.append] at hs
  obtain ⟨t2, hs1, hs3⟩ := hs
  rw [Span.append] at hs1
  obtain ⟨s2, hs1, hs2⟩ := hs1
  obtain ⟨k1, k2, k3⟩ := hs2
  have k3 : s2 + b.n + 1 = t2 := k3
  have hspan : Span 1 (l.take j ++ takeB n b ++ l.drop (j + 1)) (endOf m) := by
    rw [Span.append]
    refine ⟨t2, ?_, hs3⟩
    rw [Span.append]
    refine ⟨s2, hs1, ?_⟩
    rw [← k3, ← k1]
    exact takeB_span h1 hn
  -- of the new list's free ones: an old one, or the rest of b
  have hold : ∀ c ∈ l.take j ++ takeB n b ++ l.drop (j + 1), c.u = false → (c ∈ l ∧ c ≠ b) ∨ (n + 2 ≤ b.n ∧ c = ⟨b.a + n + 1, zeros (b.n - n - 1), false, false⟩) := fun c hc hcu => by
    simp only [List.append_assoc, List.mem_append] at hc
    have hne : ∀ d, d ∈ l.take j ∨ d ∈ l.drop (j + 1) → d ≠ b := fun d hd e => by
      rcases hd with hd | hd
      · have := hs1.mem d hd; rw [e] at this; omega
      · have := hs3.mem d hd; rw [e] at this; omega
    rcases hc with hc | hc | hc
    · exact .inl ⟨List.mem_of_mem_take hc, hne c (.inl hc)⟩
    · unfold takeB at hc
      split at hc
      · rename_i h
        simp only [List.mem_cons, List.not_mem_nil, or_false] at hc
        rcases hc with rfl | rfl
        · cases hcu
        · exact .inr ⟨by omega, by simp⟩
      · simp only [List.mem_cons, List.not_mem_nil, or_false] at hc
        subst hc; cases hcu
    · exact .inl ⟨List.mem_of_mem_drop hc, hne c (.inr hc)⟩
  refine ⟨hw.small, hspan, fun c hc d hd hcu hdu => ?_, fun c hc hcu => ?_⟩
  · rcases hold c hc hcu with ⟨c1, c2⟩ | ⟨c1, rfl⟩
    · rcases hold d hd hdu with ⟨d1, d2⟩ | ⟨d1, rfl⟩
      · exact hw.two c c1 d d1 hcu hdu
      · rcases hs0.sep c c1 b hbl with e | e | e
        · exact absurd e c2
        · show b.a + n + 1 ≠ _; omega
        · show b.a + n + 1 ≠ _; omega
    · rcases hold d hd hdu with ⟨d1, d2⟩ | ⟨d1, rfl⟩
      · have := hw.two b hbl d d1 hu hdu
        show d.a ≠ b.a + n + 1 + (zeros (b.n - n - 1)).length + 1
        simp [zeros]; omega
      · show b.a + n + 1 ≠ b.a + n + 1 + (zeros (b.n - n - 1)).length + 1
        omega
  · rcases hold c hc hcu with ⟨c1, _⟩ | ⟨_, rfl⟩
    · exact hw.unm c c1 hcu
    · rfl
end Go.Proofs.YtelohkppbmahnaaDoor

/- geoderef20: New. -/
namespace Go.Proofs.YtelohkppbmahnaaDoor
open Go.RowKit

theorem made_u64 (n : Nat) : madeCells #[Value.int .u64 0] n = (u64s (zeros n)).toArray := by
  apply Array.ext'
  rw [made_list, u64s_zeros]
def RNewPost (k : Nat) (w : World) (e : Ending) (W : World) : Prop := ∃ p, e = .returned (.pointer (some ⟨p, 0, none⟩)) ∧ RaV (fun b => w.heap.size ≤ b) W p k (newBs k) ∧ Below w.heap.size w W
set_option maxRecDepth 100000 in
theorem rNew_at (k : Nat) (hk : k ≤ 1048576) (w : World) :
    Calls Tryd.prog 6 #[.int .i64 k] w (RNewPost k w) := by
  have h0 : ¬ (k : Int) < 0 := by omega
  have h1 : ¬ (1048576 : Int) < k := by omega
  have HK := Lib.hid hk
  clear hk
  by_cases h2 : 2 ≤ k
  · have h3 : (1 : Int) < k := by omega
    obtain ⟨s, hs⟩ : ∃ s, k - 1 = s := ⟨_, rfl⟩
    have e5 : IntKind.i64.wrap ((k : Int) - 1) = (s : Int) := by have := HK.out; rw [IntWalk.i64_in _ ⟨by omega, by omega⟩]; omega
    have hm1 := fun W => run_make_row' (P := Tryd.prog) 47 28 (.int .u64 0) 8 Tryd.underlying47 Tryd.infoU64 rfl .i64 .i64 s (by have := HK.out; omega) (by have := HK.out; omega) W
    have HS := Lib.hid hs; have H2 := Lib.hid h2
    clear hs h2
    go_enter Tryd.func6, Tryd.ntmps6
    go_wp2
    go_ret
    obtain ⟨W1, hW1⟩ : ∃ W1, W1 = ((w.alloc (.cells #[.int .i64 (k : Nat), .slice (some ⟨w.heap.size + 1 + 1, 0, none⟩) 1 1] 57)).alloc (.cells (madeCells #[.int .u64 0] s) 28)).alloc (.cells #[.int .i64 1, .slice (some ⟨w.heap.size + 1, 0, none⟩) s s, .bool false, .bool false] 59) := ⟨_, rfl⟩
    have q0 := heap_alloc_keep (heap_alloc_keep (heap_alloc_at w (.cells #[.int .i64 (k : Nat), .slice (some ⟨w.heap.size + 1 + 1, 0, none⟩) 1 1] 57) rfl) (.cells (madeCells #[.int .u64 0] s) 28)) (.cells #[.int .i64 1, .slice (some ⟨w.heap.size + 1, 0, none⟩) s s, .bool false, .bool false] 59)
    have q1 := heap_alloc_keep (heap_alloc_at (w.alloc (.cells #[.int .i64 (k : Nat), .slice (some ⟨w.heap.size + 1 + 1, 0, none⟩) 1 1] 57)) (.cells (madeCells #[.int .u64 0] s) 28) (b := w.heap.size + 1) (by simp)) (.cells #[.int .i64 1, .slice (some ⟨w.heap.size + 1, 0, none⟩) s s, .bool false, .bool false] 59)
    have q2 := heap_alloc_at ((w.alloc (.cells #[.int .i64 (k : Nat), .slice (some ⟨w.heap.size + 1 + 1, 0, none⟩) 1 1] 57)).alloc (.cells (madeCells #[.int .u64 0] s) 28)) (.cells #[.int .i64 1, .slice (some ⟨w.heap.size + 1, 0, none⟩) s s, .bool false, .bool false] 59) (b := w.heap.size + 1 + 1) (by simp)
    have hb : Below w.heap.size w W1 := by rw [hW1]; exact (((Below.refl _ _).alloc (Nat.le_refl _) _).alloc (by simp) _).alloc (by simp; omega) _
    rw [← hW1] at q0 q1 q2 ⊢
    refine ⟨w.heap.size, rfl, ⟨[⟨w.heap.size + 1, ⟨1, zeros s, false, false⟩⟩], ⟨⟨_, q0, ?_, fun g hg => ?_⟩, fun r hr => ?_, by simp, Nat.le_refl _, ?_, fun r hr x hx => ?_⟩, ?_⟩, hb⟩
    · refine ⟨rfl, .inr ⟨_, _, _, rfl, Nat.zero_le _, q2, by simp, by simp [maxLen], by simp, ?_⟩⟩
      simp [cellsR, Blk.n, zeros]
    · simp [Value.ownBlock] at hg; omega
    · rw [List.mem_singleton] at hr; subst hr
      exact ⟨by rw [q1, made_u64], by show w.heap.size ≤ w.heap.size + 1; omega⟩
    · have h := H2.out
      have hs := HS.out
      refine ⟨HK.out, ⟨rfl, by simp [Blk.n, zeros]; omega, ?_⟩, fun b hb c hc _ _ => ?_, fun b hb _ => ?_⟩
      · show 1 + (zeros s).length + 1 = endOf k
        unfold endOf; rw [if_pos h]; simp [zeros]; omega
      · simp [blks] at hb hc; subst hb; subst hc; simp [Blk.n]
      · simp [blks] at hb; subst hb; rfl
    · rw [List.mem_singleton] at hr; subst hr
      simp [zeros] at hx; omega
    · unfold newBs blks; rw [if_pos H2.out, HS.out]; rfl
  · have h3 : ¬ (1 : Int) < k := by omega
    have H2 := Lib.hid h2
    clear h2
    go_enter Tryd.func6, Tryd.ntmps6
    go_wp2
    go_ret
    refine ⟨w.heap.size, rfl, ⟨[], ⟨⟨_, heap_alloc_at _ _ rfl, ⟨by simp, .inl ⟨rfl, rfl⟩⟩, fun g hg => by simp [Value.ownBlock] at hg⟩, fun r hr => by simp at hr, by simp, Nat.le_refl _, ⟨HK.out, ?_, fun b hb => by simp [blks] at hb, fun b hb => by simp [blks] at hb⟩, fun r hr => by simp at hr⟩, ?_⟩, (Below.refl _ _).alloc (Nat.le_refl _) _⟩
    · show (1 : Nat) = endOf k
      unfold endOf; rw [if_neg H2.out]
    · unfold newBs blks; rw [if_neg H2.out]; rfl
end Go.Proofs.YtelohkppbmahnaaDoor

/- Of no program: a region in a round of a range over a function, by the laws of a region outside any fence. -/
namespace Go.Proofs.YtelohkppbmahnaaDoor

/-- Where nothing but the plain end is asked for. -/
def OnlyN (K : Act → World → Prop) : Exit → Act → World → Prop
  | .normal, a, w => K a w
  | _, _, _ => False
theorem onlyN_noOut (K : Act → World → Prop) : ¬ LetsOut (OnlyN K) := fun ⟨_, _, h⟩ => h
/-- What does not panic may be walked where only the plain end is asked for. -/
theorem wp_onlyN {P : Program} {c : Code} {Q : Exit → Act → World → Prop} {a : Act} {w : World} (h : c.wp P (OnlyN (fun a w => Q .normal a w)) a w) : c.wp P Q a w :=
  Code.wp_mono (fun e a w h => by cases e <;> first | exact h | exact h.elim) h
section
variable {P : Program} {ops : Array Oper} {Q : Exit → Act → World → Prop} {l n : Nat}
theorem rows_inRound {row : String} {args : Array Value} {w : World} {R : Value → World → Prop} (h : Rows P row args w R) : RowsIn (Fence.wide.inRound l) n P row args w R :=
  fun c cs _ => let ⟨v, w', r, s⟩ := h c cs; ⟨v, w', r, (StepsIn.of_steps s).mono fun m _ => fenced_wide P m⟩
theorem uponIn_of {o : Oper} {a : Act} {K K' : Act → World → Prop} (hK : ∀ a w, K a w → K' a w) : ∀ {r : Result Next}, o.upon P a K Q r → o.uponIn (Fence.wide.inRound l) n P a K' Q r
  | .ok (.value _) _, h => hK _ _ h
  | .ok .skip _, h => hK _ _ h
  | .ok (.defer _) _, h => hK _ _ h
  | .ok (.enter _ _) _, h => ⟨fun hd => by simp [Fence.wide] at hd, CallsIn.inRound l (callsIn_wide.2 (Calls.mono h fun e w' he => by cases e <;> first | exact hK _ _ he | exact he))⟩
  | .ok (.row _ _) _, h => ⟨fun hd => by simp [Fence.wide] at hd, rows_inRound (Rows.mono h fun _ _ he => hK _ _ he)⟩
  | .ok (.round _ _ _ _ _) _, h => h.elim
  | .halt (.panic _) _, h => h
theorem wpOpsIn_of (hQ : ¬ LetsOut Q) (hnd : ∀ o ∈ ops.toList, ∀ c, o.op ≠ .defer c) : ∀ (is : List Nat) (a : Act) (w : World), wpOps P ops Q is a w → wpOpsIn (Fence.wide.inRound l) n P ops Q is a w
  | [], _, _, h => h
  | i :: rest, a, w, h => by
    simp only [wpOps] at h
    simp only [wpOpsIn]
    cases ho : ops[i]? with
    | none => simp only [ho] at h ⊢; exact wpOpsIn_of hQ hnd rest a w h
    | some o =>
      simp only [ho] at h ⊢
      have hd := hnd o (by rw [← Array.getElem?_toList] at ho; exact List.mem_of_getElem? ho)
      split
      · rename_i hw
        rw [if_pos hw] at h
        rcases h with h | ⟨_, h⟩
        · refine ⟨fun _ _ => trivial, ?_⟩
          rw [show (Fence.wide.inRound l).round = some l from rfl, Oper.semAt_some l _ _ hd]
          exact uponIn_of (wpOpsIn_of hQ hnd rest) h
        · exact (hQ h).elim
      · rename_i hw
        rw [if_neg hw] at h
        exact ⟨fun _ _ => trivial, wpOpsIn_of hQ hnd rest _ _ h⟩
/-- A region that draws its order, in a round: the walk outside the fence. -/
theorem wpIn_region_calm {id : Nat} {K : Act → World → Prop} {a : Act} {w : World} (hm : P.follows .mixedOrders = true) (hnd : ∀ o ∈ ops.toList, ∀ c, o.op ≠ .defer c) (hn : ∀ a w, K a w → Q .normal a w)
    (h : wpAny P .any ops (OnlyN K) ops.size (Array.replicate ops.size false) a w.drew) : (Code.region id ops true).wpIn (Fence.wide.inRound l) n P Q a w := by
  refine wpIn_mono (Q := OnlyN K) ?_ (fun e a w h => by cases e <;> first | exact hn _ _ h | exact h.elim)
  exact wpIn_region_draw fun t => by
    simp only [Region.schedule, hm, Bool.true_or, if_true]
    exact wpOpsIn_of (onlyN_noOut K) hnd _ _ _ (wpAny_sound ops.size t _ a _ h)
/-- A region that draws nothing, in a round: the walk outside the fence. -/
theorem wpIn_region_plain {id : Nat} {K : Act → World → Prop} {a : Act} {w : World} (hnd : ∀ o ∈ ops.toList, ∀ c, o.op ≠ .defer c) (hn : ∀ a w, K a w → Q .normal a w)
    (h : wpList P ops (OnlyN K) ops.toList a w) : (Code.region id ops false).wpIn (Fence.wide.inRound l) n P Q a w := by
  refine wpIn_mono (Q := OnlyN K) ?_ (fun e a w h => by cases e <;> first | exact hn _ _ h | exact h.elim)
  refine wpIn_region (wpOpsIn_of (onlyN_noOut K) hnd _ _ _ ?_)
  rw [List.range_eq_range', ← Array.length_toList, wpOps_eq_wpList ops.toList 0 (by simp)]
  exact h
end
end Go.Proofs.YtelohkppbmahnaaDoor
