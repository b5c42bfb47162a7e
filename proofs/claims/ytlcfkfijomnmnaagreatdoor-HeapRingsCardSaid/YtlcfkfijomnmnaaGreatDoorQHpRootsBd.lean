import Derived.Test.YtlcfkfijomnmnaaGreatDoorQHpSeqBd
namespace Go.Proofs.YtlcfkfijomnmnaaGreatDoor
open Lib (hid)
section
open Go.RowKit Go.Maps Go.WideMaps
variable {w0 w w' W : World} {q l a cb sb : Nat} {xs : List Nat}
def GathP (w : World) (xs : List Nat) (e : Ending) (w' : World) : Prop := ∃ rv, e = .returned (.tuple #[rv, .bool true]) ∧ w'.ownsRow w.heap.size 56 1 rv xs.length (u64s xs) ∧ Below w.heap.size w w'
structure GaI (w : World) (pre : List Nat) (W : World) : Prop where
  l0 : ∃ lv, W.heap[w.heap.size]? = some (.cells #[lv] 60 (0, 0)) ∧ W.ownsRow w.heap.size 56 1 lv pre.length (u64s pre) ∧ ∀ b, lv.ownBlock = some b → b ≠ w.heap.size ∧ b ≠ w.heap.size + 1
  k0 : W.heap[w.heap.size + 1]? = some (.cells #[.bool false] 4 (0, 0))
  be : Below w.heap.size w W
theorem GaI.put {pre : List Nat} {W : World} {l : Nat} {o : Obj} (h : GaI w pre W) (o' : Obj) (hl : w.heap.size ≤ l) (hh : W.heap[l]? = some o) (ho : o.isCells = false) : GaI w pre (W.putObj l o') := by
  have u : Upd (fun b => b = l) W (W.putObj l o') := (Upd.refl _ W).grown (grownBy_putObj' W l o') (fun k e => by cases e; exact .inl rfl)
  have hc : ∀ b cs t fr, W.heap[b]? = some (.cells cs t fr) → ¬ b = l := fun b cs t fr hb e => by rw [e, hh] at hb; injection hb with hb; subst hb; simp [Obj.isCells] at ho
  obtain ⟨lv, h1, h2, h3⟩ := h.l0
  refine ⟨⟨lv, u.heap_some h1 (hc _ _ _ _ h1), ownsRow_upd h2 u (fun b hb => ?_), h3⟩, u.heap_some h.k0 (hc _ _ _ _ h.k0), h.be.grown (grownBy_putObj' W l o') h.be.size (fun q e => by cases e; exact hl)⟩
  rcases h2.2 with ⟨e, _⟩ | ⟨q, cap, cur, e, _, hq, _⟩
  · rw [e] at hb; simp [Value.ownBlock] at hb
  · rw [e] at hb; simp [Value.ownBlock] at hb; subst hb
    exact hc _ _ _ _ hq
theorem GaI.below {pre : List Nat} {W W' : World} (h : GaI w pre W) (hb : Below W.heap.size W W') : GaI w pre W' := by
  have u : Upd (fun _ => False) W W' := Upd.of_below hb
  obtain ⟨lv, h1, h2, h3⟩ := h.l0
  exact ⟨⟨lv, u.heap_some h1 (fun h => h), ownsRow_upd h2 u (fun _ _ h => h), h3⟩, u.heap_some h.k0 (fun h => h), h.be.trans (hb.mono h.be.size)⟩
set_option maxRecDepth 100000 in
set_option maxHeartbeats 8000000 in
theorem gather_seq (v : Value) (hs : w.heap[sb]? = some (.cells #[v] 60 (0, 0))) (hv : U64At w v xs) (hl : xs.length ≤ 1000000) :
    Calls Tryz.prog 25 #[.func (.func 29) #[] #[.pointer (some ⟨sb, 0, none⟩)]] w (GathP w xs) := by
  have hmf : ∀ (fn : Fn) (first cap : Array Value) (w : World), (Instr.makeFunc fn first cap).run Tryz.prog w = .ok (.func fn first cap) w := fun _ _ _ _ => rfl
  have hnf : ∀ w : World, (binOp BinOp.neq 58 (.func (.func 29) #[] #[.pointer (some ⟨sb, 0, none⟩)]) .nilFunc).run Tryz.prog w = .ok (.bool true) w := fun _ => by rfl
  have HS := hid hs; have HV := hid hv; have HL := hid hl
  clear hs hv hl
  refine (callsIn_wide (n := 7)).1 ?_
  refine callsIn_of_wp_marks Tryz.func25 rfl trivial ?_ rfl
  refine wpIn_wide.2 ?_
  simp only [Tryz.ntmps25, List.size_toArray, List.length_cons, List.length_nil, Nat.reduceAdd, Nat.reduceSub, Array.replicate_succ, Array.replicate_zero, List.push_toArray, List.append_toArray, List.nil_append, List.cons_append]
  go_wp2_with fail
  obtain ⟨W1, hW1⟩ : ∃ W1, W1 = (w.alloc (.cells #[.slice none 0 0] 60)).alloc (.cells #[.bool false] 4) := ⟨_, rfl⟩
  rw [← hW1]
  have hz1 : W1.heap.size = w.heap.size + 2 := by rw [hW1]; simp
  have hI0 : GaI w [] W1 := by
    rw [hW1]
    exact ⟨⟨.slice none 0 0, heap_alloc_keep (heap_alloc_at _ _ rfl) _, ⟨by simp [u64s], .inl ⟨rfl, rfl⟩⟩, fun b h => by cases h⟩, heap_alloc_at _ _ (by simp), ((Below.refl _ _).alloc (Nat.le_refl _) _).alloc (by simp) _⟩
  have HI0 := hid hI0; have HZ1 := hid hz1
  clear hW1 hI0 hz1
  have HIT := hid (seq_iter 6 sb v xs (by omega) HL.out W1 (fun _ _ => True) (GaI w) (fun _ _ _ => False) (fun pre W' h => ⟨by
    have := heap_cell ((Upd.of_below (S := fun _ => False) h.be).heap_some HS.out (fun h => h)) 0
    simpa using this, HV.out.below h.be⟩))
  refine (wpIn_wide (n := 7)).1 ?_
  refine wpIn_range_atG (F := Fence.wide) (n := 7) rfl (by omega) (gf := 29) (lb := #[.pointer (some ⟨sb, 0, none⟩)]) rfl trivial (enters_of Tryz.func29 (by kernel_rfl) rfl)
    (encs := encU) (fun _ => rfl) (fun _ _ => True) (GaI w) (fun _ _ _ => False)
    (fun _ _ => trivial) (fun _ _ _ _ _ _ _ => trivial)
    (fun pre W l o o' hl h ho hi => hi.put o' (Nat.le_trans HI0.out.be.size hl) h ho) (fun c pre W l o o' hl h ho hi => hi)
    (fun o o' => HI0.out.below (((Below.refl _ _).alloc (Nat.le_refl _) _).alloc (by simp) _)) (fun y => { tmps := #[.func (.func 29) #[] #[.pointer (some ⟨sb, 0, none⟩)], undef, .pointer (some ⟨w.heap.size, 0, none⟩), .pointer (some ⟨w.heap.size + 1, 0, none⟩), .int .u64 (y : Nat), .func (.func 51) #[] #[.pointer (some ⟨w.heap.size, 0, none⟩), .pointer (some ⟨w.heap.size + 1, 0, none⟩)], .func (.func 29) #[] #[.pointer (some ⟨sb, 0, none⟩)], .bool true, .func (.func 29) #[] #[.pointer (some ⟨sb, 0, none⟩)], .int .u64 (y : Nat), undef, undef, undef, undef, undef], defers := [] }) HIT.out ?assign ?body ?done ?stop
  case assign =>
    intro l x W K hK
    dsimp only [encU]
    refine wpIn_region_plain (by simp) (fun _ _ h => h) ?_
    go_wp2_with fail
    dsimp only [OnlyN, Exit.then]
    exact hK
  case body =>
    rintro l pre y W hi hG
    obtain ⟨lv, h1, h2, h3⟩ := hi.l0
    obtain ⟨ao3, c3, rfl, _⟩ := ownsRow_form h2
    have k6 := heap_cell h1 0
    have f6 := heap_frozen h1 0
    simp at k6
    have HI := hid hi
    obtain ⟨i0, hi0, hz0, hz1, hz2⟩ := info_parts Tryz.infoU64
    have Hi := hid hi0; have Hz0 := hid hz0; have Hz1 := hid hz1; have Hz2 := hid hz2
    have H1 := hid h1; have H2 := hid h2; have H3 := hid h3
    have hpl : pre.length < 1000000 := by
      obtain ⟨r, hr⟩ := hG
      have := congrArg List.length hr
      simp at this
      have := HL.out; omega
    have HPL := hid hpl
    clear h1 h2 h3 hi hi0 hz0 hz1 hz2 hpl hG
    obtain ⟨pn, hpn⟩ : ∃ pn, pre.length = pn := ⟨_, rfl⟩
    rw [hpn] at k6 H1 H2 H3 HPL
    have HPN := hid hpn
    clear hpn
    refine Go.wpIn_block ?_
    refine wpIn_region_plain (by simp) (fun _ _ h => h) ?_
    simp only
    have HNEWS := hid (show ∀ (j : Nat) (v : Value), ([Value.int .u64 y] : List Value)[j]? = some v → (W.alloc (.cells #[.int .u64 y] 56)).cell? ((⟨W.heap.size, 0, none⟩ : Addr).add j) = some v from by
      intro j v hj
      rw [Addr.add_lit, Nat.zero_add, heap_cell (heap_alloc_at W (.cells #[.int .u64 y] 56) rfl)]
      simpa using hj)
    have HONE := hid (show ∀ v ∈ ([Value.int .u64 y] : List Value), v.oneCell' = true by
      intro v hv
      rw [List.mem_singleton.1 hv]; rfl)
    have HSV := hid (show w.heap.size ≤ (W.alloc (.cells #[.int .u64 y] 56)).heap.size by have := HI.out.be.size; simp; omega)
    have HR2 := hid (H2.out.alloc (.cells #[.int .u64 y] 56))
    have HH1 := hid (heap_alloc_keep H1.out (.cells #[.int .u64 y] 56))
    have HL1 := hid (show pn + 1 ≤ maxLen by have := HPL.out; unfold maxLen; omega)
    have HL2 := hid (show (pn + 1) * 8 ≤ 140737488355328 by have := HPL.out; omega)
    have HNO := hid (show some w.heap.size ≠ (Value.slice ao3 pn c3).ownBlock from fun e => (H3.out _ e.symm).1 rfl)
    go_wp2_with (at_builtin; refine wpList_append_own2 _ rfl _ _ 60 rfl w.heap.size 56 i0 _ 1 8 Tryz.underlying60 Hi.out Hz0.out Hz1.out Hz2.out rfl (by decide) _ _ _ rfl HR2.out ⟨W.heap.size, 0, none⟩ 1 1 [.int .u64 y] rfl rfl HNEWS.out HONE.out HL1.out HL2.out HSV.out (by decide) ?_; intro v4 V4 r4 g4 mu4; have g4 : (W.alloc (.cells #[.int .u64 y] 56)).grownBy V4 (Value.slice ao3 pn c3).ownBlock := g4; have mu4 : MovedUp (W.alloc (.cells #[.int .u64 y] 56)) (.slice ao3 pn c3) v4 := mu4; have HQ4 := hid (show V4.heap[w.heap.size]? = some (.cells #[.slice ao3 pn c3] 60 (0, 0)) by rw [g4.block _ (heap_lt HH1.out) HNO.out]; exact HH1.out); have k7 := heap_cell HQ4.out 0; have f7 := heap_frozen HQ4.out 0; simp at k7; obtain ⟨ao4, c4, rfl, _⟩ := ownsRow_form r4; have HR4 := hid r4; have HG4 := hid g4; have HM4 := hid mu4; clear r4 g4 mu4)
    dsimp only [OnlyN, Exit.inBlock]
    have u2 : Upd (fun b => (Value.slice ao3 pn c3).ownBlock = some b) W V4 := ((Upd.refl (fun b => (Value.slice ao3 pn c3).ownBlock = some b) W).alloc _).grown HG4.out (fun k hk => .inl hk)
    have u3 : Upd (fun b => b = w.heap.size) V4 (V4.setCell ⟨w.heap.size, 0, none⟩ (.slice ao4 (pn + 1) c4)) := upd_set _ _ _ _
    have uA : Upd (fun b => b = w.heap.size ∨ (Value.slice ao3 pn c3).ownBlock = some b) W (V4.setCell ⟨w.heap.size, 0, none⟩ (.slice ao4 (pn + 1) c4)) := (u2.mono (fun b _ h => .inr h)).trans' (u3.mono (fun b _ h => .inl h))
    have hne : ∀ b, (Value.slice ao4 (pn + 1) c4).ownBlock = some b → b ≠ w.heap.size ∧ b ≠ w.heap.size + 1 := fun b hb => by
      rcases HM4.out with h1 | h1
      · rw [h1] at hb; exact H3.out b hb
      · have h2 := h1 b hb
        have h3 := heap_lt HI.out.k0
        simp at h2
        omega
    have hcl : ∀ k o, (k = w.heap.size ∨ (Value.slice ao3 pn c3).ownBlock = some k) → W.heap[k]? = some o → o.isCells = true := fun k o hk ho => by
      rcases hk with rfl | hk
      · rw [H1.out] at ho; injection ho with ho; subst ho; rfl
      · rcases H2.out.2 with ⟨h, _⟩ | ⟨q, cap, cur, h, _, hq, _⟩
        · rw [h] at hk; simp [Value.ownBlock] at hk
        · rw [h] at hk; simp [Value.ownBlock] at hk; subst hk
          rw [hq] at ho; injection ho with ho; subst ho; rfl
    have hs := heap_set_at HQ4.out 0 (.slice ao4 (pn + 1) c4)
    refine ⟨⟨uA.size, fun k o _ hk ho => uA.heap_some hk (fun h => by rw [hcl k o h hk] at ho; cases ho)⟩, trivial, ⟨.slice ao4 (pn + 1) c4, by simpa using hs, ?_, hne⟩, uA.heap_some HI.out.k0 (fun h => ?_), HI.out.be.trans (uA.below (fun k hk => ?_) HI.out.be.size)⟩
    · have h1 := ownsRow_upd HR4.out u3 (fun b hb e => (hne b hb).1 e)
      rw [List.length_append, HPN.out, show u64s (pre ++ [y]) = u64s pre ++ [Value.int .u64 y] by simp [u64s]]
      exact h1
    · rcases h with h | h
      · omega
      · exact (H3.out _ h).2 rfl
    · rcases hk with h | h
      · omega
      · exact (H2.out.lt k h).1
  case done =>
    rintro D ys W rfl hi hD hDl
    obtain ⟨lv, h1, h2, h3⟩ := hi.l0
    obtain ⟨ao6, c6, rfl, _⟩ := ownsRow_form h2
    obtain ⟨nn, hnn⟩ : ∃ nn, ys.length = nn := ⟨_, rfl⟩
    rw [hnn] at h1 h2 h3
    have k6 := heap_cell h1 0
    have f6 := heap_frozen h1 0
    have o6 := heap_cell hi.k0 0
    have g6 := heap_frozen hi.k0 0
    simp at k6 o6
    have HI := hid hi; have H1 := hid h1; have H2 := hid h2; have H3 := hid h3; have HD := hid hD; have HDL := hid hDl; have HNN := hid hnn
    clear hi h1 h2 h3 hD hDl hnn
    dsimp only [Exit.inBlock, Exit.then]
    apply_assumption
    go_wp2
    obtain ⟨W3, hW3⟩ : ∃ W3, W3 = (W.setCell ⟨w.heap.size, 0, none⟩ (.slice ao6 nn c6)).setCell ⟨w.heap.size + 1, 0, none⟩ (.bool true) := ⟨_, rfl⟩
    rw [← hW3]
    have u3 : Upd (fun b => b = w.heap.size ∨ b = w.heap.size + 1) W W3 := by rw [hW3]; exact ((Upd.refl (fun b => b = w.heap.size ∨ b = w.heap.size + 1) W).setCell (p := ⟨w.heap.size, 0, none⟩) (.inl (.inl rfl)) _).setCell (p := ⟨w.heap.size + 1, 0, none⟩) (.inl (.inr rfl)) _
    have x1 : Upd (fun b => b = w.heap.size) W (W.setCell ⟨w.heap.size, 0, none⟩ (.slice ao6 nn c6)) := upd_set _ _ _ _
    have x2 : Upd (fun b => b = w.heap.size + 1) (W.setCell ⟨w.heap.size, 0, none⟩ (.slice ao6 nn c6)) W3 := by rw [hW3]; exact upd_set _ _ _ _
    have l3 : W3.heap[w.heap.size]? = some (.cells #[.slice ao6 nn c6] 60 (0, 0)) := x2.heap_some (by simpa using heap_set_at H1.out 0 (.slice ao6 nn c6)) (fun e => by omega)
    have o3 : W3.heap[w.heap.size + 1]? = some (.cells #[.bool true] 4 (0, 0)) := by rw [hW3]; simpa using heap_set_at (x1.heap_some HI.out.k0 (fun e => by omega)) 0 (.bool true)
    have hK3 : W3.heap[D]? = some (.deferred (some [])) := u3.heap_some HD.out (fun e => by
      rcases e with e | e
      · have := HD.out; rw [e, H1.out] at this; cases this
      · have := HD.out; rw [e, HI.out.k0] at this; cases this)
    obtain ⟨W4, hW4⟩ : ∃ W4, W4 = W3.putObj D (.deferred none) := ⟨_, rfl⟩
    have u4 : Upd (fun b => b = D) W3 W4 := by rw [hW4]; exact (Upd.refl _ W3).grown (grownBy_putObj' W3 D _) (fun k e => by cases e; exact .inl rfl)
    have hd3 : ∀ b cs t fr, W3.heap[b]? = some (.cells cs t fr) → ¬ b = D := fun b cs t fr hb e => by rw [e, hK3] at hb; cases hb
    have c4 := heap_cell (u4.heap_some l3 (hd3 _ _ _ _ l3)) 0
    have c5 := heap_cell (u4.heap_some o3 (hd3 _ _ _ _ o3)) 0
    simp at c4 c5
    have r3 : W3.ownsRow w.heap.size 56 1 (.slice ao6 nn c6) nn (u64s ys) := ownsRow_upd H2.out u3 (fun b hb e => by
      have := H3.out b hb
      rcases e with e | e
      · exact this.1 e
      · exact this.2 e)
    have r4 : W4.ownsRow w.heap.size 56 1 (.slice ao6 nn c6) nn (u64s ys) := by
      refine ownsRow_upd r3 u4 (fun b hb => ?_)
      rcases r3.2 with ⟨h, _⟩ | ⟨q, cap, cur, h, _, hq, _⟩
      · rw [h] at hb; simp [Value.ownBlock] at hb
      · rw [h] at hb; simp [Value.ownBlock] at hb; subst hb
        exact hd3 _ _ _ _ hq
    have hbe : Below w.heap.size w W4 := by
      have h1 := HI.out.be.trans (u3.below (fun k hk => by omega) HI.out.be.size)
      have h2 := HDL.out; have h3 := HZ1.out
      exact h1.trans (u4.below (fun k hk => by omega) h1.size)
    have hfin : GathP w ys (.returned (.tuple #[.slice ao6 nn c6, .bool true])) W4 := ⟨.slice ao6 nn c6, rfl, by rw [HNN.out]; exact r4, hbe⟩
    refine ⟨by simp, .inl ⟨_, _, rfl, run_takeDeferred hK3, ?_⟩⟩
    rw [← hW4]
    refine ⟨by simp, .inr ⟨fun h => by simp [Fence.wide] at h, _, _, 51, #[.pointer (some ⟨w.heap.size, 0, none⟩), .pointer (some ⟨w.heap.size + 1, 0, none⟩)], rfl, by simp [go_sem], fun _ _ => trivial, ?_⟩⟩
    refine (gather_idle _ ⟨w.heap.size, 0, none⟩ ⟨w.heap.size + 1, 0, none⟩ W4).mono ?_
    rintro e u' w5 ⟨rfl, rfl, hw5⟩
    rw [hw5]
    refine ⟨.tuple #[.slice ao6 nn c6, .bool true], ?_, hfin⟩
    simp [results, Tryz.results25, go_sem, c4, c5]
  case stop => intro D c pre W _ h; exact h.elim
set_option maxRecDepth 100000 in
theorem gather_nil (w : World) :
    Calls Tryz.prog 25 #[.nilFunc] w (GathP w []) := by
  have hmf : ∀ (fn : Fn) (first cap : Array Value) (w : World), (Instr.makeFunc fn first cap).run Tryz.prog w = .ok (.func fn first cap) w := fun _ _ _ _ => rfl
  have hnf : ∀ w : World, (binOp BinOp.neq 58 .nilFunc .nilFunc).run Tryz.prog w = .ok (.bool false) w := fun _ => by rfl
  refine (callsIn_wide (n := 7)).1 ?_
  refine callsIn_of_wp_marks Tryz.func25 rfl trivial ?_ rfl
  refine wpIn_wide.2 ?_
  simp only [Tryz.ntmps25, List.size_toArray, List.length_cons, List.length_nil, Nat.reduceAdd, Nat.reduceSub, Array.replicate_succ, Array.replicate_zero, List.push_toArray, List.append_toArray, List.nil_append, List.cons_append]
  go_wp2
  obtain ⟨W4, hW4⟩ : ∃ W4, W4 = (w.alloc (.cells #[.slice none 0 0] 60)).alloc (.cells #[.bool true] 4) := ⟨_, rfl⟩
  rw [← hW4]
  have c4 : W4.cell? ⟨w.heap.size, 0, none⟩ = some (.slice none 0 0) := by rw [hW4]; simp
  have c5 : W4.cell? ⟨w.heap.size + 1, 0, none⟩ = some (.bool true) := by rw [hW4]; simp
  have hbe : Below w.heap.size w W4 := by rw [hW4]; exact ((Below.refl _ _).alloc (Nat.le_refl _) _).alloc (by simp) _
  have hfin : GathP w [] (.returned (.tuple #[.slice none 0 0, .bool true])) W4 := ⟨.slice none 0 0, rfl, ⟨by simp [u64s], .inl ⟨rfl, rfl⟩⟩, hbe⟩
  refine ⟨by simp, .inr ⟨fun h => by simp [Fence.wide] at h, _, _, 51, #[.pointer (some ⟨w.heap.size, 0, none⟩), .pointer (some ⟨w.heap.size + 1, 0, none⟩)], rfl, by simp [go_sem], fun _ _ => trivial, ?_⟩⟩
  refine (gather_idle _ ⟨w.heap.size, 0, none⟩ ⟨w.heap.size + 1, 0, none⟩ W4).mono ?_
  rintro e u' w5 ⟨rfl, rfl, hw5⟩
  rw [hw5]
  refine ⟨.tuple #[.slice none 0 0, .bool true], ?_, hfin⟩
  simp [results, Tryz.results25, go_sem, c4, c5]
end
section
open Go.RowKit Go.Maps Go.WideMaps
variable {w0 w w' W : World} {hb : Nat} {x : Sb} {hk hn : Int} {kn : Bool} {tn : Int} {m : Nat} {bs bs' bs1 bs2 : List Blk} {t p kb : Nat} {S R Sa T Z : Nat → Prop} {q l a cb sb : Nat} {xs : List Nat}
theorem u64At_own {W : World} {B : Nat} {v : Value} {xs : List Nat} (h : W.ownsRow B 56 1 v xs.length (u64s xs)) : U64At W v xs := by
  obtain ⟨ao, c, rfl, _⟩ := ownsRow_form h
  refine ⟨ao, c, rfl, ?_⟩
  rcases h.2 with ⟨_, h0⟩ | ⟨g, cap, cur, e, _⟩
  · exact .inl (List.eq_nil_of_length_eq_zero h0)
  · simp only [Value.slice.injEq] at e
    refine .inr ⟨g, 0, e.1, fun k y hk => ?_⟩
    exact h.cells (g := g) (by rw [e.1]; rfl) k _ (by simp [u64s, hk])
theorem ownsRow_heap {w W : World} {B : Nat} {e : TypeId} {c : Nat} {v : Value} {n : Nat} {xs : List Value} (h : w.ownsRow B e c v n xs) (hk : ∀ b, B ≤ b → b < w.heap.size → W.heap[b]? = w.heap[b]?) : W.ownsRow B e c v n xs := by
  obtain ⟨h1, h2⟩ := h
  refine ⟨h1, h2.imp id ?_⟩
  rintro ⟨g, cap, cur, e', hg, hh, hr⟩
  exact ⟨g, cap, cur, e', hg, by rw [hk g hg (heap_lt hh)]; exact hh, hr⟩
def RootsOk (Z : Nat → Prop) (w : World) (rv : Value) (xs : List Nat) : Prop := ∀ W, w.heap.size ≤ W.heap.size → (∀ b, Z b → W.heap[b]? = w.heap[b]?) → Calls Tryz.prog 25 #[rv] W (GathP W xs)
theorem roots_nil : RootsOk Z w .nilFunc [] := fun W _ _ => gather_nil W
set_option maxRecDepth 100000 in
set_option maxHeartbeats 4000000 in
theorem Collect_h (h : HpZ Z w0 hb x hk hn true tn m bs w) (ht : Things bs) (htab : WTab w0 ∧ TzTab w0) (hZ : ∀ b, Z b → b < w.heap.size) (hnm : ∀ a, ¬ MarkX bs a)
    (rv : Value) (xs : List Nat) (hr : RootsOk Z w rv xs) (hx : ∀ y ∈ xs, y < 18446744073709551616) (hl : xs.length ≤ 1000000) :
    Calls Tryz.prog 12 #[.pointer (some ⟨hb, 0, none⟩), rv] w fun e w' => ∃ bs', CollOf bs xs bs' ∧ e = .returned (.int .i64 ((usedSum bs' : Int) - (usedSum (sweepF bs') : Int))) ∧ HpZ Z w0 hb x hk hn true (wrap64 (tn + 1)) m (sweepF bs') w' ∧ Kept Z w w' := by
  have H := hid h; have HTH := hid ht; have HTB := hid htab; have HZ := hid hZ; have HNM := hid hnm; have HR := hid hr; have HX := hid hx; have HL := hid hl
  clear h ht htab hZ hnm hr hx hl
  go_enter Tryz.func12, Tryz.ntmps12
  go_wp2_with fail
  refine (made_h H.out).mono ?_
  rintro e w1 ⟨rfl, rfl⟩
  go_wp2_with fail
  refine (HR.out w (Nat.le_refl _) (fun _ _ => rfl)).mono ?_
  rintro e w2 ⟨lv, rfl, hrow, hb2⟩
  obtain ⟨ao, c, rfl, _⟩ := ownsRow_form hrow
  have HROW := hid hrow; have HB2 := hid hb2
  clear hrow hb2
  obtain ⟨nn, hnn⟩ : ∃ nn, xs.length = nn := ⟨_, rfl⟩
  rw [hnn] at HROW ⊢
  have HNN := hid hnn
  clear hnn
  go_wp2_with fail
  have hvv : ∀ W, (∀ b, (Z b ∨ (w.heap.size ≤ b ∧ b < w2.heap.size)) → W.heap[b]? = w2.heap[b]?) → U64At W (.slice ao nn c) xs := fun W hk => by
    have hr := HROW.out
    rw [← HNN.out] at hr ⊢
    exact u64At_own (ownsRow_heap hr (fun b h1 h2 => hk b (.inr ⟨h1, h2⟩)))
  refine (collect_h (H.out.grow HB2.out) HTH.out HTB.out (grow_lt HZ.out HB2.out) HNM.out (.slice ao nn c) xs hvv HX.out HL.out).mono ?_
  rintro e w3 ⟨bs', hco, rfl, hz3, hk3⟩
  have HC := hid hco; have HZ3 := hid hz3; have HK3 := hid hk3
  clear hvv hco hz3 hk3
  go_wp2
  go_ret
  exact ⟨bs', HC.out, rfl, HZ3.out.less (fun b h => .inl h), (Kept.of_below HZ.out HB2.out).trans (HK3.out.less (fun b h => .inl h))⟩
theorem Used_h (h : HpZ Z w0 hb x hk hn kn tn m bs w) :
    Calls Tryz.prog 13 #[.pointer (some ⟨hb, 0, none⟩)] w fun e w' => e = .returned (.int .i64 (usedSum bs : Nat)) ∧ Below w.heap.size w w' := by
  obtain ⟨t, p, kb, S, R, Sa, T, hw, hd⟩ := h.ex
  have k1 := heap_cell hw.box 1
  simp at k1
  have H := hid h; have HW := hid hw
  clear h hw hd
  go_enter Tryz.func13, Tryz.ntmps13
  go_wp2_with fail
  refine (made_h H.out).mono ?_
  rintro e w1 ⟨rfl, rfl⟩
  go_wp2_with fail
  refine (Used_n HW.out.arR.toN).mono ?_
  rintro e w2 ⟨rfl, rfl⟩
  go_wp2
  go_ret
  exact ⟨rfl, Below.refl _ _⟩
theorem Turns_h (h : HpZ Z w0 hb x hk hn kn tn m bs w) :
    Calls Tryz.prog 17 #[.pointer (some ⟨hb, 0, none⟩)] w fun e w' => e = .returned (.int .i64 tn) ∧ Below w.heap.size w w' := by
  obtain ⟨t, p, kb, S, R, Sa, T, hw, hd⟩ := h.ex
  have k1 := heap_cell hw.box 3
  simp at k1
  have H := hid h
  clear h hw hd
  go_enter Tryz.func17, Tryz.ntmps17
  go_wp2_with fail
  refine (made_h H.out).mono ?_
  rintro e w1 ⟨rfl, rfl⟩
  go_wp2
  go_ret
  exact ⟨rfl, Below.refl _ _⟩
theorem sorted_most : ∀ (l : List Nat) (lo N : Nat), l.Pairwise (· < ·) → (∀ a ∈ l, lo ≤ a ∧ a < N) → lo ≤ N → lo + l.length ≤ N
  | [], lo, N, _, _, h => by simpa using h
  | a :: l, lo, N, hp, hb, _ => by
    have h1 := hb a (by simp)
    have h2 := sorted_most l (a + 1) N (List.pairwise_cons.1 hp).2 (fun y hy => ⟨(List.pairwise_cons.1 hp).1 y hy, (hb y (by simp [hy])).2⟩) (by omega)
    simp only [List.length_cons]; omega
def liveN (bs : List Blk) (l : List Nat) : Nat := (l.map fun a : Nat => sizeF bs (a : Int) + 1).sum
theorem liveN_le {bs : List Blk} (h : ∀ a : Nat, sizeF bs (a : Int) ≤ 1048576) : ∀ l : List Nat, liveN bs l ≤ l.length * 1048577
  | [] => by simp [liveN]
  | a :: l => by
    have h1 := liveN_le h l
    have h2 := h a
    unfold liveN at h1 ⊢
    rw [List.map_cons, List.sum_cons, List.length_cons, Nat.add_mul]
    omega
theorem liveN_take {bs : List Blk} {l : List Nat} {k a : Nat} (h : l[k]? = some a) : liveN bs (l.take (k + 1)) = liveN bs (l.take k) + (sizeF bs (a : Int) + 1) := by
  unfold liveN
  rw [List.take_add_one, h]
  simp
set_option maxRecDepth 100000 in
set_option maxHeartbeats 4000000 in
theorem Live_h (h : HpZ Z w0 hb x hk hn true tn m bs w) (ht : Things bs) (htab : WTab w0 ∧ TzTab w0)
    (rv : Value) (xs : List Nat) (hr : RootsOk Z w rv xs) (hx : ∀ y ∈ xs, y < 18446744073709551616) (hl : xs.length ≤ 1000000) :
    Calls Tryz.prog 14 #[.pointer (some ⟨hb, 0, none⟩), rv] w fun e w' => ∃ l : List Nat, l.Pairwise (· < ·) ∧ (∀ a, a ∈ l ↔ Rch (UsedC (content bs)) (EF (edF bs)) (fun y => y ∈ xs.filterMap toF) a) ∧ e = .returned (.int .i64 (liveN bs l : Nat)) ∧ Below w.heap.size w w' := by
  obtain ⟨t, p, kb, S, R, Sa, T, hw, hd⟩ := h.ex
  have k1 := heap_cell hw.box 1
  simp at k1
  have K1 := hid k1
  have H := hid h; have HW := hid hw; have HTH := hid ht; have HTB := hid htab; have HR := hid hr; have HX := hid hx; have HL := hid hl
  clear h ht htab hr hx hl hw hd
  go_enter Tryz.func14, Tryz.ntmps14
  go_wp2_with fail
  refine (made_h H.out).mono ?_
  rintro e w1 ⟨rfl, rfl⟩
  go_wp2_with fail
  refine (HR.out w (Nat.le_refl _) (fun _ _ => rfl)).mono ?_
  rintro e w2 ⟨lv, rfl, hrow, hb2⟩
  obtain ⟨ao, c, rfl, _⟩ := ownsRow_form hrow
  have HROW := hid hrow; have HB2 := hid hb2
  have k1 := below_cell hb2 k1
  clear hrow hb2
  obtain ⟨nn, hnn⟩ : ∃ nn, xs.length = nn := ⟨_, rfl⟩
  rw [hnn] at HROW ⊢
  have HNN := hid hnn
  clear hnn
  go_wp2_with fail
  have DR := hid (fun (W : World) (hW : W = w2.drew.alloc (.cells #[.pointer (some ⟨hb, 0, none⟩)] 49)) => by
    have b3 : Below w2.heap.size w2 W := by rw [hW]; exact ((Below.refl _ _).drew).alloc (Nat.le_refl _) _
    have b03 : Below w.heap.size w W := HB2.out.trans (b3.mono HB2.out.size)
    have q3 : W.heap[w2.heap.size]? = some (.cells #[.pointer (some ⟨hb, 0, none⟩)] 49 (0, 0)) := by rw [hW]; exact heap_alloc_at w2.drew _ rfl
    have hw3 := HW.out.below b03
    have hcs : ¬ Sa w2.heap.size := fun k => by
      have h1 := (HW.out.low w2.heap.size (.inr (.inr (.inr (.inr (.inr k)))))).2
      have h2 := HB2.out.size
      omega
    have hr3 := ownsRow_upd HROW.out (Upd.of_below (S := fun _ => False) b3) (fun _ _ h => h)
    rw [← HNN.out] at hr3
    have hu := u64At_own hr3
    rw [HNN.out] at hu
    exact And.intro b03 (reach_any hw3.ar rfl (hw3.env0 HTH.out HTB.out q3 hcs) (.slice ao nn c) xs hu HX.out HL.out))
  go_cut [27, 28, 29] from 20 to 29 (fun s27 s28 s29 wx => ∃ (ao9 : Option Addr) (c9 ln : Nat) (l : List Nat), s27 = .slice ao9 ln c9 ∧ s28 = .int .i64 ln ∧ s29 = .int .i64 0 ∧ l.length = ln ∧ (∃ B, wx.ownsRow B 3 1 (.slice ao9 ln c9) ln (ints l)) ∧ (l.Pairwise (· < ·) ∧ ∀ a, a ∈ l ↔ Rch (UsedC (content bs)) (EF (edF bs)) (fun y => y ∈ xs.filterMap toF) a) ∧ Below w.heap.size w wx)
  case first =>
    go_region_with
      (first
        | (have _q := HR3.out
           go_at_call 31
           refine HR3.out.mono ?_
           rintro e w4 ⟨lv, l, rfl, hl1, hl2, hl3, hb4⟩
           obtain ⟨ao9, c9, rfl, _⟩ := ownsRow_form hl1
           obtain ⟨ln, hln⟩ : ∃ ln, l.length = ln := ⟨_, rfl⟩
           rw [hln] at hl1 ⊢
           have HLN := hid hln
           clear hln
           have HL1 := hid hl1; have HL2 := hid (And.intro hl2 hl3); have HB4 := hid hb4
           clear hl1 hl2 hl3 hb4 _q
           skip)
        | (go_at_call 32
           refine (refs_any _).mono ?_
           rintro e w3 ⟨rfl, hw3⟩
           have D3 := DR.out w3 hw3
           have HB3 := hid D3.1
           have HR3 := hid D3.2
           have k1 := below_cell D3.1 K1.out
           clear hw3
           skip))
    all_goals (go_wp2_with fail)
    all_goals go_meet
    all_goals exact ⟨_, _, _, _, rfl, rfl, rfl, HLN.out, ⟨_, HL1.out⟩, HL2.out, HB3.out.trans (HB4.out.mono HB3.out.size)⟩
  case rest =>
    obtain ⟨ao9, c9, ln, l, rfl, rfl, rfl, hln, ⟨B9, hrow9⟩, hl2, hb9⟩ := hcut
    have HLN := hid hln; have HL1 := hid hrow9; have HL2 := hid hl2; have HB9 := hid hb9
    have k1 := below_cell hb9 K1.out
    clear hln hrow9 hl2 hb9
    have HLL := hid (show ∀ a ∈ l, 1 ≤ a ∧ a < 1048577 by
      intro a ha
      have hu := ((HL2.out.2 a).1 ha).used
      have hth := HTH.out a hu
      refine ⟨?_, hth.q64⟩
      rcases Nat.eq_zero_or_pos a with h0 | h0
      · exfalso
        obtain ⟨ws, hm⟩ := hu
        obtain ⟨b, hb', e⟩ := List.mem_map.1 hm
        have := H.out.wf.span.mem b hb'
        simp only [Prod.mk.injEq] at e
        omega
      · exact h0)
    have HLM := hid (show ln ≤ 1048577 by have := sorted_most l 0 1048577 HL2.out.1 (fun a ha => ⟨Nat.zero_le _, (HLL.out a ha).2⟩) (by omega); have := HLN.out; omega)
    have HSZ := hid (show ∀ a : Nat, sizeF bs (a : Int) ≤ 1048576 by
      intro a
      unfold sizeF
      cases hq : blkAt bs (a : Int) with
      | none => exact Nat.zero_le _
      | some b =>
        have hb' := List.mem_of_find?_eq_some hq
        have h1 := H.out.wf.span.mem b hb'
        have h2 := H.out.wf.small
        have h3 : endOf m ≤ m + 1 := by unfold endOf; split <;> omega
        dsimp only; omega)
    go_wp2_with fail
    go_loopw [7, 29] (fun t7 t29 wr => ∃ k : Nat, t29 = .int .i64 k ∧ k ≤ ln ∧ t7 = .int .i64 (liveN bs (l.take k) : Nat) ∧ wr = wc) (fun _ t29 _ => ln - (intOf t29).toNat)
    case atStart => exact ⟨0, rfl, Nat.zero_le _, by simp [liveN], rfl⟩
    case round =>
      obtain ⟨k, rfl, hk, rfl, rfl⟩ := hrel
      obtain ⟨n, hn⟩ : ∃ n, liveN bs (l.take k) = n := ⟨_, rfl⟩
      rw [hn]
      by_cases hlt : k < ln
      · obtain ⟨a, ha⟩ : ∃ a, l[k]? = some a := ⟨l[k]'(by rw [HLN.out]; exact hlt), by simp [HLN.out, hlt]⟩
        obtain ⟨g, c', cur, e9, _, _, _, hcell⟩ := ownsRow_some HL1.out (by omega)
        simp only [Value.slice.injEq] at e9
        obtain ⟨rfl, -, rfl⟩ := e9
        have hck := hcell k (by omega)
        rw [show (ints l)[k]? = some (.int .i64 (a : Nat)) by unfold ints; rw [List.getElem?_map, ha]; rfl] at hck
        obtain ⟨sz, hsz⟩ : ∃ sz, sizeF bs (a : Int) = sz := ⟨_, rfl⟩
        have HN := hid hn; have HA := hid ha; have HSZA := hid hsz; have HLT := hid hlt
        have hn1 : (n : Int) ≤ 1099513724929 := by
          have h1 := liveN_le HSZ.out (l.take k)
          rw [hn, List.length_take, HLN.out] at h1
          have h2 := HLM.out
          have h3 : min k ln * 1048577 ≤ 1048577 * 1048577 := Nat.mul_le_mul_right _ (by omega)
          omega
        have hn0 : (0 : Int) ≤ n := by omega
        have hs1 : (sz : Int) ≤ 1048576 := by have := HSZ.out a; omega
        have hs0 : (0 : Int) ≤ sz := by omega
        have hk1 : (k : Int) < ln := by omega
        have hk0 : (0 : Int) ≤ k := by omega
        have hk6 : (k : Int) ≤ 1048577 := by have := HLM.out; omega
        have C := hid (Size_n (HW.out.below HB9.out).arR.toN (a : Int) (by omega) (by have := (HLL.out a (List.mem_of_getElem? ha)).2; omega))
        clear hn ha hsz hlt hk hcell
        go_wp2_with fail
        refine C.out.mono ?_
        rintro e w5 ⟨rfl, rfl⟩
        rw [HSZA.out]
        go_wp2_with fail
        go_roundw
        case rel =>
          have e2 := liveN_take (bs := bs) HA.out
          rw [HN.out, HSZA.out] at e2
          exact ⟨k + 1, by go_num, HLT.out, by rw [e2]; go_num, trivial⟩
        case measure => have := HLT.out; simp [intOf]; omega
      · obtain rfl : k = ln := by omega
        have hk1 : ¬ (k : Int) < k := by omega
        have e0 : l.take k = l := by rw [← HLN.out]; simp
        rw [e0] at hn
        have HN := hid hn
        clear hn hlt hk e0
        go_wp2
        go_ret
        exact ⟨l, HL2.out.1, by have := HL2.out.2; simpa using this, by rw [HN.out]; rfl, HB9.out⟩
end
section
open Go.RowKit Go.Maps Go.WideMaps
variable {w : World} {Z : Nat → Prop} {sb B : Nat} {xs : List Nat} {v : Value}
theorem roots_seq (hs : w.heap[sb]? = some (.cells #[v] 60 (0, 0))) (hz : Z sb) (hrow : w.ownsRow B 56 1 v xs.length (u64s xs)) (hB : ∀ b, B ≤ b → b < w.heap.size → Z b) (hl : xs.length ≤ 1000000) :
    RootsOk Z w (.func (.func 29) #[] #[.pointer (some ⟨sb, 0, none⟩)]) xs :=
  fun W _ hk => gather_seq v (by rw [hk sb hz]; exact hs) (u64At_own (ownsRow_heap hrow (fun b h1 h2 => hk b (hB b h1 h2)))) hl
end
end Go.Proofs.YtlcfkfijomnmnaaGreatDoor
