import Derived.Test.YtlcfkfijomnmnaaGreatDoorQArTakePBd
namespace Go.Proofs.YtlcfkfijomnmnaaGreatDoor
open Lib (hid)
section
open Go.RowKit
structure Caps where
  w : Nat
  t : Nat
  k : Nat
abbrev bits64 (g m c : Nat) : Value := .slice (some ⟨g, 0, none⟩) (m / 64 + 1) c
structure Ar1 (SL : Nat → Prop) (w : World) (p wb tb kb m : Nat) (mc : Caps) (lv : Value) (ws : List Nat) (L : List (Value × List (Ent Value))) (T K : Nat → Nat) (used : Nat) (tk mk : Nat → Bool) (tbs kbs : List Nat) : Prop where
  core : Core SL w p wb m mc.w (bits64 tb m mc.t) (bits64 kb m mc.k) (.int .i64 used) lv ws L T K
  brt : BRow w tb (m / 64 + 1) mc.t tk tbs
  brk : BRow w kb (m / 64 + 1) mc.k mk kbs
  nt : ¬ SL tb
  nk : ¬ SL kb
  tw : tb ≠ wb
  kw : kb ≠ wb
  tkb : tb ≠ kb
def Own (SL : Nat → Prop) (p wb tb kb : Nat) : Nat → Prop := fun b => b = p ∨ b = wb ∨ b = tb ∨ b = kb ∨ SL b
section
variable {SL : Nat → Prop} {w : World} {p wb tb kb m : Nat} {mc : Caps} {lv : Value} {ws : List Nat} {L : List (Value × List (Ent Value))} {T K : Nat → Nat} {used : Nat} {tk mk : Nat → Bool} {tbs kbs : List Nat}
theorem Ar1.pt (A : Ar1 SL w p wb tb kb m mc lv ws L T K used tk mk tbs kbs) : p ≠ tb := fun e => by
  obtain ⟨cc, hcc⟩ := row_block A.brt.row (b := tb) rfl; rw [← e, A.core.blk] at hcc; simp at hcc
theorem Ar1.pk (A : Ar1 SL w p wb tb kb m mc lv ws L T K used tk mk tbs kbs) : p ≠ kb := fun e => by
  obtain ⟨cc, hcc⟩ := row_block A.brk.row (b := kb) rfl; rw [← e, A.core.blk] at hcc; simp at hcc
theorem Ar1.lt (A : Ar1 SL w p wb tb kb m mc lv ws L T K used tk mk tbs kbs) : ∀ b, Own SL p wb tb kb b → b < w.heap.size := fun b hb => by
  rcases hb with rfl | rfl | rfl | rfl | h
  · exact heap_lt A.core.blk
  · obtain ⟨_, h⟩ := row_block A.core.wrow (b := b) rfl; exact heap_lt h
  · obtain ⟨_, h⟩ := row_block A.brt.row (b := b) rfl; exact heap_lt h
  · obtain ⟨_, h⟩ := row_block A.brk.row (b := b) rfl; exact heap_lt h
  · exact A.core.bound b h
theorem BRow.upd {S : Nat → Prop} {w w' : World} {g n cap : Nat} {f : Nat → Bool} {bs : List Nat} (k : BRow w g n cap f bs) (u : Upd S w w') (h : ¬ S g) : BRow w' g n cap f bs :=
  ⟨ownsRow_upd k.row u (fun b hb => by simp [Value.ownBlock] at hb; subst hb; exact h), k.w64, k.bit⟩
theorem Core.upd {mw : Nat} {tv kv uv : Value} (c : Core SL w p wb m mw tv kv uv lv ws L T K) {S : Nat → Prop} {w' : World} (u : Upd S w w') (hp : ¬ S p) (hw : ¬ S wb) (hs : ∀ b, SL b → ¬ S b) : Core SL w' p wb m mw tv kv uv lv ws L T K :=
  ⟨u.heap_some c.blk hp, ownsRow_upd c.wrow u (fun b hb => by simp [Value.ownBlock] at hb; subst hb; exact hw),
    ⟨ownsRow_upd c.ls.row u (fun b hb => hs b (c.ls.own b hb)), c.ls.own, fun k pr hk => ownsRow_upd (c.ls.mrow k pr hk) u (fun b hb => hs b (c.ls.mown k pr hk b hb).1), c.ls.mown, fun k pr hk e he => ownsRow_upd (c.ls.hrow k pr hk e he) u (fun b hb => hs b (c.ls.hown k pr hk e he b hb).1), c.ls.hown⟩,
    fun b hb => Nat.lt_of_lt_of_le (c.bound b hb) u.size, c.np, c.nwb, c.small, c.w64⟩
theorem Ar1.upd (A : Ar1 SL w p wb tb kb m mc lv ws L T K used tk mk tbs kbs) {S : Nat → Prop} {w' : World} (u : Upd S w w') (h : ∀ b, Own SL p wb tb kb b → ¬ S b) : Ar1 SL w' p wb tb kb m mc lv ws L T K used tk mk tbs kbs :=
  ⟨A.core.upd u (h _ (.inl rfl)) (h _ (.inr (.inl rfl))) (fun b hb => h b (.inr (.inr (.inr (.inr hb))))), A.brt.upd u (h _ (.inr (.inr (.inl rfl)))), A.brk.upd u (h _ (.inr (.inr (.inr (.inl rfl))))), A.nt, A.nk, A.tw, A.kw, A.tkb⟩
theorem Ar1.below (A : Ar1 SL w p wb tb kb m mc lv ws L T K used tk mk tbs kbs) {w' : World} (hb : Below w.heap.size w w') : Ar1 SL w' p wb tb kb m mc lv ws L T K used tk mk tbs kbs :=
  A.upd (S := fun _ => False) (Upd.of_below hb) (fun _ _ h => h)
theorem Ar1.post (A : Ar1 SL w p wb tb kb m mc lv ws L T K used tk mk tbs kbs) {SL' : Nat → Prop} {w' : World} {ws' : List Nat} {L' : List (Value × List (Ent Value))} {T' K' : Nat → Nat} (c : Core SL' w' p wb m mc.w (bits64 tb m mc.t) (bits64 kb m mc.k) (.int .i64 used) lv ws' L' T' K')
    (fr : Fresh SL w SL') (u : Upd (fun b => b = wb ∨ SL b) w w') : Ar1 SL' w' p wb tb kb m mc lv ws' L' T' K' used tk mk tbs kbs := by
  have ht : ¬ (tb = wb ∨ SL tb) := fun h => h.elim A.tw A.nt
  have hk : ¬ (kb = wb ∨ SL kb) := fun h => h.elim A.kw A.nk
  have l1 := A.lt tb (.inr (.inr (.inl rfl)))
  have l2 := A.lt kb (.inr (.inr (.inr (.inl rfl))))
  exact ⟨c, A.brt.upd u ht, A.brk.upd u hk, fun h => (fr _ h).elim A.nt (fun h => by omega), fun h => (fr _ h).elim A.nk (fun h => by omega), A.tw, A.kw, A.tkb⟩
theorem Ar1.use (A : Ar1 SL w p wb tb kb m mc lv ws L T K used tk mk tbs kbs) (u' : Nat) : Ar1 SL (w.setCell ⟨p, 3, none⟩ (.int .i64 (u' : Int))) p wb tb kb m mc lv ws L T K u' tk mk tbs kbs := by
  have u := upd_set w p 3 (.int .i64 (u' : Int))
  have c := A.core
  refine ⟨⟨?_, ownsRow_upd c.wrow u (fun b hb => by simp [Value.ownBlock] at hb; subst hb; exact fun e => c.pwb e.symm), ⟨ownsRow_upd c.ls.row u (fun b hb => fun e => c.np (e ▸ c.ls.own b hb)), c.ls.own, fun k pr hk => ownsRow_upd (c.ls.mrow k pr hk) u (fun b hb => fun e => c.np (e ▸ (c.ls.mown k pr hk b hb).1)), c.ls.mown, fun k pr hk e he => ownsRow_upd (c.ls.hrow k pr hk e he) u (fun b hb => fun e' => c.np (e' ▸ (c.ls.hown k pr hk e he b hb).1)), c.ls.hown⟩,
    fun b hb => Nat.lt_of_lt_of_le (c.bound b hb) u.size, c.np, c.nwb, c.small, c.w64⟩, A.brt.upd u (fun e => A.pt e.symm), A.brk.upd u (fun e => A.pk e.symm), A.nt, A.nk, A.tw, A.kw, A.tkb⟩
  have := heap_set_at c.blk 3 (.int .i64 (u' : Int))
  simpa using this
theorem Ar1.turnT (A : Ar1 SL w p wb tb kb m mc lv ws L T K used tk mk tbs kbs) {w' : World} {tk' : Nat → Bool} {tbs' : List Nat} (u : Upd (fun b => b = tb) w w') (k : BRow w' tb (m / 64 + 1) mc.t tk' tbs') : Ar1 SL w' p wb tb kb m mc lv ws L T K used tk' mk tbs' kbs :=
  ⟨A.core.upd u A.pt (fun e => A.tw e.symm) (fun _ hb e => A.nt (e ▸ hb)), k, A.brk.upd u (fun e => A.tkb e.symm), A.nt, A.nk, A.tw, A.kw, A.tkb⟩
theorem Ar1.turnK (A : Ar1 SL w p wb tb kb m mc lv ws L T K used tk mk tbs kbs) {w' : World} {mk' : Nat → Bool} {kbs' : List Nat} (u : Upd (fun b => b = kb) w w') (k : BRow w' kb (m / 64 + 1) mc.k mk' kbs') : Ar1 SL w' p wb tb kb m mc lv ws L T K used tk mk' tbs kbs' :=
  ⟨A.core.upd u A.pk (fun e => A.kw e.symm) (fun _ hb e => A.nk (e ▸ hb)), A.brt.upd u (fun e => A.tkb e), k, A.nt, A.nk, A.tw, A.kw, A.tkb⟩
theorem Ar1.words (A : Ar1 SL w p wb tb kb m mc lv ws L T K used tk mk tbs kbs) {w' : World} {ws' : List Nat} (u : Upd (fun b => b = wb) w w') (c : Core SL w' p wb m mc.w (bits64 tb m mc.t) (bits64 kb m mc.k) (.int .i64 used) lv ws' L T K) : Ar1 SL w' p wb tb kb m mc lv ws' L T K used tk mk tbs kbs :=
  A.post c (Fresh.refl _ _) (u.mono (fun _ _ h => .inl h))
end
def ArV (S : Nat → Prop) (w : World) (p m : Nat) (bs : List Blk) : Prop :=
  ∃ SL wb tb kb mc lv ws L T K used tk mk tbs kbs, Ar1 SL w p wb tb kb m mc lv ws L T K used tk mk tbs kbs ∧ Inv ws tk mk used (L.map (·.2)) bs ∧ ∀ b, Own SL p wb tb kb b → S b
def ArPost (S : Nat → Prop) (w : World) (p m : Nat) (bs : List Blk) (w' : World) : Prop := ∃ S', ArV S' w' p m bs ∧ Fresh S w S' ∧ Upd S w w'
theorem ArV.upd {S S2 : Nat → Prop} {w w' : World} {p m : Nat} {bs : List Blk} (A : ArV S w p m bs) (u : Upd S2 w w') (h : ∀ b, S b → b < w.heap.size → ¬ S2 b) : ArV S w' p m bs := by
  obtain ⟨SL, wb, tb, kb, mc, lv, ws, L, T, K, used, tk, mk, tbs, kbs, a, i, o⟩ := A
  exact ⟨SL, wb, tb, kb, mc, lv, ws, L, T, K, used, tk, mk, tbs, kbs, a.upd u (fun b hb => h b (o b hb) (a.lt b hb)), i, o⟩
theorem ArV.below {S : Nat → Prop} {w w' : World} {p m : Nat} {bs : List Blk} (A : ArV S w p m bs) (hb : Below w.heap.size w w') : ArV S w' p m bs :=
  A.upd (S2 := fun _ => False) (Upd.of_below hb) (fun _ _ _ h => h)
theorem ArPost.same {S : Nat → Prop} {w w' : World} {p m : Nat} {bs : List Blk} (A : ArV S w p m bs) (hb : Below w.heap.size w w') : ArPost S w p m bs w' :=
  ⟨S, A.below hb, Fresh.refl _ _, Upd.of_below hb⟩
theorem Span.used_le : ∀ {l : List Blk} {s t : Nat}, Span s l t → s + usedSum l ≤ t
  | [], s, t, h => by have h : s = t := h; simp [usedSum]; omega
  | b :: l, s, t, ⟨h1, h2, h3⟩ => by have := Span.used_le h3; rw [usedSum_cons]; split <;> omega
section
variable {V : Type} {ws : List Nat} {tk mk : Nat → Bool} {used : Nat} {L : List (List (Ent V))} {bs : List Blk}
theorem Inv.used_le (I : Inv ws tk mk used L bs) : used ≤ 1048576 := by
  have := I.span.used_le
  have := I.sum
  have := I.small
  unfold endOf at *
  split at * <;> omega
theorem Inv.fr_lt (I : Inv ws tk mk used L bs) : ∀ x s, frF bs x s → s < 1048576 := fun x s ⟨b, hb, _, _, h⟩ => by
  have := I.end_le b hb; have := I.small; omega
theorem Inv.fr_one (I : Inv ws tk mk used L bs) : ∀ x s, frF bs x s → 1 ≤ x := fun x s ⟨b, hb, _, h, _⟩ => by
  have := I.end_le b hb; omega
theorem Inv.L_le (I : Inv ws tk mk used L bs) : L.length ≤ 64 := by
  have h := I.lens
  split at h
  · omega
  · rename_i h0
    have hs := I.small
    have : Nat.log2 ws.length ≤ Nat.log2 1048576 := log2_mono (by omega) hs
    have e : Nat.log2 1048576 = 20 := by decide +kernel
    omega
theorem Inv.log_lt (I : Inv ws tk mk used L bs) {n : Nat} (h1 : 1 ≤ n) (h : n ≤ ws.length) : Nat.log2 n < L.length := by
  have hl := I.lens
  rw [if_neg (by omega)] at hl
  have := log2_mono (by omega) h
  omega
end
theorem absent_at (p : Nat) (w : World) : Calls Tryz.prog 58 #[.pointer (some ⟨p, 0, none⟩)] w fun e w' => e = .returned (.bool false) ∧ w = w' := by
  go_enter Tryz.func58, Tryz.ntmps58
  go_wp2
  go_ret
  exact ⟨rfl, rfl⟩
end
section
open Go.RowKit
theorem Tryz.infoU64 : (Tryz.prog.info? 56).map (fun i => (i.zero, i.size, i.bytes)) = some (some (.int .u64 0), 1, 8) := by kernel_rfl
theorem zeroU64 (w : World) : (zeroValue 56).run Tryz.prog w = .ok (.int .u64 0) w := by
  obtain ⟨i0, hi, hz0, hz1, hz2⟩ := info_parts Tryz.infoU64
  simp [zeroValue, Go.typeInfo, hi, hz0]
theorem zcells1 (v : Value) (n : Nat) : (Builtin.zeroCells #[v] n).toList = List.replicate n v := by
  refine List.ext_getElem (by simp [Builtin.zeroCells]) (fun i h1 h2 => ?_)
  simp [Builtin.zeroCells, Nat.mod_one]
theorem zcU64 (n : Nat) : (Builtin.zeroCells (Value.int .u64 0).cells n).toList = u64s (zeros n) := by
  rw [show (Value.int .u64 0).cells = #[.int .u64 0] from rfl, zcells1]
  simp [u64s, zeros]
theorem Core.cleared {SL : Nat → Prop} {w : World} {p wb m mc : Nat} {tv kv uv lv : Value} {ws : List Nat} {L : List (Value × List (Ent Value))} {T K : Nat → Nat} (c : Core SL w p wb m mc tv kv uv lv ws L T K) (x n : Nat) (hx : x + n ≤ m) :
    m ≤ mc ∧ mc ≤ maxLen ∧ ∃ cur : List Value, w.heap[wb]? = some (.cells cur.toArray 56 (0, 0)) ∧ x + n ≤ cur.length ∧ ∀ w', w'.heap[wb]? = some (.cells (splice cur x (u64s (zeros n))).toArray 56 (0, 0)) → Upd (fun b => b = wb) w w' → Core SL w' p wb m mc tv kv uv lv (splice ws x (zeros n)) L T K := by
  have hlen := c.len
  obtain ⟨_, (⟨h0, _⟩ | ⟨g', cap', cur, h0, hg2, hcur, hc2, hm2, hsz, htk⟩)⟩ := c.wrow
  · cases h0
  simp only [Value.slice.injEq, Option.some.injEq, Addr.mk.injEq, true_and, and_true] at h0
  obtain ⟨rfl, rfl⟩ := h0
  obtain ⟨Lc, rfl⟩ : ∃ Lc : List Value, cur = Lc.toArray := ⟨cur.toList, by simp⟩
  simp only [List.size_toArray, Nat.mul_one] at hsz htk
  have hlz : (u64s (zeros n)).length = n := by rw [u64s_len, zeros_len]
  refine ⟨hc2, hm2, Lc, hcur, by omega, fun w' hw' u => ?_⟩
  have hs1 : (splice Lc x (u64s (zeros n))).length = Lc.length := length_splice _ _ _ (by rw [hlz]; omega)
  have hs2 : (splice ws x (zeros n)).length = ws.length := length_splice _ _ _ (by rw [zeros_len]; omega)
  refine c.words u ⟨by rw [u64s_len, hs2]; omega, .inr ⟨wb, mc, _, rfl, Nat.zero_le _, hw', hc2, hm2, by simp [hs1, hsz], ?_⟩⟩ hs2 (fun k => ?_)
  · simp only [Nat.mul_one]
    have e : u64s (splice ws x (zeros n)) = splice (u64s ws) x (u64s (zeros n)) := by
      unfold splice u64s
      simp only [List.map_append, List.map_take, List.map_drop, List.length_map]
    rw [e, ← htk]
    unfold splice
    rw [hlz]
    have a1 : (Lc.take x).length = x := by rw [List.length_take]; omega
    rw [List.take_append, a1, List.take_append, hlz, List.take_take, List.take_take, List.take_of_length_le (by rw [hlz]; omega : (u64s (zeros n)).length ≤ m - x), List.drop_take]
    rw [show min m x = min x m by omega, show m - x - n = m - (x + n) by omega]
  · rw [getD_splice _ _ _ _ (by rw [zeros_len]; omega)]
    split
    · rw [zeros_getD]; omega
    · exact c.w64 k
def TakeR (bs : List Blk) (n : Int) (x : Nat) (e : Int) (bs' : List Blk) : Prop :=
  (n < 1 ∧ x = 0 ∧ e = 2 ∧ bs' = bs) ∨ (1 ≤ n ∧ (∀ b ∈ bs, b.u = false → (b.n : Int) < n) ∧ x = 0 ∧ e = 5 ∧ bs' = bs) ∨
  (1 ≤ n ∧ ∃ pre b post, bs = pre ++ [b] ++ post ∧ b.u = false ∧ n ≤ b.n ∧ (∀ c ∈ bs, c.u = false → n ≤ c.n → b.n < c.n ∨ (b.n = c.n ∧ b.a ≤ c.a)) ∧ x = b.a ∧ e = 0 ∧
    bs' = if n + 2 ≤ b.n then pre ++ [⟨b.a, zeros n.toNat, true, false⟩, ⟨b.a + n.toNat + 1, zeros (b.n - n.toNat - 1), false, false⟩] ++ post else pre ++ [⟨b.a, zeros b.n, true, false⟩] ++ post)
def TakePost (S : Nat → Prop) (w : World) (p m : Nat) (bs : List Blk) (n : Int) (e : Ending) (w' : World) : Prop :=
  ∃ x er bs', TakeR bs n x er bs' ∧ e = .returned (.tuple #[.int .i64 (x : Int), .int .i64 er]) ∧ ArPost S w p m bs' w'
set_option maxRecDepth 100000 in
set_option maxHeartbeats 8000000 in
theorem take_at {S : Nat → Prop} {w : World} {p m : Nat} {bs : List Blk} (A0 : ArV S w p m bs) (n : Int) (hn1 : -9223372036854775808 ≤ n) (hn2 : n < 9223372036854775808) :
    Calls Tryz.prog 49 #[.pointer (some ⟨p, 0, none⟩), .int .i64 n] w (TakePost S w p m bs n) := by
  by_cases h1 : n < 1
  · have HA := hid A0
    clear A0
    go_enter Tryz.func49, Tryz.ntmps49
    go_wp2_with fail
    refine (absent_at p w).mono ?_
    rintro e w1 ⟨rfl, rfl⟩
    go_wp2
    go_ret2
    exact ⟨0, 2, bs, .inl ⟨h1, rfl, rfl, rfl⟩, rfl, .same HA.out (Below.refl _ _)⟩
  obtain ⟨k, rfl⟩ : ∃ k : Nat, n = (k : Int) := ⟨n.toNat, by omega⟩
  have hk1 : 1 ≤ k := by omega
  clear hn1 hn2
  have HA0 := hid A0
  obtain ⟨SL, wb, tb, kb, mc, lv, ws, L, T, K, used, tk, mk, tbs, kbs, A, I, O⟩ := A0
  have hlen := A.core.len
  have hsm := I.small
  by_cases h2 : (m : Int) ≤ k
  · have c0 := heap_cell A.core.blk 0
    simp at c0
    have hall : ∀ b ∈ bs, b.u = false → (b.n : Int) < k := fun b hb _ => by have := I.end_le b hb; omega
    clear A I O
    go_enter Tryz.func49, Tryz.ntmps49
    go_wp2_with fail
    refine (absent_at p w).mono ?_
    rintro e w1 ⟨rfl, rfl⟩
    go_wp2
    go_ret2
    exact ⟨0, 5, bs, .inr (.inl ⟨by omega, hall, rfl, rfl, rfl⟩), rfl, .same HA0.out (Below.refl _ _)⟩
  have hkm : k < m := by omega
  have c0 := heap_cell A.core.blk 0
  simp at c0
  have hlog := I.log_lt hk1 (by omega : k ≤ ws.length)
  have hL64 := I.L_le
  rw [List.length_map] at hlog hL64
  have HH := hid A; have HI := hid I; have HO := hid O; have HLOG := hid hlog; have HL := hid hL64; have HLEN := hid hlen
  have hm20 : m ≤ 1048576 := by omega
  clear A I O hlog hL64 hlen hsm
  go_enter Tryz.func49, Tryz.ntmps49
  go_wp2_with fail
  refine (absent_at p w).mono ?_
  rintro e w1 ⟨rfl, rfl⟩
  go_wp2_with fail
  refine (find_at HH.out.core HI.out.lists k hk1 (by omega) HLOG.out HL.out HI.out.fr_lt HI.out.fr_one).mono ?_
  rintro e w1 ⟨⟨x, rfl, hspec⟩, hb1⟩
  rcases hspec with ⟨rfl, hnone⟩ | ⟨hx1, sz, ⟨b, hb, hbu, hbx, hbn⟩, hksz, hleast⟩
  · have HB := hid hb1; have HN := hid hnone
    clear hb1 hnone
    go_wp2
    go_ret2
    exact ⟨0, 5, bs, .inr (.inl ⟨by omega, fun b hb hu => by have := HN.out b.a b.n ⟨b, hb, hu, rfl, rfl⟩; omega, rfl, rfl, rfl⟩), rfl, .same HA0.out HB.out⟩
  have hx0 : ¬ x = 0 := by omega
  have A1 := HH.out.below hb1
  have HF := hid (Upd.of_below (S := S) hb1)
  obtain ⟨pre, post, hsplit⟩ := List.append_of_mem hb
  obtain ⟨rfl⟩ : bs = pre ++ [b] ++ post := by rw [hsplit]; simp
  have HX := hid hbx; have HN := hid hbn
  have hend := HI.out.end_le b hb
  rw [hbx, hbn] at hend
  have hxm : x + sz ≤ m := by have := HLEN.out; omega
  have hsz0 : 0 < sz := hend.2.1
  have hhead : ws.getD (x - 1) 0 / 2 = sz := by have := HI.out.head b hb; rw [hbx, hbn] at this; exact this
  have hleast' : ∀ c ∈ pre ++ [b] ++ post, c.u = false → (k : Int) ≤ c.n → b.n < c.n ∨ (b.n = c.n ∧ b.a ≤ c.a) := fun c hc hcu hk => by
    have := hleast c.a c.n ⟨c, hc, hcu, rfl, rfl⟩ (by omega)
    rw [hbx, hbn]; exact this
  have HT := hid hleast'
  have HU := hid hbu; have HM := hid hb; have HD := hid hhead; have HE := hid hend
  have H1 := hid A1
  clear hb1 hleast hleast' hb hbu hhead hend hsplit hbx hbn A1 HH c0
  go_wp2_with fail
  refine (size_at H1.out.core x hx1 (by omega)).mono ?_
  rintro e w2 ⟨rfl, rfl⟩
  rw [HD.out]
  go_wp2_with fail
  refine (delist_at H1.out.core HI.out.lists x sz ⟨b, HM.out, HU.out, HX.out, HN.out⟩ HL.out HI.out.fr_lt).mono ?_
  rintro e w2 ⟨rfl, SL2, ws2, L2, T2, K2, C2, ok2, hL2, lo2, fr2, u2⟩
  have H2 := hid (H1.out.post C2 fr2 u2)
  have HOK2 := hid ok2; have HL2 := hid hL2; have HLO2 := hid lo2
  have U2 := hid (show Upd S w w2 from HF.out.trans' (u2.mono (fun q _ hq => HO.out q (hq.elim (fun h => .inr (.inl h)) (fun h => .inr (.inr (.inr (.inr h))))))))
  have S2s := hid (show Fresh S w SL2 from fun q hq => (fr2 q hq).elim (fun h => .inl (HO.out q (.inr (.inr (.inr (.inr h)))))) (fun h => .inr (Nat.le_trans HF.out.size h)))
  clear C2 ok2 hL2 lo2 fr2 u2
  obtain ⟨lf, hlf⟩ : ∃ lf, sz - k = lf := ⟨_, rfl⟩
  have ew1 : IntKind.i64.wrap ((sz : Int) - k) = (lf : Int) := by rw [IntWalk.i64_in _ ⟨by omega, by omega⟩]; omega
  have hused := HI.out.used_le
  have ex1 : IntKind.i64.wrap ((x : Int) - 1) = ((x - 1 : Nat) : Int) := by rw [IntWalk.i64_in _ ⟨by omega, by omega⟩]; omega
  have hx64 : x < 64 * (m / 64 + 1) := by omega
  by_cases hl2 : (2 : Int) ≤ lf
  · obtain ⟨y, hy⟩ : ∃ y, x + k = y := ⟨_, rfl⟩
    obtain ⟨q, hq⟩ : ∃ q, y + 1 = q := ⟨_, rfl⟩
    obtain ⟨s2, hs2⟩ : ∃ s2, sz - k - 1 = s2 := ⟨_, rfl⟩
    have ey1 : IntKind.i64.wrap ((x : Int) + k) = (y : Int) := by rw [IntWalk.i64_in _ ⟨by omega, by omega⟩]; omega
    have ey2 : IntKind.i64.wrap ((y : Int) + 1) = (q : Int) := by rw [IntWalk.i64_in _ ⟨by omega, by omega⟩]; omega
    have ey3 : IntKind.i64.wrap ((lf : Int) - 1) = (s2 : Int) := by rw [IntWalk.i64_in _ ⟨by omega, by omega⟩]; omega
    have hyx : y - x = k := by omega
    have hym : y ≤ m := by omega
    have hxy : x ≤ y := by omega
    have g1 : x < q ∧ q + s2 = x + sz ∧ 0 < s2 ∧ q = x + k + 1 ∧ s2 < 1048576 ∧ x < q - 1 ∧ s2 = sz - k - 1 ∧ k + 2 ≤ sz := by omega
    have G1 := hid g1; have HY := hid hy
    clear g1 hy hq hs2
    go_wp2_with fail
    obtain ⟨f1, f2, f3⟩ := HI.out.noF
    rw [HX.out, HN.out] at f2 f3
    have hlg := HI.out.log_lt (n := s2) G1.out.2.2.1 (by have := HLEN.out; have := G1.out; omega)
    rw [List.length_map] at hlg
    refine (release_at H2.out.core HOK2.out q s2 (by have := G1.out; omega) G1.out.2.2.1 (by have := G1.out; omega) G1.out.2.2.2.2.1 (by rw [HL2.out]; exact hlg) (by rw [HL2.out]; exact HL.out) (fun t h => f3 _ (by have := G1.out; omega) (by have := G1.out; omega) t h.2) (fun t h => f3 _ (by have := G1.out; omega) (by have := G1.out; omega) t h.2) (fun t h => f2 t (by have := h.2; rw [G1.out.2.1] at this; exact this)) (fun y t h => HI.out.fr_lt y t h.2)).mono ?_
    rintro e w3 ⟨rfl, SL3, ws3, L3, T3, K3, C3, ok3, hL3, lo3, fr3, u3⟩
    have H3 := hid (H2.out.post C3 fr3 u3)
    have hI3 := take_split HI.out HU.out hk1 (by rw [HN.out]; exact G1.out.2.2.2.2.2.2.2) (by rw [HX.out, HN.out]; exact HLO2.out) (L2 := L3.map (·.2)) (by rw [List.length_map, List.length_map]; exact hL3.trans HL2.out) (by rw [HX.out, HN.out, ← G1.out.2.2.2.2.2.2.1, ← G1.out.2.2.2.1]; exact ok3) (by rw [HX.out, HN.out, ← G1.out.2.2.2.2.2.2.1, ← G1.out.2.2.2.1]; exact lo3)
    have hans : TakeR (pre ++ [b] ++ post) (k : Int) x 0 (pre ++ [⟨b.a, zeros k, true, false⟩, ⟨b.a + k + 1, zeros (b.n - k - 1), false, false⟩] ++ post) := .inr (.inr ⟨by omega, pre, b, post, rfl, HU.out, by rw [HN.out]; omega, HT.out, HX.out.symm, rfl, by rw [if_pos (by rw [HN.out]; have := G1.out; omega)]; rfl⟩)
    rw [HX.out] at hI3 hans
    have HA := hid hans
    have HI3 := hid hI3
    have U3 := hid (show Upd S w w3 from U2.out.trans (fun q hq => hq.elim (fun h => .inl (HO.out q (.inr (.inl h)))) (S2s.out q)) u3)
    have S3s := hid (show Fresh S w SL3 from fun q hq => (fr3 q hq).elim (S2s.out q) (fun h => .inr (Nat.le_trans U2.out.size h)))
    clear f1 f2 f3 hlg C3 ok3 hL3 lo3 fr3 u3 hI3 hans
    have us1 : IntKind.i64.wrap ((k : Int) + 1) = (k : Int) + 1 := IntWalk.i64_in _ ⟨by omega, by omega⟩
    obtain ⟨us, hus⟩ : ∃ us, used + k + 1 = us := ⟨_, rfl⟩
    have us2 : IntKind.i64.wrap ((used : Int) + ((k : Int) + 1)) = (us : Int) := by rw [IntWalk.i64_in _ ⟨by omega, by omega⟩]; omega
    have HUS := hid hus
    have d0 := heap_cell H3.out.core.blk 0
    simp at d0
    have cf3 := H3.out.core.wrow.frozenAt (x - 1)
    have cw3 := H3.out.core.word (x - 1) (by omega)
    have hpw := H3.out.core.pwb
    have hpw2 : wb ≠ p := fun e => hpw e.symm
    have hx1m : x - 1 < m := by omega
    have H4a := H3.out.words (upd_set _ _ _ _) (H3.out.core.set (x - 1) (2 * k) (by omega))
    rw [show ((2 * k : Nat) : Int) = (k : Int) * 2 by omega] at H4a
    have H4 := hid H4a
    obtain ⟨hmc, hmc2, cur, hcur, hcl, hclr⟩ := H4.out.core.cleared x k (by omega)
    have hymc : y ≤ mc.w := by omega
    have HC4 := hid hcur; have HCL := hid hcl; have HCR := hid hclr
    clear H4a hcur hcl hclr hus
    go_wp2_with (refine wpList_clear_row rfl _ 60 rfl 56 (.int .u64 0) Tryz.underlying60 zeroU64 wb x k _ rfl cur 56 HC4.out (u64s (zeros k)) (zcU64 _) ?f1 ?f2 ?f3 ?_)
    case f1 => rw [u64s_len, zeros_len]; exact HCL.out
    case f2 => intro u hu; obtain ⟨z, _, rfl⟩ := List.mem_map.1 hu; rfl
    case f3 => intro h; rw [h]; rfl
    intro w5 h5 u5
    have H5 := hid (H4.out.words u5.out (HCR.out w5 h5.out u5.out))
    have U5 := hid (show Upd S w w5 from (U3.out.trans' ((upd_set _ _ _ _).mono (fun q _ hq => HO.out q (.inr (.inl hq))))).trans' (u5.out.mono (fun q _ hq => HO.out q (.inr (.inl hq)))))
    have d1 := heap_cell H5.out.core.blk 1
    simp at d1
    clear h5 u5 d0 cf3 cw3
    go_wp2_with fail
    refine (bset_at w5 tb _ _ tk tbs H5.out.brt x hx64 (by omega)).mono ?_
    rintro e w6 ⟨rfl, ⟨tbs6, k6⟩, u6⟩
    have H6 := hid (H5.out.turnT u6 k6)
    have U6 := hid (show Upd S w w6 from U5.out.trans' (u6.mono (fun q _ hq => HO.out q (.inr (.inr (.inl hq))))))
    have d3 := heap_cell H6.out.core.blk 3
    simp at d3
    have f3 := heap_frozen H6.out.core.blk 3
    clear d1 u6 k6
    go_wp2
    go_ret2
    have hi := HI3.out
    rw [HUS.out] at hi
    refine ⟨x, 0, _, HA.out, rfl, Own SL3 p wb tb kb, ⟨SL3, wb, tb, kb, mc, lv, _, L3, T3, K3, us, _, _, tbs6, kbs, H6.out.use us, hi, fun _ h => h⟩, fun q hq => ?_, U6.out.trans' ((upd_set _ _ _ _).mono (fun q _ hq => HO.out q (.inl hq)))⟩
    rcases hq with h | h | h | h | h
    · exact .inl (HO.out q (.inl h))
    · exact .inl (HO.out q (.inr (.inl h)))
    · exact .inl (HO.out q (.inr (.inr (.inl h))))
    · exact .inl (HO.out q (.inr (.inr (.inr (.inl h)))))
    · exact S3s.out q h
  · obtain ⟨y, hy⟩ : ∃ y, x + sz = y := ⟨_, rfl⟩
    have ey1 : IntKind.i64.wrap ((x : Int) + sz) = (y : Int) := by rw [IntWalk.i64_in _ ⟨by omega, by omega⟩]; omega
    have hyx : y - x = sz := by omega
    have hym : y ≤ m := by omega
    have hxy : x ≤ y := by omega
    have hnk : ¬ k + 2 ≤ sz := by omega
    have HNK := hid hnk; have HY := hid hy
    clear hy hnk
    go_wp2_with fail
    refine (behind_at H2.out.core y false).mono ?_
    rintro e w3 ⟨rfl, C3, u3⟩
    have H3 := hid (H2.out.words u3 C3)
    have hI3 := take_whole HI.out HU.out (L1 := L2.map (·.2)) (by rw [HX.out]; exact HOK2.out) (by rw [List.length_map, List.length_map]; exact HL2.out) (by rw [HX.out, HN.out]; exact HLO2.out)
    have hans : TakeR (pre ++ [b] ++ post) (k : Int) x 0 (pre ++ [⟨b.a, zeros b.n, true, false⟩] ++ post) := .inr (.inr ⟨by omega, pre, b, post, rfl, HU.out, by rw [HN.out]; omega, HT.out, HX.out.symm, rfl, by rw [if_neg (by rw [HN.out]; have := HNK.out; omega)]⟩)
    rw [HX.out, HN.out, HY.out] at hI3
    rw [HX.out, HN.out] at hans
    have HA := hid hans
    have HI3 := hid hI3
    have U3 := hid (show Upd S w w3 from U2.out.trans' (u3.mono (fun q _ hq => HO.out q (.inr (.inl hq)))))
    have S3s := S2s
    clear C3 u3 hI3 hans
    have us1 : IntKind.i64.wrap ((sz : Int) + 1) = (sz : Int) + 1 := IntWalk.i64_in _ ⟨by omega, by omega⟩
    obtain ⟨us, hus⟩ : ∃ us, used + sz + 1 = us := ⟨_, rfl⟩
    have us2 : IntKind.i64.wrap ((used : Int) + ((sz : Int) + 1)) = (us : Int) := by rw [IntWalk.i64_in _ ⟨by omega, by omega⟩]; omega
    have HUS := hid hus
    have d0 := heap_cell H3.out.core.blk 0
    simp at d0
    have cf3 := H3.out.core.wrow.frozenAt (x - 1)
    have cw3 := H3.out.core.word (x - 1) (by omega)
    have hpw := H3.out.core.pwb
    have hpw2 : wb ≠ p := fun e => hpw e.symm
    have hx1m : x - 1 < m := by omega
    have H4a := H3.out.words (upd_set _ _ _ _) (H3.out.core.set (x - 1) (2 * sz) (by omega))
    rw [show ((2 * sz : Nat) : Int) = (sz : Int) * 2 by omega] at H4a
    have H4 := hid H4a
    obtain ⟨hmc, hmc2, cur, hcur, hcl, hclr⟩ := H4.out.core.cleared x sz (by omega)
    have hymc : y ≤ mc.w := by omega
    have HC4 := hid hcur; have HCL := hid hcl; have HCR := hid hclr
    clear H4a hcur hcl hclr hus
    go_wp2_with (refine wpList_clear_row rfl _ 60 rfl 56 (.int .u64 0) Tryz.underlying60 zeroU64 wb x sz _ rfl cur 56 HC4.out (u64s (zeros sz)) (zcU64 _) ?f1 ?f2 ?f3 ?_)
    case f1 => rw [u64s_len, zeros_len]; exact HCL.out
    case f2 => intro u hu; obtain ⟨z, _, rfl⟩ := List.mem_map.1 hu; rfl
    case f3 => intro h; rw [h]; rfl
    intro w5 h5 u5
    have H5 := hid (H4.out.words u5.out (HCR.out w5 h5.out u5.out))
    have U5 := hid (show Upd S w w5 from (U3.out.trans' ((upd_set _ _ _ _).mono (fun q _ hq => HO.out q (.inr (.inl hq))))).trans' (u5.out.mono (fun q _ hq => HO.out q (.inr (.inl hq)))))
    have d1 := heap_cell H5.out.core.blk 1
    simp at d1
    clear h5 u5 d0 cf3 cw3
    go_wp2_with fail
    refine (bset_at w5 tb _ _ tk tbs H5.out.brt x hx64 (by omega)).mono ?_
    rintro e w6 ⟨rfl, ⟨tbs6, k6⟩, u6⟩
    have H6 := hid (H5.out.turnT u6 k6)
    have U6 := hid (show Upd S w w6 from U5.out.trans' (u6.mono (fun q _ hq => HO.out q (.inr (.inr (.inl hq))))))
    have d3 := heap_cell H6.out.core.blk 3
    simp at d3
    have f3 := heap_frozen H6.out.core.blk 3
    clear d1 u6 k6
    go_wp2
    go_ret2
    have hi := HI3.out
    rw [HUS.out] at hi
    refine ⟨x, 0, _, HA.out, rfl, Own SL2 p wb tb kb, ⟨SL2, wb, tb, kb, mc, lv, _, L2, T2, K2, us, _, _, tbs6, kbs, H6.out.use us, hi, fun _ h => h⟩, fun q hq => ?_, U6.out.trans' ((upd_set _ _ _ _).mono (fun q _ hq => HO.out q (.inl hq)))⟩
    rcases hq with h | h | h | h | h
    · exact .inl (HO.out q (.inl h))
    · exact .inl (HO.out q (.inr (.inl h)))
    · exact .inl (HO.out q (.inr (.inr (.inl h))))
    · exact .inl (HO.out q (.inr (.inr (.inr (.inl h)))))
    · exact S3s.out q h
end
section
open Go.RowKit
def usedAt (bs : List Blk) (q : Int) : Bool := bs.any fun b => b.u && ((b.a : Int) == q)
theorem usedAt_iff (bs : List Blk) (q : Int) : usedAt bs q = true ↔ ∃ b ∈ bs, b.u = true ∧ (b.a : Int) = q := by
  simp [usedAt]
section
variable {SL : Nat → Prop} {w : World} {p wb tb kb m : Nat} {mc : Caps} {lv : Value} {ws : List Nat} {L : List (Value × List (Ent Value))} {T K : Nat → Nat} {used : Nat} {tk mk : Nat → Bool} {tbs kbs : List Nat} {bs : List Blk}
theorem Inv.usedAt_tk {V : Type} {L : List (List (Ent V))} (I : Inv ws tk mk used L bs) (x : Nat) : usedAt bs x = tk x := by
  rw [Bool.eq_iff_iff, usedAt_iff, I.taken]
  constructor
  · rintro ⟨b, h1, h2, h3⟩; exact ⟨b, h1, h2, by omega⟩
  · rintro ⟨b, h1, h2, h3⟩; exact ⟨b, h1, h2, by omega⟩
theorem has_at (A : Ar1 SL w p wb tb kb m mc lv ws L T K used tk mk tbs kbs) (I : Inv ws tk mk used (L.map (·.2)) bs) (q : Int) (_hq1 : -9223372036854775808 ≤ q) (_hq2 : q < 9223372036854775808) :
    Calls Tryz.prog 65 #[.pointer (some ⟨p, 0, none⟩), .int .i64 q] w fun e w' => e = .returned (.bool (usedAt bs q)) ∧ w = w' := by
  have c0 := heap_cell A.core.blk 0
  have c1 := heap_cell A.core.blk 1
  simp at c0 c1
  have hlen := A.core.len
  have hsm := I.small
  have hend := I.end_le
  clear _hq1 _hq2
  by_cases h1 : q > 0
  · obtain ⟨x, rfl⟩ : ∃ x : Nat, q = (x : Int) := ⟨q.toNat, by omega⟩
    rw [I.usedAt_tk]
    have hx0 : 0 < x := by omega
    by_cases h2 : (x : Int) < m
    · have ht := bhas_at w tb _ _ tk tbs A.brt x (by omega) (by omega)
      have HT := hid ht
      clear A I hend ht hlen
      go_enter Tryz.func65, Tryz.ntmps65
      go_wp2_with fail
      refine HT.out.mono ?_
      rintro e w1 ⟨rfl, rfl⟩
      go_wp2
      go_ret
      exact ⟨rfl, rfl⟩
    · have hno : tk x = false := by
        cases ht : tk x
        · rfl
        · obtain ⟨b, hb, _, e⟩ := (I.taken x).1 ht
          have := hend b hb; omega
      rw [hno]
      clear A I hend hlen hno
      go_enter Tryz.func65, Tryz.ntmps65
      go_wp2
      go_ret
      exact ⟨rfl, rfl⟩
  · have hno : usedAt bs q = false := by
      cases ht : usedAt bs q
      · rfl
      · obtain ⟨b, hb, _, e⟩ := (usedAt_iff bs q).1 ht
        have := hend b hb; omega
    rw [hno]
    clear A I hend hlen hno
    go_enter Tryz.func65, Tryz.ntmps65
    go_wp2
    go_ret
    exact ⟨rfl, rfl⟩
end
theorem usedAt_mem {bs : List Blk} {q : Int} (h : usedAt bs q = true) : ∃ b ∈ bs, b.u = true ∧ q = (b.a : Int) := by
  obtain ⟨b, h1, h2, h3⟩ := (usedAt_iff bs q).1 h; exact ⟨b, h1, h2, h3.symm⟩
def sizeOfAt (bs : List Blk) (q : Int) (r : Nat) : Prop := (usedAt bs q = false ∧ r = 0) ∨ ∃ b ∈ bs, b.u = true ∧ q = (b.a : Int) ∧ r = b.n
theorem Size_at {S : Nat → Prop} {w : World} {p m : Nat} {bs : List Blk} (A0 : ArV S w p m bs) (q : Int) (hq1 : -9223372036854775808 ≤ q) (hq2 : q < 9223372036854775808) :
    Calls Tryz.prog 33 #[.pointer (some ⟨p, 0, none⟩), .int .i64 q] w fun e w' => ∃ r, sizeOfAt bs q r ∧ e = .returned (.int .i64 (r : Nat)) ∧ w = w' := by
  obtain ⟨SL, wb, tb, kb, mc, lv, ws, L, T, K, used, tk, mk, tbs, kbs, A, I, O⟩ := A0
  have HA := hid A; have HI := hid I; have HQ1 := hid hq1; have HQ2 := hid hq2
  have hlen := A.core.len
  clear A I O hq1 hq2
  cases hu : usedAt bs q
  · have HU := hid hu
    clear hu hlen
    go_enter Tryz.func33, Tryz.ntmps33
    go_wp2_with fail
    refine (absent_at p w).mono ?_
    rintro e w1 ⟨rfl, rfl⟩
    go_wp2_with fail
    refine (has_at HA.out HI.out q HQ1.out HQ2.out).mono ?_
    rintro e w1 ⟨rfl, rfl⟩
    rw [HU.out]
    go_wp2
    go_ret
    exact ⟨0, .inl ⟨HU.out, rfl⟩, rfl, rfl⟩
  · obtain ⟨b, hb, hbu, rfl⟩ := usedAt_mem hu
    have hend := HI.out.end_le b hb
    have hh := HI.out.head b hb
    have HU := hid hu; have HH := hid hh; have HB := hid hb; have HBU := hid hbu; have HE := hid hend; have HL := hid hlen
    clear hu hh hb hbu hend hlen
    go_enter Tryz.func33, Tryz.ntmps33
    go_wp2_with fail
    refine (absent_at p w).mono ?_
    rintro e w1 ⟨rfl, rfl⟩
    go_wp2_with fail
    refine (has_at HA.out HI.out _ HQ1.out HQ2.out).mono ?_
    rintro e w1 ⟨rfl, rfl⟩
    rw [HU.out]
    go_wp2_with fail
    refine (size_at HA.out.core b.a HE.out.1 (by have := HE.out; have := HL.out; omega)).mono ?_
    rintro e w1 ⟨rfl, rfl⟩
    rw [HH.out]
    go_wp2
    go_ret
    exact ⟨b.n, .inr ⟨b, HB.out, HBU.out, rfl, rfl⟩, rfl, rfl⟩
theorem Used_at {S : Nat → Prop} {w : World} {p m : Nat} {bs : List Blk} (A0 : ArV S w p m bs) :
    Calls Tryz.prog 30 #[.pointer (some ⟨p, 0, none⟩)] w fun e w' => e = .returned (.int .i64 (usedSum bs : Nat)) ∧ w = w' := by
  obtain ⟨SL, wb, tb, kb, mc, lv, ws, L, T, K, used, tk, mk, tbs, kbs, A, I, O⟩ := A0
  have c3 := heap_cell A.core.blk 3
  simp at c3
  rw [← I.sum]
  clear A I O
  go_enter Tryz.func30, Tryz.ntmps30
  go_wp2_with fail
  refine (absent_at p w).mono ?_
  rintro e w1 ⟨rfl, rfl⟩
  go_wp2
  go_ret
  exact ⟨rfl, rfl⟩
def wordR (bs : List Blk) (q i : Int) (er : Int) : Prop := (usedAt bs q = false ∧ er = 4) ∨ ∃ b ∈ bs, b.u = true ∧ q = (b.a : Int) ∧ ((er = 2 ∧ (i < 0 ∨ (b.n : Int) ≤ i)) ∨ (er = 0 ∧ 0 ≤ i ∧ i < b.n))
set_option maxRecDepth 100000 in
theorem word_at {SL : Nat → Prop} {w : World} {p wb tb kb m : Nat} {mc : Caps} {lv : Value} {ws : List Nat} {L : List (Value × List (Ent Value))} {T K : Nat → Nat} {used : Nat} {tk mk : Nat → Bool} {tbs kbs : List Nat} {bs : List Blk} (A : Ar1 SL w p wb tb kb m mc lv ws L T K used tk mk tbs kbs) (I : Inv ws tk mk used (L.map (·.2)) bs) (q i : Int) (hq1 : -9223372036854775808 ≤ q) (hq2 : q < 9223372036854775808) :
    Calls Tryz.prog 90 #[.pointer (some ⟨p, 0, none⟩), .int .i64 q, .int .i64 i] w fun e w' => ∃ er, wordR bs q i er ∧ e = .returned (.int .i64 er) ∧ w = w' := by
  have HA := hid A; have HI := hid I; have HQ1 := hid hq1; have HQ2 := hid hq2
  have hlen := A.core.len
  clear A I hq1 hq2
  cases hu : usedAt bs q
  · have HU := hid hu
    clear hu hlen
    go_enter Tryz.func90, Tryz.ntmps90
    go_wp2_with fail
    refine (absent_at p w).mono ?_
    rintro e w1 ⟨rfl, rfl⟩
    go_wp2_with fail
    refine (has_at HA.out HI.out q HQ1.out HQ2.out).mono ?_
    rintro e w1 ⟨rfl, rfl⟩
    rw [HU.out]
    go_wp2
    go_ret
    exact ⟨4, .inl ⟨HU.out, rfl⟩, rfl, rfl⟩
  · obtain ⟨b, hb, hbu, rfl⟩ := usedAt_mem hu
    have hend := HI.out.end_le b hb
    have hh := HI.out.head b hb
    have HU := hid hu; have HH := hid hh; have HB := hid hb; have HBU := hid hbu; have HE := hid hend; have HL := hid hlen
    clear hu hh hb hbu hend hlen
    by_cases hi : i < 0
    · go_enter Tryz.func90, Tryz.ntmps90
      go_wp2_with fail
      refine (absent_at p w).mono ?_
      rintro e w1 ⟨rfl, rfl⟩
      go_wp2_with fail
      refine (has_at HA.out HI.out _ HQ1.out HQ2.out).mono ?_
      rintro e w1 ⟨rfl, rfl⟩
      rw [HU.out]
      go_wp2
      go_ret
      exact ⟨2, .inr ⟨b, HB.out, HBU.out, rfl, .inl ⟨rfl, .inl hi⟩⟩, rfl, rfl⟩
    · obtain ⟨n, hn⟩ : ∃ n, b.n = n := ⟨_, rfl⟩
      have HN := hid hn
      obtain ⟨j, rfl⟩ : ∃ j : Nat, i = (j : Int) := ⟨i.toNat, by omega⟩
      clear hn hi
      by_cases hin : (n : Int) ≤ j
      · have g0 : decide ((j : Int) < 0) = false := decide_eq_false (by omega)
        have g1 : decide (n ≤ j) = true := decide_eq_true (by omega)
        have HJ := hid hin
        clear hin
        go_enter Tryz.func90, Tryz.ntmps90
        go_wp2_with fail
        refine (absent_at p w).mono ?_
        rintro e w1 ⟨rfl, rfl⟩
        go_wp2_with fail
        refine (has_at HA.out HI.out _ HQ1.out HQ2.out).mono ?_
        rintro e w1 ⟨rfl, rfl⟩
        rw [HU.out]
        go_wp2_with fail
        refine (size_at HA.out.core b.a HE.out.1 (by have := HE.out; have := HL.out; omega)).mono ?_
        rintro e w1 ⟨rfl, rfl⟩
        rw [HH.out, HN.out]
        go_wp2
        go_ret
        exact ⟨2, .inr ⟨b, HB.out, HBU.out, rfl, .inl ⟨rfl, .inr (by rw [HN.out]; exact HJ.out)⟩⟩, rfl, rfl⟩
      · have g0 : decide ((j : Int) < 0) = false := decide_eq_false (by omega)
        have g1 : decide (n ≤ j) = false := decide_eq_false (by omega)
        have HJ := hid hin
        clear hin
        go_enter Tryz.func90, Tryz.ntmps90
        go_wp2_with fail
        refine (absent_at p w).mono ?_
        rintro e w1 ⟨rfl, rfl⟩
        go_wp2_with fail
        refine (has_at HA.out HI.out _ HQ1.out HQ2.out).mono ?_
        rintro e w1 ⟨rfl, rfl⟩
        rw [HU.out]
        go_wp2_with fail
        refine (size_at HA.out.core b.a HE.out.1 (by have := HE.out; have := HL.out; omega)).mono ?_
        rintro e w1 ⟨rfl, rfl⟩
        rw [HH.out, HN.out]
        go_wp2
        go_ret
        exact ⟨0, .inr ⟨b, HB.out, HBU.out, rfl, .inr ⟨rfl, by omega, by have := HJ.out; rw [HN.out]; omega⟩⟩, rfl, rfl⟩
end
section
open Go.RowKit
section
variable {V : Type} {ws : List Nat} {tk mk : Nat → Bool} {used : Nat} {L : List (List (Ent V))} {pre post : List Blk} {b : Blk}
theorem Inv.touch (I : Inv ws tk mk used L (pre ++ [b] ++ post)) (hu : b.u = true) {b' : Blk} (ha : b'.a = b.a) (hn : b'.n = b.n) (hu' : b'.u = true) {ws' : List Nat} (len : ws'.length = ws.length)
    (off : ∀ k, k < b.a ∨ b.a + b.n ≤ k → ws'.getD k 0 = ws.getD k 0) (ct : ∀ i, i < b.n → ws'.getD (b.a + i) 0 = b'.ws.getD i 0) {mk' : Nat → Bool} (hmk : ∀ x, mk' x = if x = b.a then b'.m else mk x) :
    Inv ws' tk mk' used L (pre ++ [b'] ++ post) := by
  obtain ⟨p1, p2, p3, p4, p5⟩ := I.parts
  have two := I.two
  have bin : b ∈ pre ++ [b] ++ post := by simp
  have bin' : b' ∈ pre ++ [b'] ++ post := by simp
  have fw : ∀ c ∈ pre ++ [b'] ++ post, ∃ d ∈ pre ++ [b] ++ post, d.a = c.a ∧ d.n = c.n ∧ d.u = c.u ∧ (d = c ∨ (d = b ∧ c = b')) := fun c hc => by
    have : c ∈ pre ++ post ∨ c = b' := by simp at hc ⊢; grind
    rcases this with h | h
    · exact ⟨c, by simp at h ⊢; grind, rfl, rfl, rfl, .inl rfl⟩
    · exact ⟨b, bin, by rw [h, ha], by rw [h, hn], by rw [h, hu, hu'], .inr ⟨rfl, h⟩⟩
  have bw : ∀ d ∈ pre ++ [b] ++ post, ∃ c ∈ pre ++ [b'] ++ post, d.a = c.a ∧ d.n = c.n ∧ d.u = c.u ∧ (d = c ∨ (d = b ∧ c = b')) := fun c hc => by
    have : c ∈ pre ++ post ∨ c = b := by simp at hc ⊢; grind
    rcases this with h | h
    · exact ⟨c, by simp at h ⊢; grind, rfl, rfl, rfl, .inl rfl⟩
    · exact ⟨b', bin', by rw [h, ha], by rw [h, hn], by rw [h, hu, hu'], .inr ⟨h, rfl⟩⟩
  have hfr : ∀ x s, frF (pre ++ [b] ++ post) x s ↔ frF (pre ++ [b'] ++ post) x s := fun x s => by
    constructor
    · rintro ⟨d, hd, h1, h2, h3⟩
      obtain ⟨c, hc, e1, e2, e3, _⟩ := bw d hd
      exact ⟨c, hc, by rw [← e3]; exact h1, by rw [← e1]; exact h2, by rw [← e2]; exact h3⟩
    · rintro ⟨d, hd, h1, h2, h3⟩
      obtain ⟨c, hc, e1, e2, e3, _⟩ := fw d hd
      exact ⟨c, hc, by rw [e3]; exact h1, by rw [e1]; exact h2, by rw [e2]; exact h3⟩
  have sep := fun d (hd : d ∈ pre ++ [b] ++ post) => I.span.sep d hd b bin
  have hd0 : ∀ d ∈ pre ++ [b] ++ post, ws'.getD (d.a - 1) 0 = ws.getD (d.a - 1) 0 := fun d hd => off _ (by
    have := I.end_le d hd
    rcases sep d hd with h | h | h
    · rw [h]; omega
    · omega
    · omega)
  have fr0 : ∀ d ∈ pre ++ [b] ++ post, d.u = false → d.a + d.n + 1 ≤ b.a ∨ b.a + b.n + 1 ≤ d.a := fun d hd hdu => by
    rcases sep d hd with h | h | h
    · rw [h, hu] at hdu; cases hdu
    · exact .inl h
    · exact .inr h
  refine ⟨by rw [len]; exact I.small, ?_, fun c hc => ?_, fun c hc => ?_, fun c hc hcu => ?_, fun c hc hcu i hi => ?_, fun c hc hcu => ?_, fun x => ?_, fun x => ?_, ?_, fun c hc e he hcu heu => ?_, (I.lists.same len fun y t hy => ?_).congr hfr, by rw [len]; exact I.lens⟩
  · rw [len, show endOf ws.length = ws.length + 1 from if_pos two, Span.append]
    refine ⟨_, ?_, p3⟩
    rw [Span.append]
    refine ⟨_, p1, ha, by rw [hn]; exact p2, by rw [hn]; rfl⟩
  · obtain ⟨d, hd, e1, e2, _, _⟩ := fw c hc
    rw [← e1, hd0 d hd, ← e2]; exact I.head d hd
  · obtain ⟨d, hd, e1, e2, _, _⟩ := fw c hc
    rw [← e1, hd0 d hd, I.bit d hd]
    constructor
    · rintro ⟨f, hf, h1, h2⟩
      obtain ⟨g, hg, q1, q2, q3, _⟩ := bw f hf
      exact ⟨g, hg, by rw [← q3]; exact h1, by rw [← q1, ← q2]; exact h2⟩
    · rintro ⟨f, hf, h1, h2⟩
      obtain ⟨g, hg, q1, q2, q3, _⟩ := fw f hf
      exact ⟨g, hg, by rw [q3]; exact h1, by rw [q1, q2]; exact h2⟩
  · obtain ⟨d, hd, e1, e2, e3, _⟩ := fw c hc
    rw [← e3] at hcu
    rw [← e1, ← e2, off _ (by have := fr0 d hd hcu; have := I.end_le d hd; omega)]
    exact I.tail d hd hcu
  · obtain ⟨d, hd, e1, e2, e3, e4⟩ := fw c hc
    rcases e4 with h | ⟨h, h'⟩
    · subst h
      rcases sep d hd with h | h | h
      · have hc2 : d ∈ pre ++ post ∨ d = b' := by simp at hc ⊢; grind
        rcases hc2 with h2 | h2
        · rw [h] at h2
          exfalso
          rcases List.mem_append.1 h2 with h3 | h3
          · have := p1.mem b h3; omega
          · have := p3.mem b h3; omega
        · rw [h, ct i (by rw [← h]; exact hi), ← h, h2]
      · rw [off _ (by omega)]; exact I.cont d hd hcu i hi
      · rw [off _ (by omega)]; exact I.cont d hd hcu i hi
    · rw [h'] at hi ⊢
      rw [hn] at hi
      rw [ha, ct i hi]
  · obtain ⟨d, hd, e1, e2, e3, e4⟩ := fw c hc
    rcases e4 with h | ⟨h, h'⟩
    · rw [← h]; exact I.unm d hd (by rw [e3]; exact hcu)
    · rw [h', hu'] at hcu; cases hcu
  · rw [I.taken]
    constructor
    · rintro ⟨f, hf, h1, h2⟩
      obtain ⟨g, hg, q1, q2, q3, _⟩ := bw f hf
      exact ⟨g, hg, by rw [← q3]; exact h1, by rw [← q1]; exact h2⟩
    · rintro ⟨f, hf, h1, h2⟩
      obtain ⟨g, hg, q1, q2, q3, _⟩ := fw f hf
      exact ⟨g, hg, by rw [q3]; exact h1, by rw [q1]; exact h2⟩
  · rw [hmk]
    have only : ∀ c ∈ pre ++ [b'] ++ post, c.a = b.a → c = b' := fun c hc e => by
      have : c ∈ pre ++ post ∨ c = b' := by simp at hc ⊢; grind
      rcases this with h | h
      · rcases List.mem_append.1 h with h3 | h3
        · have := p1.mem c h3; omega
        · have := p3.mem c h3; omega
      · exact h
    by_cases e : x = b.a
    · rw [if_pos e]
      constructor
      · intro h; exact ⟨b', bin', h, by rw [ha, e]⟩
      · rintro ⟨c, hc, hcm, h⟩
        rw [← only c hc (by rw [h, e])]; exact hcm
    · rw [if_neg e, I.marked]
      constructor
      · rintro ⟨c, hc, hcm, h⟩
        have : c ∈ pre ++ post ∨ c = b := by simp at hc ⊢; grind
        rcases this with h3 | h3
        · exact ⟨c, by simp at h3 ⊢; grind, hcm, h⟩
        · rw [h3] at h; exact absurd h.symm e
      · rintro ⟨c, hc, hcm, h⟩
        have : c ∈ pre ++ post ∨ c = b' := by simp at hc ⊢; grind
        rcases this with h3 | h3
        · exact ⟨c, by simp at h3 ⊢; grind, hcm, h⟩
        · rw [h3, ha] at h; exact absurd h.symm e
  · rw [I.sum]
    simp only [usedSum_append, usedSum_cons, hu, hu', hn]
  · obtain ⟨d, hd, e1, e2, e3, _⟩ := fw c hc
    obtain ⟨f, hf, q1, q2, q3, _⟩ := fw e he
    rw [← q1, ← e1, ← e2]
    exact I.adj d hd f hf (by rw [e3]; exact hcu) (by rw [q3]; exact heu)
  · obtain ⟨d, hd, h1, h2, _⟩ := hy
    rw [← h2, off _ (by have := fr0 d hd h1; have := I.end_le d hd; omega)]
end
theorem split_mem {bs : List Blk} {b : Blk} (hb : b ∈ bs) : ∃ pre post, bs = pre ++ [b] ++ post := by
  obtain ⟨pre, post, h⟩ := List.append_of_mem hb
  exact ⟨pre, post, by rw [h]; simp⟩
def GetR (bs : List Blk) (q i : Int) (v : Nat) (er : Int) : Prop :=
  (usedAt bs q = false ∧ er = 4 ∧ v = 0) ∨ ∃ b ∈ bs, b.u = true ∧ q = (b.a : Int) ∧ ((er = 2 ∧ v = 0 ∧ (i < 0 ∨ (b.n : Int) ≤ i)) ∨ (er = 0 ∧ 0 ≤ i ∧ i < b.n ∧ v = b.ws.getD i.toNat 0))
theorem Get_at {S : Nat → Prop} {w : World} {p m : Nat} {bs : List Blk} (A0 : ArV S w p m bs) (q i : Int) (hq1 : -9223372036854775808 ≤ q) (hq2 : q < 9223372036854775808) :
    Calls Tryz.prog 57 #[.pointer (some ⟨p, 0, none⟩), .int .i64 q, .int .i64 i] w fun e w' => ∃ v er, GetR bs q i v er ∧ e = .returned (.tuple #[.int .u64 (v : Nat), .int .i64 er]) ∧ w = w' := by
  obtain ⟨SL, wb, tb, kb, mc, lv, ws, L, T, K, used, tk, mk, tbs, kbs, A, I, O⟩ := A0
  have HA := hid A; have HI := hid I; have HW := hid (word_at A I q i hq1 hq2)
  have hlen := A.core.len
  have c0 := heap_cell A.core.blk 0
  simp at c0
  clear A I O hq1 hq2
  go_enter Tryz.func57, Tryz.ntmps57
  go_wp2_with fail
  refine HW.out.mono ?_
  rintro e w1 ⟨er, hr, rfl, rfl⟩
  rcases hr with ⟨hr, rfl⟩ | ⟨b, hb, hbu, rfl, hr⟩
  · have HR := hid hr
    clear hr hlen
    go_wp2
    go_ret2
    exact ⟨0, 4, .inl ⟨HR.out, rfl, rfl⟩, rfl, rfl⟩
  rcases hr with ⟨rfl, hr⟩ | ⟨rfl, h0, h1⟩
  · have HR := hid hr; have HB := hid hb; have HBU := hid hbu
    clear hr hb hbu hlen
    go_wp2
    go_ret2
    exact ⟨0, 2, .inr ⟨b, HB.out, HBU.out, rfl, .inl ⟨rfl, rfl, HR.out⟩⟩, rfl, rfl⟩
  · obtain ⟨j, rfl⟩ : ∃ j : Nat, i = (j : Int) := ⟨i.toNat, by omega⟩
    have hj : j < b.n := by omega
    have hend := HI.out.end_le b hb
    have hsm := HI.out.small
    have hcont := HI.out.cont b hb hbu j hj
    obtain ⟨y, hy⟩ : ∃ y, b.a + j = y := ⟨_, rfl⟩
    have hym : y < m := by omega
    have ey : IntKind.i64.wrap ((b.a : Int) + j) = (y : Int) := by rw [IntWalk.i64_in _ ⟨by omega, by omega⟩]; omega
    have cw := HA.out.core.word y hym
    rw [hy] at hcont
    rw [hcont] at cw
    have HJ := hid hj; have HB := hid hb; have HBU := hid hbu
    clear hj hb hbu hcont hend hsm hlen hy h0 h1
    go_wp2
    go_ret2
    exact ⟨b.ws.getD j 0, 0, .inr ⟨b, HB.out, HBU.out, rfl, .inr ⟨rfl, by omega, by have := HJ.out; omega, by simp⟩⟩, rfl, rfl⟩
def SetR (bs : List Blk) (q i : Int) (v : Nat) (er : Int) (bs' : List Blk) : Prop :=
  (usedAt bs q = false ∧ er = 4 ∧ bs' = bs) ∨ ∃ pre b post, bs = pre ++ [b] ++ post ∧ b.u = true ∧ q = (b.a : Int) ∧ ((er = 2 ∧ (i < 0 ∨ (b.n : Int) ≤ i) ∧ bs' = bs) ∨ (er = 0 ∧ 0 ≤ i ∧ i < b.n ∧ bs' = pre ++ [⟨b.a, b.ws.set i.toNat v, true, b.m⟩] ++ post))
theorem Set_at {S : Nat → Prop} {w : World} {p m : Nat} {bs : List Blk} (A0 : ArV S w p m bs) (q i : Int) (hq1 : -9223372036854775808 ≤ q) (hq2 : q < 9223372036854775808) (v : Nat) (hv : v < 18446744073709551616) :
    Calls Tryz.prog 50 #[.pointer (some ⟨p, 0, none⟩), .int .i64 q, .int .i64 i, .int .u64 (v : Nat)] w fun e w' => ∃ er bs', SetR bs q i v er bs' ∧ e = .returned (.int .i64 er) ∧ ArPost S w p m bs' w' := by
  have HA0 := hid A0
  obtain ⟨SL, wb, tb, kb, mc, lv, ws, L, T, K, used, tk, mk, tbs, kbs, A, I, O⟩ := A0
  have HA := hid A; have HI := hid I; have HW := hid (word_at A I q i hq1 hq2); have HO := hid O; have HV := hid hv
  have hlen := A.core.len
  have c0 := heap_cell A.core.blk 0
  simp at c0
  clear A I O hq1 hq2 hv
  go_enter Tryz.func50, Tryz.ntmps50
  go_wp2_with fail
  refine HW.out.mono ?_
  rintro e w1 ⟨er, hr, rfl, rfl⟩
  rcases hr with ⟨hr, rfl⟩ | ⟨b, hb, hbu, rfl, hr⟩
  · have HR := hid hr
    clear hr hlen
    go_wp2
    go_ret
    exact ⟨4, bs, .inl ⟨HR.out, rfl, rfl⟩, rfl, .same HA0.out (Below.refl _ _)⟩
  obtain ⟨pre, post, rfl⟩ := split_mem hb
  rcases hr with ⟨rfl, hr⟩ | ⟨rfl, h0, h1⟩
  · have HR := hid hr; have HB := hid hb; have HBU := hid hbu
    clear hr hb hbu hlen
    go_wp2
    go_ret
    exact ⟨2, _, .inr ⟨pre, b, post, rfl, HBU.out, rfl, .inl ⟨rfl, HR.out, rfl⟩⟩, rfl, .same HA0.out (Below.refl _ _)⟩
  · obtain ⟨j, rfl⟩ : ∃ j : Nat, i = (j : Int) := ⟨i.toNat, by omega⟩
    have hj : j < b.n := by omega
    have hend := HI.out.end_le b hb
    have hsm := HI.out.small
    have hcont := HI.out.cont b hb hbu
    obtain ⟨y, hy⟩ : ∃ y, b.a + j = y := ⟨_, rfl⟩
    have hym : y < m := by omega
    have ey : IntKind.i64.wrap ((b.a : Int) + j) = (y : Int) := by rw [IntWalk.i64_in _ ⟨by omega, by omega⟩]; omega
    have cw := HA.out.core.word y hym
    have cf := HA.out.core.wrow.frozenAt y
    have hI := HI.out.touch (b' := ⟨b.a, b.ws.set j v, true, b.m⟩) hbu rfl (by simp [Blk.n]) rfl (ws' := ws.set y v) (by simp) (fun k hk => by rw [getD_set', if_neg (by omega)]) (fun i hi => by
      rw [getD_set']
      dsimp only
      rw [getD_set', ← hcont i hi]
      have : j < b.ws.length := hj
      by_cases e : i = j
      · rw [if_pos ⟨by omega, by omega⟩, if_pos ⟨e, by omega⟩]
      · rw [if_neg (by omega), if_neg (by omega)]) (mk' := mk) (fun x => by
      split
      · rename_i e
        dsimp only
        rw [Bool.eq_iff_iff, HI.out.marked, e]
        constructor
        · rintro ⟨c, hc, hcm, h⟩
          rw [← HI.out.span.inj hc hb h]; exact hcm
        · intro h; exact ⟨b, hb, h, rfl⟩
      · rfl)
    have hA := HA.out.words (upd_set _ _ _ _) (HA.out.core.set y v HV.out)
    have HIN := hid hI; have HAN := hid hA
    have HJ := hid hj; have HB := hid hb; have HBU := hid hbu
    clear hj hb hbu hcont hend hsm hlen hy h0 h1 hI hA
    go_wp2
    go_ret
    refine ⟨0, _, .inr ⟨pre, b, post, rfl, HBU.out, rfl, .inr ⟨rfl, by omega, by have := HJ.out; omega, rfl⟩⟩, rfl, S, ⟨SL, wb, tb, kb, mc, lv, _, L, T, K, used, tk, mk, tbs, kbs, HAN.out, ?_, HO.out⟩, Fresh.refl _ _, (upd_set _ _ _ _).mono (fun x _ hx => HO.out x (.inr (.inl hx)))⟩
    simpa using HIN.out
def MarkR (bs : List Blk) (q : Int) (r : Bool) (bs' : List Blk) : Prop :=
  (usedAt bs q = false ∧ r = false ∧ bs' = bs) ∨ ∃ pre b post, bs = pre ++ [b] ++ post ∧ b.u = true ∧ q = (b.a : Int) ∧ ((b.m = true ∧ r = false ∧ bs' = bs) ∨ (b.m = false ∧ r = true ∧ bs' = pre ++ [⟨b.a, b.ws, true, true⟩] ++ post))
end
end Go.Proofs.YtlcfkfijomnmnaaGreatDoor
