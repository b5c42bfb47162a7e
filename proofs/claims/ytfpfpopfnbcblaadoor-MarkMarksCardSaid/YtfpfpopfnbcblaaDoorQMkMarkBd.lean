/- package arena: Blocks and what its iterator does. -/
import Derived.Test.YtfpfpopfnbcblaaDoorQMkBitsBd
import Derived.Test.YtfpfpopfnbcblaaDoorQRangeHBd
import Derived.Lib.Hide
import Derived.Outline
import Derived.WalkSpells
import Derived.Test.YtfpfpopfnbcblaaDoorQWordWalksBd
namespace Go.Proofs.YtfpfpopfnbcblaaDoor
open Go.RowKit Go.Shelf
attribute [local go_sem] Oper.semAt_some

/-- Where blocks lie, how long they are, whether they are used. -/
def shape (bs : List Blk) : List (Nat × Nat × Bool) := bs.map fun b => (b.a, b.n, b.u)
/-- The used blocks: where, how long. -/
def usedsF (sh : List (Nat × Nat × Bool)) : List (Nat × Nat) := (sh.filter (·.2.2)).map fun t => (t.1, t.2.1)
theorem usedsF_mem {bs : List Blk} {x : Nat × Nat} : x ∈ usedsF (shape bs) ↔ ∃ b ∈ bs, b.u = true ∧ b.a = x.1 ∧ b.n = x.2 := by
  unfold usedsF shape
  constructor
  · intro h
    obtain ⟨t, ht, rfl⟩ := List.mem_map.1 h
    obtain ⟨h1, h2⟩ := List.mem_filter.1 ht
    obtain ⟨b, hb, rfl⟩ := List.mem_map.1 h1
    exact ⟨b, hb, h2, rfl, rfl⟩
  · rintro ⟨b, hb, hu, h1, h2⟩
    refine List.mem_map.2 ⟨(b.a, b.n, b.u), List.mem_filter.2 ⟨List.mem_map.2 ⟨b, hb, rfl⟩, hu⟩, Prod.ext h1 h2⟩
theorem usedsF_sorted : ∀ {bs : List Blk} {s t : Nat}, Span s bs t → (usedsF (shape bs)).Pairwise (fun x y => x.1 < y.1) ∧ ∀ x ∈ usedsF (shape bs), s ≤ x.1
  | [], _, _, _ => ⟨.nil, fun x h => by simp [usedsF, shape] at h⟩
  | b :: l, s, t, h => by
    obtain ⟨h1, h2, h3⟩ := h
    obtain ⟨i1, i2⟩ := usedsF_sorted h3
    have e : usedsF (shape (b :: l)) = (if b.u then [(b.a, b.n)] else []) ++ usedsF (shape l) := by
      unfold usedsF shape
      cases hu : b.u <;> simp [hu]
    rw [e]
    cases hu : b.u
    · simp only [Bool.false_eq_true, if_false, List.nil_append]
      exact ⟨i1, fun x hx => by have := i2 x hx; omega⟩
    · simp only [if_true, List.singleton_append, List.pairwise_cons]
      refine ⟨⟨fun x hx => by have := i2 x hx; show b.a < x.1; omega, i1⟩, fun x hx => ?_⟩
      rcases List.mem_cons.1 hx with rfl | hx
      · show s ≤ b.a; omega
      · have := i2 x hx; omega
/-- What stands in the iterator's variable where these are still to come. -/
def AtP (rest : List (Nat × Nat)) (r : Int) : Prop := (rest = [] ∧ r = -1) ∨ ∃ x rest', rest = x :: rest' ∧ r = (x.1 : Nat)
theorem atP_of {bs : List Blk} {s t : Nat} (hs : Span s bs t) {tk : Nat → Bool} (ht : ∀ x, tk x = true ↔ ∃ b ∈ bs, b.u = true ∧ b.a = x) {n i : Nat} {r : Int} (hN : NextP tk n i r) {pre rest : List (Nat × Nat)} (hp : pre ++ rest = usedsF (shape bs))
    (h1 : ∀ x ∈ pre, x.1 < i) (h2 : ∀ x ∈ rest, i ≤ x.1) (hn : ∀ b ∈ bs, b.a < 64 * n) : AtP rest r := by
  have hso := (usedsF_sorted hs).1
  rw [← hp] at hso
  have hin : ∀ x ∈ rest, tk x.1 = true ∧ x.1 < 64 * n := fun x hx => by
    obtain ⟨b, hb, hu, ha, _⟩ := usedsF_mem.1 (show x ∈ usedsF (shape bs) by rw [← hp]; simp [hx])
    exact ⟨(ht _).2 ⟨b, hb, hu, ha⟩, by rw [← ha]; exact hn b hb⟩
  rcases hN with ⟨rfl, hno⟩ | ⟨j, rfl, hj1, hj2, hj3, hj4⟩
  · cases rest with
    | nil => exact .inl ⟨rfl, rfl⟩
    | cons x l =>
      obtain ⟨q1, q2⟩ := hin x (by simp)
      rw [hno x.1 (h2 x (by simp)) q2] at q1; cases q1
  · obtain ⟨b, hb, hu, ha⟩ := (ht j).1 hj3
    have hmem : (j, b.n) ∈ pre ++ rest := by rw [hp]; exact usedsF_mem.2 ⟨b, hb, hu, ha, rfl⟩
    have hmr : (j, b.n) ∈ rest := by
      rcases List.mem_append.1 hmem with h | h
      · have : j < i := h1 _ h; omega
      · exact h
    cases rest with
    | nil => simp at hmr
    | cons x l =>
      refine .inr ⟨x, l, rfl, ?_⟩
      have hxj : x.1 = j := by
        rcases List.mem_cons.1 hmr with e | h
        · rw [← e]
        · have hlt : x.1 < j := by
            have := (List.pairwise_append.1 hso).2.1
            exact (List.pairwise_cons.1 this).1 _ h
          have := hj4 x.1 (h2 x (by simp)) hlt
          rw [(hin x (by simp)).1] at this; cases this
      rw [hxj]
theorem AtP.split {bs : List Blk} {s t : Nat} (hs : Span s bs t) {pre rest : List (Nat × Nat)} {x : Nat × Nat} (hp : pre ++ x :: rest = usedsF (shape bs)) : (∀ y ∈ pre ++ [x], y.1 < x.1 + 1) ∧ ∀ y ∈ rest, x.1 + 1 ≤ y.1 := by
  have hso := (usedsF_sorted hs).1
  rw [← hp] at hso
  obtain ⟨a1, a2, a3⟩ := List.pairwise_append.1 hso
  refine ⟨fun y hy => ?_, fun y hy => (List.pairwise_cons.1 a2).1 _ hy⟩
  rcases List.mem_append.1 hy with h | h
  · have := a3 y h x (by simp); omega
  · simp only [List.mem_singleton] at h; subst h; omega

/-- What is asked of memory ahead of each round: the closure's variable, the arena (its blocks lie where they lay), the table of math/bits. -/
structure BlkAt (cb p m : Nat) (sh : List (Nat × Nat × Bool)) (W : World) : Prop where
  cap : W.cell? ⟨cb, 0, none⟩ = some (.pointer (some ⟨p, 0, none⟩))
  ar : ∃ S bs, shape bs = sh ∧ ArV S W p m bs
  tz : TzTab W
theorem blocks_any (p : Nat) (w : World) :
    Calls Tryd.prog 16 #[.pointer (some ⟨p, 0, none⟩)] w fun e w' => e = .returned (.func (.func 42) #[] #[.pointer (some ⟨w.heap.size, 0, none⟩)]) ∧ w' = w.alloc (.cells #[.pointer (some ⟨p, 0, none⟩)] 25) := by
  go_enter Tryd.func16, Tryd.ntmps16
  go_wp2
  go_ret
  exact ⟨rfl, rfl⟩
/-- next, over the used blocks' row. -/
theorem nextB (cb p m : Nat) (sh : List (Nat × Nat × Bool)) (W : World) (hB : BlkAt cb p m sh W) :
    ∃ tb, W.cell? ⟨p, 1, none⟩ = some (bits64 tb m) ∧ m ≤ 1048576 ∧ (∀ x ∈ usedsF sh, 1 ≤ x.1 ∧ x.1 ≤ m) ∧
      (∀ (i : Nat) (pre rest : List (Nat × Nat)), i ≤ m + 1 → pre ++ rest = usedsF sh → (∀ x ∈ pre, x.1 < i) → (∀ x ∈ rest, i ≤ x.1) →
        Calls Tryd.prog 43 #[bits64 tb m, .int .i64 i] W fun e w' => ∃ r : Int, e = .returned (.int .i64 r) ∧ AtP rest r ∧ W = w') ∧
      (∀ x ∈ usedsF sh, Calls Tryd.prog 39 #[.pointer (some ⟨p, 0, none⟩), .int .i64 x.1] W fun e w' => e = .returned (.int .i64 x.2) ∧ W = w') ∧
      (∀ pre x rest, pre ++ x :: rest = usedsF sh → (∀ y ∈ pre ++ [x], y.1 < x.1 + 1) ∧ ∀ y ∈ rest, x.1 + 1 ≤ y.1) := by
  obtain ⟨S, bs, hsh, SL, wb, tb, kb, mc, lv, ws, L, T, K, used, tk, mk, tbs, kbs, A, I, O⟩ := hB.ar
  subst hsh
  have c1 := heap_cell A.core.blk 1
  simp at c1
  have hlen := A.core.len
  have hsm := I.small
  refine ⟨tb, c1, by omega, fun x hx => ?_, fun i pre rest hi hp h1 h2 => ?_, fun x hx => ?_, fun pre x rest hp => AtP.split I.span hp⟩
  · obtain ⟨b, hb, _, ha, _⟩ := usedsF_mem.1 hx
    have := I.end_le b hb
    omega
  · refine (next_at W tb (m / 64 + 1) (m / 64 + 1) tk tbs A.brt i (by omega) (by omega) hB.tz).mono ?_
    rintro e w' ⟨r, rfl, hN, rfl⟩
    refine ⟨r, rfl, atP_of I.span I.taken hN hp h1 h2 (fun b hb => ?_), rfl⟩
    have := I.end_le b hb
    omega
  · obtain ⟨b, hb, _, ha, hn⟩ := usedsF_mem.1 hx
    have h3 := I.end_le b hb
    refine (size_at A.core x.1 (by omega) (by omega)).mono ?_
    rintro e w' ⟨rfl, rfl⟩
    rw [← ha, I.head b hb, hn]
    exact ⟨rfl, rfl⟩

theorem absentB (_ p _ : Nat) (_ : List (Nat × Nat × Bool)) (W : World) : Calls Tryd.prog 35 #[.pointer (some ⟨p, 0, none⟩)] W fun e w' => e = .returned (.bool false) ∧ W = w' := absent_at p W
/-- How far the iterator still has to go. -/
def measB (m : Nat) (r : Int) : Nat := if r < 0 then 0 else ((m : Int) + 1 - r).toNat
theorem measB_lt {m a : Nat} {r : Int} {rest : List (Nat × Nat)} (hr : AtP rest r) (h : ∀ y ∈ rest, a + 1 ≤ y.1) (ha : a ≤ m) : measB m r < measB m (a : Int) := by
  unfold measB
  rcases hr with ⟨_, rfl⟩ | ⟨y, l, rfl, rfl⟩
  · rw [if_pos (by omega), if_neg (by omega)]; omega
  · have := h y (by simp)
    rw [if_neg (by omega), if_neg (by omega)]; omega
def encB (x : Nat × Nat) : Array Value := #[.int .i64 (x.1 : Nat), .int .i64 (x.2 : Nat)]
set_option maxHeartbeats 1000000 in
theorem blocks_iter (n cb p m : Nat) (sh : List (Nat × Nat × Bool)) (hn : 1 ≤ n) (w : World) (Kp : World → World → Prop) (I : List (Nat × Nat) → World → Prop) (Ix : Code → List (Nat × Nat) → World → Prop) (hI : ∀ pre W, I pre W → BlkAt cb p m sh W) :
    IterAtG Fence.wide n Tryd.prog 42 #[.pointer (some ⟨cb, 0, none⟩)] encB w Kp I Ix
      (fun xs => xs = usedsF sh) (fun pre => pre <+: usedsF sh) (fun pre x => pre ++ [x] <+: usedsF sh) := by
  intro l L L' W1 hL hL' hbel hY h0 hL0
  have hB := hI _ _ h0
  obtain ⟨tb, c1, hm, hU, hnx, hsz, hsp⟩ := nextB cb p m sh W1 hB
  have c0 := hB.cap
  have NX := Lib.hid (hnx 0 [] (usedsF sh) (by omega) rfl (fun x h => by simp at h) (fun x _ => Nat.zero_le _))
  have HI := Lib.hid hI
  clear hbel hB hnx hsz hsp hU hI
  refine callsIn_of_wp Tryd.func42 rfl trivial ?_ rfl
  simp only [Tryd.ntmps42, List.size_toArray, List.length_cons, List.length_nil, Nat.reduceAdd, Nat.reduceSub, Array.replicate_succ, Array.replicate_zero, List.push_toArray, List.append_toArray, List.nil_append, List.cons_append]
  gi_wp2_with (refine ⟨trivial, ?_⟩; gi_at_call 35; refine (callsIn_wide.2 (absent_at p _)).mono ?_; rintro e w' ⟨rfl, rfl⟩)
  refine ⟨trivial, ?_⟩
  refine (callsIn_wide.2 NX.out).mono ?_
  rintro e w' ⟨r, rfl, hr, rfl⟩
  gi_wp2
  gi_loopw [3] (fun t3 wr => ∃ (pre rest : List (Nat × Nat)) (r : Int), t3 = .int .i64 r ∧ pre ++ rest = usedsF sh ∧ AtP rest r ∧ I pre wr ∧ L wr) (fun t3 _ => measB m (intOf t3))
  case atStart => exact ⟨[], usedsF sh, r, rfl, rfl, hr, h0, hL0⟩
  case round =>
    obtain ⟨pre, rest, r, rfl, hp, hr, hi, hl⟩ := hrel
    rcases hr with ⟨rfl, rfl⟩ | ⟨x, rest', rfl, rfl⟩
    · have HP := Lib.hid hp
      clear hp hY
      gi_wp2
      go_end0
      exact ⟨⟨_, rfl⟩, .inl ⟨pre, by have := HP.out; rw [← this]; simp, hi, hl⟩⟩
    · have hB := HI.out _ _ hi
      obtain ⟨tb, c1, hm, hU, hnx, hsz, hsp⟩ := nextB cb p m sh _ hB
      have c0 := hB.cap
      have hxm := hU x (by rw [← hp]; simp)
      have SZ := Lib.hid (hsz x (by rw [← hp]; simp))
      have HP := Lib.hid hp
      obtain ⟨fn, tmps, assign, body, hy, hR⟩ := hY pre x _ hi hl ⟨rest', by rw [← hp]; simp⟩
      dsimp only [encB] at hy
      obtain ⟨a, ha⟩ : ∃ a, x.1 = a := ⟨_, rfl⟩
      obtain ⟨sz, hsz'⟩ : ∃ sz, x.2 = sz := ⟨_, rfl⟩
      have HA := Lib.hid ha; have HSZ := Lib.hid hsz'
      rw [ha, hsz'] at hy SZ
      rw [ha] at hxm
      rw [ha]
      have ha0 : (0 : Int) ≤ a := Int.natCast_nonneg _
      clear hnx hsz hU hY hB hp hi hl hsp ha hsz'
      gi_wp2_with (refine ⟨trivial, ?_⟩; gi_at_call 39; refine (callsIn_wide.2 SZ.out).mono ?_; rintro e w' ⟨rfl, rfl⟩)
      refine hR.mono ?_
      rintro e W' (⟨rfl, hJ', hk', hl'⟩ | ⟨rfl, c', hx, hl'⟩)
      · have hB := HI.out _ _ hJ'
        obtain ⟨tb2, c1', hm', hU, hnx, hsz, hsp⟩ := nextB cb p m sh _ hB
        have c0' := hB.cap
        have hsp1 := hsp pre x rest' HP.out
        have e1 : IntKind.i64.wrap ((a : Int) + 1) = ((a + 1 : Nat) : Int) := by rw [IntWalk.i64_in _ ⟨by omega, by omega⟩]; omega
        have NX := Lib.hid (hnx (a + 1) (pre ++ [x]) rest' (by omega) (by rw [← HP.out]; simp) (fun y hy => by have := hsp1.1 y hy; rw [HA.out] at this; exact this) (fun y hy => by have := hsp1.2 y hy; rw [HA.out] at this; exact this))
        have HSP := Lib.hid hsp1.2; have HU2 := Lib.hid hU
        clear hB hnx hsz hU hsp hsp1
        gi_wp2_with (refine ⟨trivial, ?_⟩; gi_at_call 43; refine (callsIn_wide.2 NX.out).mono ?_; rintro e w' ⟨r2, rfl, hr2, rfl⟩)
        go_roundw
        case rel => exact ⟨pre ++ [x], rest', r2, rfl, by rw [← HP.out]; simp, hr2, hJ', hl'⟩
        case measure => exact measB_lt hr2 (fun y hy => by have := HSP.out y hy; rw [HA.out] at this; exact this) hxm.2
      · gi_wp2
        refine bodyPost_ret (results_none rfl _ _ _) rfl ?_
        exact ⟨⟨_, rfl⟩, .inr ⟨pre ++ [x], c', ⟨rest', by have := HP.out; rw [← this]; simp⟩, hx, hl'⟩⟩
end Go.Proofs.YtfpfpopfnbcblaaDoor

/- package mark: to, each. -/
namespace Go.Proofs.YtfpfpopfnbcblaaDoor
open Go.RowKit

/-- Where a word points. -/
def toF (x : Nat) : Option Nat := if there ((x : Int) % 8) ((x : Int) / 8) && (x % 8 == 2 || x % 8 == 5) then some (x / 8) else none
theorem toF_pos {x a : Nat} (h : toF x = some a) : 1 ≤ a ∧ a < 1099511627776 ∧ a = x / 8 := by
  unfold toF at h
  split at h
  · rename_i hc
    cases h
    simp only [Bool.and_eq_true, Bool.or_eq_true, beq_iff_eq] at hc
    obtain ⟨h1, h2⟩ := hc
    unfold there at h1
    rcases h2 with h2 | h2
    · have e : (x : Int) % 8 = 2 := by omega
      rw [e] at h1
      simp at h1
      omega
    · have e : (x : Int) % 8 = 5 := by omega
      rw [e] at h1
      simp at h1
      omega
  · cases h
theorem ret_tb {k1 : IntKind} {a b : Int} {c : Bool} (h : a = b) : Ending.returned (.tuple #[.int k1 a, .bool c]) = .returned (.tuple #[.int k1 b, .bool c]) := by rw [h]
theorem to_any (x : Nat) (w : World) (h1 : x < 18446744073709551616) (ht : Tab w) :
    Calls Tryd.prog 52 #[.int .u64 x] w fun e w' => e = .returned (.tuple #[.int .i64 ((toF x).getD 0 : Nat), .bool (toF x).isSome]) ∧ w = w' := by
  have C := Lib.hid (Of_any (x : Int) w (by omega) (by omega) ht)
  have HT := Lib.hid ht
  clear ht
  cases hx : there ((x : Int) % 8) ((x : Int) / 8)
  · have e0 : toF x = none := by simp [toF, hx]
    rw [e0]
    rw [show ofK x = 0 by simp [ofK, hx], show ofN x = 0 by simp [ofN, hx], show ofE x = 2 by simp [ofE, hx]] at C
    clear hx e0
    go_enter Tryd.func52, Tryd.ntmps52
    go_wp2_with fail
    refine C.out.mono ?_
    rintro e w' ⟨rfl, rfl⟩
    go_wp2
    go_ret2
    exact ⟨rfl, rfl⟩
  · rw [show ofK x = (x : Int) % 8 by simp [ofK, hx], show ofN x = (x : Int) / 8 by simp [ofN, hx], show ofE x = 0 by simp [ofE, hx]] at C
    by_cases hk : x % 8 = 2 ∨ x % 8 = 5
    · have e0 : toF x = some (x / 8) := by
        have : (x % 8 == 2 || x % 8 == 5) = true := by simpa using hk
        simp [toF, hx, this]
      rw [e0]
      have e3 : (((x / 8 : Nat)) : Int) = (x : Int) / 8 := by omega
      have e4 : IntKind.i64.wrap ((x : Int) / 8) = (x : Int) / 8 := IntWalk.i64_in _ ⟨by omega, by omega⟩
      have e5 : wrap64 ((x : Int) / 8) = (x : Int) / 8 := IntWalk.wrap64_in _ (by omega)
      rcases hk with hk | hk
      · rw [show (x : Int) % 8 = 2 by omega] at C
        have HE := Lib.hid e3
        clear hx e0 hk e3
        go_enter Tryd.func52, Tryd.ntmps52
        go_wp2_with fail
        refine C.out.mono ?_
        rintro e w' ⟨rfl, rfl⟩
        go_wp2
        go_ret2
        exact ⟨ret_tb HE.out.symm, rfl⟩
      · rw [show (x : Int) % 8 = 5 by omega] at C
        have HE := Lib.hid e3
        clear hx e0 hk e3
        go_enter Tryd.func52, Tryd.ntmps52
        go_wp2_with fail
        refine C.out.mono ?_
        rintro e w' ⟨rfl, rfl⟩
        go_wp2
        go_ret2
        exact ⟨ret_tb HE.out.symm, rfl⟩
    · have e0 : toF x = none := by
        have : (x % 8 == 2 || x % 8 == 5) = false := by
          have := not_or.1 hk
          simp [this.1, this.2]
        simp [toF, this]
      rw [e0]
      obtain ⟨k, hk'⟩ : ∃ k : Int, (x : Int) % 8 = k := ⟨_, rfl⟩
      have hk2 := not_or.1 hk
      have h2 : ¬ k = 2 := by omega
      have h5 : ¬ k = 5 := by omega
      have h2' : (k == 2) = false := by simpa using h2
      have h5' : (k == 5) = false := by simpa using h5
      have h2'' : (k != 2) = true := by simpa using h2
      have h5'' : (k != 5) = true := by simpa using h5
      rw [hk'] at C
      clear hx e0 hk hk' hk2
      go_enter Tryd.func52, Tryd.ntmps52
      go_wp2_with fail
      refine C.out.mono ?_
      rintro e w' ⟨rfl, rfl⟩
      go_wp2
      go_ret2
      exact ⟨rfl, rfl⟩

/-- A row of words, to be read. -/
def U64At (W : World) (v : Value) (xs : List Nat) : Prop := ∃ ao c, v = .slice ao xs.length c ∧ (xs = [] ∨ ∃ b o, ao = some ⟨b, o, none⟩ ∧ ∀ k x : Nat, xs[k]? = some x → W.cell? ((⟨b, o, none⟩ : Addr).add k) = some (.int .u64 x))
set_option maxRecDepth 100000 in
theorem each_any {f : FuncId} {bnd cap : Array Value} (hent : ∀ args w, (callFunc f args).run Tryd.prog w = .ok (.enter f args) w) (v : Value) (xs : List Nat) (I : List Nat → World → Prop) (hrow : ∀ pre W, I pre W → U64At W v xs ∧ Tab W) (hx : ∀ x ∈ xs, x < 18446744073709551616) (hl : xs.length ≤ 1000000)
    (hcall : ∀ pre a W, a ∈ xs.filterMap toF → I pre W → Calls Tryd.prog f (bnd ++ #[.int .i64 (a : Nat)] ++ cap) W fun e W' => (∃ u, e = .returned u) ∧ I (pre ++ [a]) W') (w : World) (h0 : I [] w) :
    Calls Tryd.prog 27 #[v, .func (.func f) bnd cap] w fun e w' => (∃ u, e = .returned u) ∧ I (xs.filterMap toF) w' := by
  obtain ⟨⟨ao, ca, rfl, _⟩, _⟩ := hrow _ _ h0
  have HR := Lib.hid hrow; have HX := Lib.hid hx; have HL := Lib.hid hl; have HC := Lib.hid hcall; have H0 := Lib.hid h0
  clear hrow hx hl hcall h0
  go_enter Tryd.func27, Tryd.ntmps27
  go_wp2
  go_loopw [10] (fun t10 wr => ∃ i : Nat, t10 = .int .i64 i ∧ i ≤ xs.length ∧ I ((xs.take i).filterMap toF) wr) (fun t10 _ => xs.length - (intOf t10).toNat)
  case atStart => exact ⟨0, rfl, Nat.zero_le _, by simpa using H0.out⟩
  case round =>
    obtain ⟨i, rfl, hi, hI⟩ := hrel
    by_cases hlt : i < xs.length
    · obtain ⟨x, hx⟩ : ∃ x, xs[i]? = some x := ⟨xs[i], by simp [hlt]⟩
      obtain ⟨⟨ao2, ca2, e, hrow⟩, htab⟩ := HR.out _ _ hI
      rcases hrow with rfl | ⟨b, o, rfl, hc⟩
      · simp at hlt
      · cases e
        have c0 : wr.cell? ⟨b, o + i, none⟩ = some (.int .u64 x) := by have := hc i x hx; rwa [Addr.add_lit] at this
        have hx64 := HX.out x (List.mem_of_getElem? hx)
        have C := Lib.hid (to_any x wr hx64 htab)
        have HT := Lib.hid (show xs.take (i + 1) = xs.take i ++ [x] by obtain ⟨hk, rfl⟩ := List.getElem?_eq_some_iff.1 hx; exact List.take_succ_eq_append_getElem hk)
        have HIn := Lib.hid hI; have HLT := Lib.hid hlt; have HMX := Lib.hid (List.mem_of_getElem? hx)
        have hlt' : (i : Int) < xs.length := by omega
        have HI6 := Lib.hid (show (i : Int) < 1000000 by have := HL.out; omega)
        clear hc hx hI hlt htab hi hx64
        cases ht : toF x with
        | none =>
          rw [ht, Option.getD_none, Option.isSome_none] at C
          have HTX := Lib.hid ht
          clear ht
          go_wp2_with fail
          refine C.out.mono ?_
          rintro e w1 ⟨rfl, rfl⟩
          have HI6' := HI6.out
          go_wp2
          go_roundw
          case rel => exact ⟨i + 1, by go_num, HLT.out, by rw [HT.out, List.filterMap_append]; simpa [HTX.out] using HIn.out⟩
          case measure => have := HLT.out; simp [intOf]; omega
        | some a =>
          rw [ht, Option.getD_some, Option.isSome_some] at C
          have HTX := Lib.hid ht
          have HC1 := Lib.hid (HC.out _ a wr (List.mem_filterMap.2 ⟨x, HMX.out, ht⟩) HIn.out)
          clear ht
          go_wp2_with fail
          refine C.out.mono ?_
          rintro e w1 ⟨rfl, rfl⟩
          go_wp2_with fail
          refine HC1.out.mono ?_
          rintro e w1 ⟨⟨u, rfl⟩, hI1⟩
          have HI1 := Lib.hid hI1
          clear hI1
          have HI6' := HI6.out
          go_wp2
          go_roundw
          case rel => exact ⟨i + 1, by go_num, HLT.out, by rw [HT.out, List.filterMap_append]; simpa [HTX.out] using HI1.out⟩
          case measure => have := HLT.out; simp [intOf]; omega
    · obtain rfl : i = xs.length := by omega
      have hlt' : ¬ (xs.length : Int) < xs.length := by omega
      have HIn := Lib.hid hI
      clear hI
      go_wp2
      go_end0
      exact ⟨⟨_, rfl⟩, by simpa using HIn.out⟩
end Go.Proofs.YtfpfpopfnbcblaaDoor

/- package arena: Mark in the arena's own memory; Marked. -/
namespace Go.Proofs.YtfpfpopfnbcblaaDoor
open Go.RowKit

set_option maxRecDepth 100000 in
theorem Mark_s {S : Nat → Prop} {w : World} {p m : Nat} {bs : List Blk} (A0 : ArV S w p m bs) (q : Int) (hq1 : -9223372036854775808 ≤ q) (hq2 : q < 9223372036854775808) :
    Calls Tryd.prog 53 #[.pointer (some ⟨p, 0, none⟩), .int .i64 q] w fun e w' => ∃ r bs', MarkR bs q r bs' ∧ e = .returned (.bool r) ∧ ArV S w' p m bs' ∧ Upd S w w' := by
  have HA0 := Lib.hid A0
  obtain ⟨SL, wb, tb, kb, mc, lv, ws, L, T, K, used, tk, mk, tbs, kbs, A, I, O⟩ := A0
  have HA := Lib.hid A; have HI := Lib.hid I; have HH := Lib.hid (has_at A I q hq1 hq2); have HO := Lib.hid O
  have hlen := A.core.len
  have c2 := heap_cell A.core.blk 2
  simp at c2
  clear A I O hq1 hq2
  cases hu : usedAt bs q
  · have HU := Lib.hid hu
    clear hu hlen
    go_enter Tryd.func53, Tryd.ntmps53
    go_wp2_with fail
    refine (absent_at p w).mono ?_
    rintro e w1 ⟨rfl, rfl⟩
    go_wp2_with fail
    refine HH.out.mono ?_
    rintro e w1 ⟨rfl, rfl⟩
    rw [HU.out]
    go_wp2
    go_ret
    exact ⟨false, bs, .inl ⟨HU.out, rfl, rfl⟩, rfl, HA0.out, Upd.refl _ _⟩
  · obtain ⟨b, hb, hbu, rfl⟩ := usedAt_mem hu
    obtain ⟨pre, post, rfl⟩ := split_mem hb
    have hend := HI.out.end_le b hb
    have hsm := HI.out.small
    have hx64 : b.a < 64 * (m / 64 + 1) := by omega
    have hm20 : m / 64 + 1 ≤ 1048576 := by omega
    have hmk : mk b.a = b.m := by
      rw [Bool.eq_iff_iff, HI.out.marked]
      constructor
      · rintro ⟨c, hc, hcm, h⟩
        rw [← HI.out.span.inj hc hb h]; exact hcm
      · intro h; exact ⟨b, hb, h, rfl⟩
    have hcont := HI.out.cont b hb hbu
    have hI := HI.out.touch (b' := ⟨b.a, b.ws, true, true⟩) hbu rfl rfl rfl (ws' := ws) rfl (fun k hk => rfl) hcont (mk' := turned mk b.a true) (fun x => rfl)
    have HIN := Lib.hid hI
    have HU := Lib.hid hu; have HB := Lib.hid hb; have HBU := Lib.hid hbu; have HMK := Lib.hid hmk; have HX := Lib.hid hx64; have HM := Lib.hid hm20
    clear hu hb hbu hend hlen hsm hmk hx64 hm20 hcont hI
    go_enter Tryd.func53, Tryd.ntmps53
    go_wp2_with fail
    refine (absent_at p w).mono ?_
    rintro e w1 ⟨rfl, rfl⟩
    go_wp2_with fail
    refine HH.out.mono ?_
    rintro e w1 ⟨rfl, rfl⟩
    rw [HU.out]
    go_wp2_with fail
    refine (bhas_at w kb _ _ mk kbs HA.out.brk b.a HX.out HM.out).mono ?_
    rintro e w1 ⟨rfl, rfl⟩
    rw [HMK.out]
    cases hm : b.m
    · have HMM := Lib.hid hm
      clear hm
      go_wp2_with fail
      refine (bset_at w kb _ _ mk kbs HA.out.brk b.a HX.out HM.out).mono ?_
      rintro e w1 ⟨rfl, ⟨kbs', hk⟩, hu⟩
      have HK := Lib.hid hk; have HUU := Lib.hid hu
      clear hk hu
      go_wp2
      go_ret
      exact ⟨true, _, .inr ⟨pre, b, post, rfl, HBU.out, rfl, .inr ⟨HMM.out, rfl, rfl⟩⟩, rfl, ⟨SL, wb, tb, kb, mc, lv, ws, L, T, K, used, tk, _, tbs, kbs', HA.out.turnK HUU.out HK.out, HIN.out, HO.out⟩, HUU.out.mono (fun x _ hx => HO.out x (.inr (.inr (.inr (.inl hx)))))⟩
    · have HMM := Lib.hid hm
      clear hm
      go_wp2
      go_ret
      exact ⟨false, _, .inr ⟨pre, b, post, rfl, HBU.out, rfl, .inl ⟨HMM.out, rfl, rfl⟩⟩, rfl, HA0.out, Upd.refl _ _⟩

/-- Is the block marked that lies there? -/
def markedAt (bs : List Blk) (x : Nat) : Bool := bs.any fun b => b.m && b.a == x
theorem markedAt_iff {bs : List Blk} {x : Nat} : markedAt bs x = true ↔ ∃ b ∈ bs, b.m = true ∧ b.a = x := by simp [markedAt, List.any_eq_true]
theorem usedAt_of {bs : List Blk} {b : Blk} (hb : b ∈ bs) (hu : b.u = true) : usedAt bs (b.a : Int) = true := (usedAt_iff bs _).2 ⟨b, hb, hu, rfl⟩
theorem Marked_s {S : Nat → Prop} {w : World} {p m : Nat} {bs : List Blk} (A0 : ArV S w p m bs) (x : Nat) (hx : usedAt bs (x : Int) = true) :
    Calls Tryd.prog 12 #[.pointer (some ⟨p, 0, none⟩), .int .i64 x] w fun e w' => e = .returned (.bool (markedAt bs x)) ∧ w = w' := by
  obtain ⟨SL, wb, tb, kb, mc, lv, ws, L, T, K, used, tk, mk, tbs, kbs, A, I, O⟩ := A0
  obtain ⟨b, hb, hbu, hq⟩ := usedAt_mem hx
  have hend := I.end_le b hb
  have hsm := I.small
  have hlen := A.core.len
  have e : b.a = x := by omega
  have hmk : mk x = markedAt bs x := by rw [Bool.eq_iff_iff, I.marked, markedAt_iff]
  have HA := Lib.hid A; have HMK := Lib.hid hmk
  have HH := Lib.hid (has_at A I (x : Int) (by omega) (by omega)); have HU := Lib.hid hx
  have HX := Lib.hid (show x < 64 * (m / 64 + 1) by omega); have HM := Lib.hid (show m / 64 + 1 ≤ 1048576 by omega)
  have c2 := heap_cell A.core.blk 2
  simp at c2
  clear A I O hb hbu hend hsm hlen e hmk hx hq
  go_enter Tryd.func12, Tryd.ntmps12
  go_wp2_with fail
  refine (absent_at p w).mono ?_
  rintro e w1 ⟨rfl, rfl⟩
  go_wp2_with fail
  refine HH.out.mono ?_
  rintro e w1 ⟨rfl, rfl⟩
  rw [HU.out]
  go_wp2_with fail
  refine (bhas_at w kb _ _ mk kbs HA.out.brk x HX.out HM.out).mono ?_
  rintro e w1 ⟨rfl, rfl⟩
  rw [HMK.out]
  go_wp2
  go_ret
  exact ⟨rfl, rfl⟩
end Go.Proofs.YtfpfpopfnbcblaaDoor
