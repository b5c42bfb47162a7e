/- strings.SplitSeq at a separator of one byte: what it hands back, and what its iterator does at the caller's own invariant. -/
import Derived.Test.YtmjehnjodaicfaaDoorQRangeBP
import Derived.Test.YtmjehnjodaicfaaDoorQShelf
import Derived.Lib.IndexLaws
import Derived.Lib.IndexBytes
import Derived.Lib.Hide
import Derived.Outline
import Derived.WalkSpells
namespace Go.Proofs.YtmjehnjodaicfaaDoor
open Go.RowKit Go.Shelf
attribute [local go_sem] Oper.semAt_some

/-- The pieces of a text between the bytes c. -/
def pieces (c : UInt8) : List UInt8 → List (List UInt8)
  | [] => [[]]
  | b :: l => if b == c then [] :: pieces c l else match pieces c l with
    | p :: ps => (b :: p) :: ps
    | [] => [[b]]

theorem pieces_ne (c : UInt8) : ∀ l, pieces c l ≠ []
  | [] => by simp [pieces]
  | b :: l => by
    unfold pieces
    split
    · simp
    · split <;> simp

theorem pieces_none (c : UInt8) : ∀ l, Lib.indexByte l c = -1 → pieces c l = [l]
  | [], _ => rfl
  | b :: l, h => by
    unfold Lib.indexByte at h
    split at h
    · cases h
    · rename_i hb
      split at h
      · rename_i h1
        have ih := pieces_none c l (by simpa using h1)
        unfold pieces
        rw [if_neg hb, ih]
      · rename_i h1
        have := Lib.indexByte_ge l c
        simp at h1
        omega

theorem pieces_some (c : UInt8) : ∀ (l : List UInt8) (i : Nat), Lib.indexByte l c = i → i < l.length ∧ pieces c l = l.take i :: pieces c (l.drop (i + 1))
  | [], i, h => by unfold Lib.indexByte at h; omega
  | b :: l, i, h => by
    unfold Lib.indexByte at h
    split at h
    · rename_i hb
      obtain rfl : i = 0 := by omega
      refine ⟨by simp, ?_⟩
      rw [pieces, if_pos hb]
      simp
    · rename_i hb
      split at h
      · omega
      · rename_i h1
        have hge := Lib.indexByte_ge l c
        obtain ⟨j, hj⟩ : ∃ j : Nat, Lib.indexByte l c = j := ⟨(Lib.indexByte l c).toNat, by simp at h1; omega⟩
        obtain rfl : i = j + 1 := by omega
        obtain ⟨hl, hp⟩ := pieces_some c l j hj
        refine ⟨by simp; omega, ?_⟩
        rw [pieces, if_neg hb, hp]
        simp

/-- What SplitSeq hands back: a closure over the text, the separator and a 0, each in a block of its own. -/
theorem splitSeq_any (s sep : ByteArray) (w : World) :
    Calls Tryd.prog 69 #[.string s, .string sep] w fun e w' => e = .returned (.func (.func 76) #[] #[.pointer (some ⟨w.heap.size + 1, 0, none⟩), .pointer (some ⟨w.heap.size, 0, none⟩), .pointer (some ⟨w.heap.size + 2, 0, none⟩)]) ∧
      ∃ S : ByteArray, Hid (S = s) ∧ w' = ((w.alloc (.cells #[.string S] 9)).alloc (.cells #[.string sep] 9)).alloc (.cells #[.int .i64 0] 3) := by
  go_enter Tryd.func69, Tryd.ntmps69
  go_wp2
  go_ret
  exact ⟨rfl, s, Lib.hid rfl, rfl⟩

/-- The iterator's three captured variables, in the blocks b (the text), b + 1 (the separator), b + 2 (a 0). -/
structure Capt (b : Nat) (c : UInt8) (r : ByteArray) (W : World) : Prop where
  txt : W.cell? ⟨b, 0, none⟩ = some (.string r)
  free : W.frozen? ⟨b, 0, none⟩ = false
  sep : W.cell? ⟨b + 1, 0, none⟩ = some (.string ⟨#[c]⟩)
  sav : W.cell? ⟨b + 2, 0, none⟩ = some (.int .i64 0)
def lenAt (b : Nat) (W : World) : Nat := match W.cell? ⟨b, 0, none⟩ with
  | some (.string s) => s.size
  | _ => 0

theorem Capt.set {b : Nat} {c : UInt8} {r r' : ByteArray} {W : World} (h : Capt b c r W) : Capt b c r' (W.setCell ⟨b, 0, none⟩ (.string r')) := by
  refine ⟨World.cell?_setCell_same' _ _ _ (by rw [h.txt]; rfl), by rw [World.frozen?_setCell]; exact h.free, ?_, ?_⟩
  · rw [World.cell?_setCell_other]
    · exact h.sep
    · intro e; have := congrArg Addr.block e; simp at this
  · rw [World.cell?_setCell_other]
    · exact h.sav
    · intro e; have := congrArg Addr.block e; simp at this
theorem lenAt_of {b : Nat} {c : UInt8} {r : ByteArray} {W : World} (h : Capt b c r W) : lenAt b W = r.size := by
  unfold lenAt; rw [h.txt]

set_option maxHeartbeats 1000000 in
theorem splitSeq_iter (n b : Nat) (hn : 1 ≤ n) (c : UInt8) (s : ByteArray) (hs : s.size ≤ 9223372036854775807) (w : World) (hb : b + 2 < w.heap.size) (hc : Capt b c s w) (Kp : World → World → Prop) (I : List ByteArray → World → Prop) (Ix : Code → List ByteArray → World → Prop)
    (hKp : ∀ W W' r, Kp W W' → Capt b c r W → Capt b c r W') (hI : ∀ pre W r, I pre W → I pre (W.setCell ⟨b, 0, none⟩ (.string r))) :
    IterAt Fence.wide n Tryd.prog 76 #[.pointer (some ⟨b + 1, 0, none⟩), .pointer (some ⟨b, 0, none⟩), .pointer (some ⟨b + 2, 0, none⟩)] (fun x : ByteArray => #[.string x]) w Kp I Ix
      (fun xs => xs.map (·.data.toList) = pieces c s.data.toList) (fun pre => pre.map (·.data.toList) <+: pieces c s.data.toList) (fun pre x => (pre ++ [x]).map (·.data.toList) <+: pieces c s.data.toList) := by
  intro l L L' W1 hL hL' hbel hY h0 hL0
  have hc1 : Capt b c s W1 := ⟨by rw [hbel.cell (by simp; omega)]; exact hc.txt, by rw [hbel.frozen (by simp; omega)]; exact hc.free, by rw [hbel.cell (by simp; omega)]; exact hc.sep, by rw [hbel.cell (by simp; omega)]; exact hc.sav⟩
  clear hbel hc hb
  refine callsIn_of_wp Tryd.func76 rfl trivial ?_ rfl
  simp only [Tryd.ntmps76, List.size_toArray, List.length_cons, List.length_nil, Nat.reduceAdd, Nat.reduceSub, Array.replicate_succ, Array.replicate_zero, List.push_toArray, List.append_toArray, List.nil_append, List.cons_append]
  have q1 := hc1.sep
  gi_wp2
  gi_loopw [7, 8] (fun _ _ wr => ∃ (pre : List ByteArray) (r : ByteArray), pre.map (·.data.toList) ++ pieces c r.data.toList = pieces c s.data.toList ∧ r.size ≤ s.size ∧ Capt b c r wr ∧ I pre wr ∧ L wr) (fun _ _ wr => lenAt b wr)
  case atStart => exact ⟨[], s, rfl, Nat.le_refl _, hc1, h0, hL0⟩
  case round =>
    obtain ⟨pre, r, hp, hrs, hcr, hi, hl⟩ := hrel
    have k0 := hcr.txt
    have k1 := hcr.sep
    have k2 := hcr.sav
    have k3 := hcr.free
    rcases Int.lt_or_le (Lib.indexByte r.data.toList c) 0 with hneg | hpos
    · have hm1 : Lib.indexByte r.data.toList c = -1 := by have := Lib.indexByte_ge r.data.toList c; omega
      have hps := pieces_none c _ hm1
      have HP := Lib.hid hps
      have HM := Lib.hid hm1
      clear hps hm1 hneg
      obtain ⟨fn, tmps, assign, body, hy, hR⟩ := hY pre r wr hi hl ⟨[], by rw [← hp, HP.out]; simp⟩
      try dsimp only at hy
      gi_wp2_with (refine ⟨trivial, ?_⟩; gi_at_call 78; refine (callsIn_wide.2 (Tryd.strings_Index_one _ c _)).mono ?_; rintro e w' ⟨rfl, rfl⟩; rw [HM.out])
      refine hR.mono ?_
      rintro e W' (⟨rfl, hJ', hk, hl'⟩ | ⟨rfl, c', hx, hl'⟩)
      · gi_wp2
        go_end0
        exact ⟨⟨_, rfl⟩, .inl ⟨pre ++ [r], by rw [← hp, HP.out]; simp, hJ', hl'⟩⟩
      · gi_wp2
        go_end0
        exact ⟨⟨_, rfl⟩, .inr ⟨pre ++ [r], c', by rw [← hp, HP.out]; simp, hx, hl'⟩⟩
    · obtain ⟨i, hi'⟩ : ∃ i : Nat, Lib.indexByte r.data.toList c = i := ⟨(Lib.indexByte r.data.toList c).toNat, by omega⟩
      obtain ⟨hlt, hps⟩ := pieces_some c _ i hi'
      have HP := Lib.hid hps
      have HM := Lib.hid hi'
      clear hps hi' hpos
      have hsz : i < r.size := by rw [Array.length_toList] at hlt; exact hlt
      clear hlt
      obtain ⟨fn, tmps, assign, body, hy, hR⟩ := hY pre (r.extract 0 i) wr hi hl ⟨pieces c (r.data.toList.drop (i + 1)), by rw [← hp, HP.out, List.map_append, List.map_singleton, show (r.extract 0 i).data.toList = r.data.toList.take i by rw [Lib.extract_data]; simp]; simp⟩
      try dsimp only at hy
      gi_wp2_with (refine ⟨trivial, ?_⟩; gi_at_call 78; refine (callsIn_wide.2 (Tryd.strings_Index_one _ c _)).mono ?_; rintro e w' ⟨rfl, rfl⟩; rw [HM.out])
      refine hR.mono ?_
      have hx : (r.extract 0 i).data.toList = r.data.toList.take i := by rw [Lib.extract_data]; simp
      have HX := Lib.hid hx
      clear hx hY
      rintro e W' (⟨rfl, hJ', hk, hl'⟩ | ⟨rfl, c', hx, hl'⟩)
      · have hcr' := hKp _ _ _ hk hcr
        have m0 := hcr'.txt
        have m1 := hcr'.sep
        have m2 := hcr'.sav
        have m3 := hcr'.free
        have HS := Lib.hid hcr'
        clear hcr'
        gi_wp2
        go_roundw
        case rel => exact ⟨pre ++ [r.extract 0 i], r.extract (i + 1) r.size, by rw [← hp, HP.out, List.map_append, List.map_singleton, HX.out, Lib.extract_to_end]; simp, by rw [ByteArray.size_extract]; omega, HS.out.set, hI _ _ _ hJ', hL _ _ (KeepsOthers.setCell _ _ _) hl'⟩
        case measure =>
          have e1 := HS.out.set (r' := r.extract (i + 1) r.size)
          have e2 := lenAt_of e1
          have e3 := lenAt_of hcr
          rw [e2, e3, ByteArray.size_extract]
          omega
      · gi_wp2
        refine bodyPost_ret (results_none rfl _ _ _) rfl ?_
        exact ⟨⟨_, rfl⟩, .inr ⟨pre ++ [r.extract 0 i], c', ⟨pieces c (r.data.toList.drop (i + 1)), by rw [← hp, HP.out, List.map_append, List.map_singleton, HX.out]; simp⟩, hx, hl'⟩⟩
end Go.Proofs.YtmjehnjodaicfaaDoor
