/- Layer 5 (ops): Shape, Known, Bytes: what each computes. Condition: the tables lie as their initialisers lay them. -/
import Derived.Test.YtfjjecffeeffcaaDoorOpsWalks
namespace Go.Proofs.YtfjjecffeeffcaaDoor
open Go.RowKit

theorem retb {a b : Bool} (h : a = b) : Ending.returned (.bool a) = .returned (.bool b) := by rw [h]

def lettersL : List UInt8 := [46, 98, 121, 108, 116, 105, 50, 109, 51, 54, 104, 118, 99]
def shapeI (op : Int) : Int := if findI op < 0 then 0 else 1 + Lib.indexByte lettersL (findL op).toNat.toUInt8

theorem shape_any (op : Int) (w : World) (h0 : -9223372036854775808 ≤ op) (h1 : op ≤ 9223372036854775807) (ht : OTab w) :
    Calls Tryd.prog 13 #[.int .i64 op] w fun e w' => e = .returned (.int .i64 (shapeI op)) ∧ Below w.heap.size w w' := by
  have Ht := Lib.hid ht; clear ht
  obtain ⟨i, hi⟩ : ∃ i, findI op = i := ⟨_, rfl⟩
  have HI := Lib.hid hi
  by_cases hneg : i < 0
  · have hs : shapeI op = 0 := by rw [shapeI, hi, if_pos hneg]
    have HS := Lib.hid hs
    clear hs hi
    go_enter Tryd.func13, Tryd.ntmps13
    go_wp2_with fail
    refine (find_any _ _ h0 h1 Ht.out).mono ?_
    rintro e w1 ⟨rfl, hb⟩
    rw [HI.out]
    go_wp2
    go_ret
    exact ⟨ret1 HS.out.symm, hb⟩
  · have hs : shapeI op = 1 + Lib.indexByte lettersL (findL op).toNat.toUInt8 := by rw [shapeI, hi, if_neg hneg]
    obtain ⟨x, hx, hx0, hx1⟩ : ∃ x, Lib.indexByte lettersL (findL op).toNat.toUInt8 = x ∧ -1 ≤ x ∧ x ≤ 13 := ⟨_, rfl, Lib.indexByte_ge _ _, by
      generalize (findL op).toNat.toUInt8 = c
      rcases Int.lt_or_le (Lib.indexByte lettersL c) 0 with h | h
      · omega
      · obtain ⟨o, ho⟩ : ∃ o : Nat, Lib.indexByte lettersL c = o := ⟨(Lib.indexByte lettersL c).toNat, by omega⟩
        have := (Lib.indexByte_some ho).1
        have hl := (List.getElem?_eq_some_iff.1 this).1
        have : lettersL.length = 13 := rfl
        omega⟩
    rw [hx] at hs
    have HS := Lib.hid hs
    have HX := Lib.hid hx
    clear hs hi hx
    go_enter Tryd.func13, Tryd.ntmps13
    go_wp2_with fail
    refine (find_any _ _ h0 h1 Ht.out).mono ?_
    rintro e w1 ⟨rfl, hb⟩
    rw [HI.out]
    go_wp2_with fail
    refine (Tryd.strings_IndexByte _ _ _).mono ?_
    rintro e w2 ⟨rfl, rfl⟩
    rw [show Lib.indexByte (ByteArray.mk #[46, 98, 121, 108, 116, 105, 50, 109, 51, 54, 104, 118, 99]).data.toList (findL op).toNat.toUInt8 = x from HX.out]
    go_wp2
    go_ret
    exact ⟨ret1 HS.out.symm, hb⟩

theorem idx_known : ∀ k : Nat, k < 9 → ∀ w, (Instr.index 55 (.agg knownC) (.int .i64 k)).run Tryd.prog w = .ok (.agg #[.int .i64 (knownL.getD k (0, 0)).1, .int .i64 (knownL.getD k (0, 0)).2]) w := by
  intro k hk
  match k, hk with
  | 0, _ => exact fun w => by kernel_rfl
  | 1, _ => exact fun w => by kernel_rfl
  | 2, _ => exact fun w => by kernel_rfl
  | 3, _ => exact fun w => by kernel_rfl
  | 4, _ => exact fun w => by kernel_rfl
  | 5, _ => exact fun w => by kernel_rfl
  | 6, _ => exact fun w => by kernel_rfl
  | 7, _ => exact fun w => by kernel_rfl
  | 8, _ => exact fun w => by kernel_rfl
  | k + 9, h => exact absurd h (by omega)
theorem idx_reach : ∀ k : Nat, k < 3 → ∀ w, (Instr.index 58 (.agg reachC) (.int .i64 k)).run Tryd.prog w = .ok (.agg #[.int .i64 (reachL.getD k (0, [])).1, .string ⟨(reachL.getD k (0, [])).2.toArray⟩]) w := by
  intro k hk
  match k, hk with
  | 0, _ => exact fun w => by kernel_rfl
  | 1, _ => exact fun w => by kernel_rfl
  | 2, _ => exact fun w => by kernel_rfl
  | k + 3, h => exact absurd h (by omega)

theorem known_at (k : Nat) (hk : k < 9) : ∃ f l : Int, knownL.getD k (0, 0) = (f, l) ∧ (f, l) ∈ knownL ∧ ∀ p : Int × Int → Bool, (knownL.take (k + 1)).any p = ((knownL.take k).any p || p (f, l)) := by
  have h : k < knownL.length := hk
  have e : knownL.getD k (0, 0) = knownL[k] := by rw [List.getD_eq_getElem?_getD, List.getElem?_eq_getElem h]; rfl
  refine ⟨knownL[k].1, knownL[k].2, e, List.getElem_mem _, fun p => ?_⟩
  rw [List.take_succ_eq_append_getElem h, List.any_append]
  simp

def knownB (op : Int) : Bool := knownL.any fun s => decide (s.1 ≤ op) && decide (op ≤ s.2)

set_option maxHeartbeats 1000000 in
theorem known_tells (op : Int) (w : World) (ht : OTab w) :
    Calls Tryd.prog 14 #[.int .i64 op] w fun e w' => e = .returned (.bool (knownB op)) ∧ Below w.heap.size w w' := by
  obtain ⟨t, fr, hg⟩ := ht.known
  clear ht
  go_enter Tryd.func14, Tryd.ntmps14
  go_wp2_with (refine wpList_load_row rfl 55 _ rfl 1 rfl t _ fr _ hg Tryd.underlying55 rfl (by kernel_rfl) ?_)
  go_loopw [6] (fun t6 wr => ∃ k : Nat, k ≤ 9 ∧ t6 = .int .i64 k ∧ ((knownL.take k).any fun s => decide (s.1 ≤ op) && decide (op ≤ s.2)) = false ∧ Below w.heap.size w wr) (fun t6 _ => 9 - (intOf t6).toNat)
  case atStart => exact ⟨0, by omega, rfl, rfl, Below.refl _ _⟩
  case round =>
    obtain ⟨k, hk, rfl, hno, hb⟩ := hrel
    have HN := Lib.hid hno
    have HB := Lib.hid hb
    clear hno hb hg
    by_cases hlt : k < 9
    · obtain ⟨f, l, hr, hmem, hany⟩ := known_at k hlt
      have hix := idx_known k hlt
      rw [hr] at hix
      have HM := Lib.hid hmem
      have HA := Lib.hid hany
      clear hr hmem hany
      by_cases h1 : f ≤ op
      · by_cases h2 : op ≤ l
        · have hkn : knownB op = true := by
            rw [knownB, List.any_eq_true]
            exact ⟨(f, l), HM.out, by simp [h1, h2]⟩
          have HK := Lib.hid hkn
          clear hkn
          go_wp2
          go_ret
          exact ⟨retb HK.out.symm, HB.out.alloc HB.out.size _⟩
        · go_wp2
          go_roundw
          case rel => exact ⟨k + 1, by omega, by go_num, by rw [HA.out, HN.out]; simp; omega, HB.out.alloc HB.out.size _⟩
          case measure => simp [intOf]; omega
      · go_wp2
        go_roundw
        case rel => exact ⟨k + 1, by omega, by go_num, by rw [HA.out, HN.out]; simp; omega, HB.out.alloc HB.out.size _⟩
        case measure => simp [intOf]; omega
    · obtain rfl : k = 9 := by omega
      have hkn : knownB op = false := HN.out
      have HK := Lib.hid hkn
      clear hkn HN
      go_wp2
      go_ret
      exact ⟨retb HK.out.symm, HB.out⟩

def bytesGo : List (Int × List UInt8) → Int → Int
  | [], _ => 0
  | (f, s) :: r, op => if f ≤ op ∧ op - f < s.length then ((s.getD (op - f).toNat 0).toNat : Int) - 48 else bytesGo r op
def bytesI (op : Int) : Int := bytesGo reachL op
theorem reach_at (k : Nat) (hk : k < 3) : ∃ (f : Int) (s : List UInt8), reachL.getD k (0, []) = (f, s) ∧ reachL.drop k = (f, s) :: reachL.drop (k + 1) ∧ 0 ≤ f ∧ f ≤ 65000 ∧ s.length ≤ 40 ∧ ∀ b ∈ s, 48 ≤ b.toNat ∧ b.toNat ≤ 57 := by
  have hl : reachL.length = 3 := rfl
  have hall : ∀ x ∈ reachL, 0 ≤ x.1 ∧ x.1 ≤ 65000 ∧ x.2.length ≤ 40 ∧ ∀ b ∈ x.2, 48 ≤ b.toNat ∧ b.toNat ≤ 57 := by decide
  have hm : reachL.getD k (0, []) ∈ reachL := by
    rw [List.getD_eq_getElem?_getD, List.getElem?_eq_getElem (by omega)]
    exact List.getElem_mem _
  obtain ⟨h1, h2, h3, h4⟩ := hall _ hm
  refine ⟨(reachL.getD k (0, [])).1, (reachL.getD k (0, [])).2, rfl, ?_, h1, h2, h3, h4⟩
  rw [List.drop_eq_getElem_cons (by omega)]
  rw [List.getD_eq_getElem?_getD, List.getElem?_eq_getElem (show k < reachL.length by omega)]
  rfl

set_option maxHeartbeats 1000000 in
theorem bytes_any (op : Int) (w : World) (h0 : -9223372036854775808 ≤ op) (h1 : op ≤ 9223372036854775807) (ht : OTab w) :
    Calls Tryd.prog 15 #[.int .i64 op] w fun e w' => e = .returned (.int .i64 (bytesI op)) ∧ Below w.heap.size w w' := by
  obtain ⟨t, fr, hg⟩ := ht.reach
  clear ht
  go_enter Tryd.func15, Tryd.ntmps15
  go_wp2_with (refine wpList_load_row rfl 58 _ rfl 2 rfl t _ fr _ hg Tryd.underlying58 rfl (by kernel_rfl) ?_)
  go_loopw [7] (fun t7 wr => ∃ k : Nat, k ≤ 3 ∧ t7 = .int .i64 k ∧ bytesGo (reachL.drop k) op = bytesGo reachL op ∧ Below w.heap.size w wr) (fun t7 _ => 3 - (intOf t7).toNat)
  case atStart => exact ⟨0, by omega, rfl, rfl, Below.refl _ _⟩
  case round =>
    obtain ⟨k, hk, rfl, hgo, hb⟩ := hrel
    have HGO := Lib.hid hgo
    have HB := Lib.hid hb
    clear hgo hb hg
    by_cases hlt : k < 3
    · obtain ⟨f, s, hr1, hr3, hf0, hf1, hs, hdig⟩ := reach_at k hlt
      have HR3 := Lib.hid hr3
      have hix := idx_reach k hlt
      rw [hr1] at hix
      have HD := Lib.hid hdig
      clear hr1 hr3 hdig
      by_cases hop : f ≤ op
      · by_cases hin : op - f < s.length
        · have hn0 : 0 ≤ op - f := by omega
          have hn1 : (op - f).toNat < s.length := by omega
          obtain ⟨d, hd⟩ : ∃ d : UInt8, d = s[(op - f).toNat]'hn1 := ⟨_, rfl⟩
          have hd1 := HD.out d (by rw [hd]; exact List.getElem_mem _)
          go_wp2
          go_ret
          refine ⟨ret1 ?_, HB.out.alloc HB.out.size _⟩
          have hr : bytesI op = ((s.getD (op - f).toNat 0).toNat : Int) - 48 := by rw [bytesI, ← HGO.out, HR3.out, bytesGo, if_pos ⟨hop, hin⟩]
          rw [hr, List.getD_eq_getElem?_getD, List.getElem?_eq_getElem hn1, Option.getD_some, ← hd]
          have e : ({ data := s.toArray } : ByteArray)[(op - f).toNat] = d := hd.symm
          rw [e]
          omega
        · go_wp2
          go_roundw
          case rel => exact ⟨k + 1, by omega, by go_num, by rw [← HGO.out, HR3.out, bytesGo, if_neg (by omega)], HB.out.alloc HB.out.size _⟩
          case measure => simp [intOf]; omega
      · go_wp2
        go_roundw
        case rel => exact ⟨k + 1, by omega, by go_num, by rw [← HGO.out, HR3.out, bytesGo, if_neg (by omega)], HB.out.alloc HB.out.size _⟩
        case measure => simp [intOf]; omega
    · obtain rfl : k = 3 := by omega
      have hr : bytesI op = 0 := by rw [bytesI, ← HGO.out]; rfl
      have HR := Lib.hid hr
      clear hr HGO
      go_wp2
      go_ret
      exact ⟨ret1 HR.out.symm, HB.out⟩
end Go.Proofs.YtfjjecffeeffcaaDoor
