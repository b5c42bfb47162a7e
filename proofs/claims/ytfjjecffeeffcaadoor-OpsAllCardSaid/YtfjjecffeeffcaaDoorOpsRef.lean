/- Layer 5 (ops): the document's answer: Words, Ops, Find: what each computes. -/
import Derived.Test.YtfjjecffeeffcaaDoorOpsLoads
import Derived.Test.YtfjjecffeeffcaaDoorAppend2
namespace Go.Proofs.YtfjjecffeeffcaaDoor
open Go.RowKit

def strV (s : List UInt8) : Value := .string ⟨s.toArray⟩
/-- The words told, and where the word under way begins, ahead of place i. -/
def wst (l : List UInt8) : Nat → List (List UInt8) × Nat
  | 0 => ([], 0)
  | i + 1 => if i = l.length ∨ l.getD i 0 = 32 then (if (wst l i).2 < i then (wst l i).1 ++ [(l.take i).drop (wst l i).2] else (wst l i).1, i + 1) else wst l i
def wordsL (l : List UInt8) : List (List UInt8) := (wst l (l.length + 1)).1
theorem wst_from (l : List UInt8) : ∀ i, (wst l i).2 ≤ i ∧ (wst l i).1.length ≤ i
  | 0 => ⟨Nat.le_refl _, Nat.le_refl _⟩
  | i + 1 => by
    have := wst_from l i
    unfold wst
    split
    · refine ⟨Nat.le_refl _, ?_⟩
      dsimp only
      split
      · simp; omega
      · omega
    · omega
theorem byte_test (s : List UInt8) (i : Nat) (c : UInt8) (h : i < s.length) (hc : s[i]? = some c) : ((((⟨s.toArray⟩ : ByteArray)[i]'h).toNat : Int) == 32) = decide (c = 32) := by
  have : (⟨s.toArray⟩ : ByteArray)[i]'h = c := by
    rw [List.getElem?_eq_getElem h] at hc
    exact Option.some.inj hc
  rw [this]
  have h2 : c.toNat = 32 ↔ c = 32 := ⟨fun e => UInt8.toNat_inj.1 e, fun e => by rw [e]; rfl⟩
  rw [Bool.eq_iff_iff, beq_iff_eq, decide_eq_true_iff, ← h2]
  omega
theorem strV_extract (s : List UInt8) (f n : Nat) : Value.string (ByteArray.extract ⟨s.toArray⟩ f n) = strV ((s.take n).drop f) := by
  unfold strV
  congr 1
  apply ByteArray.ext
  rw [← Array.toList_inj]
  simp [Lib.extract_data, List.drop_take]
theorem Tryd.infoString : (Tryd.prog.info? 9).map (fun i => (i.zero, i.size, i.bytes)) = some (some (.string ⟨#[]⟩), 1, 16) := by kernel_rfl

set_option maxHeartbeats 2000000 in
theorem words_any (s : List UInt8) (w : World) (hs : s.length ≤ 10000) :
    Calls Tryd.prog 21 #[.string ⟨s.toArray⟩] w fun e w' => ∃ v, e = .returned v ∧ w'.ownsRow w.heap.size 9 1 v (wordsL s).length ((wordsL s).map strV) ∧ Below w.heap.size w w' := by
  obtain ⟨i0, hi, hz0, hz1, hz2⟩ := info_parts Tryd.infoString
  have Hi := Lib.hid hi; have Hz0 := Lib.hid hz0; have Hz1 := Lib.hid hz1; have Hz2 := Lib.hid hz2
  clear hi hz0 hz1 hz2
  go_enter Tryd.func21, Tryd.ntmps21
  go_wp2
  go_loopw [3, 4, 5] (fun t1 t2 t3 wr => ∃ (i : Nat) (o : List (List UInt8)) (f : Nat), wst s i = (o, f) ∧ i ≤ s.length + 1 ∧ t3 = .int .i64 i ∧ t2 = .int .i64 f ∧ wr.ownsRow w.heap.size 9 1 t1 o.length (o.map strV) ∧ Below w.heap.size w wr) (fun _ _ t3 _ => s.length + 1 - (intOf t3).toNat)
  case atStart => exact ⟨0, [], 0, rfl, by omega, rfl, rfl, World.ownsRow_nil _ _ _ _, Below.refl _ _⟩
  case round =>
    obtain ⟨i, o, f, hst, hi, rfl, rfl, hown, hb⟩ := hrel
    have hfl := wst_from s i
    rw [hst] at hfl
    obtain ⟨hf1, hf2⟩ := hfl
    dsimp only at hf1 hf2
    have HT := Lib.hid hst
    have HB := Lib.hid hb
    have HO := Lib.hid hown
    clear hb hown hst
    by_cases hlt : i ≤ s.length
    · by_cases hend : i = s.length
      · subst hend
        by_cases hfr : f < s.length
        · have hstep : wst s (s.length + 1) = (o ++ [(s.take s.length).drop f], s.length + 1) := by simp [wst, HT.out, hfr]
          have HS := Lib.hid hstep
          clear hstep
          have hown := HO.out
          go_wp2_with (at_builtin; refine wpList_append_own _ rfl _ _ 28 rfl w.heap.size 9 i0 (.string ⟨#[]⟩) 1 16 Tryd.underlying28 Hi.out Hz0.out Hz1.out Hz2.out rfl (by decide) _ _ _ rfl (hown.alloc _) ⟨wr.heap.size, 0, none⟩ 1 1 [.string (ByteArray.extract ⟨s.toArray⟩ f s.length)] rfl rfl ?c1 ?c2 ?c3 ?c4 ?c5 ?_)
          case c1 => exact cell_one_new _ _ _
          case c2 => simp [Value.oneCell']
          case c3 => unfold maxLen; omega
          case c4 => omega
          case c5 => have := HB.out.size; simp; omega
          intro v' w1 hown1 hgrow _
          have hb1 : Below w.heap.size w w1 := (HB.out.alloc HB.out.size _).grown hgrow (by have := HB.out.size; simp; omega) (fun j e => (HO.out.lt j e).1)
          clear hown hgrow
          have HO1 := Lib.hid hown1; have HB1 := Lib.hid hb1
          clear hown1 hb1
          go_wp2
          go_roundw
          case rel => exact ⟨s.length + 1, _, _, HS.out, by omega, by go_num, by go_num, by rw [strV_extract] at HO1; simpa using HO1.out, HB1.out⟩
          case measure => simp [intOf] <;> omega
        · have hstep : wst s (s.length + 1) = (o, s.length + 1) := by simp [wst, HT.out, hfr]
          have HS := Lib.hid hstep
          clear hstep
          go_wp2
          go_roundw
          case rel => exact ⟨s.length + 1, _, _, HS.out, by omega, by go_num, by go_num, HO.out, HB.out⟩
          case measure => simp [intOf] <;> omega
      · have hil : i < s.length := by omega
        obtain ⟨c, hc⟩ : ∃ c, s[i]? = some c := ⟨s[i], List.getElem?_eq_getElem hil⟩
        have hbyte := byte_test s i c hil hc
        by_cases h32 : c = 32
        · by_cases hfr : f < i
          · have hstep : wst s (i + 1) = (o ++ [(s.take i).drop f], i + 1) := by simp [wst, HT.out, hfr, hc, h32]
            have HS := Lib.hid hstep
            clear hstep
            rw [h32] at hbyte
            have hb32 : ((((⟨s.toArray⟩ : ByteArray)[i]'hil).toNat : Int) == 32) = true := hbyte
            clear hbyte hc h32
            have hown := HO.out
            go_wp2_with (at_builtin; refine wpList_append_own _ rfl _ _ 28 rfl w.heap.size 9 i0 (.string ⟨#[]⟩) 1 16 Tryd.underlying28 Hi.out Hz0.out Hz1.out Hz2.out rfl (by decide) _ _ _ rfl (hown.alloc _) ⟨wr.heap.size, 0, none⟩ 1 1 [.string (ByteArray.extract ⟨s.toArray⟩ f i)] rfl rfl ?c1 ?c2 ?c3 ?c4 ?c5 ?_)
            case c1 => exact cell_one_new _ _ _
            case c2 => simp [Value.oneCell']
            case c3 => unfold maxLen; omega
            case c4 => omega
            case c5 => have := HB.out.size; simp; omega
            intro v' w1 hown1 hgrow _
            have hb1 : Below w.heap.size w w1 := (HB.out.alloc HB.out.size _).grown hgrow (by have := HB.out.size; simp; omega) (fun j e => (HO.out.lt j e).1)
            clear hown hgrow
            have HO1 := Lib.hid hown1; have HB1 := Lib.hid hb1
            clear hown1 hb1
            go_wp2
            go_roundw
            case rel => exact ⟨i + 1, _, _, HS.out, by omega, by go_num, by go_num, by rw [strV_extract] at HO1; simpa using HO1.out, HB1.out⟩
            case measure => simp [intOf] <;> omega
          · have hstep : wst s (i + 1) = (o, i + 1) := by simp [wst, HT.out, hfr, hc, h32]
            have HS := Lib.hid hstep
            clear hstep
            rw [h32] at hbyte
            have hb32 : ((((⟨s.toArray⟩ : ByteArray)[i]'hil).toNat : Int) == 32) = true := hbyte
            clear hbyte hc h32
            go_wp2
            go_roundw
            case rel => exact ⟨i + 1, _, _, HS.out, by omega, by go_num, by go_num, HO.out, HB.out⟩
            case measure => simp [intOf] <;> omega
        · have hb32 : ((((⟨s.toArray⟩ : ByteArray)[i]'hil).toNat : Int) == 32) = false := by
            rw [hbyte]
            simp only [decide_eq_false_iff_not]
            exact h32
          clear hbyte
          have hstep : wst s (i + 1) = (o, f) := by simp [wst, HT.out, hc, h32, hend]
          have HS := Lib.hid hstep
          clear hstep
          go_wp2
          go_roundw
          case rel => exact ⟨i + 1, _, _, HS.out, by omega, by go_num, by go_num, HO.out, HB.out⟩
          case measure => simp [intOf] <;> omega
    · obtain rfl : i = s.length + 1 := by omega
      go_wp2
      go_ret
      exact ⟨_, rfl, by rw [wordsL, HT.out]; exact HO.out, HB.out⟩
end Go.Proofs.YtfjjecffeeffcaaDoor
