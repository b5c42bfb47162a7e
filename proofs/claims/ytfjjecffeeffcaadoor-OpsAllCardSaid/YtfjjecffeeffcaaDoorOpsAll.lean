/- Layer 5 (ops): All, Name, Find: what each computes. -/
import Derived.Test.YtfjjecffeeffcaaDoorOpsTells
import Derived.Maps.AppendAt
namespace Go.Proofs.YtfjjecffeeffcaaDoor
open Go.RowKit

def rowOps (x : Int × List UInt8) : List Int := (List.range x.2.length).map fun i : Nat => x.1 + (i : Int)
def allOps : List Int := runsL.flatMap rowOps
def opsTo (k : Nat) : List Int := (runsL.take k).flatMap rowOps
theorem opsTo_succ (k : Nat) (hk : k < 16) {f : Int} {s : List UInt8} (h : runsL.getD k (0, []) = (f, s)) : opsTo (k + 1) = opsTo k ++ (List.range s.length).map fun i : Nat => f + (i : Int) := by
  have hl : k < runsL.length := hk
  unfold opsTo
  rw [List.take_succ_eq_append_getElem hl, List.flatMap_append]
  rw [List.getD_eq_getElem?_getD, List.getElem?_eq_getElem hl, Option.getD_some] at h
  rw [h]
  simp [rowOps]
theorem opsTo_len (k : Nat) (hk : k ≤ 16) : (opsTo k).length ≤ 200 := by
  have : ∀ k, k < 17 → (opsTo k).length ≤ 200 := by decide +kernel
  exact this k (by omega)
theorem not_row_of_type {W : World} {B : Nat} {t e : TypeId} {cs : Array Value} {fr : Nat × Nat} (h : W.heap[B]? = some (.cells cs t fr)) (hte : t ≠ e) {base size k : Nat} {v : Value} {xs : List Value} (hr : W.ownsRow base e size v k xs) : v.ownBlock ≠ some B := by
  obtain ⟨-, (⟨rfl, -⟩ | ⟨g, cap, cur, rfl, -, hg, -⟩)⟩ := hr
  · simp [Value.ownBlock]
  · intro e1
    simp only [Value.ownBlock, Option.some.injEq] at e1
    subst e1
    rw [h] at hg
    simp at hg
    exact hte hg.2.1
theorem cell_of_block {W : World} {B : Nat} {t : TypeId} {cs : Array Value} {fr : Nat × Nat} (h : W.heap[B]? = some (.cells cs t fr)) (j : Nat) : W.cell? ⟨B, j, none⟩ = cs[j]? := by
  simp [World.cell?, h]

theorem Tryd.infoOp : (Tryd.prog.info? 23).map (fun i => (i.zero, i.size, i.bytes)) = some (some (.int .i64 0), 1, 8) := by kernel_rfl

set_option maxHeartbeats 2000000 in
theorem all_any (w : World) (ht : OTab w) :
    Calls Tryd.prog 10 #[] w fun e w' => ∃ v, e = .returned v ∧ w'.ownsRow w.heap.size 23 1 v allOps.length (allOps.map (Value.int .i64)) ∧ Below w.heap.size w w' := by
  obtain ⟨t, fr, hg⟩ := ht.runs
  obtain ⟨i0, hi, hz0, hz1, hz2⟩ := info_parts Tryd.infoOp
  have Hi := Lib.hid hi; have Hz0 := Lib.hid hz0; have Hz1 := Lib.hid hz1; have Hz2 := Lib.hid hz2
  clear ht hi hz0 hz1 hz2
  go_enter Tryd.func10, Tryd.ntmps10
  go_wp2_with (refine wpList_load_row rfl 41 _ rfl 0 rfl t _ fr _ hg Tryd.underlying41 rfl (by kernel_rfl) ?_)
  go_loopw [1, 3, 4, 6] (fun t1 _ _ t6 wr => ∃ (k : Nat) (v : Value), k ≤ 16 ∧ t6 = .int .i64 k ∧ t1 = v ∧ wr.ownsRow w.heap.size 23 1 v (opsTo k).length ((opsTo k).map (Value.int .i64)) ∧ Below w.heap.size w wr) (fun _ _ _ t6 _ => 16 - (intOf t6).toNat)
  case atStart => exact ⟨0, _, by omega, rfl, rfl, World.ownsRow_nil _ _ _ _, Below.refl _ _⟩
  case round =>
    obtain ⟨k, v, hk, rfl, rfl, hown, hb⟩ := hrel
    have HB := Lib.hid hb
    have HO := Lib.hid hown
    clear hb hg hown
    by_cases hlt : k < 16
    · obtain ⟨f, s, a, hr1, hr2, hr3, hf0, hf1, hs, ha⟩ := runs_at k hlt
      have HR1 := Lib.hid hr1
      have hix := idx_runs k hlt
      rw [hr1] at hix
      have hol := opsTo_len k hk
      clear hr1 hr2 hr3
      have HF1 := Lib.hid hf1
      go_wp2
      obtain ⟨B, hB⟩ : ∃ B, B = wr.heap.size := ⟨_, rfl⟩
      have hbox : (wr.alloc (.cells #[.int .i64 f, .string ⟨s.toArray⟩] 40)).heap[B]? = some (.cells #[.int .i64 f, .string ⟨s.toArray⟩] 40 (0, 0)) := by rw [hB]; exact World.alloc_heap_new _ _
      have ho2 := HO.out.alloc (.cells #[.int .i64 f, .string ⟨s.toArray⟩] 40)
      have hb2 := HB.out.alloc HB.out.size (.cells #[.int .i64 f, .string ⟨s.toArray⟩] 40)
      rw [← hB]
      obtain ⟨wo, hwo⟩ : ∃ wo, wo = wr.alloc (.cells #[.int .i64 f, .string ⟨s.toArray⟩] 40) := ⟨_, rfl⟩
      rw [← hwo] at hbox ho2 hb2 ⊢
      have HBx := Lib.hid hbox; have HO2 := Lib.hid ho2; have HB2 := Lib.hid hb2
      clear hbox ho2 hb2 hB hwo HO HB
      go_loopw [1, 4, 12] (fun t1 _ t12 wi => ∃ (i : Nat) (u : Value), i ≤ s.length ∧ t12 = .int .i64 i ∧ t1 = u ∧ wi.ownsRow w.heap.size 23 1 u ((opsTo k).length + i) ((opsTo k ++ (List.range i).map fun i : Nat => f + (i : Int)).map (Value.int .i64)) ∧ Below w.heap.size w wi ∧
        wi.heap[B]? = some (.cells #[.int .i64 f, .string ⟨s.toArray⟩] 40 (0, 0))) (fun _ _ t12 _ => s.length - (intOf t12).toNat)
      case atStart => exact ⟨0, _, by omega, rfl, rfl, by simpa using HO2.out, HB2.out, HBx.out⟩
      case round =>
        clear HO2 HB2 HBx
        obtain ⟨i, u, hi, rfl, rfl, hown, hb, hbox⟩ := hrel
        have q0 := cell_of_block hbox 0
        have q1 := cell_of_block hbox 1
        simp at q0 q1
        have HB := Lib.hid hb
        have HO := Lib.hid hown
        have HBx := Lib.hid hbox
        clear hb hown hbox
        by_cases hil : i < s.length
        · have hown := HO.out
          go_wp2_with (at_builtin; refine wpList_append_own _ rfl _ _ 26 rfl w.heap.size 23 i0 (.int .i64 0) 1 8 Tryd.underlying26 Hi.out Hz0.out Hz1.out Hz2.out rfl (by decide) _ _ _ rfl (hown.alloc _) ⟨wr.heap.size, 0, none⟩ 1 1 [.int .i64 (f + i)] rfl rfl ?c1 ?c2 ?c3 ?c4 ?c5 ?_)
          case c1 => exact cell_one_new _ _ _
          case c2 => simp [Value.oneCell']
          case c3 => unfold maxLen; omega
          case c4 => omega
          case c5 => have := HB.out.size; simp; omega
          intro v' w1 hown1 hgrow _
          have hb1 : Below w.heap.size w w1 := (HB.out.alloc HB.out.size _).grown hgrow (by have := HB.out.size; simp; omega) (fun j e => (HO.out.lt j e).1)
          have hbx1 : w1.heap[B]? = some (.cells #[.int .i64 f, .string ⟨s.toArray⟩] 40 (0, 0)) := by
            have hlt : B < wr.heap.size := (Array.getElem?_eq_some_iff.1 HBx.out).1
            rw [hgrow.block B (by simp; omega) (Ne.symm (not_row_of_type HBx.out (by decide) HO.out)), Below.heap_alloc _ _ _ hlt]
            exact HBx.out
          clear hown hgrow q0 q1
          have HO1 := Lib.hid hown1; have HB1 := Lib.hid hb1; have HBx1 := Lib.hid hbx1
          clear hown1 hb1 hbx1
          go_wp2
          go_roundw
          case rel => exact ⟨i + 1, v', by omega, by go_num, rfl, by have := HO1.out; simp only [List.range_succ, List.map_append, List.append_assoc, List.map_cons, List.map_nil] at this ⊢; simpa [Nat.add_assoc] using this, HB1.out, HBx1.out⟩
          case measure => simp [intOf]; omega
        · obtain rfl : i = s.length := by omega
          go_wp2
          go_roundw
          case rel => exact ⟨k + 1, _, by omega, by go_num, rfl, by rw [opsTo_succ k hlt HR1.out]; simpa using HO.out, HB.out⟩
          case measure => simp [intOf]; omega
    · obtain rfl : k = 16 := by omega
      go_wp2
      go_ret
      exact ⟨_, rfl, HO.out, HB.out⟩
end Go.Proofs.YtfjjecffeeffcaaDoor
