/- package arena: New. -/
import Derived.Test.YtofoaheiblhpoaaArNewP
import Derived.Deep.RegionWith
import Derived.Deep.Cut
namespace Go.Proofs.Ytofoaheiblhpoaa
open Go.RowKit

theorem Try.infoRowM : (Try.prog.info? 48).map (fun i => (i.zero, i.size, i.bytes)) = some (some (.slice none 0 0), 1, 24) := by kernel_rfl
def NewMem (w : World) (k k1 b2 : Nat) (s4 : Value) (wc : World) : Prop := ∃ p wb tb kb lb, s4 = .pointer (some ⟨p, 0, none⟩) ∧ NewAt w wc p wb tb kb lb k k1 b2
theorem size_push (w : World) (o : Obj) : (w.alloc o).heap.size = w.heap.size + 1 := by
  show (w.heap.push o).size = _
  rw [Array.size_push]
theorem heap_drew (w : World) : w.drew.heap = w.heap := rfl
/-- An arena that New has made. -/
def NewPost (w : World) (k : Nat) (e : Ending) (w' : World) : Prop := ∃ p S, e = .returned (.pointer (some ⟨p, 0, none⟩)) ∧ ArV S w' p k (newBs k) ∧ (∀ b, S b → w.heap.size ≤ b) ∧ Below w.heap.size w w'
set_option maxRecDepth 100000 in
set_option maxHeartbeats 40000000 in
theorem New_at (w : World) (q : Int) (k : Nat) (hk : k ≤ 1048576) (hq : max 0 (min q 1048576) = (k : Int)) :
    Calls Try.prog 5 #[.int .i64 q] w (NewPost w k) := by
  obtain ⟨bl, hbl⟩ : ∃ bl, blen k = bl := ⟨_, rfl⟩
  obtain ⟨k1, hk1⟩ : ∃ k1, k / 64 + 1 = k1 := ⟨_, rfl⟩
  obtain ⟨b2, hb2⟩ : ∃ b2, bl + 1 = b2 := ⟨_, rfl⟩
  have hbl1 : bl ≤ 24 := by have := blen_le hk; omega
  have hm1 := fun W => run_make_row' (P := Try.prog) 37 30 (.int .u64 0) 8 Try.underlying37 Try.infoU64 rfl .i64 .i64 k (by omega) (by omega) W
  have hm2 := fun W => run_make_row' (P := Try.prog) 38 30 (.int .u64 0) 8 Try.underlying38 Try.infoU64 rfl .i64 .i64 k1 (by omega) (by omega) W
  have hm3 := fun W => run_make_row' (P := Try.prog) 39 48 (.slice none 0 0) 24 Try.underlying39 Try.infoRowM rfl .i64 .i64 b2 (by omega) (by omega) W
  have hlen := fun W => len_at k W (by omega)
  have hd : (k : Int).tdiv 64 = (k : Int) / 64 := Int.tdiv_eq_ediv_of_nonneg (by omega)
  have e1 : IntKind.i64.wrap ((k : Int) / 64) = (k : Int) / 64 := IntWalk.i64_in _ ⟨by omega, by omega⟩
  have e2 : IntKind.i64.wrap ((k : Int) / 64 + 1) = (k1 : Int) := by rw [IntWalk.i64_in _ ⟨by omega, by omega⟩]; omega
  have e3 : IntKind.i64.wrap ((bl : Int) + 1) = (b2 : Int) := by rw [IntWalk.i64_in _ ⟨by omega, by omega⟩]; omega
  have e4 : IntKind.u64.wrap (k : Int) = (k : Int) := wrap_u64_in (by omega) (by omega)
  have HLEN := Lib.hid hlen; have HB := Lib.hid hbl; have HK1 := Lib.hid hk1; have HB2 := Lib.hid hb2; have HK := Lib.hid hk
  clear hlen hbl hk1 hb2 hbl1
  go_enter Try.func5, Try.ntmps5
  go_upto_region 2 with fail
  go_cut [4] from 8 (fun s4 wx => NewMem w k k1 b2 s4 wx)
  case first =>
    go_region_with (refine (HLEN.out _).mono ?_; rintro e w1 ⟨rfl, rfl⟩; rw [HB.out])
    all_goals (go_wp2_with fail)
    all_goals go_meet
    all_goals (refine ⟨_, _, _, _, _, rfl, heap_alloc_at _ _ ?_, ?_, ?_, ?_, ?_, ?_, ?_, ?_, ?_, ?_⟩)
    all_goals first | (simp [heap_drew]; done) | (simp [heap_drew]; omega) | (repeat (first | (refine heap_alloc_at _ _ ?_; simp; done) | refine heap_alloc_keep ?_ _)) | skip
    all_goals repeat (first | exact Below.refl _ _ | refine Below.drew ?_ | (refine Below.alloc ?_ ?_ _; rotate_left; (first | exact Nat.le_refl _ | (simp only [size_push]; omega))))
  case rest =>
    obtain ⟨p, wb, tb, kb, lb, rfl, N⟩ := hcut
    rw [← HK1.out, ← HB2.out, ← HB.out] at N
    have A := N.ar1 hk (by have := blen_le hk; omega)
    have HA := Lib.hid A; have HN := Lib.hid N
    have hcpv := A.core.blk
    clear N A hcpv hm1 hm2 hm3 hd e1 e2 e3 e4
    have hown : ∀ b, Own (fun b => b = lb) p wb tb kb b → w.heap.size ≤ b := fun b hb => by
      have g := HN.out.g
      rcases hb with h | h | h | h | h <;> omega
    have HOWN := Lib.hid hown
    clear hown
    by_cases h2 : (2 : Int) ≤ k
    · obtain ⟨s, hs⟩ : ∃ s, k - 1 = s := ⟨_, rfl⟩
      have e5 : IntKind.i64.wrap ((k : Int) - 1) = (s : Int) := by rw [IntWalk.i64_in _ ⟨by omega, by omega⟩]; omega
      have hs0 : 0 < s := by omega
      have hsk : 1 + s ≤ k := by omega
      have hlog : Nat.log2 s < (noLists (blen k + 1)).length := by
        have := log2_mono hs0 (by omega : s ≤ k)
        simp only [noLists, List.length_replicate, blen]
        rw [if_neg (by omega)]; omega
      have hl64 : (noLists (blen k + 1)).length ≤ 64 := by have := blen_le hk; simp only [noLists, List.length_replicate]; omega
      have HS := Lib.hid hs; have HLG := Lib.hid hlog; have HL64 := Lib.hid hl64
      clear hs hlog hl64
      go_wp2_with fail
      refine (release_at HA.out.core (noLists_ok _ _) 1 s (Nat.le_refl _) hs0 hsk (by omega) HLG.out HL64.out (fun _ h => h) (fun _ h => h) (fun _ h => h) (fun _ _ h => h.elim)).mono ?_
      rintro e w3 ⟨rfl, SL3, ws3, L3, T3, K3, C3, ok3, hL3, lo3, fr3, u3⟩
      have hI := Inv.one (by omega) HK.out (by rw [HS.out]; exact ok3) hL3 (by rw [HS.out]; exact lo3)
      have HI := Lib.hid hI; have H3 := Lib.hid (HA.out.post C3 fr3 u3)
      have hb3 : Below w.heap.size w w3 := by
        have g := HN.out.g
        have u : Upd (fun b => b = wb ∨ b = lb) w w3 := (Upd.of_below HN.out.below).trans' u3
        exact u.below (fun b hb => by rcases hb with h | h <;> omega) (Nat.le_refl _)
      have HB3 := Lib.hid hb3; have HFR := Lib.hid fr3
      clear hI C3 ok3 hL3 lo3 fr3 u3 hb3
      go_wp2
      go_ret
      refine ⟨p, Own SL3 p wb tb kb, rfl, ⟨SL3, wb, tb, kb, k, _, ws3, L3, T3, K3, 0, _, _, _, _, H3.out, HI.out, fun _ h => h⟩, fun b hb => ?_, HB3.out⟩
      rcases own_fresh HFR.out b hb with h | h
      · exact HOWN.out b h
      · exact Nat.le_trans HN.out.below.size h
    · have hI := Inv.none (k := k) (by omega)
      have HI := Lib.hid hI
      clear hI
      go_wp2
      go_ret
      exact ⟨p, Own (fun b => b = lb) p wb tb kb, rfl, ⟨_, wb, tb, kb, k, _, _, _, _, _, 0, _, _, _, _, HA.out, HI.out, fun _ h => h⟩, HOWN.out, HN.out.below⟩
end Go.Proofs.Ytofoaheiblhpoaa
