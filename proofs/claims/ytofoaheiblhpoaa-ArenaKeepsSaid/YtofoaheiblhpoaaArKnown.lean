/- package arena: known: the chapter's rows. -/
import Derived.Test.YtofoaheiblhpoaaArAll
namespace Go.Proofs.Ytofoaheiblhpoaa
open Go.RowKit

theorem kfree : freeG kb2 1 = (0, kb3) := by decide +kernel
theorem kmark1 : markG kb5 5 = (true, kb6) := by decide +kernel
theorem kmark2 : markG kb6 5 = (false, kb6) := by decide +kernel
theorem ksweep : (usedSum kb6 : Int) - (usedSum kb7 : Int) = 7 := by decide +kernel
set_option maxRecDepth 100000 in
set_option maxHeartbeats 4000000 in
theorem known_any (w : World) : Calls Try.prog 4 #[] w fun e w' => e = .returned (.bool true) ∧ Below w.heap.size w w' := by
  go_enter Try.func4, Try.ntmps4
  go_wp2_with fail
  refine (New_n w 10 10 (by omega) (by decide)).mono ?_
  rintro e w1 ⟨p, rfl, A⟩
  have H := Lib.hid A
  clear A
  go_wp2_with fail
  refine (Take_k H.out known1 1 rfl (by decide) (by decide)).mono ?_
  clear H
  rintro e w2 ⟨rfl, A⟩
  have H := Lib.hid A
  clear A
  go_wp2_with fail
  refine (Take_k H.out known2 5 rfl (by decide) (by decide)).mono ?_
  clear H
  rintro e w3 ⟨rfl, A⟩
  have H := Lib.hid A
  clear A
  go_wp2_with fail
  refine (Take_k H.out known3 0 rfl (by decide) (by decide)).mono ?_
  clear H
  rintro e w4 ⟨rfl, A⟩
  have H := Lib.hid A
  clear A
  go_wp2_with fail
  refine (Used_k H.out known4.1 7 rfl).mono ?_
  rintro e w5 ⟨rfl, rfl⟩
  go_wp2_with fail
  refine (Free_k H.out kfree (by decide) (by decide)).mono ?_
  clear H
  rintro e w5 ⟨rfl, A⟩
  have H := Lib.hid A
  clear A
  go_wp2_with fail
  refine (Take_k H.out known5 8 rfl (by decide) (by decide)).mono ?_
  clear H
  rintro e w6 ⟨rfl, A⟩
  have H := Lib.hid A
  clear A
  go_wp2_with fail
  refine (Take_k H.out known6 1 rfl (by decide) (by decide)).mono ?_
  clear H
  rintro e w7 ⟨rfl, A⟩
  have H := Lib.hid A
  clear A
  go_wp2_with fail
  refine (Used_k H.out known7.1 10 rfl).mono ?_
  rintro e w8 ⟨rfl, rfl⟩
  go_wp2_with fail
  refine (Mark_k H.out kmark1 (by decide) (by decide)).mono ?_
  clear H
  rintro e w8 ⟨rfl, A⟩
  have H := Lib.hid A
  clear A
  go_wp2_with fail
  refine (Mark_k H.out kmark2 (by decide) (by decide)).mono ?_
  clear H
  rintro e w9 ⟨rfl, A⟩
  have H := Lib.hid A
  clear A
  go_wp2_with fail
  refine (Sweep_k H.out rfl 7 ksweep).mono ?_
  clear H
  rintro e w10 ⟨rfl, A⟩
  have H := Lib.hid A
  clear A
  go_wp2_with fail
  refine (Used_k H.out known8.2.1 3 rfl).mono ?_
  rintro e w11 ⟨rfl, rfl⟩
  go_wp2_with fail
  refine (Room_k H.out known8.2.2 3 rfl).mono ?_
  clear H
  rintro e w12 ⟨rfl, A⟩
  have H := Lib.hid A
  clear A
  go_wp2
  go_ret
  exact ⟨rfl, H.out.below⟩
end Go.Proofs.Ytofoaheiblhpoaa
