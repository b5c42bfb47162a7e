/- package object: known: the chapter's rows. -/
import Derived.Test.YtcjkmgjonnnapaaObMiss
import Derived.Test.YtcjkmgjonnnapaaArBestP
namespace Go.Proofs.Ytcjkmgjonnnapaa
open Go.RowKit

/-- A store that lies in memory. -/
structure StoreAt (S : Nat) (pack kind : Int) (b : Bool) (hk hn : Int) (w : World) : Prop where
  c0 : w.cell? ⟨S, 0, none⟩ = some (.int .i64 pack)
  c1 : w.cell? ⟨S, 1, none⟩ = some (.int .i64 kind)
  c2 : w.cell? ⟨S, 2, none⟩ = some (.bool b)
  c3 : w.cell? ⟨S, 3, none⟩ = some (.int .i64 hk)
  c4 : w.cell? ⟨S, 4, none⟩ = some (.int .i64 hn)
theorem StoreAt.below {S : Nat} {pack kind : Int} {b : Bool} {hk hn : Int} {w w' : World} (h : StoreAt S pack kind b hk hn w) (hb : Below w.heap.size w w') : StoreAt S pack kind b hk hn w' :=
  ⟨below_cell hb h.c0, below_cell hb h.c1, below_cell hb h.c2, below_cell hb h.c3, below_cell hb h.c4⟩
theorem StoreAt.of {S : Nat} {pack kind : Int} {b : Bool} {hk hn : Int} {w : World} (h : w.heap[S]? = some (.cells #[.int .i64 pack, .int .i64 kind, .bool b, .int .i64 hk, .int .i64 hn] 47 (0, 0))) : StoreAt S pack kind b hk hn w :=
  ⟨by have := heap_cell h 0; simpa using this, by have := heap_cell h 1; simpa using this, by have := heap_cell h 2; simpa using this, by have := heap_cell h 3; simpa using this, by have := heap_cell h 4; simpa using this⟩
theorem ArN.toR {w0 w : World} {p m : Nat} {bs : List Blk} (A : ArN w0 w p m bs) : ArR (fun _ => False) w0 w p m bs := A.beside.less (fun _ h => h.elim)
theorem noR {w : World} : ∀ b : Nat, False → b < w.heap.size := fun _ h => h.elim
def ob1 : List Blk := (takeF (newBs 50) 2).2.2
def ob2 : List Blk := (setF ob1 1 0 (headN 1 5 3)).2
def ob3 : List Blk := (setF ob2 1 1 (newW 0 32 16 65535)).2
theorem ok1 : takeF (newBs 50) 2 = (1, 0, ob1) := by decide +kernel
theorem ok2 : setF ob1 1 0 (headN 1 5 3) = (0, ob2) := by decide +kernel
theorem ok3 : getF ob2 1 0 = (headN 1 5 3, 0) := by decide +kernel
theorem ok4 : getF ob2 1 1 = (0, 0) := by decide +kernel
theorem ok5 : setF ob2 1 1 (newW 0 32 16 65535) = (0, ob3) := by decide +kernel
theorem ok6 : getF ob3 1 0 = (headN 1 5 3, 0) := by decide +kernel
theorem ok7 : getF ob3 1 1 = (newW 0 32 16 65535, 0) := by decide +kernel
theorem ok8 : itemOf (newW 0 32 16 65535) 32 16 = 65535 ∧ newW 0 32 16 65535 < 18446744073709551616 := by decide +kernel
set_option maxRecDepth 100000 in
set_option maxHeartbeats 4000000 in
theorem oknown_any (w : World) : Calls Try.prog 20 #[] w fun e w' => e = .returned (.bool true) ∧ Below w.heap.size w w' := by
  obtain ⟨W0, hW0⟩ : ∃ W0, W0 = w.alloc (.cells #[.int .i64 16, .int .i64 1, .bool false, .int .i64 0, .int .i64 0] 47) := ⟨_, rfl⟩
  have hb0 : Below w.heap.size w W0 := by rw [hW0]; exact (Below.refl _ _).alloc (Nat.le_refl _) _
  have b0 := heap_alloc_at w (.cells #[.int .i64 16, .int .i64 1, .bool false, .int .i64 0, .int .i64 0] 47) (b := w.heap.size) rfl
  rw [← hW0] at b0
  have HW := Lib.hid hW0; have HB0 := Lib.hid hb0; have HS0 := Lib.hid (StoreAt.of b0)
  clear hW0 hb0 b0
  go_enter Try.func20, Try.ntmps20
  go_wp2_with fail
  rw [← HW.out]
  refine (New_n W0 50 50 (by omega) (by decide)).mono ?_
  rintro e w1 ⟨p, rfl, A⟩
  have HA := Lib.hid A.toR
  obtain ⟨c0, c1, c2, c3, c4⟩ := HS0.out.below A.below
  clear A
  go_wp2_with fail
  refine (make_r HA.out noR 16 1 false 0 0 1 5 3 (by decide) 2 (by decide) (by omega) (by omega) 1 (by omega) ok1 ok2).mono ?_
  clear c0 c1 c2 c3 c4
  rintro e w2 ⟨rfl, A, -⟩
  rw [show ((1 : Nat) : Int) = 1 from rfl]
  obtain ⟨c0, c1, c2, c3, c4⟩ := HS0.out.below A.below
  clear HA
  have HA := Lib.hid A
  clear A
  go_wp2_with fail
  refine (Get_r HA.out ok3 4611686039902224387 (by decide) (by decide) (by decide)).mono ?_
  rintro e w3 ⟨rfl, rfl⟩
  go_wp2_with fail
  refine (oset_r HA.out noR 16 1 false 0 0 1 5 3 (by decide) 1 ok3 (by decide) (by decide) 16 4 (by decide) (by omega) (by omega) (by decide) 2 (by omega) 1 32 0 (by decide) (by decide) (by omega) ok4 (by omega) 65535 (by decide) ok5).mono ?_
  clear c0 c1 c2 c3 c4
  rintro e w3 ⟨rfl, A, -⟩
  obtain ⟨c0, c1, c2, c3, c4⟩ := HS0.out.below A.below
  clear HA
  have HA := Lib.hid A
  clear A
  go_wp2_with fail
  refine (oget_r HA.out 16 1 false 0 0 1 5 3 (by decide) 1 ok6 (by decide) (by decide) 16 4 (by decide) (by omega) (by omega) (by decide) 2 (by omega) 1 32 _ (by decide) (by decide) (by omega) ok7 ok8.2).mono ?_
  clear c0 c1 c2 c3 c4
  rintro e w4 ⟨rfl, hb4⟩
  rw [ok8.1, show ((65535 : Nat) : Int) = 65535 from rfl]
  have HA4 := Lib.hid (HA.out.stay hb4)
  obtain ⟨c0, c1, c2, c3, c4⟩ := HS0.out.below HA4.out.below
  clear HA hb4
  go_wp2_with fail
  refine (oset_big HA4.out 16 1 false 0 0 1 5 3 (by decide) 1 ok6 (by decide) (by decide) 16 4 (by decide) (by omega) (by omega) (by decide) 2 (by omega) 65536 65535 (by decide) (by omega)).mono ?_
  clear c0 c1 c2 c3 c4
  rintro e w5 ⟨rfl, hb5⟩
  have HA5 := Lib.hid (HA4.out.stay hb5)
  obtain ⟨c0, c1, c2, c3, c4⟩ := HS0.out.below HA5.out.below
  clear HA4 hb5
  go_wp2_with fail
  refine (oget_miss HA5.out 16 1 false 0 0 1 5 3 (by decide) 1 ok6 (by decide) (by decide) 16 (by decide) (by omega) 3 (by omega)).mono ?_
  clear c0 c1 c2 c3 c4
  rintro e w6 ⟨rfl, hb6⟩
  have HA6 := Lib.hid (HA5.out.stay hb6)
  obtain ⟨c0, c1, c2, c3, c4⟩ := HS0.out.below HA6.out.below
  clear HA5 hb6
  go_wp2_with fail
  refine (words_at 8 0 false 0 0 1 0 9 w6).mono ?_
  clear c0 c1 c2 c3 c4
  rintro e w7 ⟨rfl, hb7⟩
  rw [show wordsI 8 0 1 0 9 = 3 by decide]
  have HA7 := Lib.hid (HA6.out.stay hb7)
  obtain ⟨c0, c1, c2, c3, c4⟩ := HS0.out.below HA7.out.below
  clear HA6 hb7
  go_wp2_with fail
  refine (words_at 16 1 false 0 0 0 0 3 w7).mono ?_
  clear c0 c1 c2 c3 c4
  rintro e w8 ⟨rfl, hb8⟩
  rw [show wordsI 16 1 0 0 3 = 4 by decide]
  have HA8 := Lib.hid (HA7.out.stay hb8)
  clear HA7 hb8
  go_wp2
  go_ret
  exact ⟨rfl, HB0.out.trans (HA8.out.below.mono HB0.out.size)⟩
end Go.Proofs.Ytcjkmgjonnnapaa
