/- Layer 5 (ops): plain facts on the table, without the program. -/
import Derived.Test.YtfjjecffeeffcaaDoorOpsKnown
namespace Go.Proofs.YtfjjecffeeffcaaDoor
open Go.RowKit

theorem findGo_mem : ∀ (l : List (Int × List UInt8)) (a op : Int), 0 ≤ a → (findGo l a op).1 = -1 ∨ op ∈ l.flatMap rowOps
  | [], _, _, _ => .inl rfl
  | (f, s) :: r, a, op, ha => by
    unfold findGo
    split
    · rename_i h
      right
      rw [List.flatMap_cons, List.mem_append]
      left
      simp only [rowOps, List.mem_map, List.mem_range]
      exact ⟨(op - f).toNat, by omega, by omega⟩
    · rcases findGo_mem r (a + s.length) op (by omega) with h | h
      · exact .inl h
      · right
        rw [List.flatMap_cons, List.mem_append]
        exact .inr h
theorem findI_mem (op : Int) : findI op = -1 ∨ op ∈ allOps := findGo_mem runsL 0 op (by omega)
theorem bytesGo_mem : ∀ (l : List (Int × List UInt8)) (op : Int), bytesGo l op = 0 ∨ op ∈ l.flatMap rowOps
  | [], _ => .inl rfl
  | (f, s) :: r, op => by
    unfold bytesGo
    split
    · rename_i h
      right
      rw [List.flatMap_cons, List.mem_append]
      left
      simp only [rowOps, List.mem_map, List.mem_range]
      exact ⟨(op - f).toNat, by omega, by omega⟩
    · rcases bytesGo_mem r op with h | h
      · exact .inl h
      · right
        rw [List.flatMap_cons, List.mem_append]
        exact .inr h
theorem reach_in : ∀ op ∈ reachL.flatMap rowOps, findI op ≠ -1 := by decide +kernel

/-- Of every opcode of the language. -/
def Good (a : Int) : Bool := decide (0 ≤ findI a) && !(nameL a).isEmpty && decide (shapeI a ≠ 0) && decide (opOf (nameL a) = a) && !(knownB a) && ((decide (0 < bytesI a)) == (decide (shapeI a = 8)))
set_option maxRecDepth 100000 in
theorem good_all : allOps.all Good = true := by decide +kernel
theorem good_in {a : Int} (h : a ∈ allOps) : 0 ≤ findI a ∧ nameL a ≠ [] ∧ shapeI a ≠ 0 ∧ opOf (nameL a) = a ∧ knownB a = false ∧ (0 < bytesI a ↔ shapeI a = 8) := by
  have := List.all_eq_true.1 good_all a h
  simp only [Good, Bool.and_eq_true, decide_eq_true_eq, beq_iff_eq, Bool.not_eq_true', decide_eq_decide] at this
  obtain ⟨⟨⟨⟨⟨h1, h2⟩, h3⟩, h4⟩, h5⟩, h6⟩ := this
  exact ⟨h1, by simpa using h2, h3, h4, h5, h6⟩
theorem bad_out {a : Int} (h : findI a = -1) : nameL a = [] ∧ shapeI a = 0 ∧ bytesI a = 0 := by
  refine ⟨by simp [nameL, h], by simp [shapeI, h], ?_⟩
  rcases bytesGo_mem reachL a with hb | hb
  · exact hb
  · exact absurd h (reach_in a hb)
theorem name_inj {a b : Int} (h : a ∈ allOps) (e : nameL a = nameL b) : a = b := by
  obtain ⟨g1, g2, g3, g4, g5, g6⟩ := good_in h
  rcases findI_mem b with hb | hb
  · rw [(bad_out hb).1] at e; exact absurd e g2
  · rw [← g4, e, (good_in hb).2.2.2.1]

theorem nameS_eq {a b : Int} : nameS a = nameS b ↔ nameL a = nameL b := by
  unfold nameS
  constructor
  · intro h
    have := congrArg (fun s : ByteArray => s.data.toList) h
    simpa using this
  · intro h; rw [h]


set_option maxHeartbeats 1000000 in
theorem OpsApart_out (a b : Int) (w : World) (a0 : -9223372036854775808 ≤ a) (a1 : a ≤ 9223372036854775807) (b0 : -9223372036854775808 ≤ b) (b1 : b ≤ 9223372036854775807) (ht : OTab w) (ho : findI a = -1) :
    Calls Tryd.prog 5 #[.int .i64 a, .int .i64 b] w fun e w' => e = .returned (.bool true) ∧ Below w.heap.size w w' := by
  obtain ⟨o1, o2, o3⟩ := bad_out ho
  have e1 : nameS a = ⟨#[]⟩ := by rw [nameS, o1]
  have E1 := Lib.hid e1; have E2 := Lib.hid o2; have E3 := Lib.hid o3
  clear o1 o2 o3 e1 ho
  have Ht := Lib.hid ht
  have BB := Lib.hid (Below.refl w.heap.size w)
  clear ht
  go_enter Tryd.func5, Tryd.ntmps5
  go_wp2_with fail
  refine (name_any _ _ a0 a1 Ht.out).mono ?_
  rintro e w_1 ⟨rfl, hb⟩
  rw [E1.out]
  have Ht2 := Lib.hid (Ht.out.below hb)
  have BB2 := Lib.hid (BB.out.trans (hb.mono BB.out.size))
  clear Ht BB hb
  have Ht := Ht2; have BB := BB2
  clear Ht2 BB2
  go_wp2_with fail
  refine (name_any _ _ b0 b1 Ht.out).mono ?_
  rintro e w_2 ⟨rfl, hb⟩
  have Ht2 := Lib.hid (Ht.out.below hb)
  have BB2 := Lib.hid (BB.out.trans (hb.mono BB.out.size))
  clear Ht BB hb
  have Ht := Ht2; have BB := BB2
  clear Ht2 BB2
  go_wp2_with fail
  refine (shape_any _ _ a0 a1 Ht.out).mono ?_
  rintro e w_3 ⟨rfl, hb⟩
  rw [E2.out]
  have Ht2 := Lib.hid (Ht.out.below hb)
  have BB2 := Lib.hid (BB.out.trans (hb.mono BB.out.size))
  clear Ht BB hb
  have Ht := Ht2; have BB := BB2
  clear Ht2 BB2
  go_wp2_with fail
  refine (bytes_any _ _ a0 a1 Ht.out).mono ?_
  rintro e w_4 ⟨rfl, hb⟩
  rw [E3.out]
  have Ht2 := Lib.hid (Ht.out.below hb)
  have BB2 := Lib.hid (BB.out.trans (hb.mono BB.out.size))
  clear Ht BB hb
  have Ht := Ht2; have BB := BB2
  clear Ht2 BB2
  go_wp2_with fail
  refine (shape_any _ _ a0 a1 Ht.out).mono ?_
  rintro e w_5 ⟨rfl, hb⟩
  rw [E2.out]
  have Ht2 := Lib.hid (Ht.out.below hb)
  have BB2 := Lib.hid (BB.out.trans (hb.mono BB.out.size))
  clear Ht BB hb
  have Ht := Ht2; have BB := BB2
  clear Ht2 BB2
  go_wp2_with fail
  refine (all_any _ Ht.out).mono ?_
  rintro e wv ⟨v, rfl, hown, hb⟩
  rw [allOps_len] at hown
  obtain ⟨g, cap, rfl⟩ := ownsRow_succ hown
  have Ht2 := Lib.hid (Ht.out.below hb)
  have BB2 := Lib.hid (BB.out.trans (hb.mono BB.out.size))
  clear Ht BB hb hown
  have Ht := Ht2; have BB := BB2
  clear Ht2 BB2
  go_wp2_with fail
  refine (known_any _ Ht.out).mono ?_
  rintro e w_6 ⟨rfl, hb⟩
  have Ht2 := Lib.hid (Ht.out.below hb)
  have BB2 := Lib.hid (BB.out.trans (hb.mono BB.out.size))
  clear Ht BB hb
  have Ht := Ht2; have BB := BB2
  clear Ht2 BB2
  go_wp2
  go_ret
  exact ⟨rfl, BB.out⟩

theorem string_ne {x y : ByteArray} (h : ¬ x = y) : (x.toList == y.toList) = false := by simpa using bytes_ne h
theorem string_empty {x : ByteArray} (h : ¬ x = ⟨#[]⟩) : x.toList.isEmpty = false := by
  rw [ByteArray.toList_eq]
  obtain ⟨⟨l⟩⟩ := x
  cases l with
  | nil => exact absurd rfl h
  | cons c l => rfl
theorem data_of_nameS (a : Int) : (nameS a).data.toList = nameL a := by simp [nameS]

set_option maxHeartbeats 1000000 in
theorem OpsApart_same_mem (a b : Int) (w : World) (a0 : -9223372036854775808 ≤ a) (a1 : a ≤ 9223372036854775807) (b0 : -9223372036854775808 ≤ b) (b1 : b ≤ 9223372036854775807) (ht : OTab w) (hin : a ∈ allOps) (hm : shapeI a = 8) :
    Calls Tryd.prog 5 #[.int .i64 a, .int .i64 a] w fun e w' => e = .returned (.bool true) ∧ Below w.heap.size w w' := by
  obtain ⟨g1, g2, g3, g4, g5, g6⟩ := good_in hin
  obtain ⟨x, hx⟩ : ∃ x, nameS a = x := ⟨_, rfl⟩
  have x0 : ¬ x = ⟨#[]⟩ := by
    intro h; rw [← hx] at h
    apply g2; rw [← data_of_nameS a, h]
  have xe := string_empty x0
  have xn : x.toList ≠ [] := by intro h; rw [h] at xe; cases xe
  have xo : opOf x.data.toList = a := by rw [← hx, data_of_nameS]; exact g4
  obtain ⟨sh, hsh⟩ : ∃ sh, shapeI a = sh := ⟨_, rfl⟩
  obtain ⟨by', hby⟩ : ∃ n, bytesI a = n := ⟨_, rfl⟩
  rw [hsh] at g3 g6; rw [hby] at g6
  have s1 : (sh == 0) = false := by simpa using g3
  have X := Lib.hid hx; have XO := Lib.hid xo; have SH := Lib.hid hsh; have BY := Lib.hid hby; have KN := Lib.hid g5
  rw [hsh] at hm
  have m1 : 0 < by' := g6.2 hm
  have m2 : sh = 8 := hm
  subst m2
  clear hx xo hsh hby g1 g2 g3 g4 g5 g6 hin hm x0
  have Ht := Lib.hid ht
  have BB := Lib.hid (Below.refl w.heap.size w)
  clear ht
  go_enter Tryd.func5, Tryd.ntmps5
  go_wp2_with fail
  refine (name_any _ _ a0 a1 Ht.out).mono ?_
  rintro e w_7 ⟨rfl, hb⟩
  rw [X.out]
  have Ht2 := Lib.hid (Ht.out.below hb)
  have BB2 := Lib.hid (BB.out.trans (hb.mono BB.out.size))
  clear Ht BB hb
  have Ht := Ht2; have BB := BB2
  clear Ht2 BB2
  go_wp2_with fail
  refine (name_any _ _ a0 a1 Ht.out).mono ?_
  rintro e w_8 ⟨rfl, hb⟩
  rw [X.out]
  have Ht2 := Lib.hid (Ht.out.below hb)
  have BB2 := Lib.hid (BB.out.trans (hb.mono BB.out.size))
  clear Ht BB hb
  have Ht := Ht2; have BB := BB2
  clear Ht2 BB2
  go_wp2_with fail
  refine (shape_any _ _ a0 a1 Ht.out).mono ?_
  rintro e w_9 ⟨rfl, hb⟩
  rw [SH.out]
  have Ht2 := Lib.hid (Ht.out.below hb)
  have BB2 := Lib.hid (BB.out.trans (hb.mono BB.out.size))
  clear Ht BB hb
  have Ht := Ht2; have BB := BB2
  clear Ht2 BB2
  go_wp2_with fail
  refine (Find_any _ _ Ht.out).mono ?_
  rintro e w_10 ⟨rfl, hb⟩
  rw [XO.out]
  have Ht2 := Lib.hid (Ht.out.below hb)
  have BB2 := Lib.hid (BB.out.trans (hb.mono BB.out.size))
  clear Ht BB hb
  have Ht := Ht2; have BB := BB2
  clear Ht2 BB2
  go_wp2_with fail
  refine (known_tells _ _ Ht.out).mono ?_
  rintro e w_11 ⟨rfl, hb⟩
  rw [KN.out]
  have Ht2 := Lib.hid (Ht.out.below hb)
  have BB2 := Lib.hid (BB.out.trans (hb.mono BB.out.size))
  clear Ht BB hb
  have Ht := Ht2; have BB := BB2
  clear Ht2 BB2
  go_wp2_with fail
  refine (bytes_any _ _ a0 a1 Ht.out).mono ?_
  rintro e w_12 ⟨rfl, hb⟩
  rw [BY.out]
  have Ht2 := Lib.hid (Ht.out.below hb)
  have BB2 := Lib.hid (BB.out.trans (hb.mono BB.out.size))
  clear Ht BB hb
  have Ht := Ht2; have BB := BB2
  clear Ht2 BB2
  go_wp2_with fail
  refine (shape_any _ _ a0 a1 Ht.out).mono ?_
  rintro e w_13 ⟨rfl, hb⟩
  rw [SH.out]
  have Ht2 := Lib.hid (Ht.out.below hb)
  have BB2 := Lib.hid (BB.out.trans (hb.mono BB.out.size))
  clear Ht BB hb
  have Ht := Ht2; have BB := BB2
  clear Ht2 BB2
  go_wp2_with fail
  refine (all_any _ Ht.out).mono ?_
  rintro e wv ⟨v, rfl, hown, hb⟩
  rw [allOps_len] at hown
  obtain ⟨g, cap, rfl⟩ := ownsRow_succ hown
  have Ht2 := Lib.hid (Ht.out.below hb)
  have BB2 := Lib.hid (BB.out.trans (hb.mono BB.out.size))
  clear Ht BB hb hown
  have Ht := Ht2; have BB := BB2
  clear Ht2 BB2
  go_wp2_with fail
  refine (known_any _ Ht.out).mono ?_
  rintro e w_14 ⟨rfl, hb⟩
  have Ht2 := Lib.hid (Ht.out.below hb)
  have BB2 := Lib.hid (BB.out.trans (hb.mono BB.out.size))
  clear Ht BB hb
  have Ht := Ht2; have BB := BB2
  clear Ht2 BB2
  go_wp2
  go_ret
  exact ⟨rfl, BB.out⟩

set_option maxHeartbeats 1000000 in
theorem OpsApart_diff_mem (a b : Int) (w : World) (a0 : -9223372036854775808 ≤ a) (a1 : a ≤ 9223372036854775807) (b0 : -9223372036854775808 ≤ b) (b1 : b ≤ 9223372036854775807) (ht : OTab w) (hin : a ∈ allOps) (hm : shapeI a = 8) (hne : ¬ a = b) :
    Calls Tryd.prog 5 #[.int .i64 a, .int .i64 b] w fun e w' => e = .returned (.bool true) ∧ Below w.heap.size w w' := by
  obtain ⟨y, hy⟩ : ∃ y, nameS b = y := ⟨_, rfl⟩
  have Y := Lib.hid hy
  have hxy0 : ¬ nameS a = y := by rw [← hy]; intro h; exact hne (name_inj hin (nameS_eq.1 h))
  obtain ⟨g1, g2, g3, g4, g5, g6⟩ := good_in hin
  obtain ⟨x, hx⟩ : ∃ x, nameS a = x := ⟨_, rfl⟩
  rw [hx] at hxy0
  have hxy := string_ne hxy0
  have hab : (a == b) = false := by simpa using hne
  have x0 : ¬ x = ⟨#[]⟩ := by
    intro h; rw [← hx] at h
    apply g2; rw [← data_of_nameS a, h]
  have xe := string_empty x0
  have xn : x.toList ≠ [] := by intro h; rw [h] at xe; cases xe
  have xo : opOf x.data.toList = a := by rw [← hx, data_of_nameS]; exact g4
  obtain ⟨sh, hsh⟩ : ∃ sh, shapeI a = sh := ⟨_, rfl⟩
  obtain ⟨by', hby⟩ : ∃ n, bytesI a = n := ⟨_, rfl⟩
  rw [hsh] at g3 g6; rw [hby] at g6
  have s1 : (sh == 0) = false := by simpa using g3
  have X := Lib.hid hx; have XO := Lib.hid xo; have SH := Lib.hid hsh; have BY := Lib.hid hby; have KN := Lib.hid g5
  rw [hsh] at hm
  have m1 : 0 < by' := g6.2 hm
  have m2 : sh = 8 := hm
  subst m2
  clear hx xo hsh hby g1 g2 g3 g4 g5 g6 hin hm x0 hy hne hxy0
  have Ht := Lib.hid ht
  have BB := Lib.hid (Below.refl w.heap.size w)
  clear ht
  go_enter Tryd.func5, Tryd.ntmps5
  go_wp2_with fail
  refine (name_any _ _ a0 a1 Ht.out).mono ?_
  rintro e w_15 ⟨rfl, hb⟩
  rw [X.out]
  have Ht2 := Lib.hid (Ht.out.below hb)
  have BB2 := Lib.hid (BB.out.trans (hb.mono BB.out.size))
  clear Ht BB hb
  have Ht := Ht2; have BB := BB2
  clear Ht2 BB2
  go_wp2_with fail
  refine (name_any _ _ b0 b1 Ht.out).mono ?_
  rintro e w_16 ⟨rfl, hb⟩
  rw [Y.out]
  have Ht2 := Lib.hid (Ht.out.below hb)
  have BB2 := Lib.hid (BB.out.trans (hb.mono BB.out.size))
  clear Ht BB hb
  have Ht := Ht2; have BB := BB2
  clear Ht2 BB2
  go_wp2_with fail
  refine (shape_any _ _ a0 a1 Ht.out).mono ?_
  rintro e w_17 ⟨rfl, hb⟩
  rw [SH.out]
  have Ht2 := Lib.hid (Ht.out.below hb)
  have BB2 := Lib.hid (BB.out.trans (hb.mono BB.out.size))
  clear Ht BB hb
  have Ht := Ht2; have BB := BB2
  clear Ht2 BB2
  go_wp2_with fail
  refine (Find_any _ _ Ht.out).mono ?_
  rintro e w_18 ⟨rfl, hb⟩
  rw [XO.out]
  have Ht2 := Lib.hid (Ht.out.below hb)
  have BB2 := Lib.hid (BB.out.trans (hb.mono BB.out.size))
  clear Ht BB hb
  have Ht := Ht2; have BB := BB2
  clear Ht2 BB2
  go_wp2_with fail
  refine (known_tells _ _ Ht.out).mono ?_
  rintro e w_19 ⟨rfl, hb⟩
  rw [KN.out]
  have Ht2 := Lib.hid (Ht.out.below hb)
  have BB2 := Lib.hid (BB.out.trans (hb.mono BB.out.size))
  clear Ht BB hb
  have Ht := Ht2; have BB := BB2
  clear Ht2 BB2
  go_wp2_with fail
  refine (bytes_any _ _ a0 a1 Ht.out).mono ?_
  rintro e w_20 ⟨rfl, hb⟩
  rw [BY.out]
  have Ht2 := Lib.hid (Ht.out.below hb)
  have BB2 := Lib.hid (BB.out.trans (hb.mono BB.out.size))
  clear Ht BB hb
  have Ht := Ht2; have BB := BB2
  clear Ht2 BB2
  go_wp2_with fail
  refine (shape_any _ _ a0 a1 Ht.out).mono ?_
  rintro e w_21 ⟨rfl, hb⟩
  rw [SH.out]
  have Ht2 := Lib.hid (Ht.out.below hb)
  have BB2 := Lib.hid (BB.out.trans (hb.mono BB.out.size))
  clear Ht BB hb
  have Ht := Ht2; have BB := BB2
  clear Ht2 BB2
  go_wp2_with fail
  refine (all_any _ Ht.out).mono ?_
  rintro e wv ⟨v, rfl, hown, hb⟩
  rw [allOps_len] at hown
  obtain ⟨g, cap, rfl⟩ := ownsRow_succ hown
  have Ht2 := Lib.hid (Ht.out.below hb)
  have BB2 := Lib.hid (BB.out.trans (hb.mono BB.out.size))
  clear Ht BB hb hown
  have Ht := Ht2; have BB := BB2
  clear Ht2 BB2
  go_wp2_with fail
  refine (known_any _ Ht.out).mono ?_
  rintro e w_22 ⟨rfl, hb⟩
  have Ht2 := Lib.hid (Ht.out.below hb)
  have BB2 := Lib.hid (BB.out.trans (hb.mono BB.out.size))
  clear Ht BB hb
  have Ht := Ht2; have BB := BB2
  clear Ht2 BB2
  go_wp2
  go_ret
  exact ⟨rfl, BB.out⟩

set_option maxHeartbeats 1000000 in
theorem OpsApart_same_not (a b : Int) (w : World) (a0 : -9223372036854775808 ≤ a) (a1 : a ≤ 9223372036854775807) (b0 : -9223372036854775808 ≤ b) (b1 : b ≤ 9223372036854775807) (ht : OTab w) (hin : a ∈ allOps) (hm : ¬ shapeI a = 8) :
    Calls Tryd.prog 5 #[.int .i64 a, .int .i64 a] w fun e w' => e = .returned (.bool true) ∧ Below w.heap.size w w' := by
  obtain ⟨g1, g2, g3, g4, g5, g6⟩ := good_in hin
  obtain ⟨x, hx⟩ : ∃ x, nameS a = x := ⟨_, rfl⟩
  have x0 : ¬ x = ⟨#[]⟩ := by
    intro h; rw [← hx] at h
    apply g2; rw [← data_of_nameS a, h]
  have xe := string_empty x0
  have xn : x.toList ≠ [] := by intro h; rw [h] at xe; cases xe
  have xo : opOf x.data.toList = a := by rw [← hx, data_of_nameS]; exact g4
  obtain ⟨sh, hsh⟩ : ∃ sh, shapeI a = sh := ⟨_, rfl⟩
  obtain ⟨by', hby⟩ : ∃ n, bytesI a = n := ⟨_, rfl⟩
  rw [hsh] at g3 g6; rw [hby] at g6
  have s1 : (sh == 0) = false := by simpa using g3
  have X := Lib.hid hx; have XO := Lib.hid xo; have SH := Lib.hid hsh; have BY := Lib.hid hby; have KN := Lib.hid g5
  rw [hsh] at hm
  have m1 : ¬ 0 < by' := fun h => hm (g6.1 h)
  have m2 : (sh == 8) = false := by simpa using hm
  clear hx xo hsh hby g1 g2 g3 g4 g5 g6 hin hm x0
  have Ht := Lib.hid ht
  have BB := Lib.hid (Below.refl w.heap.size w)
  clear ht
  go_enter Tryd.func5, Tryd.ntmps5
  go_wp2_with fail
  refine (name_any _ _ a0 a1 Ht.out).mono ?_
  rintro e w_23 ⟨rfl, hb⟩
  rw [X.out]
  have Ht2 := Lib.hid (Ht.out.below hb)
  have BB2 := Lib.hid (BB.out.trans (hb.mono BB.out.size))
  clear Ht BB hb
  have Ht := Ht2; have BB := BB2
  clear Ht2 BB2
  go_wp2_with fail
  refine (name_any _ _ a0 a1 Ht.out).mono ?_
  rintro e w_24 ⟨rfl, hb⟩
  rw [X.out]
  have Ht2 := Lib.hid (Ht.out.below hb)
  have BB2 := Lib.hid (BB.out.trans (hb.mono BB.out.size))
  clear Ht BB hb
  have Ht := Ht2; have BB := BB2
  clear Ht2 BB2
  go_wp2_with fail
  refine (shape_any _ _ a0 a1 Ht.out).mono ?_
  rintro e w_25 ⟨rfl, hb⟩
  rw [SH.out]
  have Ht2 := Lib.hid (Ht.out.below hb)
  have BB2 := Lib.hid (BB.out.trans (hb.mono BB.out.size))
  clear Ht BB hb
  have Ht := Ht2; have BB := BB2
  clear Ht2 BB2
  go_wp2_with fail
  refine (Find_any _ _ Ht.out).mono ?_
  rintro e w_26 ⟨rfl, hb⟩
  rw [XO.out]
  have Ht2 := Lib.hid (Ht.out.below hb)
  have BB2 := Lib.hid (BB.out.trans (hb.mono BB.out.size))
  clear Ht BB hb
  have Ht := Ht2; have BB := BB2
  clear Ht2 BB2
  go_wp2_with fail
  refine (known_tells _ _ Ht.out).mono ?_
  rintro e w_27 ⟨rfl, hb⟩
  rw [KN.out]
  have Ht2 := Lib.hid (Ht.out.below hb)
  have BB2 := Lib.hid (BB.out.trans (hb.mono BB.out.size))
  clear Ht BB hb
  have Ht := Ht2; have BB := BB2
  clear Ht2 BB2
  go_wp2_with fail
  refine (bytes_any _ _ a0 a1 Ht.out).mono ?_
  rintro e w_28 ⟨rfl, hb⟩
  rw [BY.out]
  have Ht2 := Lib.hid (Ht.out.below hb)
  have BB2 := Lib.hid (BB.out.trans (hb.mono BB.out.size))
  clear Ht BB hb
  have Ht := Ht2; have BB := BB2
  clear Ht2 BB2
  go_wp2_with fail
  refine (shape_any _ _ a0 a1 Ht.out).mono ?_
  rintro e w_29 ⟨rfl, hb⟩
  rw [SH.out]
  have Ht2 := Lib.hid (Ht.out.below hb)
  have BB2 := Lib.hid (BB.out.trans (hb.mono BB.out.size))
  clear Ht BB hb
  have Ht := Ht2; have BB := BB2
  clear Ht2 BB2
  go_wp2_with fail
  refine (all_any _ Ht.out).mono ?_
  rintro e wv ⟨v, rfl, hown, hb⟩
  rw [allOps_len] at hown
  obtain ⟨g, cap, rfl⟩ := ownsRow_succ hown
  have Ht2 := Lib.hid (Ht.out.below hb)
  have BB2 := Lib.hid (BB.out.trans (hb.mono BB.out.size))
  clear Ht BB hb hown
  have Ht := Ht2; have BB := BB2
  clear Ht2 BB2
  go_wp2_with fail
  refine (known_any _ Ht.out).mono ?_
  rintro e w_30 ⟨rfl, hb⟩
  have Ht2 := Lib.hid (Ht.out.below hb)
  have BB2 := Lib.hid (BB.out.trans (hb.mono BB.out.size))
  clear Ht BB hb
  have Ht := Ht2; have BB := BB2
  clear Ht2 BB2
  go_wp2
  go_ret
  exact ⟨rfl, BB.out⟩

set_option maxHeartbeats 1000000 in
theorem OpsApart_diff_not (a b : Int) (w : World) (a0 : -9223372036854775808 ≤ a) (a1 : a ≤ 9223372036854775807) (b0 : -9223372036854775808 ≤ b) (b1 : b ≤ 9223372036854775807) (ht : OTab w) (hin : a ∈ allOps) (hm : ¬ shapeI a = 8) (hne : ¬ a = b) :
    Calls Tryd.prog 5 #[.int .i64 a, .int .i64 b] w fun e w' => e = .returned (.bool true) ∧ Below w.heap.size w w' := by
  obtain ⟨y, hy⟩ : ∃ y, nameS b = y := ⟨_, rfl⟩
  have Y := Lib.hid hy
  have hxy0 : ¬ nameS a = y := by rw [← hy]; intro h; exact hne (name_inj hin (nameS_eq.1 h))
  obtain ⟨g1, g2, g3, g4, g5, g6⟩ := good_in hin
  obtain ⟨x, hx⟩ : ∃ x, nameS a = x := ⟨_, rfl⟩
  rw [hx] at hxy0
  have hxy := string_ne hxy0
  have hab : (a == b) = false := by simpa using hne
  have x0 : ¬ x = ⟨#[]⟩ := by
    intro h; rw [← hx] at h
    apply g2; rw [← data_of_nameS a, h]
  have xe := string_empty x0
  have xn : x.toList ≠ [] := by intro h; rw [h] at xe; cases xe
  have xo : opOf x.data.toList = a := by rw [← hx, data_of_nameS]; exact g4
  obtain ⟨sh, hsh⟩ : ∃ sh, shapeI a = sh := ⟨_, rfl⟩
  obtain ⟨by', hby⟩ : ∃ n, bytesI a = n := ⟨_, rfl⟩
  rw [hsh] at g3 g6; rw [hby] at g6
  have s1 : (sh == 0) = false := by simpa using g3
  have X := Lib.hid hx; have XO := Lib.hid xo; have SH := Lib.hid hsh; have BY := Lib.hid hby; have KN := Lib.hid g5
  rw [hsh] at hm
  have m1 : ¬ 0 < by' := fun h => hm (g6.1 h)
  have m2 : (sh == 8) = false := by simpa using hm
  clear hx xo hsh hby g1 g2 g3 g4 g5 g6 hin hm x0 hy hne hxy0
  have Ht := Lib.hid ht
  have BB := Lib.hid (Below.refl w.heap.size w)
  clear ht
  go_enter Tryd.func5, Tryd.ntmps5
  go_wp2_with fail
  refine (name_any _ _ a0 a1 Ht.out).mono ?_
  rintro e w_31 ⟨rfl, hb⟩
  rw [X.out]
  have Ht2 := Lib.hid (Ht.out.below hb)
  have BB2 := Lib.hid (BB.out.trans (hb.mono BB.out.size))
  clear Ht BB hb
  have Ht := Ht2; have BB := BB2
  clear Ht2 BB2
  go_wp2_with fail
  refine (name_any _ _ b0 b1 Ht.out).mono ?_
  rintro e w_32 ⟨rfl, hb⟩
  rw [Y.out]
  have Ht2 := Lib.hid (Ht.out.below hb)
  have BB2 := Lib.hid (BB.out.trans (hb.mono BB.out.size))
  clear Ht BB hb
  have Ht := Ht2; have BB := BB2
  clear Ht2 BB2
  go_wp2_with fail
  refine (shape_any _ _ a0 a1 Ht.out).mono ?_
  rintro e w_33 ⟨rfl, hb⟩
  rw [SH.out]
  have Ht2 := Lib.hid (Ht.out.below hb)
  have BB2 := Lib.hid (BB.out.trans (hb.mono BB.out.size))
  clear Ht BB hb
  have Ht := Ht2; have BB := BB2
  clear Ht2 BB2
  go_wp2_with fail
  refine (Find_any _ _ Ht.out).mono ?_
  rintro e w_34 ⟨rfl, hb⟩
  rw [XO.out]
  have Ht2 := Lib.hid (Ht.out.below hb)
  have BB2 := Lib.hid (BB.out.trans (hb.mono BB.out.size))
  clear Ht BB hb
  have Ht := Ht2; have BB := BB2
  clear Ht2 BB2
  go_wp2_with fail
  refine (known_tells _ _ Ht.out).mono ?_
  rintro e w_35 ⟨rfl, hb⟩
  rw [KN.out]
  have Ht2 := Lib.hid (Ht.out.below hb)
  have BB2 := Lib.hid (BB.out.trans (hb.mono BB.out.size))
  clear Ht BB hb
  have Ht := Ht2; have BB := BB2
  clear Ht2 BB2
  go_wp2_with fail
  refine (bytes_any _ _ a0 a1 Ht.out).mono ?_
  rintro e w_36 ⟨rfl, hb⟩
  rw [BY.out]
  have Ht2 := Lib.hid (Ht.out.below hb)
  have BB2 := Lib.hid (BB.out.trans (hb.mono BB.out.size))
  clear Ht BB hb
  have Ht := Ht2; have BB := BB2
  clear Ht2 BB2
  go_wp2_with fail
  refine (shape_any _ _ a0 a1 Ht.out).mono ?_
  rintro e w_37 ⟨rfl, hb⟩
  rw [SH.out]
  have Ht2 := Lib.hid (Ht.out.below hb)
  have BB2 := Lib.hid (BB.out.trans (hb.mono BB.out.size))
  clear Ht BB hb
  have Ht := Ht2; have BB := BB2
  clear Ht2 BB2
  go_wp2_with fail
  refine (all_any _ Ht.out).mono ?_
  rintro e wv ⟨v, rfl, hown, hb⟩
  rw [allOps_len] at hown
  obtain ⟨g, cap, rfl⟩ := ownsRow_succ hown
  have Ht2 := Lib.hid (Ht.out.below hb)
  have BB2 := Lib.hid (BB.out.trans (hb.mono BB.out.size))
  clear Ht BB hb hown
  have Ht := Ht2; have BB := BB2
  clear Ht2 BB2
  go_wp2_with fail
  refine (known_any _ Ht.out).mono ?_
  rintro e w_38 ⟨rfl, hb⟩
  have Ht2 := Lib.hid (Ht.out.below hb)
  have BB2 := Lib.hid (BB.out.trans (hb.mono BB.out.size))
  clear Ht BB hb
  have Ht := Ht2; have BB := BB2
  clear Ht2 BB2
  go_wp2
  go_ret
  exact ⟨rfl, BB.out⟩
end Go.Proofs.YtfjjecffeeffcaaDoor
