/- Layer 5 (ops): 'known' returns true; facts on the table. -/
import Derived.Test.YtfjjecffeeffcaaDoorOpsFind
namespace Go.Proofs.YtfjjecffeeffcaaDoor
open Go.RowKit

def nameL (op : Int) : List UInt8 := if findI op < 0 then [] else namesL.getD (findI op).toNat []
def nameS (op : Int) : ByteArray := ⟨(nameL op).toArray⟩

theorem findGo_bd : ∀ (l : List (Int × List UInt8)) (a op : Int), 0 ≤ a → (findGo l a op).1 = -1 ∨ (a ≤ (findGo l a op).1 ∧ (findGo l a op).1 < a + (l.map (·.2.length)).sum)
  | [], _, _, _ => .inl rfl
  | (f, s) :: r, a, op, ha => by
    unfold findGo
    split
    · right; simp; omega
    · rcases findGo_bd r (a + s.length) op (by omega) with h | h
      · exact .inl h
      · right; simp at h ⊢; omega
theorem findI_bd (op : Int) : findI op = -1 ∨ (0 ≤ findI op ∧ findI op < 167) := by
  rcases findGo_bd runsL 0 op (by omega) with h | h
  · exact .inl h
  · exact .inr ⟨h.1, by have h2 := h.2; have e : (runsL.map (·.2.length)).sum = 167 := by decide +kernel
                        rw [e] at h2; exact h2⟩

theorem name_any (op : Int) (w : World) (h0 : -9223372036854775808 ≤ op) (h1 : op ≤ 9223372036854775807) (ht : OTab w) :
    Calls Tryd.prog 12 #[.int .i64 op] w fun e w' => e = .returned (.string (nameS op)) ∧ Below w.heap.size w w' := by
  have hb := findI_bd op
  refine (name_core op _ w h0 h1 ht rfl (by omega) (by omega) (by have := namesL_len; unfold namesL at this; omega)).mono ?_
  rintro e w' ⟨nm, rfl, hbel, hnm⟩
  refine ⟨?_, hbel⟩
  have : nm = nameS op := by
    unfold nameS nameL namesL
    rw [← hnm]
  rw [this]

theorem known_any (w : World) (ht : OTab w) :
    Calls Tryd.prog 7 #[] w fun e w' => e = .returned (.bool true) ∧ Below w.heap.size w w' := by
  have Ht := Lib.hid ht
  have BB := Lib.hid (Below.refl w.heap.size w)
  clear ht
  go_enter Tryd.func7, Tryd.ntmps7
  go_wp2_with fail
  refine (name_any _ _ (by omega) (by omega) Ht.out).mono ?_
  rintro e w0 ⟨rfl, hb⟩
  rw [show nameS 106 = ⟨#[105, 51, 50, 46, 97, 100, 100]⟩ by decide +kernel]
  have Ht2 := Lib.hid (Ht.out.below hb)
  have BB2 := Lib.hid (BB.out.trans (hb.mono BB.out.size))
  clear Ht BB hb
  have Ht := Ht2; have BB := BB2
  clear Ht2 BB2
  go_wp2_with fail
  refine (Find_any _ _ Ht.out).mono ?_
  rintro e w1 ⟨rfl, hb⟩
  rw [show opOf (ByteArray.mk #[98, 114, 95, 111, 110, 95, 99, 97, 115, 116]).data.toList = 64280 by decide +kernel]
  have Ht2 := Lib.hid (Ht.out.below hb)
  have BB2 := Lib.hid (BB.out.trans (hb.mono BB.out.size))
  clear Ht BB hb
  have Ht := Ht2; have BB := BB2
  clear Ht2 BB2
  go_wp2_with fail
  refine (shape_any _ _ (by omega) (by omega) Ht.out).mono ?_
  rintro e w2 ⟨rfl, hb⟩
  rw [show shapeI 17 = 7 by decide +kernel]
  have Ht2 := Lib.hid (Ht.out.below hb)
  have BB2 := Lib.hid (BB.out.trans (hb.mono BB.out.size))
  clear Ht BB hb
  have Ht := Ht2; have BB := BB2
  clear Ht2 BB2
  go_wp2_with fail
  refine (name_any _ _ (by omega) (by omega) Ht.out).mono ?_
  rintro e w3 ⟨rfl, hb⟩
  rw [show nameS 6 = ⟨#[]⟩ by decide +kernel]
  have Ht2 := Lib.hid (Ht.out.below hb)
  have BB2 := Lib.hid (BB.out.trans (hb.mono BB.out.size))
  clear Ht BB hb
  have Ht := Ht2; have BB := BB2
  clear Ht2 BB2
  go_wp2_with fail
  refine (shape_any _ _ (by omega) (by omega) Ht.out).mono ?_
  rintro e w4 ⟨rfl, hb⟩
  rw [show shapeI 6 = 0 by decide +kernel]
  have Ht2 := Lib.hid (Ht.out.below hb)
  have BB2 := Lib.hid (BB.out.trans (hb.mono BB.out.size))
  clear Ht BB hb
  have Ht := Ht2; have BB := BB2
  clear Ht2 BB2
  go_wp2_with fail
  refine (known_tells _ _ Ht.out).mono ?_
  rintro e w5 ⟨rfl, hb⟩
  rw [show knownB 139 = true by decide +kernel]
  have Ht2 := Lib.hid (Ht.out.below hb)
  have BB2 := Lib.hid (BB.out.trans (hb.mono BB.out.size))
  clear Ht BB hb
  have Ht := Ht2; have BB := BB2
  clear Ht2 BB2
  go_wp2_with fail
  refine (known_tells _ _ Ht.out).mono ?_
  rintro e w6 ⟨rfl, hb⟩
  rw [show knownB 253 = true by decide +kernel]
  have Ht2 := Lib.hid (Ht.out.below hb)
  have BB2 := Lib.hid (BB.out.trans (hb.mono BB.out.size))
  clear Ht BB hb
  have Ht := Ht2; have BB := BB2
  clear Ht2 BB2
  go_wp2_with fail
  refine (bytes_any _ _ (by omega) (by omega) Ht.out).mono ?_
  rintro e w7 ⟨rfl, hb⟩
  rw [show bytesI 53 = 4 by decide +kernel]
  have Ht2 := Lib.hid (Ht.out.below hb)
  have BB2 := Lib.hid (BB.out.trans (hb.mono BB.out.size))
  clear Ht BB hb
  have Ht := Ht2; have BB := BB2
  clear Ht2 BB2
  go_wp2_with fail
  refine (bytes_any _ _ (by omega) (by omega) Ht.out).mono ?_
  rintro e w8 ⟨rfl, hb⟩
  rw [show bytesI 40 = 4 by decide +kernel]
  have Ht2 := Lib.hid (Ht.out.below hb)
  have BB2 := Lib.hid (BB.out.trans (hb.mono BB.out.size))
  clear Ht BB hb
  have Ht := Ht2; have BB := BB2
  clear Ht2 BB2
  go_wp2_with fail
  refine (bytes_any _ _ (by omega) (by omega) Ht.out).mono ?_
  rintro e w9 ⟨rfl, hb⟩
  rw [show bytesI 63 = 0 by decide +kernel]
  have Ht2 := Lib.hid (Ht.out.below hb)
  have BB2 := Lib.hid (BB.out.trans (hb.mono BB.out.size))
  clear Ht BB hb
  have Ht := Ht2; have BB := BB2
  clear Ht2 BB2
  go_wp2
  go_ret
  exact ⟨rfl, BB.out⟩
end Go.Proofs.YtfjjecffeeffcaaDoor
