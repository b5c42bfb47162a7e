/- Layer 5 (ops): Find: the opcode of a name. -/
import Derived.Test.YtfjjecffeeffcaaDoorOpsName
namespace Go.Proofs.YtfjjecffeeffcaaDoor
open Go.RowKit

/-- What IndexFunc says of a list at a name: the first place, or none. -/
def IdxPost (zs : List ByteArray) (nm : ByteArray) (w : World) (e : Ending) (w' : World) : Prop := w = w' ∧ ∃ r : Int, e = .returned (.int .i64 r) ∧
  ((r = -1 ∧ ∀ j, j < zs.length → zs.getD j nm ≠ nm) ∨ (∃ i : Nat, i < zs.length ∧ r = i ∧ zs.getD i nm = nm ∧ ∀ j, j < i → zs.getD j nm ≠ nm))

theorem bytes_ne {a b : ByteArray} (h : ¬ a = b) : a.toList ≠ b.toList := by
  intro e
  rw [ByteArray.toList_eq, ByteArray.toList_eq] at e
  exact h (ByteArray.ext (Array.toList_inj.mp e))

set_option maxHeartbeats 1000000 in
theorem indexFunc_any (zs : List ByteArray) (nm : ByteArray) (B p : Nat) (w : World) (hB : ∀ i, i < zs.length → w.cell? ⟨B, i, none⟩ = some (.string (zs.getD i nm))) (hp : w.cell? ⟨p, 0, none⟩ = some (.string nm)) (hl : zs.length ≤ 1000) :
    Calls Tryd.prog 16 #[.slice (some ⟨B, 0, none⟩) zs.length zs.length, .func (.func 18) #[] #[.pointer (some ⟨p, 0, none⟩)]] w (IdxPost zs nm w) := by
  have HB := Lib.hid hB
  clear hB
  go_enter Tryd.func16, Tryd.ntmps16
  go_wp2
  go_loop [5, 8] (fun _ t8 => ∃ i : Nat, i ≤ zs.length ∧ t8 = .int .i64 i ∧ ∀ j, j < i → zs.getD j nm ≠ nm) (fun _ t8 => zs.length - (intOf t8).toNat)
  case atStart => exact ⟨0, by omega, rfl, fun j hj => by omega⟩
  case round =>
    obtain ⟨i, hi, rfl, hno⟩ := hrel
    have HN := Lib.hid hno
    clear hno
    by_cases hlt : i < zs.length
    · have hc := HB.out i hlt
      obtain ⟨z, hz⟩ : ∃ z, zs.getD i nm = z := ⟨_, rfl⟩
      rw [hz] at hc
      have HZ := Lib.hid hz
      clear hz
      by_cases heq : z = nm
      · subst heq
        go_wp2
        go_ret
        exact ⟨rfl, _, rfl, .inr ⟨i, hlt, rfl, HZ.out, HN.out⟩⟩
      · have hne : (z.toList == nm.toList) = false := by simpa using bytes_ne heq
        have HE := Lib.hid heq
        clear heq
        go_wp2
        go_round
        case rel => exact ⟨i + 1, by omega, by go_num, fun j hj => by
          by_cases hji : j < i
          · exact HN.out j hji
          · obtain rfl : j = i := by omega
            rw [HZ.out]; exact HE.out⟩
        case measure => simp [intOf]; omega
    · obtain rfl : i = zs.length := by omega
      go_wp2
      go_ret
      exact ⟨rfl, _, rfl, .inl ⟨rfl, HN.out⟩⟩

def namesL : List (List UInt8) := pieces 32 namesS.data.toList
def splitN : List ByteArray := Lib.splitB ⟨#[32]⟩ 0 (Lib.countB namesS ⟨#[32]⟩) namesS
theorem indexB_one (s : ByteArray) (c : UInt8) : Lib.indexB s ⟨#[c]⟩ = Lib.indexByte s.data.toList c := by
  have h := Lib.index_one s.data.toList c
  rw [← h]
theorem splitB_pieces (c : UInt8) : ∀ (k : Nat) (s : ByteArray), Lib.countB s ⟨#[c]⟩ = k → (Lib.splitB ⟨#[c]⟩ 0 k s).map (·.data.toList) = pieces c s.data.toList
  | k, s, hk => by
    have hge := Lib.indexByte_ge s.data.toList c
    rcases Int.lt_or_le (Lib.indexByte s.data.toList c) 0 with h | h
    · have hm : Lib.indexByte s.data.toList c = -1 := by omega
      rw [Lib.splitB_miss _ _ _ _ ((indexB_one s c).trans hm), pieces_none c _ hm]
      rfl
    · obtain ⟨i, hi⟩ : ∃ i : Nat, Lib.indexByte s.data.toList c = i := ⟨(Lib.indexByte s.data.toList c).toNat, by omega⟩
      have hb := (indexB_one s c).trans hi
      have hc := Lib.countB_hit s ⟨#[c]⟩ i (Nat.le_refl _) hb
      obtain ⟨hl, hp⟩ := pieces_some c _ i hi
      match k, hk with
      | 0, hk => omega
      | k + 1, hk =>
        rw [Lib.splitB_hit _ _ _ _ _ hb, hp, List.map_cons, splitB_pieces c k _ (by rw [hk] at hc; have : Lib.countB (s.extract (i + (⟨#[c]⟩ : ByteArray).size) s.size) ⟨#[c]⟩ = k := by omega
                                                                                    exact this)]
        rw [Lib.extract_data, Lib.extract_to_end]
        simp
        rfl
theorem splitN_eq : splitN.map (·.data.toList) = namesL := splitB_pieces 32 _ _ rfl
theorem namesL_len : namesL.length = 167 := by decide +kernel
theorem splitN_len : splitN.length = 167 := by rw [← namesL_len, ← splitN_eq]; simp
theorem countN : Lib.countB namesS ⟨#[32]⟩ + 1 = 167 := by rw [← splitN_len]; exact (Lib.splitB_all _ (by decide) 0 _ _ rfl).symm
theorem allOps_len : allOps.length = 167 := by decide +kernel
def placeOf (x : List UInt8) : Int := match namesL.findIdx? (· == x) with
  | some i => i
  | none => -1
def opOf (x : List UInt8) : Int := if placeOf x < 0 then -1 else allOps.getD (placeOf x).toNat 0

theorem names_at (j : Nat) (nm : ByteArray) (h : j < 167) : namesL[j]? = some (splitN.getD j nm).data.toList := by
  rw [← splitN_eq, List.getElem?_map, List.getD_eq_getElem?_getD, List.getElem?_eq_getElem (by rw [splitN_len]; exact h), Option.map_some, Option.getD_some]

theorem place_none {nm : ByteArray} (h : ∀ j, j < splitN.length → splitN.getD j nm ≠ nm) : placeOf nm.data.toList = -1 := by
  have : namesL.findIdx? (· == nm.data.toList) = none := by
    rw [List.findIdx?_eq_none_iff]
    intro x hx
    obtain ⟨j, hj, rfl⟩ := List.getElem_of_mem hx
    rw [namesL_len] at hj
    have h1 := names_at j nm hj
    rw [List.getElem?_eq_getElem (by rw [namesL_len]; exact hj), Option.some.injEq] at h1
    rw [h1]
    simp
    intro e
    exact h j (by rw [splitN_len]; exact hj) (ByteArray.ext (Array.toList_inj.mp (by simpa using e)))
  simp [placeOf, this]
theorem place_some {nm : ByteArray} {i : Nat} (hi : i < splitN.length) (hz : splitN.getD i nm = nm) (h : ∀ j, j < i → splitN.getD j nm ≠ nm) : placeOf nm.data.toList = i := by
  rw [splitN_len] at hi
  have : namesL.findIdx? (· == nm.data.toList) = some i := by
    rw [List.findIdx?_eq_some_iff_getElem]
    have h1 := names_at i nm hi
    refine ⟨by rw [namesL_len]; exact hi, ?_, fun j hj => ?_⟩
    · rw [List.getElem?_eq_getElem (by rw [namesL_len]; exact hi), Option.some.injEq] at h1
      rw [h1, hz]; simp
    · have h2 := names_at j nm (by omega)
      rw [List.getElem?_eq_getElem (by rw [namesL_len]; omega), Option.some.injEq] at h2
      rw [h2]
      simp
      intro e
      exact h j hj (ByteArray.ext (Array.toList_inj.mp (by simpa using e)))
  simp [placeOf, this]

set_option maxRecDepth 100000 in
set_option maxHeartbeats 1000000 in
theorem Find_any (nm : ByteArray) (w : World) (ht : OTab w) :
    Calls Tryd.prog 8 #[.string nm] w fun e w' => e = .returned (.int .i64 (opOf nm.data.toList)) ∧ Below w.heap.size w w' := by
  have hmf : ∀ (fn : Fn) (first cap : Array Value) (w : World), (Instr.makeFunc fn first cap).run Tryd.prog w = .ok (.func fn first cap) w := fun _ _ _ _ => rfl
  have ht' := ht.below ((Below.refl _ _).alloc (Nat.le_refl _) (.cells #[.string nm] 9))
  obtain ⟨m, hm⟩ := ht'.maxlen
  have HM := Lib.hid hm
  have Ht := Lib.hid ht'
  clear ht ht' hm
  go_enter Tryd.func8, Tryd.ntmps8
  go_wp2_with fail
  refine (Tryd.strings_Split namesS ⟨#[32]⟩ m _ (by decide) HM.out (by decide)).mono ?_
  rintro e w1 ⟨rfl, rfl⟩
  go_wp2_with fail
  obtain ⟨W, hW⟩ : ∃ W, W = (w.alloc (.cells #[.string nm] 9)).alloc (.cells (splitN.map Value.string).toArray 9) := ⟨_, rfl⟩
  have hcount : Lib.countB namesS ⟨#[32]⟩ + 1 = splitN.length := by rw [splitN_len, countN]
  have hB : ∀ i, i < splitN.length → W.cell? ⟨w.heap.size + 1, i, none⟩ = some (.string (splitN.getD i nm)) := fun i hi => by
    rw [hW, World.cell?_alloc_at _ _ _ _ (by simp)]
    simp [List.getD_eq_getElem?_getD, List.getElem?_eq_getElem hi]
  have hP : W.cell? ⟨w.heap.size, 0, none⟩ = some (.string nm) := by
    rw [hW, World.cell?_alloc_past _ _ _ (by simp), World.cell?_alloc_at _ _ _ _ rfl]; simp
  have hbW : Below w.heap.size w W := by rw [hW]; exact ((Below.refl _ _).alloc (Nat.le_refl _) _).alloc (by simp) _
  have htW : OTab W := by rw [hW]; exact Ht.out.below ((Below.refl _ _).alloc (Nat.le_refl _) _)
  rw [hcount]
  change Calls Tryd.prog 16 _ ((w.alloc (.cells #[.string nm] 9)).alloc (.cells (splitN.map Value.string).toArray 9)) _
  rw [← hW]
  have HbW := Lib.hid hbW; have HtW := Lib.hid htW
  clear hW hcount hbW htW Ht HM
  refine (indexFunc_any splitN nm (w.heap.size + 1) w.heap.size W hB hP (by rw [splitN_len]; omega)).mono ?_
  rintro e w2 ⟨rfl, r, rfl, hr⟩
  clear hB hP
  rcases hr with ⟨rfl, hno⟩ | ⟨i, hi, rfl, hz, hno⟩
  · have hp := place_none hno
    have ho : opOf nm.data.toList = -1 := by simp [opOf, hp]
    have HO := Lib.hid ho
    clear hp ho hno
    go_wp2
    go_ret
    exact ⟨ret1 HO.out.symm, HbW.out⟩
  · have hp := place_some hi hz hno
    rw [splitN_len] at hi
    obtain ⟨x, hx⟩ : ∃ x, allOps[i]? = some x := ⟨_, List.getElem?_eq_getElem (by rw [allOps_len]; exact hi)⟩
    have ho : opOf nm.data.toList = x := by
      rw [opOf, hp, if_neg (by omega), Int.toNat_natCast, List.getD_eq_getElem?_getD, hx]; rfl
    have HO := Lib.hid ho
    have HX := Lib.hid hx
    clear hp ho hx hno hz
    go_wp2_with fail
    refine (all_any _ HtW.out).mono ?_
    rintro e w3 ⟨v, rfl, hown, hb3⟩
    rw [allOps_len] at hown
    obtain ⟨g, cap, rfl⟩ := ownsRow_succ hown
    have hc : w3.cell? ⟨g, i, none⟩ = some (.int .i64 x) := by
      rw [hown.cellAt i (by omega), List.getElem?_map, HX.out]; rfl
    have HB3 := Lib.hid (HbW.out.trans (hb3.mono HbW.out.size))
    clear hown hb3
    go_wp2
    go_ret
    exact ⟨ret1 HO.out.symm, HB3.out⟩
end Go.Proofs.YtfjjecffeeffcaaDoor
