/- package roll: Add. -/
import Derived.Test.YtoamhiaagaaaaaaGreatDoorQRoPureP
import Derived.Test.YtoamhiaagaaaaaaGreatDoorQKdSubP
namespace Go.Proofs.YtoamhiaagaaaaaaGreatDoor
open Go.RowKit Go.Maps Go.WideMaps

def inTab (gs : List (List Sb)) (id : Int) : Bool := decide (0 ≤ id) && decide (id < total gs)
/-- What Add answers: the numbers, the error, the groups behind it. -/
def addG (gs : List (List Sb)) (ids : List Int) (g : List Sb) : List Int × Int × List (List Sb) :=
  if ¬ g.all plainS = true then ([], 2, gs)
  else if ¬ ids.all (inTab gs) = true then ([], 2, gs)
  else if ¬ (rollG ids g).2 = true then ([], 2, gs)
  else if (enterG gs (rollG ids g).1).2.1 ≠ 0 then ([], (enterG gs (rollG ids g).1).2.1, gs)
  else (ids ++ (List.range g.length).map (fun k : Nat => (enterG gs (rollG ids g).1).1 + (k : Int)), 0, (enterG gs (rollG ids g).1).2.2)
/-- enter, in one. -/
theorem enter_any (S R Rg : Nat → Prop) (w : World) (t : Nat) (v : Value) (gs : List (List Sb)) (g : List Sb) (ht : TabAt S R w t gs) (hok : TabOk gs) (hg : GoodG g) (hv : ∀ w', Upd (fun b => ¬ Rg b) w w' → GrpAt w' v g) (hrg : ∀ k, Rg k → k < w.heap.size ∧ ¬ S k) (htab : Tab w) :
    Calls Tryz.prog 47 #[.pointer (some ⟨t, 0, none⟩), v] w fun e w' => e = .returned (.tuple #[.int .i64 (enterG gs g).1, .int .i64 (enterG gs g).2.1]) ∧ ∃ S' R', TabAt S' R' w' t (enterG gs g).2.2 ∧ Upd S w w' ∧ Fresh S w S' ∧ ∀ k, R' k → R k ∨ Rg k := by
  have below : ∀ w', Below w.heap.size w w' → ∃ S' R', TabAt S' R' w' t gs ∧ Upd S w w' ∧ Fresh S w S' ∧ ∀ k, R' k → R k ∨ Rg k := fun w' hb => ⟨S, R, ht.below hb, Upd.of_below hb, Fresh.refl _ _, fun _ h => .inl h⟩
  unfold enterG
  cases hf : findG gs g with
  | some i =>
    obtain ⟨hlt, hx, _⟩ := List.findIdx?_eq_some_iff_getElem.1 hf
    have hgi : gs[i]? = some g := by rw [List.getElem?_eq_getElem hlt]; simpa using hx
    refine (enter_found S R Rg w t v gs g i ht hok hgi hg (fun w' hb => hv w' ((Upd.of_below hb : Upd (fun _ => False) w w').mono fun _ _ h => h.elim)) htab).mono ?_
    rintro e w' ⟨rfl, hb⟩
    exact ⟨rfl, below w' hb⟩
  | none =>
    have hn : g ∉ gs := fun h => by
      have := List.findIdx?_eq_none_iff.1 hf g h
      simp at this
    dsimp only
    by_cases hfull : 10000 < total gs + g.length
    · rw [if_pos hfull]
      refine (enter_full S R Rg w t v gs g ht hok hn hg hv hrg htab hfull).mono ?_
      rintro e w' ⟨rfl, hb⟩
      exact ⟨rfl, below w' hb⟩
    · rw [if_neg hfull]
      by_cases hnil : g = []
      · rw [if_pos hnil]
        refine (enter_nil S R Rg w t v gs g ht hok hn hg hv hrg htab hnil).mono ?_
        rintro e w' ⟨rfl, hb⟩
        exact ⟨rfl, below w' hb⟩
      · rw [if_neg hnil]
        refine (enter_add S R Rg w t v gs g ht hok hn hg hv hrg htab hfull hnil).mono ?_
        rintro e w' ⟨rfl, S', h1, h2, h3⟩
        exact ⟨rfl, S', _, h1, h2, h3, fun _ h => h⟩
theorem enterG_ok {gs : List (List Sb)} {g : List Sb} (hok : TabOk gs) (hg : GoodG g) : TabOk (enterG gs g).2.2 := by
  unfold enterG
  cases hf : findG gs g with
  | some i => exact hok
  | none =>
    have hn : g ∉ gs := fun h => by
      have := List.findIdx?_eq_none_iff.1 hf g h
      simp at this
    dsimp only
    split
    · exact hok
    · split
      · exact hok
      · rename_i h1 h2
        refine ⟨fun x hx => ?_, fun x hx => ?_, ?_, by rw [total_snoc]; omega⟩
        · simp at hx; rcases hx with hx | rfl; exact hok.good x hx; exact hg
        · simp at hx; rcases hx with hx | rfl; exact hok.ne x hx; exact h2
        · rw [List.nodup_append]
          exact ⟨hok.nodup, by simp, fun a ha b hb => by simp at hb; subst hb; exact fun e => hn (by rw [← e]; exact ha)⟩
theorem enterG_first {gs : List (List Sb)} {g : List Sb} : 0 ≤ (enterG gs g).1 := by
  unfold enterG
  cases findG gs g with
  | some i => exact Int.natCast_nonneg _
  | none => dsimp only; split; exact Int.le_refl _; split <;> exact Int.natCast_nonneg _
theorem firstOf_le (gs : List (List Sb)) (i : Nat) : firstOf gs i ≤ total gs := by
  have h : total gs = total (gs.take i) + total (gs.drop i) := by
    unfold total
    rw [← List.sum_append, ← List.map_append, List.take_append_drop]
  unfold firstOf; omega
theorem enterG_le {gs : List (List Sb)} {g : List Sb} (hok : TabOk gs) : (enterG gs g).1 ≤ 10000 := by
  have ht := hok.total
  unfold enterG
  cases hf : findG gs g with
  | some i => have := firstOf_le gs i; dsimp only; omega
  | none => dsimp only; split; simp; split <;> (dsimp only; omega)
theorem enterG_err {gs : List (List Sb)} {g : List Sb} (h : (enterG gs g).2.1 ≠ 0) : (enterG gs g).2.2 = gs := by
  revert h
  unfold enterG
  cases findG gs g with
  | some i => intro _; rfl
  | none =>
    dsimp only
    split
    · intro _; rfl
    · split
      · intro _; rfl
      · intro h; exact absurd rfl h
def AddPost2 (S R : Nat → Prop) (w : World) (t : Nat) (A : List Int × Int × List (List Sb)) (e : Ending) (w' : World) : Prop :=
  ∃ u S' R', e = .returned (.tuple #[u, .int .i64 A.2.1]) ∧ TabAt S' R' w' t A.2.2 ∧ (∀ w'', Upd (fun b => S' b ∨ b < w.heap.size) w' w'' → IntsAt w'' u A.1) ∧ Upd S w w' ∧ Fresh S w S' ∧ Fresh R w R'
theorem AddPost2.early {S R : Nat → Prop} {w w' : World} {t : Nat} {gs : List (List Sb)} {A : List Int × Int × List (List Sb)} {er : Int} (ht : TabAt S R w t gs) (hA : A = ([], er, gs)) (hb : Below w.heap.size w w') : AddPost2 S R w t A (.returned (.tuple #[.slice none 0 0, .int .i64 er])) w' := by
  subst hA
  exact ⟨_, S, R, rfl, ht.below hb, fun w'' _ => RowAt.nil w'' 1, Upd.of_below hb, Fresh.refl _ _, Fresh.refl _ _⟩
set_option maxRecDepth 100000 in
set_option maxHeartbeats 16000000 in
theorem add_any2 (S R : Nat → Prop) (w : World) (t : Nat) (v1 v2 : Value) (gs : List (List Sb)) (ids : List Int) (g : List Sb) (ht : TabAt S R w t gs) (hok : TabOk gs) (h1 : ∀ w', Upd S w w' → IntsAt w' v1 ids) (hl : ids.length ≤ 100000) (h2 : GrpAt w v2 g) (hr : RawG g) (htab : Tab w) :
    Calls Tryz.prog 9 #[.pointer (some ⟨t, 0, none⟩), v1, v2] w (AddPost2 S R w t (addG gs ids g)) := by
  obtain ⟨a1, c1, rfl⟩ := RowAt.form (v := v1) (h1 w (Upd.refl _ _))
  obtain ⟨a2, c2, rfl⟩ := h2.form
  obtain ⟨i1, hi', hz0', hz1', hz2'⟩ := info_parts Tryz.infoInt
  have Hi' := Lib.hid hi'; have Hz0' := Lib.hid hz0'; have Hz1' := Lib.hid hz1'; have Hz2' := Lib.hid hz2'
  have HT := Lib.hid ht; have HOK := Lib.hid hok; have H1 := Lib.hid h1; have HL := Lib.hid hl; have H2 := Lib.hid h2; have HR := Lib.hid hr; have HTAB := Lib.hid htab
  have CM := Lib.hid (made_any ht)
  obtain ⟨A, hA⟩ : ∃ A, addG gs ids g = A := ⟨_, rfl⟩
  rw [hA]
  have HA := Lib.hid hA
  have hgl := hr.len
  clear ht hok h1 hl h2 hr htab hi' hz0' hz1' hz2' hA
  go_enter Tryz.func9, Tryz.ntmps9
  go_wp2_with fail
  refine CM.out.mono ?_
  rintro e w0 ⟨rfl, rfl⟩
  go_wp2
  go_loopw [23] (fun t23 wr => ∃ i : Nat, t23 = .int .i64 i ∧ i ≤ g.length ∧ (∀ x ∈ g.take i, plainS x = true) ∧ Below w0.heap.size w0 wr) (fun t23 _ => g.length - (intOf t23).toNat)
  case atStart => exact ⟨0, rfl, Nat.zero_le _, by simp, Below.refl _ _⟩
  case round =>
    obtain ⟨i, rfl, hi, hpl, hbe⟩ := hrel
    by_cases hlt : i < g.length
    · obtain ⟨x, hx⟩ : ∃ x, g[i]? = some x := ⟨g[i], by simp [hlt]⟩
      obtain ⟨b2, o2, e2, _, d1, f1, d2, f2, d3, f3, d4, f4, sb, q0, q1, q2, q3, q4, q5⟩ := (H2.out.below hbe (Nat.le_refl _)).at hx
      subst e2
      have hlt' : (i : Int) < g.length := by omega
      have hi6 : (i : Int) < 1000000 := by omega
      have hal : Below w0.heap.size w0 (wr.alloc (.cells #[.bool x.fin, .slice d1 x.sups.length f1, .int .i64 x.k, .slice d2 x.ps.length f2, .slice d3 x.rs.length f3, .slice d4 x.fs.length f4] 48)) := hbe.alloc hbe.size _
      have C := Lib.hid (plainSub_any _ x _ (sb.below ((Below.refl _ _).alloc (Nat.le_refl _) _) (Nat.le_refl _) : SubAt (wr.alloc (.cells #[.bool x.fin, .slice d1 x.sups.length f1, .int .i64 x.k, .slice d2 x.ps.length f2, .slice d3 x.rs.length f3, .slice d4 x.fs.length f4] 48)) _ x) (HR.out.sm x (List.mem_of_getElem? hx)).small)
      have HX := Lib.hid hx; have HLT := Lib.hid hlt; have HPL := Lib.hid hpl; have HAL := Lib.hid hal
      clear hx hlt hpl hal sb hbe hi
      obtain ⟨bp, hbp⟩ : ∃ bp, plainS x = bp := ⟨_, rfl⟩
      have HBP := Lib.hid hbp
      rw [hbp] at C
      clear hbp
      go_wp2_with fail
      refine C.out.mono ?_
      rintro e w1 ⟨rfl, hb1⟩
      have HB1 := Lib.hid (HAL.out.trans (hb1.mono HAL.out.size))
      clear hb1 q0 q1 q2 q3 q4 q5
      cases bp
      · go_wp2
        go_ret2
        refine AddPost2.early HT.out ?_ HB1.out
        rw [← HA.out]; unfold addG
        rw [if_pos]
        intro h
        rw [List.all_eq_true] at h
        have := h x (List.mem_of_getElem? HX.out)
        rw [HBP.out] at this; cases this
      · go_wp2
        go_roundw
        case rel =>
          refine ⟨i + 1, by go_num, HLT.out, fun y hy => ?_, HB1.out⟩
          rw [List.take_add_one, HX.out] at hy
          simp at hy
          rcases hy with hy | rfl
          · exact HPL.out y hy
          · exact HBP.out
        case measure => have := HLT.out; simp [intOf]; omega
    · obtain rfl : i = g.length := by omega
      have hlt' : ¬ (g.length : Int) < g.length := by omega
      rw [List.take_length] at hpl
      have HPL := Lib.hid hpl; have HBE := Lib.hid hbe
      clear hpl hbe hlt hi
      go_wp2
      go_loopw [33] (fun t33 wr => ∃ i : Nat, t33 = .int .i64 i ∧ i ≤ ids.length ∧ (∀ x ∈ ids.take i, inTab gs x = true) ∧ Below w0.heap.size w0 wr) (fun t33 _ => ids.length - (intOf t33).toNat)
      case atStart => exact ⟨0, rfl, Nat.zero_le _, by simp, HBE.out⟩
      case round =>
        obtain ⟨i, rfl, hi, hin, hbe⟩ := hrel
        by_cases hlt : i < ids.length
        · obtain ⟨x, hx⟩ : ∃ x, ids[i]? = some x := ⟨ids[i], by simp [hlt]⟩
          obtain ⟨b1, o1, e1, _, p0⟩ := IntsAt.at ((H1.out w0 (Upd.refl _ _)).below hbe (Nat.le_refl _)) hx
          subst e1
          have hlt' : (i : Int) < ids.length := by omega
          have hi6 : (i : Int) < 1000000 := by have := HL.out; omega
          have C := Lib.hid (has_any (HT.out.below hbe) x HOK.out.total)
          have HX := Lib.hid hx; have HLT := Lib.hid hlt; have HIN := Lib.hid hin; have HBE2 := Lib.hid hbe
          clear hx hlt hin hbe hi
          obtain ⟨bp, hbp⟩ : ∃ bp, (decide (0 ≤ x) && decide (x < total gs)) = bp := ⟨_, rfl⟩
          have HBP := Lib.hid hbp
          rw [hbp] at C
          clear hbp
          go_wp2_with fail
          refine C.out.mono ?_
          rintro e w1 ⟨rfl, rfl⟩
          cases bp
          · go_wp2
            go_ret2
            refine AddPost2.early HT.out ?_ HBE2.out
            rw [← HA.out]; unfold addG
            rw [if_neg (by simpa using HPL.out), if_pos]
            intro h
            rw [List.all_eq_true] at h
            have := h x (List.mem_of_getElem? HX.out)
            unfold inTab at this
            rw [HBP.out] at this; cases this
          · go_wp2
            go_roundw
            case rel =>
              refine ⟨i + 1, by go_num, HLT.out, fun y hy => ?_, HBE2.out⟩
              rw [List.take_add_one, HX.out] at hy
              simp at hy
              rcases hy with hy | rfl
              · exact HIN.out y hy
              · exact HBP.out
            case measure => have := HLT.out; simp [intOf]; omega
        · obtain rfl : i = ids.length := by omega
          have hlt' : ¬ (ids.length : Int) < ids.length := by omega
          rw [List.take_length] at hin
          have HIN := Lib.hid hin; have HBE2 := Lib.hid hbe
          clear hin hbe hlt hi HBE
          have hidr : ∀ i ∈ ids, 0 ≤ i ∧ i ≤ 10000 := fun i hi => by
            have h := HIN.out i hi
            have ht := HOK.out.total
            simp [inTab] at h; omega
          have C2 := Lib.hid (roll_any _ _ ids g wr ((H1.out w0 (Upd.refl _ _)).below HBE2.out (Nat.le_refl _)) (H2.out.below HBE2.out (Nat.le_refl _)) (by have := HL.out; omega) (by omega) HR.out.sm (fun x hx => plain_DS (HPL.out x hx)))
          have HG := Lib.hid (rollG_good hidr (by have := HL.out; omega) HR.out HPL.out)
          obtain ⟨rg, hrg⟩ : ∃ rg, rollG ids g = rg := ⟨_, rfl⟩
          rw [hrg] at C2 HG
          obtain ⟨rl, ro⟩ := rg
          dsimp only at C2 HG
          have HRG := Lib.hid hrg
          clear hrg hidr
          go_wp2_with fail
          refine C2.out.mono ?_
          rintro e w1 ⟨u1, rfl, hu1, hb1⟩
          have hbw1 : Below w0.heap.size w0 w1 := HBE2.out.trans (hb1.mono HBE2.out.size)
          have HBW1 := Lib.hid hbw1; have HU1 := Lib.hid hu1; have HB1 := Lib.hid hb1
          clear hbw1 hu1 hb1
          cases ro
          · go_wp2
            go_ret2
            refine AddPost2.early HT.out ?_ HBW1.out
            rw [← HA.out]; unfold addG
            rw [if_neg (by simpa using HPL.out), if_neg (by simpa using HIN.out), if_pos (by rw [HRG.out]; simp)]
          obtain ⟨au1, cu1, rfl⟩ := (HU1.out w1 (Upd.refl _ _)).form
          have C3 := Lib.hid (enter_any S R (fun k => wr.heap.size ≤ k ∧ k < w1.heap.size) w1 t (.slice au1 rl.length cu1) gs rl (HT.out.below HBW1.out) HOK.out HG.out (fun w' hu => HU1.out w' (hu.mono fun b hb hk => by omega)) (fun k hk => ⟨hk.2, fun hs => by have := (HT.out.lt k hs).1; have := HBE2.out.size; omega⟩) (HTAB.out.on HBW1.out))
          obtain ⟨E, hE⟩ : ∃ E, enterG gs rl = E := ⟨_, rfl⟩
          have hE0 := enterG_first (gs := gs) (g := rl)
          have hE1 := enterG_le (g := rl) HOK.out
          rw [hE] at C3 hE0 hE1
          obtain ⟨first, er, gs2⟩ := E
          dsimp only at C3 hE0 hE1
          have HE := Lib.hid hE
          clear hE
          go_wp2_with fail
          refine C3.out.mono ?_
          rintro e w2 ⟨rfl, S2, R2, ht2, hup2, hfr2, hrr2⟩
          have HT2 := Lib.hid ht2; have HUP2 := Lib.hid hup2; have HFR2 := Lib.hid hfr2
          clear ht2 hup2 hfr2
          have hupd : Upd S w0 w2 := (Upd.of_below HBW1.out : Upd S w0 w1).trans' HUP2.out
          have HUPD := Lib.hid hupd
          have hfr : Fresh S w0 S2 := fun k hk => (HFR2.out k hk).imp id (fun h => Nat.le_trans HBW1.out.size h)
          have HFR := Lib.hid hfr
          have hrr : Fresh R w0 R2 := fun k hk => (hrr2 k hk).imp id (fun h => Nat.le_trans HBE2.out.size h.1)
          have HRR := Lib.hid hrr
          clear hupd hfr hrr hrr2
          by_cases her : er = 0
          · subst her
            have hint2 := H1.out w2 HUPD.out
            have C4 := Lib.hid (cloneInts_any _ ids w2 hint2 (by have := HL.out; omega))
            clear hint2
            go_wp2_with fail
            refine C4.out.mono ?_
            rintro e w3 ⟨u3, rfl, o3, hb3⟩
            have O3 := Lib.hid o3; have HB3 := Lib.hid hb3
            clear o3 hb3
            go_wp2
            go_loopw [16, 63] (fun t16 t63 wr => ∃ j : Nat, t63 = .int .i64 j ∧ j ≤ g.length ∧ wr.ownsRow w2.heap.size 3 1 t16 (ids.length + j) ((ids ++ (List.range j).map (fun k : Nat => first + (k : Int))).map (Value.int .i64)) ∧ Below w2.heap.size w2 wr) (fun _ t63 _ => g.length - (intOf t63).toNat)
            case atStart => exact ⟨0, rfl, Nat.zero_le _, by simpa using O3.out, HB3.out⟩
            case round =>
              obtain ⟨j, rfl, hj, ho, hbe⟩ := hrel
              by_cases hlt : j < g.length
              · obtain ⟨ao, co, rfl, _⟩ := ownsRow_form ho
                have hlt' : (j : Int) < g.length := by omega
                have hj6 : (j : Int) < 1000000 := by omega
                have HR2 := Lib.hid (row_cells (cs := [.int .i64 (first + (j : Int))]) (heap_alloc_at wr (.cells #[.int .i64 (first + (j : Int))] 3) rfl))
                have HO := Lib.hid ho; have HBE3 := Lib.hid hbe; have HLT := Lib.hid hlt
                clear ho hbe hlt hj
                go_wp2_with (at_builtin; refine wpList_append_own2 _ rfl _ _ 36 rfl w2.heap.size 3 i1 _ 1 8 Tryz.underlying36 Hi'.out Hz0'.out Hz1'.out Hz2'.out rfl (by decide) _ _ _ rfl (HO.out.alloc _) ⟨wr.heap.size, 0, none⟩ 1 1 [.int .i64 (first + (j : Int))] rfl rfl HR2.out (by intro u hu; simp at hu; rcases hu with rfl; rfl) (by have := HL.out; unfold maxLen; omega) (by have := HL.out; omega) (by have := HBE3.out.size; simp; omega) (by decide) ?_)
                intro v5 w5 o5 gr5 mv5
                have hb5 : Below w2.heap.size w2 w5 := (HBE3.out.alloc HBE3.out.size _).grown gr5 (by have := HBE3.out.size; simp; omega) (fun k hk => (HO.out.lt k hk).1)
                have O5 := Lib.hid o5; have HB5 := Lib.hid hb5
                clear o5 gr5 mv5 hb5
                go_wp2
                go_roundw
                case rel =>
                  refine ⟨j + 1, by go_num, HLT.out, ?_, HB5.out⟩
                  have h := O5.out
                  rw [List.range_succ]
                  simpa [Nat.add_assoc] using h
                case measure => have := HLT.out; simp [intOf]; omega
              · obtain rfl : j = g.length := by omega
                have hlt' : ¬ (g.length : Int) < g.length := by omega
                have HO := Lib.hid ho; have HBE3 := Lib.hid hbe
                clear ho hbe hlt hj
                go_wp2
                go_ret2
                have hA : A = (ids ++ (List.range g.length).map (fun k : Nat => first + (k : Int)), 0, gs2) := by
                  rw [← HA.out]; unfold addG
                  rw [if_neg (by simpa using HPL.out), if_neg (by simpa using HIN.out), HRG.out, if_neg (by simp)]
                  dsimp only
                  rw [HE.out, if_neg (by simp)]
                subst hA
                have hus : Upd S2 w2 wr := Upd.of_below HBE3.out
                refine ⟨u16, S2, R2, rfl, HT2.out.below HBE3.out, fun w'' hu => ?_, HUPD.out.trans' (Upd.of_below HBE3.out), HFR.out, HRR.out⟩
                have h := ownsRow_upd HO.out hu (fun b hb hk => by have h1 := (HO.out.lt b hb).1; have h3 := HUPD.out.size; rcases hk with hk | hk <;> first | (have h2 := (HT2.out.lt b hk).1; omega) | omega)
                have h2 := RowAt.of_own h
                show RowAt w'' 1 u16 (ids ++ (List.range g.length).map (fun k : Nat => first + (k : Int))).length _
                rw [List.length_append, List.length_map, List.length_range]
                exact h2
          · have her' : (er == 0) = false := by simpa using her
            have her2 : (er != 0) = true := by simpa using her
            have HER := Lib.hid her
            clear her
            go_wp2
            go_ret2
            have hA : A = ([], er, gs) := by
              rw [← HA.out]; unfold addG
              rw [if_neg (by simpa using HPL.out), if_neg (by simpa using HIN.out), HRG.out, if_neg (by simp)]
              dsimp only
              rw [HE.out, if_pos HER.out]
            subst hA
            have hg2 : gs2 = gs := by have := enterG_err (gs := gs) (g := rl); rw [HE.out] at this; exact this HER.out
            have ht2 := HT2.out
            rw [hg2] at ht2
            exact ⟨_, S2, R2, rfl, ht2, fun w'' _ => RowAt.nil w'' 1, HUPD.out, HFR.out, HRR.out⟩
def AddPost (S R : Nat → Prop) (w : World) (t : Nat) (A : List Int × Int × List (List Sb)) (e : Ending) (w' : World) : Prop :=
  ∃ u S' R', e = .returned (.tuple #[u, .int .i64 A.2.1]) ∧ TabAt S' R' w' t A.2.2 ∧ (∀ w'', Upd S' w' w'' → IntsAt w'' u A.1) ∧ Upd S w w' ∧ Fresh S w S' ∧ Fresh R w R'
theorem add_any (S R : Nat → Prop) (w : World) (t : Nat) (v1 v2 : Value) (gs : List (List Sb)) (ids : List Int) (g : List Sb) (ht : TabAt S R w t gs) (hok : TabOk gs) (h1 : ∀ w', Upd S w w' → IntsAt w' v1 ids) (hl : ids.length ≤ 100000) (h2 : GrpAt w v2 g) (hr : RawG g) (htab : Tab w) :
    Calls Tryz.prog 9 #[.pointer (some ⟨t, 0, none⟩), v1, v2] w (AddPost S R w t (addG gs ids g)) := by
  refine (add_any2 S R w t v1 v2 gs ids g ht hok h1 hl h2 hr htab).mono ?_
  rintro e w' ⟨u, S', R', he, h3, h4, h5⟩
  exact ⟨u, S', R', he, h3, fun w'' hu => h4 w'' (hu.mono fun _ _ h => .inl h), h5⟩
end Go.Proofs.YtoamhiaagaaaaaaGreatDoor

/- package kind: which types are the same. -/
namespace Go.Proofs.YtoamhiaagaaaaaaGreatDoor
open Go.RowKit

theorem drewN_drewN (w : World) (a b : Nat) : (w.drewN a).drewN b = w.drewN (a + b) := by
  simp [World.drewN, Nat.add_assoc]
theorem RowAt.drewN {w : World} {c n : Nat} {v : Value} {xs : List Value} (h : RowAt w c v n xs) (k : Nat) : RowAt (w.drewN k) c v n xs := h.keep fun _ _ h => h
theorem retd {p : Prop} [Decidable p] {b : Bool} (h : decide p = b) : Ending.returned (.bool b) = .returned (.bool (decide p)) := by rw [h]
theorem get_ne {α : Type} {l m : List α} {i : Nat} {x y : α} (hx : l[i]? = some x) (hy : m[i]? = some y) (h : x ≠ y) : l ≠ m := fun e => h (by rw [e] at hx; rw [hx] at hy; exact Option.some.inj hy)
theorem take_eq {α : Type} {l m : List α} {i : Nat} {x : α} (hx : l[i]? = some x) (hy : m[i]? = some x) (h : l.take i = m.take i) : l.take (i + 1) = m.take (i + 1) := by
  rw [List.take_add_one, List.take_add_one, h, hx, hy]
set_option maxRecDepth 100000 in
set_option maxHeartbeats 4000000 in
theorem equalH_any (a b : Value) (l m : List Hp) (w : World) (ha : HpsAt w a l) (hb : HpsAt w b m) (hl : l.length ≤ 1000000) (_ : m.length ≤ 1000000) :
    Calls Tryz.prog 81 #[a, b] w fun e w' => e = .returned (.bool (decide (l = m))) ∧ ∃ n, w' = w.drewN n := by
  obtain ⟨ao, ca, rfl⟩ := RowAt.form ha
  obtain ⟨bo, cb, rfl⟩ := RowAt.form hb
  by_cases hlen : l.length = m.length
  · obtain ⟨n, hn⟩ : ∃ n, l.length = n := ⟨_, rfl⟩
    have hn2 : m.length = n := by rw [← hlen]; exact hn
    have HA := Lib.hid ha; have HB := Lib.hid hb; have HN := Lib.hid hn; have HN2 := Lib.hid hn2
    rw [hn] at hl
    rw [hn, hn2]
    have HL := Lib.hid hl
    clear ha hb hlen hn hn2 hl
    go_enter Tryz.func81, Tryz.ntmps81
    go_wp2
    go_loopw [5, 13] (fun _ t13 wr => ∃ i : Nat, i ≤ n ∧ t13 = .int .i64 i ∧ l.take i = m.take i ∧ ∃ k, wr = w.drewN k) (fun _ t13 _ => n - (intOf t13).toNat)
    case atStart => exact ⟨0, by omega, rfl, rfl, 0, rfl⟩
    case round =>
      obtain ⟨i, hi, rfl, htk, nd, rfl⟩ := hrel
      have HT := Lib.hid htk
      clear htk
      by_cases hlt : i < n
      · obtain ⟨x, hx⟩ : ∃ x, l[i]? = some x := ⟨l[i]'(by rw [HN.out]; exact hlt), by simp⟩
        obtain ⟨y, hy⟩ : ∃ y, m[i]? = some y := ⟨m[i]'(by rw [HN2.out]; exact hlt), by simp⟩
        obtain ⟨x0, x1⟩ := x
        obtain ⟨y0, y1⟩ := y
        obtain ⟨b1, o1, e1, _, p0, p1⟩ := hps_at HA.out hx
        obtain ⟨b2, o2, e2, _, q0, q1⟩ := hps_at HB.out hy
        subst e1 e2
        dsimp only at p0 p1 q0 q1
        have HX := Lib.hid hx; have HY := Lib.hid hy; have HI := Lib.hid hlt
        have hlt' : (i : Int) < n := by omega
        have HI6 := Lib.hid (show (i : Int) < 1000000 by have := HL.out; omega)
        clear hx hy hlt hi
        by_cases e0 : x0 = y0
        · subst e0
          by_cases e1 : x1 = y1
          · subst e1
            have HX2 := Lib.hid (take_eq HX.out HY.out HT.out)
            have hi6 := HI6.out
            go_wp2
            go_quiet (fail)
            go_wp2
            go_roundw
            case rel => exact ⟨i + 1, HI.out, by go_num, HX2.out, _, rfl⟩
            case measure => have := HI.out; simp [intOf]; omega
          · have NE := Lib.hid (get_ne HX.out HY.out (fun e => e1 (by simp at e; simp [e])))
            go_wp2
            go_quiet (fail)
            go_wp2
            go_ret
            exact ⟨retd (decide_eq_false NE.out), _, drewN_drewN _ _ _⟩
        · have NE := Lib.hid (get_ne HX.out HY.out (fun e => e0 (by simp at e; simp [e])))
          go_wp2
          go_quiet (fail)
          go_wp2
          go_ret
          exact ⟨retd (decide_eq_false NE.out), _, drewN_drewN _ _ _⟩
      · obtain rfl : i = n := by omega
        have hlt' : ¬ (i : Int) < i := by omega
        have hlm : l = m := by have := HT.out; rw [List.take_of_length_le (by rw [HN.out]; exact Nat.le_refl _), List.take_of_length_le (by rw [HN2.out]; exact Nat.le_refl _)] at this; exact this
        have EQ := Lib.hid hlm
        clear hlm hlt hi
        go_wp2
        go_ret
        exact ⟨retd (decide_eq_true EQ.out), _, rfl⟩
  · have hne : l ≠ m := fun e => hlen (by rw [e])
    have h1 : ((l.length : Int) != (m.length : Int)) = true := by simpa using fun h => hlen (by omega)
    have NE := Lib.hid hne
    clear hne ha hb hlen
    go_enter Tryz.func81, Tryz.ntmps81
    go_wp2
    go_ret
    exact ⟨retd (decide_eq_false NE.out), 0, rfl⟩
set_option maxRecDepth 100000 in
set_option maxHeartbeats 4000000 in
theorem equalV_any (a b : Value) (l m : List Vl) (w : World) (ha : ValsAt w a l) (hb : ValsAt w b m) (hl : l.length ≤ 1000000) (_ : m.length ≤ 1000000) :
    Calls Tryz.prog 111 #[a, b] w fun e w' => e = .returned (.bool (decide (l = m))) ∧ ∃ n, w' = w.drewN n := by
  obtain ⟨ao, ca, rfl⟩ := RowAt.form ha
  obtain ⟨bo, cb, rfl⟩ := RowAt.form hb
  by_cases hlen : l.length = m.length
  · obtain ⟨n, hn⟩ : ∃ n, l.length = n := ⟨_, rfl⟩
    have hn2 : m.length = n := by rw [← hlen]; exact hn
    have HA := Lib.hid ha; have HB := Lib.hid hb; have HN := Lib.hid hn; have HN2 := Lib.hid hn2
    rw [hn] at hl
    rw [hn, hn2]
    have HL := Lib.hid hl
    clear ha hb hlen hn hn2 hl
    go_enter Tryz.func111, Tryz.ntmps111
    go_wp2
    go_loopw [5, 13] (fun _ t13 wr => ∃ i : Nat, i ≤ n ∧ t13 = .int .i64 i ∧ l.take i = m.take i ∧ ∃ k, wr = w.drewN k) (fun _ t13 _ => n - (intOf t13).toNat)
    case atStart => exact ⟨0, by omega, rfl, rfl, 0, rfl⟩
    case round =>
      obtain ⟨i, hi, rfl, htk, nd, rfl⟩ := hrel
      have HT := Lib.hid htk
      clear htk
      by_cases hlt : i < n
      · obtain ⟨x, hx⟩ : ∃ x, l[i]? = some x := ⟨l[i]'(by rw [HN.out]; exact hlt), by simp⟩
        obtain ⟨y, hy⟩ : ∃ y, m[i]? = some y := ⟨m[i]'(by rw [HN2.out]; exact hlt), by simp⟩
        obtain ⟨x0, x1, x2, x3⟩ := x
        obtain ⟨y0, y1, y2, y3⟩ := y
        obtain ⟨b1, o1, e1, _, p0, p1, p2, p3⟩ := vals_at HA.out hx
        obtain ⟨b2, o2, e2, _, q0, q1, q2, q3⟩ := vals_at HB.out hy
        subst e1 e2
        dsimp only at p0 p1 p2 p3 q0 q1 q2 q3
        have HX := Lib.hid hx; have HY := Lib.hid hy; have HI := Lib.hid hlt
        have hlt' : (i : Int) < n := by omega
        have HI6 := Lib.hid (show (i : Int) < 1000000 by have := HL.out; omega)
        clear hx hy hlt hi
        by_cases e0 : x0 = y0
        · subst e0
          by_cases e1 : x1 = y1
          · subst e1
            by_cases e2 : x2 = y2
            · subst e2
              by_cases e3 : x3 = y3
              · subst e3
                have HX2 := Lib.hid (take_eq HX.out HY.out HT.out)
                have hi6 := HI6.out
                go_wp2
                go_quiet (fail)
                go_wp2
                go_roundw
                case rel => exact ⟨i + 1, HI.out, by go_num, HX2.out, _, rfl⟩
                case measure => have := HI.out; simp [intOf]; omega
              · have NE := Lib.hid (get_ne HX.out HY.out (fun e => e3 (by simp at e; simp [e])))
                go_wp2
                go_quiet (fail)
                go_wp2
                go_ret
                exact ⟨retd (decide_eq_false NE.out), _, drewN_drewN _ _ _⟩
            · have NE := Lib.hid (get_ne HX.out HY.out (fun e => e2 (by simp at e; simp [e])))
              go_wp2
              go_quiet (fail)
              go_wp2
              go_ret
              exact ⟨retd (decide_eq_false NE.out), _, drewN_drewN _ _ _⟩
          · have NE := Lib.hid (get_ne HX.out HY.out (fun e => e1 (by simp at e; simp [e])))
            go_wp2
            go_quiet (fail)
            go_wp2
            go_ret
            exact ⟨retd (decide_eq_false NE.out), _, drewN_drewN _ _ _⟩
        · have NE := Lib.hid (get_ne HX.out HY.out (fun e => e0 (by simp at e; simp [e])))
          go_wp2
          go_quiet (fail)
          go_wp2
          go_ret
          exact ⟨retd (decide_eq_false NE.out), _, drewN_drewN _ _ _⟩
      · obtain rfl : i = n := by omega
        have hlt' : ¬ (i : Int) < i := by omega
        have hlm : l = m := by have := HT.out; rw [List.take_of_length_le (by rw [HN.out]; exact Nat.le_refl _), List.take_of_length_le (by rw [HN2.out]; exact Nat.le_refl _)] at this; exact this
        have EQ := Lib.hid hlm
        clear hlm hlt hi
        go_wp2
        go_ret
        exact ⟨retd (decide_eq_true EQ.out), _, rfl⟩
  · have hne : l ≠ m := fun e => hlen (by rw [e])
    have h1 : ((l.length : Int) != (m.length : Int)) = true := by simpa using fun h => hlen (by omega)
    have NE := Lib.hid hne
    clear hne ha hb hlen
    go_enter Tryz.func111, Tryz.ntmps111
    go_wp2
    go_ret
    exact ⟨retd (decide_eq_false NE.out), 0, rfl⟩
set_option maxRecDepth 100000 in
set_option maxHeartbeats 4000000 in
theorem equalF_any (a b : Value) (l m : List Fl) (w : World) (ha : FlsAt w a l) (hb : FlsAt w b m) (hl : l.length ≤ 1000000) (_ : m.length ≤ 1000000) :
    Calls Tryz.prog 83 #[a, b] w fun e w' => e = .returned (.bool (decide (l = m))) ∧ ∃ n, w' = w.drewN n := by
  obtain ⟨ao, ca, rfl⟩ := RowAt.form ha
  obtain ⟨bo, cb, rfl⟩ := RowAt.form hb
  by_cases hlen : l.length = m.length
  · obtain ⟨n, hn⟩ : ∃ n, l.length = n := ⟨_, rfl⟩
    have hn2 : m.length = n := by rw [← hlen]; exact hn
    have HA := Lib.hid ha; have HB := Lib.hid hb; have HN := Lib.hid hn; have HN2 := Lib.hid hn2
    rw [hn] at hl
    rw [hn, hn2]
    have HL := Lib.hid hl
    clear ha hb hlen hn hn2 hl
    go_enter Tryz.func83, Tryz.ntmps83
    go_wp2
    go_loopw [5, 13] (fun _ t13 wr => ∃ i : Nat, i ≤ n ∧ t13 = .int .i64 i ∧ l.take i = m.take i ∧ ∃ k, wr = w.drewN k) (fun _ t13 _ => n - (intOf t13).toNat)
    case atStart => exact ⟨0, by omega, rfl, rfl, 0, rfl⟩
    case round =>
      obtain ⟨i, hi, rfl, htk, nd, rfl⟩ := hrel
      have HT := Lib.hid htk
      clear htk
      by_cases hlt : i < n
      · obtain ⟨x, hx⟩ : ∃ x, l[i]? = some x := ⟨l[i]'(by rw [HN.out]; exact hlt), by simp⟩
        obtain ⟨y, hy⟩ : ∃ y, m[i]? = some y := ⟨m[i]'(by rw [HN2.out]; exact hlt), by simp⟩
        obtain ⟨x0, ⟨x1, x2, x3, x4⟩, x5⟩ := x
        obtain ⟨y0, ⟨y1, y2, y3, y4⟩, y5⟩ := y
        obtain ⟨b1, o1, e1, _, p0, p1, p2, p3, p4, p5⟩ := fls_at HA.out hx
        obtain ⟨b2, o2, e2, _, q0, q1, q2, q3, q4, q5⟩ := fls_at HB.out hy
        subst e1 e2
        dsimp only at p0 p1 p2 p3 p4 p5 q0 q1 q2 q3 q4 q5
        have HX := Lib.hid hx; have HY := Lib.hid hy; have HI := Lib.hid hlt
        have hlt' : (i : Int) < n := by omega
        have HI6 := Lib.hid (show (i : Int) < 1000000 by have := HL.out; omega)
        clear hx hy hlt hi
        by_cases e0 : x0 = y0
        · subst e0
          by_cases e1 : x1 = y1
          · subst e1
            by_cases e2 : x2 = y2
            · subst e2
              by_cases e3 : x3 = y3
              · subst e3
                by_cases e4 : x4 = y4
                · subst e4
                  by_cases e5 : x5 = y5
                  · subst e5
                    have HX2 := Lib.hid (take_eq HX.out HY.out HT.out)
                    have hi6 := HI6.out
                    go_wp2
                    go_quiet (fail)
                    go_wp2
                    go_roundw
                    case rel => exact ⟨i + 1, HI.out, by go_num, HX2.out, _, rfl⟩
                    case measure => have := HI.out; simp [intOf]; omega
                  · have NE := Lib.hid (get_ne HX.out HY.out (fun e => e5 (by simp at e; simp [e])))
                    go_wp2
                    go_quiet (fail)
                    go_wp2
                    go_ret
                    exact ⟨retd (decide_eq_false NE.out), _, drewN_drewN _ _ _⟩
                · have NE := Lib.hid (get_ne HX.out HY.out (fun e => e4 (by simp at e; simp [e])))
                  go_wp2
                  go_quiet (fail)
                  go_wp2
                  go_ret
                  exact ⟨retd (decide_eq_false NE.out), _, drewN_drewN _ _ _⟩
              · have NE := Lib.hid (get_ne HX.out HY.out (fun e => e3 (by simp at e; simp [e])))
                go_wp2
                go_quiet (fail)
                go_wp2
                go_ret
                exact ⟨retd (decide_eq_false NE.out), _, drewN_drewN _ _ _⟩
            · have NE := Lib.hid (get_ne HX.out HY.out (fun e => e2 (by simp at e; simp [e])))
              go_wp2
              go_quiet (fail)
              go_wp2
              go_ret
              exact ⟨retd (decide_eq_false NE.out), _, drewN_drewN _ _ _⟩
          · have NE := Lib.hid (get_ne HX.out HY.out (fun e => e1 (by simp at e; simp [e])))
            go_wp2
            go_quiet (fail)
            go_wp2
            go_ret
            exact ⟨retd (decide_eq_false NE.out), _, drewN_drewN _ _ _⟩
        · have NE := Lib.hid (get_ne HX.out HY.out (fun e => e0 (by simp at e; simp [e])))
          go_wp2
          go_quiet (fail)
          go_wp2
          go_ret
          exact ⟨retd (decide_eq_false NE.out), _, drewN_drewN _ _ _⟩
      · obtain rfl : i = n := by omega
        have hlt' : ¬ (i : Int) < i := by omega
        have hlm : l = m := by have := HT.out; rw [List.take_of_length_le (by rw [HN.out]; exact Nat.le_refl _), List.take_of_length_le (by rw [HN2.out]; exact Nat.le_refl _)] at this; exact this
        have EQ := Lib.hid hlm
        clear hlm hlt hi
        go_wp2
        go_ret
        exact ⟨retd (decide_eq_true EQ.out), _, rfl⟩
  · have hne : l ≠ m := fun e => hlen (by rw [e])
    have h1 : ((l.length : Int) != (m.length : Int)) = true := by simpa using fun h => hlen (by omega)
    have NE := Lib.hid hne
    clear hne ha hb hlen
    go_enter Tryz.func83, Tryz.ntmps83
    go_wp2
    go_ret
    exact ⟨retd (decide_eq_false NE.out), 0, rfl⟩
theorem sameVals_any (a b : Value) (l m : List Vl) (w : World) (ha : ValsAt w a l) (hb : ValsAt w b m) (hl : l.length ≤ 1000000) (hm : m.length ≤ 1000000) :
    Calls Tryz.prog 82 #[a, b] w fun e w' => e = .returned (.bool (decide (l = m))) ∧ ∃ n, w' = w.drewN n := by
  go_enter Tryz.func82, Tryz.ntmps82
  go_wp2_with fail
  refine (equalV_any a b l m w ha hb hl hm).mono ?_
  rintro e w' ⟨rfl, n, rfl⟩
  go_wp2
  go_ret
  exact ⟨rfl, n, rfl⟩
end Go.Proofs.YtoamhiaagaaaaaaGreatDoor
