/- geodelaw12: DeclParts walked. -/
import Derived.Test.YtkgmfbfpmlnfcaaGreatDoorQDcGreatWP
import Derived.Deep.Cut
import Derived.Deep.CutRange
import Derived.Deep.RegionHeldLaw
namespace Go.Proofs.YtkgmfbfpmlnfcaaGreatDoor
open Go.RowKit Go.Maps Go.WideMaps

theorem sizeD_len (l : List (List Sb)) : l.length ≤ sizeD l ∧ (l.map List.length).sum ≤ sizeD l := by
  induction l with
  | nil => exact ⟨Nat.le_refl _, Nat.le_refl _⟩
  | cons g l ih =>
    have e : sizeD (g :: l) = (1 + g.length) + sizeD l := by simp [sizeD]
    rw [e, List.length_cons, List.map_cons, List.sum_cons]
    omega
/-- Where the numbers of a module's types are told. -/
theorem GrpsAt.take {w : World} {ao : Option Addr} {cap : Nat} {l : List (List Sb)} (h : GrpsAt w (.slice ao l.length cap) l) (k : Nat) (hk : k ≤ l.length) : GrpsAt w (.slice ao k cap) (l.take k) := by
  obtain ⟨vs, h1, ⟨h2, h3⟩, h4⟩ := h.ex
  have hl : (l.take k).length = k := by rw [List.length_take]; omega
  refine ⟨vs.take k, by rw [List.length_take, List.length_take, h1], ⟨by rw [List.length_take, hl]; omega, ?_⟩, fun i x g hx hg => ?_⟩
  · rcases h3 with ⟨e, h0⟩ | ⟨a, c, e, hle, hc⟩
    · simp only [Value.slice.injEq] at e
      obtain ⟨rfl, _, rfl⟩ := e
      have : k = 0 := by omega
      subst this
      exact .inl ⟨rfl, hl⟩
    · simp only [Value.slice.injEq] at e
      obtain ⟨rfl, _, rfl⟩ := e
      refine .inr ⟨a, cap, by rw [hl], by rw [hl]; omega, fun j u hj => hc j u ?_⟩
      have hj2 := (List.getElem?_eq_some_iff.1 hj).1
      rw [List.length_take] at hj2
      rwa [List.getElem?_take_of_lt (by omega)] at hj
  · have hi := (List.getElem?_eq_some_iff.1 hx).1
    rw [List.length_take] at hi
    rw [List.getElem?_take_of_lt (by omega)] at hx hg
    exact h4 i x g hx hg
/-- A check over a new table. -/
theorem checkNew_any {w wN : World} {t : Nat} {S : Nat → Prop} (hT : TabN w S (fun _ => False) wN t []) (v : Value) (l : List (List Sb)) (hg : GrpsK S wN v l) (ok : OkD l) (hf : ∀ g ∈ l, ∀ x ∈ g, Small x → Fits x) (htab : Tab w) :
    Calls Tryz.prog 7 #[.pointer (some ⟨t, 0, none⟩), v] wN (CheckP w S (fun _ => False) wN t (checkD (dc0 []) l)) := by
  have h1 := sizeD_len l
  have h2 := ok.size
  exact check_any v l hT tabC_nil hg (ok.raw hf) (by omega) (by omega) htab
/-- What is left behind it. -/
theorem CheckP.out {w wN w' : World} {t : Nat} {S : Nat → Prop} {A : Int × Nat × DcS} {e : Ending} (hT : TabN w S (fun _ => False) wN t []) (h : CheckP w S (fun _ => False) wN t A e w') : ∃ (ao : Option Addr) (n cap : Nat) (il : List Int), e = .returned (.tuple #[.slice ao n cap, .int .i64 A.1, .int .i64 A.2.1]) ∧ n = il.length ∧ Below w.heap.size wN w' ∧ (∀ w'', Below w'.heap.size w' w'' → IntsAt w'' (.slice ao n cap) il) ∧ (A.1 = 0 → il = A.2.2.ids) := by
  obtain ⟨u, S', R', he, ht, hc, hi, hup, _, _⟩ := h
  obtain ⟨ao, cap, rfl⟩ := RowAt.form (hi w' (Upd.refl _ _))
  exact ⟨ao, _, cap, _, he, rfl, hup.below hT.base hT.be.size, fun w'' hb => hi w'' (Upd.of_below hb), fun h => if_pos h⟩
theorem sum_take_step {l : List (List Sb)} {k : Nat} {g : List Sb} (h : l[k]? = some g) : ((l.take (k + 1)).map List.length).sum = ((l.take k).map List.length).sum + g.length := by
  rw [List.take_add_one, h]; simp
theorem Tryz.infoGrp : (Tryz.prog.info? 32).map (fun i => (i.zero, i.size, i.bytes)) = some (some (.slice none 0 0), 1, 24) := by kernel_rfl
/-- Two lists of groups, one behind the other in a new row. -/
theorem grpsK_app {S : Nat → Prop} {w w' : World} {v : Value} {l m : List (List Sb)} {vs us : List Value} {B : Nat} (h1 : vs.length = l.length) (h2 : us.length = m.length) (k1 : ∀ (i : Nat) x g, vs[i]? = some x → l[i]? = some g → GrpAt w x g) (k2 : ∀ (i : Nat) x g, us[i]? = some x → m[i]? = some g → GrpAt w x g)
    (hb : Below w.heap.size w w') (hS : ∀ b, S b → w.heap.size ≤ b ∧ b < B) {n : Nat} (hn : n = (l ++ m).length) (ho : w'.ownsRow B 32 1 v n (vs ++ us)) : GrpsK S w' v (l ++ m) := by
  subst hn
  refine ⟨vs ++ us, by simp [h1, h2], fun w'' hu => RowAt.of_own (ownsRow_upd ho hu (fun b hb' q => by have := (ho.lt b hb').1; have := (hS b q).2; omega)), fun i x g hx hg => ?_⟩
  refine GrpK.of ?_ hb (fun b q => (hS b q).1)
  by_cases hlt : i < vs.length
  · rw [List.getElem?_append_left hlt] at hx
    rw [List.getElem?_append_left (by omega)] at hg
    exact k1 i x g hx hg
  · rw [List.getElem?_append_right (by omega)] at hx hg
    exact k2 _ x g hx (by rw [h1]; exact hg)
theorem grps_one {w : World} {vs : List Value} {l : List (List Sb)} (h1 : vs.length = l.length) (k1 : ∀ (i : Nat) x g, vs[i]? = some x → l[i]? = some g → GrpAt w x g) : ∀ u ∈ vs, u.oneCell' = true := fun u hu => by
  obtain ⟨i, hi⟩ := List.getElem?_of_mem hu
  obtain ⟨g, hg⟩ : ∃ g, l[i]? = some g := ⟨l[i]'(by have := (List.getElem?_eq_some_iff.1 hi).1; omega), by simp⟩
  obtain ⟨a, c, rfl⟩ := (k1 i u g hi hg).form
  rfl
def PartsP (w : World) (e : Ending) (w' : World) : Prop := e = .returned (.bool true) ∧ Below w.heap.size w w'
set_option maxRecDepth 100000 in
set_option maxHeartbeats 32000000 in
theorem declParts_any (v1 v2 : Value) (l m : List (List Sb)) (w : World) (h1 : GrpsAt w v1 l) (h2 : GrpsAt w v2 m) (n1 : ∀ g ∈ l, g.length ≤ 2000000000000) (n2 : ∀ g ∈ m, g.length ≤ 2000000000000) (f1 : ∀ g ∈ l, ∀ x ∈ g, Small x → Fits x) (f2 : ∀ g ∈ m, ∀ x ∈ g, Small x → Fits x) (htab : Tab w) :
    Calls Tryz.prog 3 #[v1, v2] w (PartsP w) := by
  obtain ⟨a1, c1, rfl⟩ := h1.form
  obtain ⟨a2, c2, rfl⟩ := h2.form
  obtain ⟨nl, hnl⟩ : ∃ n, l.length = n := ⟨_, rfl⟩
  obtain ⟨nm, hnm⟩ : ∃ n, m.length = n := ⟨_, rfl⟩
  have C0 := Lib.hid (known12_any w htab)
  have H1 := Lib.hid h1; have H2 := Lib.hid h2; have N1 := Lib.hid n1; have N2 := Lib.hid n2; have F1 := Lib.hid f1; have F2 := Lib.hid f2; have HTAB := Lib.hid htab; have HNL := Lib.hid hnl; have HNM := Lib.hid hnm
  rw [hnl, hnm]
  clear h1 h2 n1 n2 f1 f2 htab hnl hnm
  go_enter Tryz.func3, Tryz.ntmps3
  go_wp2_with fail
  refine C0.out.mono ?_
  rintro e w1 ⟨rfl, hb1⟩
  have C1 := great12_any _ l w1 (H1.out.below hb1 (Nat.le_refl _)) N1.out
  rw [HNL.out] at C1
  have C1 := Lib.hid C1; have HB1 := Lib.hid hb1
  clear hb1
  go_wp2_with fail
  refine C1.out.mono ?_
  rintro e w2 ⟨r1, rfl, ok1, hb2⟩
  have hbe2 : Below w.heap.size w w2 := HB1.out.trans (hb2.mono HB1.out.size)
  have C2 := great12_any _ m w2 (H2.out.below hbe2 (Nat.le_refl _)) N2.out
  rw [HNM.out] at C2
  have C2 := Lib.hid C2; have HBE2 := Lib.hid hbe2; have OK1 := Lib.hid ok1
  clear hb2 hbe2 ok1
  cases r1
  · go_wp2_with fail
    refine C2.out.mono ?_
    rintro e w3 ⟨r2, rfl, ok2, hb3⟩
    have hbe3 : Below w.heap.size w w3 := HBE2.out.trans (hb3.mono HBE2.out.size)
    have HBE3 := Lib.hid hbe3; have OK2 := Lib.hid ok2
    clear hb3 hbe3 ok2 C2
    cases r2
    · have ok1 := OK1.out (by first | trivial | rfl)
      have ok2 := OK2.out (by first | trivial | rfl)
      have hl6 : nl ≤ 150 := by have := (sizeD_len l).1; have := ok1.size; have := HNL.out; omega
      have hm6 : nm ≤ 150 := by have := (sizeD_len m).1; have := ok2.size; have := HNM.out; omega
      have HOK1 := Lib.hid ok1; have HOK2 := Lib.hid ok2; have HL6 := Lib.hid hl6; have HM6 := Lib.hid hm6
      clear ok1 ok2 OK1 OK2 hl6 hm6
      go_wp2_with fail
      refine (new_any _).mono ?_
      rintro e w4 ⟨t, S, rfl, hta, hba, hbe4⟩
      have hT := tabN_new hta hba hbe4
      have C3 := checkNew_any hT _ l (GrpsK.of H1.out (HBE3.out.trans (hbe4.mono HBE3.out.size)) (fun b hb => Nat.le_trans HBE3.out.size (hba b hb))) HOK1.out F1.out (HTAB.out.on HBE3.out)
      obtain ⟨A, hA⟩ : ∃ A, checkD (dc0 []) l = A := ⟨_, rfl⟩
      rw [hA, HNL.out] at C3
      have C3 := Lib.hid C3; have HT := Lib.hid hT; have HA := Lib.hid hA; have HBE4 := Lib.hid (HBE3.out.trans (hbe4.mono HBE3.out.size))
      have HA' := Lib.hid hA
      clear hta hba hbe4 hT hA
      go_wp2_with fail
      refine C3.out.mono ?_
      intro e w5 hcp
      obtain ⟨au, un, cu, il, rfl, hun, hb5, hi5, hil⟩ := hcp.out HT.out
      have hbe5 : Below w.heap.size w w5 := HBE4.out.trans (hb5.mono HBE3.out.size)
      have HBE5 := Lib.hid hbe5; have HI5 := Lib.hid hi5; have HUN := Lib.hid hun; have HIL := Lib.hid hil
      clear hcp hb5 hbe5 hi5 hun hil C3
      go_wp2_with fail
      have HPL2 := Lib.hid (show A.1 = 0 → il.length = (l.map List.length).sum from fun q => by
        have h := (parts_law l (dc0 []) l.length (Nat.le_refl _)).2
        rw [List.take_length, HA'.out] at h
        have h2 := (h q).1
        rw [HIL.out q]
        simpa [dc0] using h2)
      have PL := Lib.hid (show ∀ k, k ≤ l.length → ((checkD (dc0 []) (l.take k)).1 ≠ 0 → A.1 = (checkD (dc0 []) (l.take k)).1 ∧ A.2.1 = (checkD (dc0 []) (l.take k)).2.1) ∧ ((checkD (dc0 []) (l.take k)).1 = 0 → (checkD (dc0 []) (l.take k)).2.2.ids.length = ((l.take k).map List.length).sum ∧ (A.1 = 0 → ∃ r, A.2.2.ids = (checkD (dc0 []) (l.take k)).2.2.ids ++ r)) from fun k hk => by
        have h := parts_law l (dc0 []) k hk
        rw [HA'.out] at h
        simpa [dc0] using h)
      go_loopw [8, 9] (fun t8 t9 wr => ∃ k : Nat, t8 = .int .i64 (((l.take k).map List.length).sum : Nat) ∧ t9 = .int .i64 k ∧ k ≤ nl + 1 ∧ Below w5.heap.size w5 wr) (fun _ t9 _ => nl + 1 - (intOf t9).toNat)
      case atStart => exact ⟨0, rfl, rfl, Nat.zero_le _, Below.refl _ _⟩
      case round =>
        obtain ⟨k, rfl, rfl, hk, hbr⟩ := hrel
        have hbw : Below w.heap.size w wr := HBE5.out.trans (hbr.mono HBE5.out.size)
        obtain ⟨sm, hsm⟩ : ∃ sm, ((l.take k).map List.length).sum = sm := ⟨_, rfl⟩
        rw [hsm]
        by_cases hlt : k ≤ nl
        · have hlt' : (k : Int) ≤ nl := by omega
          have hk6 : (k : Int) ≤ 150 := by have := HL6.out; omega
          have hsm6 : sm ≤ 150 := by
            have h1 := (sizeD_len (l.take k)).2
            have h2 := (HOK1.out.take k).size
            omega
          obtain ⟨B, hB⟩ : ∃ B, checkD (dc0 []) (l.take k) = B := ⟨_, rfl⟩
          have pl := PL.out k (by rw [HNL.out]; exact hlt)
          rw [hB] at pl
          have hkc : k ≤ c1 := by
            obtain ⟨vs, _, ⟨_, h3⟩, _⟩ := H1.out.ex
            have := HNL.out
            rcases h3 with ⟨e, h0⟩ | ⟨a, c, e, hle, _⟩
            · omega
            · simp only [Value.slice.injEq] at e; omega
          have hkc' : (k : Int) ≤ c1 := by omega
          have HPL := Lib.hid pl; have HBW := Lib.hid hbw; have HBR := Lib.hid hbr; have HB := Lib.hid hB; have HSM := Lib.hid hsm; have HSM6 := Lib.hid hsm6; have HK := Lib.hid hlt
          clear pl hbw hbr hB hsm hsm6 hlt hk
          go_upto_region 10 with fail
          go_cut [10, 11, 12] from 31 to 86 (fun s10 s11 s12 wx => s11 = .int .i64 B.1 ∧ s12 = .int .i64 B.2.1 ∧ Below wr.heap.size wr wx ∧ ∃ (ao : Option Addr) (bn cap : Nat) (jl : List Int), s10 = .slice ao bn cap ∧ bn = jl.length ∧ (∀ w'', Below wx.heap.size wx w'' → IntsAt w'' s10 jl) ∧ (B.1 = 0 → jl = B.2.2.ids))
          case first =>
            have KZ0 := Lib.hid trivial
            go_region_held_law (fun _ => True) (exact trivial)
              (first
                | (go_at_call 8
                   refine (new_any _).mono ?_
                   rintro e w6 ⟨t6, S6, rfl, hta, hba, hbe6⟩
                   have hT6 := tabN_new hta hba hbe6
                   have hbd : Below w.heap.size w wr.drew := (HBW.out).drew
                   have C6 := checkNew_any hT6 (.slice a1 k c1) (l.take k) (GrpsK.of (GrpsAt.take H1.out k (by rw [HNL.out]; exact HK.out)) (hbd.trans (hbe6.mono hbd.size)) (fun b hb => Nat.le_trans hbd.size (hba b hb))) (HOK1.out.take k) (fun g hg => F1.out g (List.mem_of_mem_take hg)) (HTAB.out.on hbd)
                   rw [HB.out] at C6
                   have C6 := Lib.hid C6; have HT6 := Lib.hid hT6; have HB6 := Lib.hid hbe6
                   clear hta hba hbe6 hT6 hbd
                   dsimp only)
                | (go_at_call 7
                   refine C6.out.mono ?_
                   intro e w7 hcp
                   obtain ⟨a7, n7, c7, jl, rfl, hn7, hb7, hi7, hj7⟩ := hcp.out HT6.out
                   have HB7 := Lib.hid (show Below wr.heap.size w6 w7 from hb7); have HI7 := Lib.hid hi7; have HN7 := Lib.hid hn7; have HJ7 := Lib.hid hj7
                   clear hcp hb7 hi7 hn7 hj7
                   dsimp only))
            all_goals
              go_wp2
              go_meet
              exact ⟨rfl, rfl, ((Below.refl wr.heap.size wr).drew.trans HB6.out).trans HB7.out, _, _, _, _, rfl, HN7.out, HI7.out, HJ7.out⟩
          case rest =>
            obtain ⟨rfl, rfl, hbx, ao, bn, cap, jl, rfl, hbn, hjl, hj⟩ := hcut
            have hbw9 : Below w.heap.size w wc := HBW.out.trans (hbx.mono HBW.out.size)
            have hbr9 : Below w5.heap.size w5 wc := HBR.out.trans (hbx.mono HBR.out.size)
            have HBW9 := Lib.hid hbw9; have HBR9 := Lib.hid hbr9; have HJL := Lib.hid hjl; have HJ := Lib.hid hj; have HBN := Lib.hid hbn
            clear hbw9 hbr9 hjl hj hbn hbx
            obtain ⟨e1, p1, dcA⟩ := A
            obtain ⟨f1, q1, dcB⟩ := B
            dsimp only
            by_cases hf : f1 = 0
            · subst hf
              have hbs : bn = sm := by
                rw [HBN.out, HJ.out rfl, (HPL.out.2 rfl).1, HSM.out]
              obtain rfl := hbs.symm
              by_cases he : e1 = 0
              · subst he
                have hbg : ∃ r, il = jl ++ r := by
                  rw [HIL.out rfl, HJ.out rfl]
                  exact (HPL.out.2 rfl).2 rfl
                have C9 := begins_any (.slice au un cu) (.slice ao sm cap) il jl wc (HI5.out wc HBR9.out) (HJL.out wc (Below.refl _ _)) (by
                  have h1 := HIL.out rfl
                  have h2 := (HPL2.out rfl)
                  have h3 := (sizeD_len l).2
                  have h4 := HOK1.out.size
                  omega) hbg
                have C9 := Lib.hid C9
                clear hbg
                by_cases hkn : k < nl
                · have hkn' : (k : Int) < nl := by omega
                  obtain ⟨g, hg⟩ : ∃ g, l[k]? = some g := ⟨l[k]'(by rw [HNL.out]; exact hkn), by simp⟩
                  have hbw9 := HBW9.out
                  obtain ⟨b, off, a, c, hao, p0, hgg⟩ := (H1.out.below hbw9 (Nat.le_refl _)).at hg
                  subst hao
                  have hgl : g.length ≤ 150 := by have := sizeD_mem (List.mem_of_getElem? hg); have := HOK1.out.size; omega
                  obtain ⟨gl, hgl2⟩ : ∃ gl, g.length = gl := ⟨_, rfl⟩
                  rw [hgl2] at p0 hgl
                  have hgl6 : (gl : Int) ≤ 150 := by omega
                  have hsm6' : (sm : Int) ≤ 150 := by have := HSM6.out; omega
                  have HG := Lib.hid hg; have HGL := Lib.hid hgl2
                  clear hg hgg hgl hgl2 hbw9 hkn
                  go_wp2_with fail
                  refine C9.out.mono ?_
                  rintro e wb ⟨rfl, hbb⟩
                  have HBR8 := Lib.hid (HBR9.out.trans (hbb.mono HBR9.out.size))
                  replace p0 := (hbb.cell (World.block_lt_of_cell? _ _ p0)).trans p0
                  clear hbb C9
                  go_wp2
                  go_roundw
                  case rel => exact ⟨k + 1, by rw [sum_take_step HG.out, HSM.out, HGL.out]; go_num, by go_num, by have := HK.out; omega, HBR8.out⟩
                  case measure => have := HK.out; simp [intOf]; omega
                · have hkn' : ¬ (k : Int) < nl := by omega
                  have HKN := Lib.hid hkn
                  clear hkn
                  go_wp2_with fail
                  refine C9.out.mono ?_
                  rintro e wb ⟨rfl, hbb⟩
                  have HBR8 := Lib.hid (HBR9.out.trans (hbb.mono HBR9.out.size))
                  clear hbb C9
                  go_wp2
                  go_roundw
                  case rel => exact ⟨k + 1, by rw [List.take_of_length_le (by have := HKN.out; have := HNL.out; omega)]; have h := HSM.out; rw [List.take_of_length_le (by have := HKN.out; have := HNL.out; omega)] at h; rw [h], by go_num, by have := HK.out; omega, HBR8.out⟩
                  case measure => have := HK.out; simp [intOf]; omega
              · have he1 : (e1 == 0) = false := by simpa using he
                by_cases hkn : k < nl
                · have hkn' : (k : Int) < nl := by omega
                  obtain ⟨g, hg⟩ : ∃ g, l[k]? = some g := ⟨l[k]'(by rw [HNL.out]; exact hkn), by simp⟩
                  have hbw9 := HBW9.out
                  obtain ⟨b, off, a, c, hao, p0, hgg⟩ := (H1.out.below hbw9 (Nat.le_refl _)).at hg
                  subst hao
                  have hgl : g.length ≤ 150 := by have := sizeD_mem (List.mem_of_getElem? hg); have := HOK1.out.size; omega
                  obtain ⟨gl, hgl2⟩ : ∃ gl, g.length = gl := ⟨_, rfl⟩
                  rw [hgl2] at p0 hgl
                  have hgl6 : (gl : Int) ≤ 150 := by omega
                  have hsm6' : (sm : Int) ≤ 150 := by have := HSM6.out; omega
                  have HG := Lib.hid hg; have HGL := Lib.hid hgl2
                  clear hg hgg hgl hgl2 hbw9 hkn
                  go_wp2
                  go_roundw
                  case rel => exact ⟨k + 1, by rw [sum_take_step HG.out, HSM.out, HGL.out]; go_num, by go_num, by have := HK.out; omega, HBR9.out⟩
                  case measure => have := HK.out; simp [intOf]; omega
                · have hkn' : ¬ (k : Int) < nl := by omega
                  have HKN := Lib.hid hkn
                  clear hkn
                  go_wp2
                  go_roundw
                  case rel => exact ⟨k + 1, by rw [List.take_of_length_le (by have := HKN.out; have := HNL.out; omega)]; have h := HSM.out; rw [List.take_of_length_le (by have := HKN.out; have := HNL.out; omega)] at h; rw [h], by go_num, by have := HK.out; omega, HBR9.out⟩
                  case measure => have := HK.out; simp [intOf]; omega
            · have hf1 : (f1 == 0) = false := by simpa using hf
              have hf2 : (f1 != 0) = true := by simpa using hf
              obtain ⟨k1, k2⟩ := HPL.out.1 hf
              dsimp only at k1 k2
              subst k1 k2
              by_cases hkn : k < nl
              · have hkn' : (k : Int) < nl := by omega
                obtain ⟨g, hg⟩ : ∃ g, l[k]? = some g := ⟨l[k]'(by rw [HNL.out]; exact hkn), by simp⟩
                have hbw9 := HBW9.out
                obtain ⟨b, off, a, c, hao, p0, hgg⟩ := (H1.out.below hbw9 (Nat.le_refl _)).at hg
                subst hao
                have hgl : g.length ≤ 150 := by have := sizeD_mem (List.mem_of_getElem? hg); have := HOK1.out.size; omega
                obtain ⟨gl, hgl2⟩ : ∃ gl, g.length = gl := ⟨_, rfl⟩
                rw [hgl2] at p0 hgl
                have hgl6 : (gl : Int) ≤ 150 := by omega
                have hsm6' : (sm : Int) ≤ 150 := by have := HSM6.out; omega
                have HG := Lib.hid hg; have HGL := Lib.hid hgl2
                clear hg hgg hgl hgl2 hbw9 hkn
                go_wp2
                go_roundw
                case rel => exact ⟨k + 1, by rw [sum_take_step HG.out, HSM.out, HGL.out]; go_num, by go_num, by have := HK.out; omega, HBR9.out⟩
                case measure => have := HK.out; simp [intOf]; omega
              · have hkn' : ¬ (k : Int) < nl := by omega
                have HKN := Lib.hid hkn
                clear hkn
                go_wp2
                go_roundw
                case rel => exact ⟨k + 1, by rw [List.take_of_length_le (by have := HKN.out; have := HNL.out; omega)]; have h := HSM.out; rw [List.take_of_length_le (by have := HKN.out; have := HNL.out; omega)] at h; rw [h], by go_num, by have := HK.out; omega, HBR9.out⟩
                case measure => have := HK.out; simp [intOf]; omega
        · have hlt' : ¬ (k : Int) ≤ nl := by omega
          have HBW := Lib.hid hbw
          clear hlt hk hsm hbw hbr
          by_cases he : A.1 = 0
          · have he1 : (A.1 == 0) = true := by simpa using he
            go_wp2
            go_ret
            exact ⟨rfl, HBW.out⟩
          have he1 : (A.1 == 0) = false := by simpa using he
          have HE := Lib.hid he
          clear he
          obtain ⟨i0, hi, hz0, hz1, hz2⟩ := info_parts Tryz.infoGrp
          have Hi := Lib.hid hi; have Hz0 := Lib.hid hz0; have Hz1 := Lib.hid hz1; have Hz2 := Lib.hid hz2
          clear hi hz0 hz1 hz2
          go_wp2_with fail
          refine (new_any _).mono ?_
          rintro e w8 ⟨t8, S8, rfl, hta, hba, hbe8⟩
          have hT8 := tabN_new hta hba hbe8
          obtain ⟨vs, l1, ⟨l2, l3⟩, l4⟩ := H1.out.ex
          obtain ⟨us, m1, ⟨m2, m3⟩, m4⟩ := H2.out.ex
          have hbw8 : Below w.heap.size w w8 := HBW.out.trans (hbe8.mono HBW.out.size)
          have OWN := Lib.hid (owns_e (B := w8.heap.size) w8 (Nat.le_refl _) 32 1 rfl)
          have hbA : Below w8.heap.size w8 (w8.alloc (.cells #[] 32)) := (Below.refl _ _).alloc (Nat.le_refl _) _
          have hr1 : RowAt (w8.alloc (.cells #[] 32)) 1 (.slice a1 nl c1) nl vs := by
            have h : RowAt w 1 (.slice a1 l.length c1) l.length vs := ⟨l2, l3⟩
            rw [HNL.out] at h
            exact h.below (hbw8.trans (hbA.mono hbw8.size)) (Nat.le_refl _)
          have HR1 := Lib.hid hr1; have HT8 := Lib.hid hT8; have HBA := Lib.hid hbA; have HBW8 := Lib.hid hbw8; have L1 := Lib.hid l1; have L4 := Lib.hid l4; have M1 := Lib.hid m1; have M4 := Lib.hid m4
          have hr2 : RowAt w 1 (.slice a2 nm c2) nm us := by
            have h : RowAt w 1 (.slice a2 m.length c2) m.length us := ⟨m2, m3⟩
            rwa [HNM.out] at h
          have HR2 := Lib.hid hr2
          have HBA8 := Lib.hid hba
          clear hta hba hbe8 hT8 l1 l2 l3 l4 m1 m2 m3 m4 hr1 hr2 hbA hbw8
          go_wp2_with (at_builtin; refine wpList_append_row_at _ rfl _ _ 22 rfl w8.heap.size 32 i0 _ 1 24 Tryz.underlying22 Hi.out Hz0.out Hz1.out Hz2.out rfl (by decide) _ _ _ rfl OWN.out _ nl vs rfl HR1.out (grps_one L1.out L4.out) (by have := HL6.out; unfold maxLen; omega) (by have := HL6.out; omega) (by simp) ?_)
          intro v9 w9 o9 gr9 mv9
          have hb9 : Below w8.heap.size w8 w9 := HBA.out.grown gr9 HBA.out.size (fun b hb => by cases hb; exact Nat.le_refl _)
          have o9' : w9.ownsRow w8.heap.size 32 1 v9 nl vs := by
            simpa using o9
          obtain ⟨a9, c9, rfl, -⟩ := ownsRow_form o9'
          have OWN9 := Lib.hid o9'; have HB9 := Lib.hid hb9
          have HR9 := Lib.hid (show RowAt w9 1 (.slice a2 nm c2) nm us from RowAt.below HR2.out (HBW8.out.trans (hb9.mono HBW8.out.size)) (Nat.le_refl _))
          clear o9 gr9 mv9 hb9 o9'
          try rw [Nat.zero_add]
          go_wp2_with (at_builtin; refine wpList_append_row_at _ rfl _ _ 22 rfl w8.heap.size 32 i0 _ 1 24 Tryz.underlying22 Hi.out Hz0.out Hz1.out Hz2.out rfl (by decide) _ _ _ rfl OWN9.out _ nm us rfl HR9.out (grps_one M1.out M4.out) (by have := HL6.out; have := HM6.out; unfold maxLen; omega) (by have := HL6.out; have := HM6.out; omega) HB9.out.size ?_)
          intro v10 w10 o10 gr10 mv10
          obtain ⟨a10, c10, rfl, -⟩ := ownsRow_form o10
          have hb10 : Below w8.heap.size w8 w10 := HB9.out.grown gr10 HB9.out.size (fun b hb => (OWN9.out.lt b hb).1)
          have hk := grpsK_app (S := S8) (l := l) (m := m) L1.out M1.out L4.out M4.out (HBW8.out.trans (hb10.mono HBW8.out.size)) (fun b hb => ⟨Nat.le_trans HBW.out.size (HBA8.out b hb), (HT8.out.tab.lt b hb).1⟩) (n := nl + nm) (by rw [List.length_append, HNL.out, HNM.out]) o10
          have s1 := HOK1.out.size; have s2 := HOK2.out.size; have q1 := sizeD_len l; have q2 := sizeD_len m
          have hck : checkD (dc0 []) (l ++ m) = A := by rw [more_law l m (dc0 []) (by rw [HA'.out]; exact HE.out), HA'.out]
          have C10 := check_any _ (l ++ m) (HT8.out.below hb10) tabC_nil hk (fun g hg => (List.mem_append.1 hg).elim (HOK1.out.raw F1.out g) (HOK2.out.raw F2.out g)) (by rw [List.map_append, List.sum_append]; omega) (by rw [List.length_append]; omega) (HTAB.out.on HBW.out)
          have hck' : checkD ⟨[], [], [], []⟩ (l ++ m) = A := hck
          rw [hck'] at C10
          have C10 := Lib.hid C10
          have HB10 := Lib.hid hb10; have HT10 := Lib.hid (HT8.out.below hb10)
          clear o10 gr10 mv10 hb10 hk s1 s2 q1 q2 hck hck'
          go_wp2_with fail
          refine C10.out.mono ?_
          intro e w11 hcp
          obtain ⟨u11, S11, R11, rfl, _, _, _, hup, _, _⟩ := hcp
          have HF := Lib.hid (show Below w.heap.size w w11 from (HBW8.out.trans (HB10.out.mono HBW8.out.size)).trans (hup.below (fun b hb => Nat.le_trans HBW.out.size (HBA8.out b hb)) (by have := HBW8.out.size; have := HB10.out.size; omega)))
          clear hup C10
          obtain ⟨e1, p1, dcA⟩ := A
          dsimp only
          go_wp2
          go_ret
          exact ⟨rfl, HF.out⟩
    · go_wp2
      go_ret
      exact ⟨rfl, HBE3.out⟩
  · go_wp2
    go_ret
    exact ⟨rfl, HBE2.out⟩
end Go.Proofs.YtkgmfbfpmlnfcaaGreatDoor
