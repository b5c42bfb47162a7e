import Derived.Test.YtpddbaijnjbfdaaGreatDoorQDcKnownBd
import Derived.Test.YtpddbaijnjbfdaaGreatDoorQDrRefCBd
import Derived.Test.YtpddbaijnjbfdaaGreatDoorCards
import Derived.Test.YtpddbaijnjbfdaaGreatDoorTie
namespace Go.Proofs.YtpddbaijnjbfdaaGreatDoor
open Lib (hid)
section
open Go.RowKit Go.Maps Go.WideMaps
theorem sizeD_step {l : List (List Sb)} {i : Nat} {g : List Sb} (h : l[i]? = some g) : sizeD (l.take (i + 1)) = sizeD (l.take i) + (1 + g.length) := by
  rw [List.take_add_one, h]; exact sizeD_snoc _ _
def GreatP (w : World) (l : List (List Sb)) (e : Ending) (w' : World) : Prop := ∃ r, e = .returned (.bool r) ∧ (r = false → OkD l) ∧ Below w.heap.size w w'
set_option maxRecDepth 100000 in
set_option maxHeartbeats 32000000 in
theorem great12_any (v : Value) (l : List (List Sb)) (w : World) (hg : GrpsAt w v l) (hlen : ∀ g ∈ l, g.length ≤ 2000000000000) : Calls Tryz.prog 8 #[v] w (GreatP w l) := by
  obtain ⟨ao, cap, rfl⟩ := hg.form
  obtain ⟨n, hn⟩ : ∃ n, l.length = n := ⟨_, rfl⟩
  have HG := hid hg; have HLEN := hid hlen; have HN := hid hn
  rw [hn]
  clear hg hlen hn
  go_enter Tryz.func8, Tryz.ntmps8
  go_wp2_with fail
  go_slots
  go_loopw [3, 4] (fun t3 t4 wr => ∃ i : Nat, t3 = .int .i64 (sizeD (l.take i) : Nat) ∧ t4 = .int .i64 i ∧ i ≤ n ∧ sizeD (l.take i) ≤ 150 ∧ i ≤ sizeD (l.take i) ∧ (∀ g ∈ l.take i, ∀ x ∈ g, LimD x) ∧ Below w.heap.size w wr) (fun _ t4 _ => n - (intOf t4).toNat)
  case atStart => exact ⟨0, rfl, rfl, Nat.zero_le _, by simp [sizeD], Nat.zero_le _, by simp, Below.refl _ _⟩
  case round =>
    obtain ⟨i, rfl, rfl, hi, hs, his, hlim, hbe⟩ := hrel
    obtain ⟨sn, hsn⟩ : ∃ sn, sizeD (l.take i) = sn := ⟨_, rfl⟩
    rw [hsn] at hs his
    have HSN := hid hsn; have HLIM := hid hlim
    rw [hsn]
    clear hsn hlim
    by_cases hlt : i < n
    · obtain ⟨g, hg⟩ : ∃ g, l[i]? = some g := ⟨l[i]'(by rw [HN.out]; exact hlt), by simp⟩
      obtain ⟨b, off, a, c, hao, p0, hgg⟩ := (HG.out.below hbe (Nat.le_refl _)).at hg
      have hbl := World.block_lt_of_cell? _ _ p0
      obtain ⟨gl, hgl⟩ : ∃ gl, g.length = gl := ⟨_, rfl⟩
      have hgl6 : gl ≤ 2000000000000 := by rw [← hgl]; exact HLEN.out g (List.mem_of_getElem? hg)
      have hgl6' : (gl : Int) ≤ 2000000000000 := by omega
      rw [hgl] at p0
      subst hao
      have hlt' : (i : Int) < n := by omega
      have hi6 : (i : Int) ≤ 150 := by omega
      have hs6 : (sn : Int) ≤ 150 := by omega
      have HG2 := hid hg; have HGG := hid hgg; have HGL := hid hgl; have HLT := hid hlt; have HBE := hid hbe; have HS := hid hs; have HIS := hid his
      clear hg hgg hgl hlt hi hbe hgl6 hs his
      go_wp2_with fail
      go_loopw [5] (fun t5 wz => ∃ k : Nat, t5 = .int .i64 k ∧ k ≤ gl ∧ k ≤ 200 ∧ (∀ x ∈ g.take k, LimD x) ∧ Below wr.heap.size wr wz) (fun t5 _ => gl - (intOf t5).toNat)
      case atStart => exact ⟨0, rfl, Nat.zero_le _, by omega, by simp, Below.refl _ _⟩
      case round =>
        obtain ⟨k, rfl, hk, hk2, hlx, hbz⟩ := hrel
        have p0' := (hbz.cell (World.block_lt_of_cell? _ _ p0)).trans p0
        have HBZ := hid hbz; have HLX := hid hlx
        clear hlx
        by_cases hkl : k < gl
        · by_cases hk200 : k < 200
          · obtain ⟨x, hx⟩ : ∃ x, g[k]? = some x := ⟨g[k]'(by rw [HGL.out]; exact hkl), by simp⟩
            have hgz := HGG.out.below hbz (Nat.le_refl _)
            obtain ⟨b2, o2, ha, hb2, a1, c1, a2, c2, a3, c3, a4, c4, sa, q0, q1, q2, q3, q4, q5⟩ := hgz.at hx
            subst ha
            obtain ⟨n1, e1⟩ : ∃ n, x.ps.length = n := ⟨_, rfl⟩
            obtain ⟨n2, e2⟩ : ∃ n, x.rs.length = n := ⟨_, rfl⟩
            obtain ⟨n3, e3⟩ : ∃ n, x.fs.length = n := ⟨_, rfl⟩
            obtain ⟨n4, e4⟩ : ∃ n, x.sups.length = n := ⟨_, rfl⟩
            rw [e1] at q3; rw [e2] at q4; rw [e3] at q5; rw [e4] at q1
            have hbb := World.block_lt_of_cell? _ _ p0'
            have E := hid (show LimD x ↔ n1 ≤ 20 ∧ n2 ≤ 20 ∧ n3 ≤ 20 ∧ n4 ≤ 5 by unfold LimD; rw [e1, e2, e3, e4])
            have hkl' : (k : Int) < gl := by omega
            have hk6 : (k : Int) < 200 := by omega
            have HX := hid hx; have HKL := hid hkl; have HK2 := hid hk200
            clear hx hgz sa e1 e2 e3 e4 q0 hkl hk200 hk hk2 hbz p0
            by_cases h1 : 20 < n1
            · have h1' : (20 : Int) < n1 := by omega
              go_wp2
              go_ret
              exact ⟨true, rfl, fun e => (by cases e), HBE.out.trans (((HBZ.out.alloc HBZ.out.size _)).mono HBE.out.size)⟩
            have h1' : ¬ (20 : Int) < n1 := by omega
            by_cases h2 : 20 < n2
            · have h2' : (20 : Int) < n2 := by omega
              go_wp2
              go_ret
              exact ⟨true, rfl, fun e => (by cases e), HBE.out.trans (((HBZ.out.alloc HBZ.out.size _)).mono HBE.out.size)⟩
            have h2' : ¬ (20 : Int) < n2 := by omega
            by_cases h3 : 20 < n3
            · have h3' : (20 : Int) < n3 := by omega
              go_wp2
              go_ret
              exact ⟨true, rfl, fun e => (by cases e), HBE.out.trans (((HBZ.out.alloc HBZ.out.size _)).mono HBE.out.size)⟩
            have h3' : ¬ (20 : Int) < n3 := by omega
            by_cases h4 : 5 < n4
            · have h4' : (5 : Int) < n4 := by omega
              go_wp2
              go_ret
              exact ⟨true, rfl, fun e => (by cases e), HBE.out.trans (((HBZ.out.alloc HBZ.out.size _)).mono HBE.out.size)⟩
            have h4' : ¬ (5 : Int) < n4 := by omega
            have hl := E.out.2 ⟨by omega, by omega, by omega, by omega⟩
            have HL := hid hl
            clear hl h1 h2 h3 h4
            go_wp2
            go_roundw
            case rel =>
              refine ⟨k + 1, by go_num, HKL.out, HK2.out, fun y hy => ?_, HBZ.out.alloc HBZ.out.size _⟩
              rw [List.take_add_one, HX.out] at hy
              simp at hy
              rcases hy with hy | rfl
              · exact HLX.out y hy
              · exact HL.out
            case measure => have := HKL.out; simp [intOf]; omega
          · obtain rfl : k = 200 := by omega
            have hkl' : ((200 : Nat) : Int) < gl := by omega
            have hkl2 : (200 : Int) < gl := by omega
            have hgt : (150 : Int) < sn + (1 + gl) := by omega
            clear hkl hk200 hk hk2
            go_wp2
            go_ret
            exact ⟨true, rfl, fun e => (by cases e), HBE.out.trans (HBZ.out.mono HBE.out.size)⟩
        · obtain rfl : k = gl := by omega
          have hkl' : ¬ (k : Int) < k := by omega
          have hlx : ∀ x ∈ g, LimD x := by
            have h := HLX.out
            rwa [List.take_of_length_le (Nat.le_of_eq HGL.out)] at h
          have HL := hid hlx
          have hk2' : (k : Int) ≤ 200 := by omega
          clear hlx hkl hk2 hk
          by_cases hgt : (150 : Int) < sn + (1 + k)
          · go_wp2
            go_ret
            exact ⟨true, rfl, fun e => (by cases e), HBE.out.trans (HBZ.out.mono HBE.out.size)⟩
          · have HGT := hid hgt
            go_wp2
            go_roundw
            case rel =>
              refine ⟨i + 1, ?_, by go_num, HLT.out, ?_, ?_, fun y hy => ?_, HBE.out.trans (HBZ.out.mono HBE.out.size)⟩
              · rw [sizeD_step HG2.out, HSN.out, HGL.out]; go_num
              · rw [sizeD_step HG2.out, HSN.out, HGL.out]; have := HGT.out; omega
              · rw [sizeD_step HG2.out, HSN.out, HGL.out]; have := HIS.out; omega
              · rw [List.take_add_one, HG2.out] at hy
                simp at hy
                rcases hy with hy | rfl
                · exact HLIM.out y hy
                · exact HL.out
            case measure => have := HLT.out; simp [intOf]; omega
    · obtain rfl : i = n := by omega
      have hlt' : ¬ (i : Int) < i := by omega
      have HS := hid hs; have HBE := hid hbe
      clear hlt hi hs his hbe
      go_wp2
      go_ret
      refine ⟨false, rfl, fun _ => ⟨?_, ?_⟩, HBE.out⟩
      · have h := HSN.out
        rw [List.take_of_length_le (Nat.le_of_eq HN.out)] at h
        rw [h]; exact HS.out
      · have h := HLIM.out
        rwa [List.take_of_length_le (Nat.le_of_eq HN.out)] at h
end
section
open Go.RowKit Go.Maps Go.WideMaps
theorem sizeD_len (l : List (List Sb)) : l.length ≤ sizeD l ∧ (l.map List.length).sum ≤ sizeD l := by
  induction l with
  | nil => exact ⟨Nat.le_refl _, Nat.le_refl _⟩
  | cons g l ih =>
    have e : sizeD (g :: l) = (1 + g.length) + sizeD l := by simp [sizeD]
    rw [e, List.length_cons, List.map_cons, List.sum_cons]
    omega
theorem checkNew_any {w wN : World} {t : Nat} {S : Nat → Prop} (hT : TabN w S (fun _ => False) wN t []) (v : Value) (l : List (List Sb)) (hg : GrpsK S wN v l) (ok : OkD l) (hf : ∀ g ∈ l, ∀ x ∈ g, Small x → Fits x) (htab : Tab w) :
    Calls Tryz.prog 10 #[.pointer (some ⟨t, 0, none⟩), v] wN (CheckP w S (fun _ => False) wN t (checkD (dc0 []) l)) := by
  have h1 := sizeD_len l
  have h2 := ok.size
  exact check_any v l hT tabC_nil hg (ok.raw hf) (by omega) (by omega) htab
end
section
open Go.RowKit Go.Maps Go.WideMaps
theorem cmpG_cnt {gs : List (List Sb)} {ids : List Int} {n want ec : Int} {y : Sb} (ok : TabOk gs) (h : cmpG gs ids n want = (ec, y)) : cnt y ≤ 1000000 := by
  unfold cmpG at h
  have hz : cnt zS ≤ 1000000 := by decide
  split at h
  · split at h
    · rename_i y' hy
      split at h
      · simp only [Prod.mk.injEq] at h
        obtain ⟨_, rfl⟩ := h
        split at hy
        · have := tabL_cnt ok hy
          simp only [cnt] at this ⊢
          simp; omega
        · cases hy
      · simp only [Prod.mk.injEq] at h; rw [← h.2]; exact hz
    · simp only [Prod.mk.injEq] at h; rw [← h.2]; exact hz
  · simp only [Prod.mk.injEq] at h; rw [← h.2]; exact hz
theorem CmpAt.form {w : World} {cs : List Value} {y : Sb} (h : CmpAt w cs y) : ∃ (k : Int) (a1 : Option Addr) (c1 : Nat) (a2 : Option Addr) (c2 : Nat) (a3 : Option Addr) (c3 : Nat), cs = [.int .i64 k, .slice a1 y.ps.length c1, .slice a2 y.rs.length c2, .slice a3 y.fs.length c3] := by
  obtain ⟨vs, vp, vr, vf, e, h1, h2, h3, h4⟩ := h.ex
  simp only [List.cons.injEq] at e
  obtain ⟨_, _, rfl⟩ := e
  obtain ⟨a1, c1, rfl⟩ := RowAt.form h2
  obtain ⟨a2, c2, rfl⟩ := RowAt.form h3
  obtain ⟨a3, c3, rfl⟩ := RowAt.form h4
  exact ⟨y.k, a1, c1, a2, c2, a3, c3, rfl⟩
def CompsP (w : World) (e : Ending) (w' : World) : Prop := e = .returned (.bool true) ∧ Below w.heap.size w w'
set_option maxRecDepth 100000 in
set_option maxHeartbeats 32000000 in
theorem declComps_any (v1 v2 : Value) (l : List (List Sb)) (ids : List Int) (n want : Int) (w : World) (h1 : GrpsAt w v1 l) (h2 : IntsAt w v2 ids) (n1 : ∀ g ∈ l, g.length ≤ 2000000000000) (f1 : ∀ g ∈ l, ∀ x ∈ g, Small x → Fits x) (htab : Tab w) :
    Calls Tryz.prog 3 #[v1, v2, .int .i64 n, .int .i64 want] w (CompsP w) := by
  obtain ⟨a1, c1, rfl⟩ := h1.form
  obtain ⟨a2, c2, rfl⟩ := RowAt.form h2
  obtain ⟨nl, hnl⟩ : ∃ n, l.length = n := ⟨_, rfl⟩
  obtain ⟨ni, hni⟩ : ∃ n, ids.length = n := ⟨_, rfl⟩
  have C0 := hid (known12_any w htab)
  have H1 := hid h1; have H2 := hid h2; have N1 := hid n1; have F1 := hid f1; have HTAB := hid htab; have HNL := hid hnl; have HNI := hid hni
  rw [hnl, hni]
  clear h1 h2 n1 f1 htab hnl hni
  go_enter Tryz.func3, Tryz.ntmps3
  go_wp2_with fail
  refine C0.out.mono ?_
  rintro e w1 ⟨rfl, hb1⟩
  have C1 := great12_any _ l w1 (H1.out.below hb1 (Nat.le_refl _)) N1.out
  rw [HNL.out] at C1
  have C1 := hid C1; have HB1 := hid hb1
  clear hb1
  by_cases h200 : 200 < ni
  · have h200' : (200 : Int) < ni := by omega
    go_wp2_with fail
    refine C1.out.mono ?_
    rintro e w2 ⟨r1, rfl, ok1, hb2⟩
    have hbe2 : Below w.heap.size w w2 := HB1.out.trans (hb2.mono HB1.out.size)
    have HBE2 := hid hbe2
    clear hb2 hbe2 ok1
    cases r1
    all_goals
      go_wp2
      go_ret
      exact ⟨rfl, HBE2.out⟩
  · have h200' : ¬ (200 : Int) < ni := by omega
    go_wp2_with fail
    refine C1.out.mono ?_
    rintro e w2 ⟨r1, rfl, ok1, hb2⟩
    have hbe2 : Below w.heap.size w w2 := HB1.out.trans (hb2.mono HB1.out.size)
    have HBE2 := hid hbe2; have OK1 := hid ok1
    clear hb2 hbe2 ok1
    cases r1
    · have ok1 := OK1.out (by first | trivial | rfl)
      have HOK1 := hid ok1; have HNI200 := hid h200
      clear ok1 OK1
      go_wp2_with fail
      refine (new_any _).mono ?_
      rintro e w3 ⟨t, S, rfl, hta, hba, hbe3⟩
      have hT := tabN_new hta hba hbe3
      obtain ⟨W4, hW4⟩ : ∃ W4 : World, W4 = w3.alloc (.cells #[.slice none 0 0] 31) := ⟨_, rfl⟩
      obtain ⟨r, hr⟩ : ∃ r, w3.heap.size = r := ⟨_, rfl⟩
      have hb4 : Below w3.heap.size w3 W4 := by rw [hW4]; exact (Below.refl _ _).alloc (Nat.le_refl _) _
      have hz : W4.heap[r]? = some (.cells #[.slice none 0 0] 31 (0, 0)) := by rw [hW4]; exact heap_alloc_at _ _ hr.symm
      have hSr : ∀ b, S b → w2.heap.size ≤ b ∧ b < r := fun b hb => ⟨hba b hb, by rw [← hr]; exact (hta.lt b hb).1⟩
      have hbw4 : Below w.heap.size w W4 := HBE2.out.trans ((hbe3.trans (hb4.mono hbe3.size)).mono HBE2.out.size)
      have C3 := checkNew_any (hT.below hb4) _ l (GrpsK.of H1.out hbw4 (fun b hb => Nat.le_trans HBE2.out.size (hSr b hb).1)) HOK1.out F1.out (HTAB.out.on HBE2.out)
      obtain ⟨A, hA⟩ : ∃ A, checkD (dc0 []) l = A := ⟨_, rfl⟩
      rw [hA, HNL.out] at C3
      have C3 := hid C3; have HT := hid hT; have HA := hid hA; have HZ := hid hz; have HSR := hid hSr; have HBW4 := hid hbw4; have HR := hid hr; have HW4 := hid hW4
      have HR2 := hid (show w2.heap.size ≤ r by rw [← hr]; exact hbe3.size)
      clear hta hba hbe3 hT hb4 hz hSr hbw4 hA hr hW4
      go_wp2_with fail
      rw [← HW4.out, HR.out]
      refine C3.out.mono ?_
      rintro e w5 ⟨u, S', R', rfl, ht5, hc5, hi5, hup5, hfs5, hfr5⟩
      have hs4 : r < W4.heap.size := heap_lt HZ.out
      have hb5 : Below w.heap.size w w5 := by
        have h := hup5.below (B := w.heap.size) (fun k hk => Nat.le_trans HBE2.out.size (HSR.out k hk).1) HBW4.out.size
        exact HBW4.out.trans h
      have hz5 : w5.heap[r]? = some (.cells #[.slice none 0 0] 31 (0, 0)) := hup5.heap_some HZ.out (fun q => by have := (HSR.out r q).2; omega)
      have hS5 : ¬ S' r := fun q => (hfs5 r q).elim (fun q => by have := (HSR.out r q).2; omega) (fun q => by omega)
      have hR5 : ¬ R' r := fun q => (hfr5 r q).elim id (fun q => by omega)
      have hrw : w.heap.size ≤ r := Nat.le_trans HBE2.out.size HR2.out
      have h150 := HOK1.out.size
      have hsz := sizeD_len l
      have C4 := refCheck_any (gs := []) _ l (refK_new hz5) LnI.nil ⟨by simp, by simp, by simp, by simp [total]⟩ (GrpsK.of H1.out hb5 (fun b e => by omega)) (HOK1.out.raw F1.out) (by omega) (by omega)
      rw [show checkD ⟨[], [], [], []⟩ l = A from HA.out, HNL.out] at C4
      have C4 := hid C4; have HT5 := hid ht5; have HC5 := hid hc5; have HB5 := hid hb5; have HS5 := hid (And.intro hS5 hR5); have HRW := hid hrw
      have HNL6 := hid (show nl ≤ 150 by have := HNL.out; omega)
      clear C3 ht5 hc5 hi5 hup5 hfs5 hfr5 hs4 hb5 hz5 hS5 hR5 hrw h150 hsz
      go_wp2_with fail
      refine C4.out.mono ?_
      rintro e w6 ⟨u6, Q6, n6, rfl, href6, hn6, hi6, hup6, hfq6⟩
      have hb6 : Below w.heap.size w w6 := HB5.out.trans (hup6.below (fun k e => by subst e; exact HRW.out) HB5.out.size)
      have ht6 := HT5.out.upd hup6 (fun b e => by subst e; exact ⟨HS5.out.1, HS5.out.2, HR2.out⟩)
      have rk : RfK Q6 w6 r A.2.2.gs := ⟨⟨n6, href6, by have := HNL6.out; omega⟩, ht6.ok, HC5.out⟩
      have C5 := dcComp_any (⟨ht6.tab, ht6.ok, HC5.out⟩ : TabK S' R' w6 t A.2.2.gs) _ ids (RowAt.below H2.out hb6 (Nat.le_refl _)) (by have := HNI200.out; have := HNI.out; omega) n want
      rw [HNI.out] at C5
      have C5 := hid C5; have HRK := hid rk; have HB6 := hid hb6
      clear C4 href6 hn6 hi6 hup6 hfq6 hb6 ht6 rk
      go_wp2_with fail
      refine C5.out.mono ?_
      rintro e w7 ⟨cs, rfl, hcs, hb7⟩
      obtain ⟨ec, y, hG⟩ : ∃ ec y, cmpG A.2.2.gs ids n want = (ec, y) := ⟨_, _, rfl⟩
      have hcy : cnt y ≤ 1000000 := cmpG_cnt HRK.out.ok hG
      rw [hG] at hcs
      rw [hG]
      obtain ⟨yk, p1, m1, p2, m2, p3, m3, rfl⟩ := CmpAt.form (hcs w7 (Below.refl _ _))
      obtain ⟨W7, hW7⟩ : ∃ W7 : World, W7 = w7.alloc (.cells #[.int .i64 yk, .slice p1 y.ps.length m1, .slice p2 y.rs.length m2, .slice p3 y.fs.length m3] 39) := ⟨_, rfl⟩
      obtain ⟨ba, hba⟩ : ∃ b, w7.heap.size = b := ⟨_, rfl⟩
      have hbW7 : Below w7.heap.size w7 W7 := by rw [hW7]; exact (Below.refl _ _).alloc (Nat.le_refl _) _
      have z7 : W7.heap[ba]? = some (.cells #[.int .i64 yk, .slice p1 y.ps.length m1, .slice p2 y.rs.length m2, .slice p3 y.fs.length m3] 39 (0, 0)) := by rw [hW7]; exact heap_alloc_at _ _ hba.symm
      have hb67 := hb7.trans (hbW7.mono hb7.size)
      have C6 := refComp_any (HRK.out.below hb67) _ ids (RowAt.below H2.out (HB6.out.trans (hb67.mono HB6.out.size)) (Nat.le_refl _)) (by have := HNI200.out; have := HNI.out; omega) n want
      rw [hG, HNI.out] at C6
      have C6 := hid C6; have HCS := hid (hcs W7 hbW7); have HB7 := hid (HB6.out.trans (hb67.mono HB6.out.size)); have HCY := hid hcy; have HW7 := hid hW7; have HBA := hid hba; have HZ7 := hid z7
      clear C5 hcs hb7 hcy hG hbW7 hb67 hW7 hba z7
      go_wp2_with fail
      rw [← HW7.out, HBA.out]
      refine C6.out.mono ?_
      rintro e w8 ⟨cs2, rfl, hcs2, hb8⟩
      obtain ⟨yk2, p4, m4, p5, m5, p6, m6, rfl⟩ := CmpAt.form (hcs2 w8 (Below.refl _ _))
      have hz7 := (hb8.block _ (heap_lt HZ7.out)).trans HZ7.out
      obtain ⟨W8, hW8⟩ : ∃ W8 : World, W8 = w8.alloc (.cells #[.int .i64 yk2, .slice p4 y.ps.length m4, .slice p5 y.rs.length m5, .slice p6 y.fs.length m6] 39) := ⟨_, rfl⟩
      obtain ⟨bb, hbb⟩ : ∃ b, w8.heap.size = b := ⟨_, rfl⟩
      have hbW8 : Below w8.heap.size w8 W8 := by rw [hW8]; exact (Below.refl _ _).alloc (Nat.le_refl _) _
      have z8 : W8.heap[bb]? = some (.cells #[.int .i64 yk2, .slice p4 y.ps.length m4, .slice p5 y.rs.length m5, .slice p6 y.fs.length m6] 39 (0, 0)) := by rw [hW8]; exact heap_alloc_at _ _ hbb.symm
      have hz7' := (hbW8.block _ (heap_lt hz7)).trans hz7
      have HCS2 := hid (hcs2 W8 hbW8); have HB8 := hid (HB7.out.trans ((hb8.trans (hbW8.mono hb8.size)).mono HB7.out.size)); have HCS8 := hid (SubAt.below HCS.out (hb8.trans (hbW8.mono hb8.size)) (Nat.le_refl _))
      have HW8 := hid hW8; have HBB := hid hbb; have HZ8 := hid z8; have HZ7' := hid hz7'
      clear C6 hcs2 hb8 HCS hz7 hbW8 hz7' z8 hW8 hbb
      dsimp only
      have C7 := hid (fun w => dcComp_nil (w := w) (.slice a2 ni c2) n want)
      have C8 := hid (fun w => dcCheck_nil (w := w) (.slice a1 nl c1) .absent)
      go_wp2_with fail
      rw [← HW8.out, HBB.out]
      refine (C7.out _).mono ?_
      rintro e w9 ⟨rfl, hb9⟩
      have HB9 := hid hb9
      clear hb9 C7
      go_wp2_with fail
      refine (C8.out _).mono ?_
      rintro e w10 ⟨rfl, hb10⟩
      have hb := (HB9.out.alloc HB9.out.size _).trans (hb10.mono (HB9.out.alloc HB9.out.size _).size)
      have hx7 := (hb.block _ (heap_lt HZ7'.out)).trans HZ7'.out
      have hx8 := (hb.block _ (heap_lt HZ8.out)).trans HZ8.out
      have HX7 := hid hx7; have HX8 := hid hx8; have HB10 := hid (HB8.out.trans (hb.mono HB8.out.size))
      have HA10 := hid (SubAt.below HCS8.out hb (Nat.le_refl _)); have HC10 := hid (SubAt.below HCS2.out hb (Nat.le_refl _))
      have e0 := heap_cell hx7 0; have e1 := heap_cell hx7 1; have e2 := heap_cell hx7 2; have e3 := heap_cell hx7 3
      have g0 := heap_cell hx8 0; have g1 := heap_cell hx8 1; have g2 := heap_cell hx8 2; have g3 := heap_cell hx8 3
      simp only [List.getElem?_toArray, List.getElem?_cons_succ, List.getElem?_cons_zero] at e0 e1 e2 e3 g0 g1 g2 g3
      clear C8 hb10 hb hx7 hx8
      go_wp2_with fail
      refine (rSame_any [.bool false, .slice none 0 0, .int .i64 yk, .slice p1 y.ps.length m1, .slice p2 y.rs.length m2, .slice p3 y.fs.length m3] [.bool false, .slice none 0 0, .int .i64 yk2, .slice p4 y.ps.length m4, .slice p5 y.rs.length m5, .slice p6 y.fs.length m6] y y w10 HA10.out HC10.out HCY.out HCY.out).mono ?_
      rintro e w11 ⟨rfl, hb11⟩
      have HB11 := hid (HB10.out.trans (hb11.mono HB10.out.size))
      clear hb11
      rw [show decide (y = y) = true from decide_eq_true rfl]
      go_wp2
      go_ret
      exact ⟨rfl, HB11.out⟩
    · go_wp2
      go_ret
      exact ⟨rfl, HBE2.out⟩
end
end Go.Proofs.YtpddbaijnjbfdaaGreatDoor
/- Layer 12 (decl), DeclComps: the Comp of any type of a module, of a kind, is the document's, or refused: for every list of groups, every list of numbers, every number and kind the law returns true, and each argument reads afterwards as before. Condition (the card ties it to the program's text): the tables of Go's library start as their initialisers lay them. -/
namespace Go.Proofs.YtpddbaijnjbfdaaGreatDoor
open Go.ChangeShapes Go.WideShapes Go.ChangeAt Go.RowKit Go.Joins
theorem own : ownKnob Tryz.prog.godebug = none := by kernel_rfl
theorem laidOut : laidOutB Tryz.prog = true := by kernel_rfl
abbrev laidL : List (String × DataW Unit) := Rows.declCompsRow.laid
theorem gPow : Tryz.prog.globalNamed "internal/strconv.uint64pow10" = some 3 := by kernel_rfl
theorem tPow : (Tryz.prog.globals[3]?).map (·.type) = some 282 := by kernel_rfl
theorem fPow : flatT Tryz.prog 4 282 = true := by kernel_rfl
theorem tab_of_laid {W : World} (h : laidMetH Tryz.prog laidL W) : Tab W := by
  rw [MakeChecks.laidMetH_plain _ _ _ (by kernel_rfl)] at h
  obtain ⟨ps, ⟨g0, t0, cs0, f0, p0, q0, hg0, ht0, hv0, hd0, ⟨g1, t1, cs1, f1, p1, q1, hg1, ht1, hv1, hd1, ⟨g2, t2, cs2, f2, p2, q2, hg2, ht2, hv2, hd2, _, _⟩, _⟩, _⟩, _, _⟩ := h
  obtain rfl := Option.some.inj (gPow.symm.trans hg2)
  obtain rfl := Option.some.inj (tPow.symm.trans ht2)
  have l2 := leaves_of_trod _ 4 _ _ _ _ fPow hd2
  obtain ⟨x2⟩ := cs2
  dsimp only at l2
  subst l2
  exact Lib.tabBelow_of_tabIs (show Lib.TabIs Tryz.prog W "internal/strconv.uint64pow10" .u64 Lib.pow10Tab from hv2)
noncomputable def laidWorld (os : Os) : World :=
  { World.doorLaid Tryz.prog 34 os with heap := (World.doorLaid Tryz.prog 34 os).heap.modify 0 fun
      | .cells _ t frozen => .cells (leaves (H := Unit) Go.Pinned.utf8First).toArray t frozen
      | o => o }
namespace declComps
set_option maxRecDepth 100000 in
theorem contract (H : Type) (enc : TypeId × Value → H) (W : World) (base : Nat) (args : Array Value) (ds gs : List (DataW H)) (before : List MemPlace)
    (hval : ∀ (j : Nat) t v, Tryz.f3.params[j]? = some t → args[j]? = some v → Value.okWide Tryz.prog W .any base t v)
    (hW : DataW.Whole enc Tryz.prog Tryz.f3.params.toList Rows.declCompsSpec.vars false W args.toList ds gs before) (hL : laidMetH Tryz.prog laidL W) (_ : W.ShapedOpen Tryz.prog)
    (hz : (DataW.weightsEach Tryz.prog (Tryz.f3.params.toList ++ (OpenSpec.ofChange Rows.declCompsSpec).bare.plain.varTypes Tryz.prog) (ds ++ gs)).all (· ≤ reachBytes) = true) :
    Calls Tryz.prog 3 args W fun e W' => ∃ v, e = .returned v ∧ Rows.declCompsSpec.post enc Tryz.prog Tryz.f3 false true false false W args v W' := by
  have hW' := hW
  obtain ⟨p, q, hA0, hV, rfl, hfz, hnd⟩ := hW
  have hA : DataW.TrodAll enc Tryz.prog W 0 (fun _ => true) true Tryz.f3.params.toList args.toList ds p := hA0
  rw [Tryz.params3] at hA hval hz
  have hAll := hA
  obtain ⟨v0, vs0, d0, ds0, p0, q0, hargs, rfl, rfl, h0, r0⟩ := trodAll_cons hA
  obtain ⟨v1, vs1, d1, ds1, p1, q1, rfl, rfl, rfl, h1, r1⟩ := trodAll_cons r0
  obtain ⟨v2, vs2, d2, ds2, p2, q2, rfl, rfl, rfl, h2, r2⟩ := trodAll_cons r1
  obtain ⟨v3, vs3, d3, ds3, p3, q3, rfl, rfl, rfl, h3, r3⟩ := trodAll_cons r2
  obtain ⟨rfl, rfl, rfl⟩ := trodAll_nil r3
  obtain rfl : args = #[v0, v1, v2, v3] := by cases args; simp_all
  obtain ⟨rfl, rfl⟩ := trodVars_none hV
  obtain ⟨l, Gl, Nl, Fl⟩ := open_groupsW (hval 0 22 v0 rfl rfl) h0 (fun n hn => by
    have := List.all_eq_true.1 hz n (DataW.weights_mem_each (j := 0) (t := 22) rfl rfl n hn)
    simpa using this)
  obtain ⟨ids, Nids, Bids, Lids⟩ := open_intsv (hval 1 23 v1 rfl rfl) h1
  obtain ⟨n, rfl, rfl, rfl, wn⟩ := open_int Tryz.underlying3 (hval 2 3 v2 rfl rfl) h2
  obtain ⟨want, rfl, rfl, rfl, wwant⟩ := open_int Tryz.underlying24 (hval 3 24 v3 rfl rfl) h3
  have ht := tab_of_laid hL
  refine (declComps_any _ _ l ids n want W Gl Nids Nl Fl ht).mono fun e W' ⟨he, bel⟩ => ?_
  subst he
  exact ⟨_, rfl, _, _, _, [], _, [], hW', trodAll_mk1 (shut_bool Tryz.underlying4 _), trodAll_below laidOut bel (by kernel_rfl) hAll, rfl, bel.frame _, fun h => by cases h⟩
theorem laid_met (os : Os) : laidMet Tryz.prog Rows.declCompsRow.laid ((laidWorld os).forCall (fun _ _ => 0) ⟨#[], #[.slice none 0 0, .slice none 0 0, .int .i64 0, .int .i64 0], []⟩).memory :=
  laidMet_of_run' 8 (by kernel_rfl) (by kernel_rfl)
theorem reads (os : Os) {H : Type} (enc : TypeId × Value → H) : ∃ places, DataW.whole enc Tryz.prog ((laidWorld os).forCall (fun _ _ => 0) ⟨#[], #[.slice none 0 0, .slice none 0 0, .int .i64 0, .int .i64 0], []⟩).memory Tryz.f3.params.toList Rows.declCompsSpec.vars false #[.slice none 0 0, .slice none 0 0, .int .i64 0, .int .i64 0].toList 8 = some ([.nil, .nil, .lit (.int .i64 0), .lit (.int .i64 0)], [], places) :=
  ⟨[], by kernel_rfl⟩
set_option maxRecDepth 100000 in
theorem lifted (os : Os) (started : os.Started) (H : Type) (enc : TypeId × Value → H) (F : Stop.Interp) :
    ReturnsInHanded {} Tryz.checked os 3 .any ((OpenSpec.ofChange Rows.declCompsSpec).preRow enc Tryz.prog Tryz.f3 Rows.declCompsRow.domain false Rows.declCompsRow.laid) (((OpenSpec.ofChange Rows.declCompsSpec).at F).post enc Tryz.prog Tryz.f3 false true false false) := by
  obtain ⟨places, hx⟩ := reads os enc
  refine returnsInHanded_of_row (C := Tryz.checked) (s := OpenSpec.ofChange Rows.declCompsSpec) own started (by kernel_rfl) Tryz.func3
    (witness_row_at (enc := enc) (C := Tryz.checked) false (laidWorld os) #[.slice none 0 0, .slice none 0 0, .int .i64 0, .int .i64 0] rfl (by kernel_rfl) (by kernel_rfl) (by kernel_rfl)
      (OpenSpec.preRow_of_cond 8 hx (by kernel_rfl) (fun k hk => by cases hk) (by kernel_rfl) (laid_met os))) ?_
  intro W base args ds gs before hval hW _ _ hz hL hS _
  exact contract H enc W base args ds gs before hval hW hL hS hz
theorem said : Rows.DeclCompsSaid :=
  OpenClaim.holds_of_cond 3 Tryz.f3 rfl rfl rfl rfl rfl rfl rfl ⟨rfl, rfl, rfl, rfl, rfl⟩ rfl rfl rfl rfl rfl (by kernel_rfl) Tryz.func3 (by kernel_rfl)
    (of_decide_eq_true (by kernel_rfl)) (by unfold Func.isWrapper; first | (rw [if_pos (by decide +kernel)]; kernel_rfl) | (rw [if_neg (by decide +kernel)]; exact ⟨rfl, rfl⟩))
    (fun os started H enc _ F => by rw [OpenClaim.pre_eq_preRow]; exact lifted os started H enc F)
theorem plain (f : FuncId) (fn : Func) (hf : Tryz.pinned.checked.prog.funcNamed "geode/geodelaw12.DeclComps" = some f) (hfn : Tryz.pinned.checked.prog.funcs[f]? = some fn) :
    false = Tryz.pinned.checked.prog.looks [] ∧ ∀ (j : Nat) t, fn.params[j]? = some t → Tryz.pinned.checked.prog.wantsStandIn t = false := by
  obtain rfl : f = 3 := Option.some.inj ((show Tryz.prog.funcNamed "geode/geodelaw12.DeclComps" = some 3 by kernel_rfl).symm.trans hf) |>.symm
  obtain rfl : fn = Tryz.f3 := (Option.some.inj (Tryz.func3.symm.trans hfn)).symm
  refine ⟨by kernel_rfl, fun j t ht => ?_⟩
  rw [Tryz.params3] at ht
  have hm : t ∈ ([22, 23, 3, 24] : List TypeId) := by simpa using Array.mem_of_getElem? ht
  have hall : (([22, 23, 3, 24] : List TypeId).all fun u => !Tryz.prog.wantsStandIn u) = true := by kernel_rfl
  exact (show Tryz.prog.wantsStandIn t = false by simpa using List.all_eq_true.1 hall t hm)
theorem card : Rows.DeclCompsCardSaid :=
  Claim7.holds_tied_plain_at .later [] _ _ _ _ said (fun _ h => by cases h) (by kernel_rfl) (fun _ h => by cases h) declComps_row_tie rfl ⟨rfl, rfl⟩ (by kernel_rfl) rfl plain (by kernel_rfl)
end declComps
end Go.Proofs.YtpddbaijnjbfdaaGreatDoor
