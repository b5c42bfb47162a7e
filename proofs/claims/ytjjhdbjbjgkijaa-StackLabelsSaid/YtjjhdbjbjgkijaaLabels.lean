/- Layer 14 (stack): StackLabels: labels count from the innermost frame; each frame takes its label with it, and what was given in it. For all lists. -/
import Derived.Test.YtjjhdbjbjgkijaaWithin
import Derived.Test.YtjjhdbjbjgkijaaCells
namespace Go.Proofs.Ytjjhdbjbjgkijaa
open Go.RowKit Go.Maps Go.WideMaps

theorem give_sys {S : Nat → Prop} {w0 w : World} {M T : Nat} {vals : List Vl} {fs : List Frm} {f : Frm} {gs : List Int} (h : Sys S w0 w M T vals (fs ++ [f]) gs) (hfg : f.g = false) (n : Nat) (hn : n ≤ 1000000) (hgs : gs.contains (n : Int) = false) (b2 : fs.length ≤ 1000000) (b4 : gs.length ≤ 1000000) :
    Calls Try.prog 21 #[.pointer (some ⟨M, 0, none⟩), .int .i64 n] w (SysPost S w w0 M T (.int .i64 0) vals (fs ++ [{ f with g := true }]) (gs ++ [(n : Int)])) :=
  (give_at S w M T vals fs f gs h.mach hfg n hn hgs b2 b4).mono fun _ _ hm => h.mpost hm
def lfr (ops : List Int) (rs : List (List Vl)) (j : Nat) : Frm := ⟨ops.getD j 0, [], rs.getD j [], 0, true, true⟩
def lfrs (ops : List Int) (rs : List (List Vl)) (i : Nat) : List Frm := (List.range i).map (lfr ops rs)
def lgs (i : Nat) : List Int := (List.range i).map fun (j : Nat) => (j : Int)
theorem lfrs_len (ops : List Int) (rs : List (List Vl)) (i : Nat) : (lfrs ops rs i).length = i := by simp [lfrs]
theorem lfrs_at (ops : List Int) (rs : List (List Vl)) {i k : Nat} (h : k < i) : (lfrs ops rs i)[k]? = some (lfr ops rs k) := by simp [lfrs, h]
theorem lfrs_succ (ops : List Int) (rs : List (List Vl)) (i : Nat) : lfrs ops rs (i + 1) = lfrs ops rs i ++ [lfr ops rs i] := by simp [lfrs, List.range_succ]
theorem lfrs_ht (ops : List Int) (rs : List (List Vl)) (i : Nat) : ∀ f ∈ lfrs ops rs i, f.ht ≤ 1000000 := fun f hf => by
  obtain ⟨j, _, rfl⟩ := List.mem_map.1 hf
  exact Nat.zero_le _
theorem lgs_len (i : Nat) : (lgs i).length = i := by simp [lgs]
theorem lgs_succ (i : Nat) : lgs (i + 1) = lgs i ++ [(i : Int)] := by simp [lgs, List.range_succ]
theorem lgs_has {i k : Nat} (h : k < i) : (lgs i).contains (k : Int) = true := by
  rw [List.contains_iff_mem]
  exact List.mem_map.2 ⟨k, List.mem_range.2 h, rfl⟩
theorem lgs_hasnt {i k : Nat} (h : i ≤ k) : (lgs i).contains (k : Int) = false := by
  rw [Bool.eq_false_iff]
  intro hc
  rw [List.contains_iff_mem] at hc
  obtain ⟨j, hj, he⟩ := List.mem_map.1 hc
  have := List.mem_range.1 hj
  omega
theorem topF_lfrs (ops : List Int) (rs : List (List Vl)) (i : Nat) (vs : List Vl) : takeR (topF (lfrs ops rs i)).1 (topF (lfrs ops rs i)).2 ([] : List Vl).reverse vs = (0, vs) := rfl
/-- Lists of value types that came in. -/
structure RowsAt (w : World) (v : Value) (xs : List Value) (rs : List (List Vl)) : Prop where
  cells : CellsAt w v xs
  len : xs.length = rs.length
  rows : ∀ i (h : i < xs.length), ValsAt w xs[i] (rs.getD i [])
  fits : ∀ i, (rs.getD i []).length ≤ maxLen
/-- Within: the list at a place, or none. -/
theorem RowsAt.pick {w : World} {v : Value} {xs : List Value} {rs : List (List Vl)} (h : RowsAt w v xs rs) (i : Nat) : ValsAt w (xs.getD i (.slice none 0 0)) (rs.getD i []) := by
  by_cases hi : i < xs.length
  · have := h.rows i hi
    simp [hi] at this ⊢; exact this
  · have h2 : rs.length ≤ i := by rw [← h.len]; omega
    have h3 : xs.length ≤ i := by omega
    simp [h2, h3]
    exact .inl ⟨rfl, rfl⟩
theorem labels_long (ops : List Int) (a b : Value) (w : World) (ha : CellsAt w a (ops.map (.int .i64))) (hl : ops.length ≤ maxLen) (h20 : 20 < ops.length) :
    Calls Try.prog 4 #[a, b] w (LawPost w) := by
  obtain ⟨ao, ca, rfl⟩ := ha.form
  rw [List.length_map]
  unfold maxLen at hl
  have h2 : (20 : Int) < ops.length := by omega
  clear ha
  go_enter Try.func4, Try.ntmps4
  go_wp2_with fail
  refine (known_any _).mono ?_
  rintro e w1 ⟨rfl, hb⟩
  go_wp2
  go_ret
  exact ⟨rfl, hb⟩
set_option maxRecDepth 100000 in
set_option maxHeartbeats 4000000 in
theorem labels_short (ops : List Int) (a b : Value) (xs : List Value) (rs : List (List Vl)) (w : World) (ha : CellsAt w a (ops.map (.int .i64))) (hb : RowsAt w b xs rs) (hl : ops.length ≤ 20) (hx : xs.length ≤ maxLen) :
    Calls Try.prog 4 #[a, b] w (LawPost w) := by
  obtain ⟨ao, ca, rfl⟩ := ha.form
  obtain ⟨bo, cb, rfl⟩ := hb.cells.form
  rw [List.length_map] at ha ⊢
  have HA := Lib.hid ha; have HBB := Lib.hid hb
  clear ha hb
  unfold maxLen at hx
  have i1 : ¬ (20 : Int) < ops.length := by omega
  go_enter Try.func4, Try.ntmps4
  go_wp2_with fail
  refine (known_any _).mono ?_
  rintro e w1 ⟨rfl, hb1⟩
  go_wp2_with fail
  refine (rollNew_any _).mono ?_
  rintro e w2 ⟨T, rfl, _, ht, hb2⟩
  have hb12 := hb1.trans (hb2.mono hb1.size)
  go_wp2_with fail
  refine (new_sys w w2 T ht hb12).mono ?_
  rintro e w3 ⟨M, S3, rfl, h3⟩
  have H3 := Lib.hid h3
  clear hb1 hb2 hb12 h3 ht
  go_wp2
  go_loopw [6] (fun t6 wr => ∃ (i : Nat) (S : Nat → Prop), i ≤ ops.length ∧ t6 = .int .i64 i ∧ (∀ j < i, (rs.getD j []).length ≤ 10) ∧ Sys S w wr M T [] (lfrs ops rs i) (lgs i)) (fun t6 _ => ops.length - (intOf t6).toNat)
  case atStart => exact ⟨0, S3, Nat.zero_le _, rfl, fun j hj => by omega, H3.out⟩
  case round =>
    obtain ⟨i, S, hi, rfl, hten, h⟩ := hrel
    have H := Lib.hid h
    clear h
    by_cases hlt : i < ops.length
    · have j1 : (i : Int) < ops.length := by omega
      have hrow := HBB.out.pick i
      obtain ⟨rao, rcap, hrv⟩ := hrow.form
      have hrow2 := (H.out.old hrow).1
      have hrowS := (H.out.old hrow).2
      rw [hrv] at hrow2 hrowS
      have HR := Lib.hid hrow2; have HRS := Lib.hid hrowS
      obtain ⟨ob, ooff, rfl, _, hoc⟩ := HA.out.at (by simp; omega)
      have c0 := below_cell H.out.below (hoc i (by simp; exact hlt))
      rw [List.getElem_map] at c0
      obtain ⟨op, hop⟩ : ∃ op, ops[i] = op := ⟨_, rfl⟩
      rw [hop] at c0
      have hfr : ops.getD i 0 = op := by simp [hlt, hop]
      have HF := Lib.hid hfr
      have hfit := HBB.out.fits i
      unfold maxLen at hfit
      obtain ⟨rl, hrl⟩ : ∃ rl, rs.getD i [] = rl := ⟨_, rfl⟩
      have HRL := Lib.hid hrl
      rw [hrl] at HR HRS hrv hfit
      have hocells : ∀ k (hk : k < ops.length), w.cell? ⟨ob, ooff + k, none⟩ = some (.int .i64 ops[k]) := fun k hk => by have := hoc k (by simp; exact hk); rwa [List.getElem_map] at this
      have hocells : ∀ k (hk : k < ops.length), w.cell? ⟨ob, ooff + k, none⟩ = some (.int .i64 ops[k]) := fun k hk => by have := hoc k (by simp; exact hk); rwa [List.getElem_map] at this
      have hocells : ∀ k (hk : k < ops.length), w.cell? ⟨ob, ooff + k, none⟩ = some (.int .i64 ops[k]) := fun k hk => by have := hoc k (by simp; exact hk); rwa [List.getElem_map] at this
      have hocells : ∀ k (hk : k < ops.length), w.cell? ⟨ob, ooff + k, none⟩ = some (.int .i64 ops[k]) := fun k hk => by have := hoc k (by simp; exact hk); rwa [List.getElem_map] at this
      have hocells : ∀ k (hk : k < ops.length), w.cell? ⟨ob, ooff + k, none⟩ = some (.int .i64 ops[k]) := fun k hk => by have := hoc k (by simp; exact hk); rwa [List.getElem_map] at this
      have hocells : ∀ k (hk : k < ops.length), w.cell? ⟨ob, ooff + k, none⟩ = some (.int .i64 ops[k]) := fun k hk => by have := hoc k (by simp; exact hk); rwa [List.getElem_map] at this
      clear hrow hrow2 hrowS hoc hop hfr hrl
      have w1 : IntKind.i64.wrap ((i : Int) + 1) = ((i + 1 : Nat) : Int) := by rw [IntWalk.i64_in _ ⟨by omega, by omega⟩]; omega
      -- MAIN
      by_cases hrl2 : i < xs.length
      · have j2 : (i : Int) < xs.length := by omega
        obtain ⟨rb, roff, rfl, _, hrc⟩ := HBB.out.cells.at (by omega)
        have cr := below_cell H.out.below (hrc i hrl2)
        rw [show xs[i] = xs.getD i (.slice none 0 0) by simp [hrl2], hrv] at cr
        clear hrc hrv
        by_cases h10 : 10 < rl.length
        · have h10i : (10 : Int) < rl.length := by omega
          go_wp2
          go_ret
          exact ⟨rfl, H.out.below⟩
        · have h10i : ¬ (10 : Int) < rl.length := by omega
          go_wp2_with fail
          refine (open_sys H.out op (.slice none 0 0) _ [] rl (.inl ⟨rfl, rfl⟩) HR.out (fun h => by simp at h) HRS.out (by simp) (by first | omega | simp) (by simp) (by rw [lfrs_len]; omega) (lfrs_ht _ _ _) [] rfl).mono ?_
          rintro e w4 ⟨rfl, S4, h4, _, _⟩
          rw [List.append_nil] at h4
          go_wp2_with fail
          refine (give_sys (f := ⟨op, [], rl, 0, false, false⟩) h4 rfl i (by omega) (lgs_hasnt (Nat.le_refl _)) (by rw [lfrs_len]; omega) (by rw [lgs_len]; omega)).mono ?_
          rintro e w5 ⟨rfl, S5, h5, _, _⟩
          go_wp2_with fail
          refine (die_sys (f := ⟨op, [], rl, 0, false, true⟩) h5 (Nat.zero_le _) (by simp) (by rw [lfrs_len]; omega)).mono ?_
          rintro e w6 ⟨rfl, S6, h6, _, _⟩
          have h6' : Sys S6 w w6 M T [] (lfrs ops rs (i + 1)) (lgs (i + 1)) := by
            rw [lfrs_succ, lgs_succ, lfr, HF.out, HRL.out]; exact h6
          have H6 := Lib.hid h6'
          have hten2 : ∀ j < i + 1, (rs.getD j []).length ≤ 10 := fun j hj => by
            by_cases e : j = i
            · subst e; rw [HRL.out]; first | omega | simp
            · exact hten j (by omega)
          clear h4 h5 h6 h6' hten HF HR HRS
          go_wp2
          go_loopw [8] (fun t8 wr => ∃ k : Nat, k ≤ i + 1 ∧ t8 = .int .i64 k ∧ Sys S6 w wr M T [] (lfrs ops rs (i + 1)) (lgs (i + 1))) (fun t8 _ => i + 1 - (intOf t8).toNat)
          case atStart => exact ⟨0, Nat.zero_le _, rfl, H6.out⟩
          case round =>
            obtain ⟨k, hk, rfl, hh⟩ := hrel
            have HK := Lib.hid hh
            clear hh
            by_cases hki : k ≤ i
            · have k1 : (k : Int) ≤ i := by omega
              have k2 : (k : Int) < ops.length := by omega
              have k3 : IntKind.i64.wrap ((i : Int) - k) = ((i - k : Nat) : Int) := by rw [IntWalk.i64_in _ ⟨by omega, by omega⟩]; omega
              have k4 : IntKind.i64.wrap ((k : Int) + 1) = ((k + 1 : Nat) : Int) := by rw [IntWalk.i64_in _ ⟨by omega, by omega⟩]; omega
              have hkt := hten2 k (by omega)
              obtain ⟨opk, hok⟩ : ∃ op, ops[k]'(by omega) = op := ⟨_, rfl⟩
              have cK := hocells k (by omega)
              rw [hok] at cK
              have hfk : lfr ops rs k = ⟨opk, [], rs.getD k [], 0, true, true⟩ := by simp [lfr, show k < ops.length by omega, hok]
              go_wp2_with fail
              refine (label_sys HK.out (i - k) k (by rw [lfrs_len]; omega) (lfr ops rs k) (lfrs_at _ _ (by omega)) (by rw [lfrs_len]; omega) (by omega) (by omega) (by simp [lfr]) (by simp only [lfr]; omega)).mono ?_
              rintro e wl ⟨lv, rfl, hlo, hbl⟩
              rw [hfk] at hlo
              have hlv := ValsAt.of_own hlo
              obtain ⟨lao, lcap, rfl⟩ := hlv.form
              have HLV := Lib.hid hlv
              have HL := Lib.hid (HK.out.ext hbl)
              have cl0 := below_cell HL.out.below cK
              clear hbl hlo hlv HK hok hfk cK
              by_cases hkr : k < xs.length
              · have k5 : (k : Int) < xs.length := by omega
                by_cases h3 : opk = 3
                · subst h3
                  go_wp2_with fail
                  refine (same_below _ _ [] _ (HLV.out) (.inl ⟨rfl, rfl⟩) (by simp)).mono ?_
                  rintro e ws ⟨rfl, hbs⟩
                  have HS := Lib.hid (HL.out.ext hbs)
                  clear hbs HL
                  go_wp2_with fail
                  refine (given_at S6 _ M T [] _ _ HS.out.mach k ⟨by omega, by omega⟩).mono ?_
                  rw [lgs_has (show k < i + 1 by omega)]
                  rintro e wg ⟨rfl, hbg⟩
                  have HG := Lib.hid (HS.out.ext hbg)
                  clear hbg HS
                  go_wp2
                  go_roundw
                  case rel => exact ⟨k + 1, by omega, rfl, HG.out⟩
                  case measure => simp [intOf]; omega
                · have h3b : (opk == 3) = false := by simpa using h3
                  have hrk := HBB.out.pick k
                  obtain ⟨kao, kcap, hkv⟩ := hrk.form
                  rw [hkv] at hrk
                  obtain ⟨rb, roff, hbo, _, hrc⟩ := HBB.out.cells.at (by omega)
                  first | subst hbo | (simp only [Option.some.injEq, Addr.mk.injEq, and_true] at hbo; obtain ⟨rfl, rfl⟩ := hbo)
                  have cr := hrc k hkr
                  rw [show xs[k] = xs.getD k (.slice none 0 0) by simp [hkr], hkv] at cr
                  have cr2 := below_cell HL.out.below cr
                  have HRK := Lib.hid (hrk.below HL.out.below)
                  have HLB : labL ⟨opk, [], rs.getD k [], 0, true, true⟩ = rs.getD k [] := by simp [labL, h3]
                  rw [HLB] at HLV ⊢
                  clear hrk hkv hrc cr
                  go_wp2_with fail
                  refine (same_below _ _ (rs.getD k []) _ (HLV.out) (HRK.out) (by omega)).mono ?_
                  rintro e ws ⟨rfl, hbs⟩
                  have HS := Lib.hid (HL.out.ext hbs)
                  clear hbs HL
                  go_wp2_with fail
                  refine (given_at S6 _ M T [] _ _ HS.out.mach k ⟨by omega, by omega⟩).mono ?_
                  rw [lgs_has (show k < i + 1 by omega)]
                  rintro e wg ⟨rfl, hbg⟩
                  have HG := Lib.hid (HS.out.ext hbg)
                  clear hbg HS
                  go_wp2
                  go_roundw
                  case rel => exact ⟨k + 1, by omega, rfl, HG.out⟩
                  case measure => simp [intOf]; omega
              · have k5 : ¬ (k : Int) < xs.length := by omega
                have hnil : rs.getD k [] = [] := by
                  have := HBB.out.len
                  simp [show rs.length ≤ k by omega]
                have HLB : labL ⟨opk, [], rs.getD k [], 0, true, true⟩ = [] := by simp only [labL, hnil]; split <;> rfl
                rw [HLB] at HLV ⊢
                go_wp2_with fail
                refine (same_below _ _ [] _ (HLV.out) (.inl ⟨rfl, rfl⟩) (by simp)).mono ?_
                rintro e ws ⟨rfl, hbs⟩
                have HS := Lib.hid (HL.out.ext hbs)
                clear hbs HL
                go_wp2_with fail
                refine (given_at S6 _ M T [] _ _ HS.out.mach k ⟨by omega, by omega⟩).mono ?_
                rw [lgs_has (show k < i + 1 by omega)]
                rintro e wg ⟨rfl, hbg⟩
                have HG := Lib.hid (HS.out.ext hbg)
                clear hbg HS
                go_wp2
                go_roundw
                case rel => exact ⟨k + 1, by omega, rfl, HG.out⟩
                case measure => simp [intOf]; omega
            · obtain rfl : k = i + 1 := by omega
              have k1 : ¬ ((i + 1 : Nat) : Int) ≤ i := by omega
              have k1' : ¬ ((i : Int) + 1) ≤ i := by omega
              go_wp2_with fail
              refine (label_out S6 _ M T [] _ _ HK.out.mach (i + 1) (by rw [lfrs_len]; omega) (by rw [lfrs_len]; omega) (by omega)).mono ?_
              rintro e w' ⟨rfl, rfl⟩
              go_wp2_with fail
              refine (given_at S6 _ M T [] _ _ HK.out.mach ((i + 1 : Nat) : Int) ⟨by omega, by omega⟩).mono ?_
              rw [lgs_hasnt (Nat.le_refl (i + 1))]
              rintro e wg ⟨rfl, hbg⟩
              have HG := Lib.hid (HK.out.ext hbg)
              clear hbg
              go_wp2_with fail
              refine (frames_at S6 _ M T [] _ _ HG.out.mach).mono ?_
              rw [lfrs_len]
              rintro e w' ⟨rfl, rfl⟩
              go_wp2
              go_roundw
              case rel => exact ⟨i + 1, S6, by omega, rfl, fun j hj => hten2 j (by omega), HG.out⟩
              case measure => simp [intOf]; omega
      · have j2 : ¬ (i : Int) < xs.length := by omega
        have hnone : xs.getD i (.slice none 0 0) = .slice none 0 0 := by simp [show xs.length ≤ i by omega]
        rw [hnone] at hrv
        simp only [Value.slice.injEq] at hrv
        obtain ⟨rfl, hz, rfl⟩ := hrv
        obtain rfl : rl = [] := List.eq_nil_of_length_eq_zero hz.symm
        simp only [List.length_nil] at HR HRS
        clear hz hnone hfit
        go_wp2_with fail
        refine (open_sys H.out op (.slice none 0 0) _ [] [] (.inl ⟨rfl, rfl⟩) HR.out (fun h => by simp at h) HRS.out (by simp) (by first | omega | simp) (by simp) (by rw [lfrs_len]; omega) (lfrs_ht _ _ _) [] rfl).mono ?_
        rintro e w4 ⟨rfl, S4, h4, _, _⟩
        rw [List.append_nil] at h4
        go_wp2_with fail
        refine (give_sys (f := ⟨op, [], [], 0, false, false⟩) h4 rfl i (by omega) (lgs_hasnt (Nat.le_refl _)) (by rw [lfrs_len]; omega) (by rw [lgs_len]; omega)).mono ?_
        rintro e w5 ⟨rfl, S5, h5, _, _⟩
        go_wp2_with fail
        refine (die_sys (f := ⟨op, [], [], 0, false, true⟩) h5 (Nat.zero_le _) (by simp) (by rw [lfrs_len]; omega)).mono ?_
        rintro e w6 ⟨rfl, S6, h6, _, _⟩
        have h6' : Sys S6 w w6 M T [] (lfrs ops rs (i + 1)) (lgs (i + 1)) := by
          rw [lfrs_succ, lgs_succ, lfr, HF.out, HRL.out]; exact h6
        have H6 := Lib.hid h6'
        have hten2 : ∀ j < i + 1, (rs.getD j []).length ≤ 10 := fun j hj => by
          by_cases e : j = i
          · subst e; rw [HRL.out]; first | omega | simp
          · exact hten j (by omega)
        clear h4 h5 h6 h6' hten HF HR HRS
        go_wp2
        go_loopw [8] (fun t8 wr => ∃ k : Nat, k ≤ i + 1 ∧ t8 = .int .i64 k ∧ Sys S6 w wr M T [] (lfrs ops rs (i + 1)) (lgs (i + 1))) (fun t8 _ => i + 1 - (intOf t8).toNat)
        case atStart => exact ⟨0, Nat.zero_le _, rfl, H6.out⟩
        case round =>
          obtain ⟨k, hk, rfl, hh⟩ := hrel
          have HK := Lib.hid hh
          clear hh
          by_cases hki : k ≤ i
          · have k1 : (k : Int) ≤ i := by omega
            have k2 : (k : Int) < ops.length := by omega
            have k3 : IntKind.i64.wrap ((i : Int) - k) = ((i - k : Nat) : Int) := by rw [IntWalk.i64_in _ ⟨by omega, by omega⟩]; omega
            have k4 : IntKind.i64.wrap ((k : Int) + 1) = ((k + 1 : Nat) : Int) := by rw [IntWalk.i64_in _ ⟨by omega, by omega⟩]; omega
            have hkt := hten2 k (by omega)
            obtain ⟨opk, hok⟩ : ∃ op, ops[k]'(by omega) = op := ⟨_, rfl⟩
            have cK := hocells k (by omega)
            rw [hok] at cK
            have hfk : lfr ops rs k = ⟨opk, [], rs.getD k [], 0, true, true⟩ := by simp [lfr, show k < ops.length by omega, hok]
            go_wp2_with fail
            refine (label_sys HK.out (i - k) k (by rw [lfrs_len]; omega) (lfr ops rs k) (lfrs_at _ _ (by omega)) (by rw [lfrs_len]; omega) (by omega) (by omega) (by simp [lfr]) (by simp only [lfr]; omega)).mono ?_
            rintro e wl ⟨lv, rfl, hlo, hbl⟩
            rw [hfk] at hlo
            have hlv := ValsAt.of_own hlo
            obtain ⟨lao, lcap, rfl⟩ := hlv.form
            have HLV := Lib.hid hlv
            have HL := Lib.hid (HK.out.ext hbl)
            have cl0 := below_cell HL.out.below cK
            clear hbl hlo hlv HK hok hfk cK
            by_cases hkr : k < xs.length
            · have k5 : (k : Int) < xs.length := by omega
              by_cases h3 : opk = 3
              · subst h3
                go_wp2_with fail
                refine (same_below _ _ [] _ (HLV.out) (.inl ⟨rfl, rfl⟩) (by simp)).mono ?_
                rintro e ws ⟨rfl, hbs⟩
                have HS := Lib.hid (HL.out.ext hbs)
                clear hbs HL
                go_wp2_with fail
                refine (given_at S6 _ M T [] _ _ HS.out.mach k ⟨by omega, by omega⟩).mono ?_
                rw [lgs_has (show k < i + 1 by omega)]
                rintro e wg ⟨rfl, hbg⟩
                have HG := Lib.hid (HS.out.ext hbg)
                clear hbg HS
                go_wp2
                go_roundw
                case rel => exact ⟨k + 1, by omega, rfl, HG.out⟩
                case measure => simp [intOf]; omega
              · have h3b : (opk == 3) = false := by simpa using h3
                have hrk := HBB.out.pick k
                obtain ⟨kao, kcap, hkv⟩ := hrk.form
                rw [hkv] at hrk
                obtain ⟨rb, roff, hbo, _, hrc⟩ := HBB.out.cells.at (by omega)
                first | subst hbo | (simp only [Option.some.injEq, Addr.mk.injEq, and_true] at hbo; obtain ⟨rfl, rfl⟩ := hbo)
                have cr := hrc k hkr
                rw [show xs[k] = xs.getD k (.slice none 0 0) by simp [hkr], hkv] at cr
                have cr2 := below_cell HL.out.below cr
                have HRK := Lib.hid (hrk.below HL.out.below)
                have HLB : labL ⟨opk, [], rs.getD k [], 0, true, true⟩ = rs.getD k [] := by simp [labL, h3]
                rw [HLB] at HLV ⊢
                clear hrk hkv hrc cr
                go_wp2_with fail
                refine (same_below _ _ (rs.getD k []) _ (HLV.out) (HRK.out) (by omega)).mono ?_
                rintro e ws ⟨rfl, hbs⟩
                have HS := Lib.hid (HL.out.ext hbs)
                clear hbs HL
                go_wp2_with fail
                refine (given_at S6 _ M T [] _ _ HS.out.mach k ⟨by omega, by omega⟩).mono ?_
                rw [lgs_has (show k < i + 1 by omega)]
                rintro e wg ⟨rfl, hbg⟩
                have HG := Lib.hid (HS.out.ext hbg)
                clear hbg HS
                go_wp2
                go_roundw
                case rel => exact ⟨k + 1, by omega, rfl, HG.out⟩
                case measure => simp [intOf]; omega
            · have k5 : ¬ (k : Int) < xs.length := by omega
              have hnil : rs.getD k [] = [] := by
                have := HBB.out.len
                simp [show rs.length ≤ k by omega]
              have HLB : labL ⟨opk, [], rs.getD k [], 0, true, true⟩ = [] := by simp only [labL, hnil]; split <;> rfl
              rw [HLB] at HLV ⊢
              go_wp2_with fail
              refine (same_below _ _ [] _ (HLV.out) (.inl ⟨rfl, rfl⟩) (by simp)).mono ?_
              rintro e ws ⟨rfl, hbs⟩
              have HS := Lib.hid (HL.out.ext hbs)
              clear hbs HL
              go_wp2_with fail
              refine (given_at S6 _ M T [] _ _ HS.out.mach k ⟨by omega, by omega⟩).mono ?_
              rw [lgs_has (show k < i + 1 by omega)]
              rintro e wg ⟨rfl, hbg⟩
              have HG := Lib.hid (HS.out.ext hbg)
              clear hbg HS
              go_wp2
              go_roundw
              case rel => exact ⟨k + 1, by omega, rfl, HG.out⟩
              case measure => simp [intOf]; omega
          · obtain rfl : k = i + 1 := by omega
            have k1 : ¬ ((i + 1 : Nat) : Int) ≤ i := by omega
            have k1' : ¬ ((i : Int) + 1) ≤ i := by omega
            go_wp2_with fail
            refine (label_out S6 _ M T [] _ _ HK.out.mach (i + 1) (by rw [lfrs_len]; omega) (by rw [lfrs_len]; omega) (by omega)).mono ?_
            rintro e w' ⟨rfl, rfl⟩
            go_wp2_with fail
            refine (given_at S6 _ M T [] _ _ HK.out.mach ((i + 1 : Nat) : Int) ⟨by omega, by omega⟩).mono ?_
            rw [lgs_hasnt (Nat.le_refl (i + 1))]
            rintro e wg ⟨rfl, hbg⟩
            have HG := Lib.hid (HK.out.ext hbg)
            clear hbg
            go_wp2_with fail
            refine (frames_at S6 _ M T [] _ _ HG.out.mach).mono ?_
            rw [lfrs_len]
            rintro e w' ⟨rfl, rfl⟩
            go_wp2
            go_roundw
            case rel => exact ⟨i + 1, S6, by omega, rfl, fun j hj => hten2 j (by omega), HG.out⟩
            case measure => simp [intOf]; omega
    · have j1 : ¬ (i : Int) < ops.length := by omega
      go_wp2
      go_ret
      exact ⟨rfl, H.out.below⟩
theorem labels_any (ops : List Int) (a b : Value) (xs : List Value) (rs : List (List Vl)) (w : World) (ha : CellsAt w a (ops.map (.int .i64))) (hb : RowsAt w b xs rs) (hl : ops.length ≤ maxLen) (hx : xs.length ≤ maxLen) :
    Calls Try.prog 4 #[a, b] w (LawPost w) := by
  by_cases h : 20 < ops.length
  · exact labels_long ops a b w ha hl h
  · exact labels_short ops a b xs rs w ha hb (by omega) hx
end Go.Proofs.Ytjjhdbjbjgkijaa
