/- geodelaw09: RollPlays walked. -/
import Derived.Test.YtoamhiaagaaaaaaGreatDoorQPyJ
import Derived.Test.YtoamhiaagaaaaaaGreatDoorQPyStand
import Derived.Test.YtoamhiaagaaaaaaGreatDoorQRoCopy
import Derived.Test.YtoamhiaagaaaaaaGreatDoorQRfClose
import Derived.Deep.Cut
import Derived.Deep.CutRange
import Derived.Deep.RegionHeldLaw
namespace Go.Proofs.YtoamhiaagaaaaaaGreatDoor
open Go.RowKit Go.Maps Go.WideMaps

/-- What a round asks of a type's lists. -/
def Lim (x : Sb) : Prop := x.ps.length ≤ 30 ∧ x.rs.length ≤ 30 ∧ x.fs.length ≤ 30 ∧ x.sups.length ≤ 30
theorem lim_raw {g : List Sb} (hl : g.length ≤ 10) (h : ∀ x ∈ g, Lim x) (hf : ∀ x ∈ g, Small x → Fits x) : RawG g :=
  ⟨by omega, fun x hx => hf x hx (by obtain ⟨a, b, c, d⟩ := h x hx; exact ⟨by omega, by omega, by omega, by omega⟩), fun x hx => by obtain ⟨a, b, c, d⟩ := h x hx; unfold cnt; omega⟩
theorem wrap_four (m : Int) : wrap64 (m.tmod 4 + 4) = m.tmod 4 + 4 := by
  have h1 := Int.tmod_lt_of_pos m (show (0 : Int) < 4 by decide)
  have h2 := Int.lt_tmod_of_pos m (show (0 : Int) < 4 by decide)
  unfold wrap64; omega
set_option maxRecDepth 100000 in
set_option maxHeartbeats 32000000 in
theorem rollPlays_any (v : Value) (l : List StV) (id : Int) (vv : Vl) (w : World) (hG : StepsAt w v l) (hB : ∀ a ∈ l, B64 a.m ∧ ∀ s ∈ a.g, Small s → Fits s) (htab : Tab w) : Calls Tryz.prog 3 #[v, .int .i64 id, .agg (cellsV vv).toArray] w fun e w' => e = .returned (.bool true) ∧ Below w.heap.size w w' := by
  obtain ⟨ao, cap, rfl⟩ := hG.form
  obtain ⟨vk, vl, vh, vn⟩ := vv
  obtain ⟨n, hn⟩ : ∃ n, l.length = n := ⟨_, rfl⟩
  rw [show cellsV ⟨vk, vl, vh, vn⟩ = [.int .i64 vk, .bool vl, .int .i64 vh, .int .i64 vn] from rfl]
  obtain ⟨wa, hwa⟩ : ∃ wa : World, wa = w.alloc (.cells #[.int .i64 vk, .bool vl, .int .i64 vh, .int .i64 vn] 28) := ⟨_, rfl⟩
  have hba : Below w.heap.size w wa := by rw [hwa]; exact (Below.refl _ _).alloc (Nat.le_refl _) _
  have zv : wa.heap[w.heap.size]? = some (.cells #[.int .i64 vk, .bool vl, .int .i64 vh, .int .i64 vn] 28 (0, 0)) := by rw [hwa]; exact heap_alloc_at _ _ rfl
  obtain ⟨vb, hvb⟩ : ∃ vb, w.heap.size = vb := ⟨_, rfl⟩
  rw [hvb] at zv
  have HG := Lib.hid (hG.below hba (Nat.le_refl _)); have HBB := Lib.hid hB; have HTAB := Lib.hid (htab.on hba); have HN := Lib.hid hn; have HWA := Lib.hid hwa; have HBA := Lib.hid hba; have ZV := Lib.hid zv; have HVB := Lib.hid hvb
  rw [hn]
  clear hG hB htab hn hwa hba zv hvb
  go_enter Tryz.func3, Tryz.ntmps3
  go_wp2_with fail
  rw [← HWA.out, HVB.out]
  refine (known_any wa HTAB.out).mono ?_
  rintro e w1 ⟨rfl, hb1⟩
  have HB1 := Lib.hid (HBA.out.trans (hb1.mono HBA.out.size)); have HG1 := Lib.hid (HG.out.below hb1 (Nat.le_refl _)); have HTAB1 := Lib.hid (HTAB.out.on hb1)
  have ZV1 := Lib.hid ((hb1.block _ (heap_lt ZV.out)).trans ZV.out)
  clear hb1 HG HTAB ZV
  by_cases hn40 : (40 : Int) < n
  · go_wp2
    go_ret
    exact ⟨rfl, HB1.out⟩
  go_wp2_with fail
  refine (new_any _).mono ?_
  rintro e w2 ⟨t, S0, rfl, hta, hba, hbe2⟩
  have hT0 : TabN w1 S0 (fun _ => False) w2 t [] := ⟨hta, ⟨by simp, by simp, by simp, by simp [total]⟩, hba, hbe2⟩
  have hb2a : Below w2.heap.size w2 (w2.alloc (.cells #[.slice none 0 0] 35)) := (Below.refl _ _).alloc (Nat.le_refl _) _
  obtain ⟨w3, hw3⟩ : ∃ w3 : World, w3 = (w2.alloc (.cells #[.slice none 0 0] 35)).alloc (.cells #[.slice none 0 0, .slice none 0 0, .slice none 0 0, .slice none 0 0] 37) := ⟨_, rfl⟩
  have hb3 : Below (w2.alloc (.cells #[.slice none 0 0] 35)).heap.size (w2.alloc (.cells #[.slice none 0 0] 35)) w3 := by rw [hw3]; exact (Below.refl _ _).alloc (Nat.le_refl _) _
  have hbo : Both w1 S0 (fun _ => False) (fun _ => False) w3 t w2.heap.size 0 [] := ⟨(hT0.below hb2a).below hb3, (refK_new (heap_alloc_at _ _ rfl)).below hb3, tabC_nil, fun k hk => ⟨fun q => q, fun e => by have := (hT0.tab.lt k hk).1; omega⟩, fun q => q, hT0.be.size⟩
  have hms : ModsAt S0 w2.heap.size (w2.heap.size + 1) 0 w3 [.slice none 0 0, .slice none 0 0, .slice none 0 0, .slice none 0 0] := ⟨by rw [hw3]; exact heap_alloc_at _ _ (by simp), rfl, fun j v hv => ⟨[], fun w'' _ => by
    have hlt := (List.getElem?_eq_some_iff.1 hv).1
    have : v = .slice none 0 0 := by
      have hm := List.mem_of_getElem? hv
      simpa using hm
    subst this
    exact RowAt.nil w'' 1, Nat.zero_le _⟩⟩
  have hj : PyJ w1 t w2.heap.size (w2.heap.size + 1) 0 w3 := ⟨S0, _, _, [], _, hbo, hms, fun q => by have := (hT0.tab.lt _ q).1; omega, fun q => q, fun q => q, by omega, by have := hT0.be.size; omega⟩
  have HJ := Lib.hid hj; have HN40 := Lib.hid hn40; have HW3 := Lib.hid hw3
  obtain ⟨r, hr⟩ : ∃ r, w2.heap.size = r := ⟨_, rfl⟩
  have hsz : (w2.alloc (.cells #[.slice none 0 0] 35)).heap.size = r + 1 := by rw [← hr]; simp
  rw [hr] at HJ
  have HSZ := Lib.hid hsz
  have HR := Lib.hid hr
  clear hbo hms hj hb3 hb2a hT0 hta hba hbe2 hw3 hsz hr hn40
  go_wp2_with fail
  rw [← HW3.out, HR.out]
  go_loopw [7, 10] (fun t7 t10 wz => ∃ (i t : Nat), t7 = .pointer (some ⟨t, 0, none⟩) ∧ t10 = .int .i64 i ∧ i ≤ n ∧ PyJ w1 t r (r + 1) i wz) (fun _ t10 _ => n - (intOf t10).toNat)
  case atStart => exact ⟨0, t, rfl, rfl, Nat.zero_le _, HJ.out⟩
  case round =>
    clear HJ
    obtain ⟨i, t, rfl, rfl, hi, hI⟩ := hrel
    have HI := Lib.hid hI
    have hbe := HB1.out.trans (hI.be.mono HB1.out.size)
    have HBE := Lib.hid hbe
    have ZVR := Lib.hid ((hI.be.block _ (heap_lt ZV1.out)).trans ZV1.out)
    have hgr := HG1.out.below hI.be (Nat.le_refl _)
    clear hI hbe
    by_cases hlt : i < n
    · obtain ⟨x, hx⟩ : ∃ x, l[i]? = some x := ⟨l[i]'(by rw [HN.out]; exact hlt), by simp⟩
      obtain ⟨lb, loff, xa, xc, ga, gc, hao, hlb, hxv, hxg, hxi, hgg, p0, p1, p2, p3⟩ := hgr.at hx
      subst hao
      obtain ⟨il, hil⟩ : ∃ k, x.ids.length = k := ⟨_, rfl⟩
      obtain ⟨gl, hgl⟩ : ∃ k, x.g.length = k := ⟨_, rfl⟩
      have hgw : ∀ z : World, Below w1.heap.size w1 z → GrpAt z (.slice ga gl gc) x.g := fun z hz => by
        have h := (HG1.out.grp x (List.mem_of_getElem? hx)).below hz (Nat.le_refl _)
        rw [hxg, hgl] at h; exact h
      have hiw : ∀ z : World, Below w1.heap.size w1 z → IntsAt z (.slice xa il xc) x.ids := fun z hz => by
        have h := RowAt.below (HG1.out.ints x (List.mem_of_getElem? hx)) hz (Nat.le_refl _)
        rw [hxv, hil] at h
        unfold IntsAt
        rw [hil]; exact h
      have HGW := Lib.hid hgw; have HIW := Lib.hid hiw
      rw [hil] at p2
      rw [hgl] at p3
      have hlt' : (i : Int) < n := by omega
      have hi6 : (i : Int) < 1000000 := by have := HN40.out; omega
      have hwm : B64 x.m := (HBB.out x (List.mem_of_getElem? hx)).1
      have hfit := (HBB.out x (List.mem_of_getElem? hx)).2
      obtain ⟨W1, hW1⟩ : ∃ W1 : World, W1 = wr.alloc (.cells #[.int .i64 x.m, .bool x.odd, .slice xa il xc, .slice ga gl gc] 40) := ⟨_, rfl⟩
      obtain ⟨xb, hxb⟩ : ∃ xb, wr.heap.size = xb := ⟨_, rfl⟩
      have hb1 : Below wr.heap.size wr W1 := by rw [hW1]; exact (Below.refl _ _).alloc (Nat.le_refl _) _
      have zx : W1.heap[xb]? = some (.cells #[.int .i64 x.m, .bool x.odd, .slice xa il xc, .slice ga gl gc] 40 (0, 0)) := by rw [hW1]; exact heap_alloc_at _ _ hxb.symm
      have HX := Lib.hid hx; have HLT := Lib.hid hlt; have HXI := Lib.hid hxi; have HGG := Lib.hid hgg; have HIL := Lib.hid hil; have HGL := Lib.hid hgl; have HWM := Lib.hid hwm; have HFIT := Lib.hid hfit; have HW1 := Lib.hid hW1; have HXB := Lib.hid hxb; have HB2 := Lib.hid hb1; have ZX := Lib.hid zx
      have x0 := heap_cell zx 0; have x1 := heap_cell zx 1; have x2 := heap_cell zx 2; have x3 := heap_cell zx 3
      simp at x0 x1 x2 x3
      clear hgw hiw hx hlt hi hgr hxi hgg hil hgl hwm hfit hxv hxg hb1 zx hxb
      rw [hW1] at x0 x1 x2 x3
      clear hW1
      go_upto_region 12 with fail
      rw [← HW1.out, HXB.out]
      rw [← HW1.out] at x0 x1 x2 x3
      clear p0 p1 p2 p3
      by_cases hg10 : (10 : Int) < gl
      · go_wp2
        go_ret
        exact ⟨rfl, HBE.out.trans (HB2.out.mono HBE.out.size)⟩
      by_cases hi30 : (30 : Int) < il
      · go_wp2
        go_ret
        exact ⟨rfl, HBE.out.trans (HB2.out.mono HBE.out.size)⟩
      go_wp2
      go_loopw [12] (fun t12 wz => ∃ k : Nat, t12 = .int .i64 k ∧ k ≤ gl ∧ (∀ y ∈ x.g.take k, Lim y) ∧ Below W1.heap.size W1 wz) (fun t12 _ => gl - (intOf t12).toNat)
      case atStart => exact ⟨0, rfl, Nat.zero_le _, by simp, Below.refl _ _⟩
      case round =>
        obtain ⟨k, rfl, hk, hlim, hb3⟩ := hrel
        have zx := (hb3.block _ (heap_lt ZX.out)).trans ZX.out
        clear x0 x1 x2 x3
        have x0 := heap_cell zx 0; have x1 := heap_cell zx 1; have x2 := heap_cell zx 2; have x3 := heap_cell zx 3
        simp at x0 x1 x2 x3
        have HLM := Lib.hid hlim; have HB3 := Lib.hid hb3; have ZX3 := Lib.hid zx
        clear hlim hb3 zx
        by_cases hkl : k < gl
        · obtain ⟨y, hy⟩ : ∃ y, x.g[k]? = some y := ⟨x.g[k]'(by rw [HGL.out]; exact hkl), by simp⟩
          obtain ⟨b2, o2, e2, hb2, d1, f1, d2, f2, d3, f3, d4, f4, -, q0, q1, q2, q3, q4, q5⟩ := ((HGG.out.below HB2.out (Nat.le_refl _)).below HB3.out (Nat.le_refl _)).at hy
          subst e2
          obtain ⟨sn, hsn⟩ : ∃ m, y.sups.length = m := ⟨_, rfl⟩
          obtain ⟨pn, hpn⟩ : ∃ m, y.ps.length = m := ⟨_, rfl⟩
          obtain ⟨rn, hrn⟩ : ∃ m, y.rs.length = m := ⟨_, rfl⟩
          obtain ⟨fn, hfn⟩ : ∃ m, y.fs.length = m := ⟨_, rfl⟩
          rw [hsn] at q1
          rw [hpn] at q3
          rw [hrn] at q4
          rw [hfn] at q5
          have hkl' : (k : Int) < gl := by omega
          have hk6 : (k : Int) < 1000000 := by omega
          have hxl := heap_lt ZX3.out
          have HBN := Lib.hid ((HBE.out.trans (HB2.out.mono HBE.out.size)).trans (HB3.out.mono (HBE.out.trans (HB2.out.mono HBE.out.size)).size))
          have HY := Lib.hid hy; have HSN := Lib.hid hsn; have HPN := Lib.hid hpn; have HRN := Lib.hid hrn; have HFN := Lib.hid hfn; have HKL := Lib.hid hkl
          clear hy hsn hpn hrn hfn hkl hk q0
          by_cases h1 : (30 : Int) < pn
          · go_wp2
            go_ret
            exact ⟨rfl, HBN.out.alloc HBN.out.size _⟩
          by_cases h2 : (30 : Int) < rn
          · go_wp2
            go_ret
            exact ⟨rfl, HBN.out.alloc HBN.out.size _⟩
          by_cases h3 : (30 : Int) < fn
          · go_wp2
            go_ret
            exact ⟨rfl, HBN.out.alloc HBN.out.size _⟩
          by_cases h4 : (30 : Int) < sn
          · go_wp2
            go_ret
            exact ⟨rfl, HBN.out.alloc HBN.out.size _⟩
          go_wp2
          go_roundw
          case rel =>
            refine ⟨k + 1, rfl, HKL.out, fun z hz => ?_, HB3.out.alloc HB3.out.size _⟩
            rw [List.take_add_one, HY.out, List.mem_append] at hz
            rcases hz with hz | hz
            · exact HLM.out z hz
            · obtain rfl : z = y := by simpa using hz
              exact ⟨by rw [HPN.out]; omega, by rw [HRN.out]; omega, by rw [HFN.out]; omega, by rw [HSN.out]; omega⟩
          case measure => simp [intOf] <;> omega
        · obtain rfl : k = gl := by omega
          have hkl' : ¬ (k : Int) < k := by omega
          have HRAW := Lib.hid (lim_raw (g := x.g) (by rw [HGL.out]; omega) (by have h := HLM.out; rw [← HGL.out, List.take_length] at h; exact h) HFIT.out)
          clear hkl HLM hk
          obtain ⟨wq, hwq⟩ : ∃ wq, wq = wr := ⟨_, rfl⟩
          subst hwq
          have hbt := HB2.out.trans (HB3.out.mono HB2.out.size)
          have HBT := Lib.hid hbt
          obtain ⟨S, R, Q, gs, ms, k1', k2', k3⟩ := HI.out.ex
          have HXS := Lib.hid (show ¬ S xb ∧ xb ≠ r ∧ xb ≠ r + 1 by
            have h1 := HXB.out
            have h2 := k1'.ref.tlt
            have h3 := heap_lt k2'.at_
            exact ⟨fun q => by have := (k1'.tab.tab.lt xb q).1; omega, by omega, by omega⟩)
          have k1 := k1'.below hbt
          have k2 := k2'.below hbt
          obtain ⟨a, ha, hae⟩ := at_four x.m
          obtain ⟨v0, is0, hv0, hst0, hln0⟩ := k2.cell ha
          obtain ⟨ma, mc, rfl⟩ := RowAt.form hst0.now
          obtain ⟨mn, hmn⟩ : ∃ m, is0.length = m := ⟨_, rfl⟩
          rw [hmn] at hv0 hst0 hln0
          have K1 := Lib.hid k1; have K2 := Lib.hid k2; have K3 := Lib.hid k3; have HST0 := Lib.hid hst0; have HMN := Lib.hid hmn; have HA4 := Lib.hid ha; have HAE := Lib.hid hae; have HLN0 := Lib.hid hln0
          have ha4 : (a : Int) < 4 := by omega
          clear hbt k1 k2 k3 hst0 hmn k1' k2' hln0 ha
          go_upto_region 21 with fail
          rw [wrap_four, HAE.out]
          obtain ⟨od, hod⟩ : ∃ od, x.odd = od := ⟨_, rfl⟩
          rw [hod] at x1
          have HOD := Lib.hid hod
          clear hod
          go_upto_if 108 with fail
          go_cut [15] from 109 to 111 (fun s15 wx => ∃ (za : Option Addr) (zc : Nat) (is : List Int), s15 = .slice za is.length zc ∧ is.length ≤ 10 * i + 30 ∧ (x.odd = false → is.length ≤ 10 * i) ∧ Stay S r (r + 1) wq s15 is ∧ wx = wq)
          case first =>
            cases od
            · go_wp2_with fail
              go_meet
              exact ⟨ma, mc, is0, by rw [HMN.out], by rw [HMN.out]; have := HLN0.out; omega, fun _ => by rw [HMN.out]; exact HLN0.out, HST0.out, rfl⟩
            · go_wp2_with fail
              go_meet
              refine ⟨xa, xc, x.ids, by rw [HIL.out], by rw [HIL.out]; omega, fun h => (by rw [HOD.out] at h; cases h), fun w'' hu => HIW.out w'' (K1.out.tab.be.trans (hu.below (fun b q => ?_) K1.out.tab.be.size)), rfl⟩
              rcases q with q | q | q
              · exact K1.out.tab.base b q
              · subst q; exact K1.out.r0
              · subst q; exact K3.out.2.2.2.2
          case rest =>
            obtain ⟨za, zc, is, rfl, hisl, hodd, hst, hwx⟩ := hcut
            obtain rfl : wq = wc := hwx.symm
            have HIS := Lib.hid hisl; have HODD := Lib.hid hodd; have HST := Lib.hid hst
            obtain ⟨zn, hzn⟩ : ∃ m, is.length = m := ⟨_, rfl⟩
            rw [hzn]
            have HZN := Lib.hid hzn
            clear hisl hodd hst hzn hv0 HST0 HAE
            obtain ⟨i1, hi', hz0', hz1', hz2'⟩ := info_parts Tryz.infoInt
            have Hi' := Lib.hid hi'; have Hz0' := Lib.hid hz0'; have Hz1' := Lib.hid hz1'; have Hz2' := Lib.hid hz2'
            clear hi' hz0' hz1' hz2'
            go_upto_region 24 with fail
            have hrow0 : RowAt (wq.alloc (.cells #[] 3)) 1 (.slice za zn zc) zn (is.map (Value.int .i64)) := by
              have h := RowAt.below HST.out.now ((Below.refl _ _).alloc (Nat.le_refl _) (.cells #[] 3)) (Nat.le_refl _)
              rw [HZN.out] at h; exact h
            have hz1 : 0 + zn ≤ maxLen := by have := HIS.out; have := HZN.out; have := HLT.out; have := HN40.out; unfold maxLen; omega
            have hz2 : (0 + zn) * 8 ≤ 140737488355328 := by have := HIS.out; have := HZN.out; have := HLT.out; have := HN40.out; omega
            have ROW0 := Lib.hid hrow0; have HZ1 := Lib.hid hz1; have HZ2 := Lib.hid hz2
            clear hrow0 hz1 hz2
            go_wp2_with (at_builtin; refine wpList_append_row _ rfl _ _ 36 rfl wq.heap.size 3 i1 _ 1 8 Tryz.underlying36 Hi'.out Hz0'.out Hz1'.out Hz2'.out rfl (by decide) _ 0 [] rfl (owns_e wq (Nat.le_refl _) _ _ rfl) _ zn (is.map (Value.int .i64)) rfl ROW0.out (fun u hu => by obtain ⟨k, _, rfl⟩ := List.mem_map.1 hu; rfl) HZ1.out HZ2.out (by simp) ?_)
            intro v2 w2 o2 g2
            have hb2 : Below wq.heap.size wq w2 := ((Below.refl _ _).alloc (Nat.le_refl _) _).grown g2 (by simp) (fun k hk => by simp [Value.ownBlock] at hk; omega)
            obtain ⟨oa, oc, rfl, _⟩ := ownsRow_form o2
            have hown : ∀ w'', Upd (fun b => S b ∨ b = r ∨ b = r + 1 ∨ b < wq.heap.size) w2 w'' → IntsAt w'' (.slice oa zn oc) is := fun w'' hu => by
              have h := ownsRow_upd o2 hu (fun b hb q => by
                have h1 := (o2.lt b (by simpa using hb)).1
                rcases q with q | q | q | q
                · have := (K1.out.tab.tab.lt b q).1; omega
                · have := K1.out.ref.tlt; omega
                · have := heap_lt K2.out.at_; omega
                · omega)
              unfold IntsAt
              rw [HZN.out]
              simpa using RowAt.of_own h
            have zx2 := (hb2.block _ (heap_lt ZX3.out)).trans ZX3.out
            have hbe2 : Below w1.heap.size w1 w2 := (K1.out.tab.below hb2).be
            have hgg2 : GrpAt w2 (.slice ga k gc) x.g := HGW.out w2 hbe2
            obtain ⟨A, hA⟩ : ∃ A, addG gs is x.g = A := ⟨_, rfl⟩
            have D1 := add_n2 (v1 := .slice oa zn oc) (K1.out.tab.below hb2) (fun w' hu => hown w' (hu.mono fun _ _ q => .inl q)) (by have := HIS.out; have := HLT.out; have := HN40.out; omega) hgg2 HRAW.out HTAB1.out
            rw [hA] at D1
            have DD1 := Lib.hid D1; have HA := Lib.hid hA; have HOWN := Lib.hid hown; have HB4 := Lib.hid hb2; have ZX2 := Lib.hid zx2; have HBE2 := Lib.hid hbe2
            clear x0 x1 x2 x3
            have x0 := heap_cell zx2 0; have x1 := heap_cell zx2 1; have x2 := heap_cell zx2 2; have x3 := heap_cell zx2 3
            simp at x0 x1 x2 x3
            obtain ⟨er, her⟩ : ∃ er, A.2.1 = er := ⟨_, rfl⟩
            have HER := Lib.hid her
            clear D1 hA hown hb2 zx2 hgg2 o2 g2 hbe2
            go_wp2_with fail
            refine DD1.out.mono ?_
            rintro e w4 ⟨u1, S1, R1, rfl, ht1, hu1, hup, hfs, hfr⟩
            have zx4 := hup.heap_some ZX2.out HXS.out.1
            clear x0 x1 x2 x3
            have x0 := heap_cell zx4 0; have x1 := heap_cell zx4 1; have x2 := heap_cell zx4 2; have x3 := heap_cell zx4 3
            simp at x0 x1 x2 x3
            have hbe4 : Below w1.heap.size w1 w4 := ht1.be
            have hgg4 : GrpAt w4 (.slice ga k gc) x.g := HGW.out w4 hbe4
            have D2 := kAdd_any ((K1.out.below HB4.out).keepR hup) K1.out.tab.ok (by have := HLT.out; have := HN40.out; omega) (show IntsAt w4 (.slice za zn zc) is by
              have h := HST.out w4 ((Upd.of_below HB4.out).trans' (hup.mono fun _ _ q => .inl q)); rw [HZN.out] at h; exact h) (by have := HIS.out; have := HLT.out; have := HN40.out; omega) hgg4 HRAW.out
            rw [HA.out] at D2
            have DD2 := Lib.hid D2; have HT1 := Lib.hid ht1; have HU1 := Lib.hid hu1; have HUP := Lib.hid hup; have HFS := Lib.hid hfs; have HFR := Lib.hid hfr; have ZX4 := Lib.hid zx4
            clear D2 ht1 hu1 hup hfs hfr DD1 zx4 hgg4 hbe4
            rw [her]
            go_wp2_with fail
            refine DD2.out.mono ?_
            rintro e w5 ⟨u2, Q1, rfl, hr1, hu2, hup2, hfq⟩
            have hb0 := K1.out.below HB4.out
            have hu1v := HU1.out w5 (hup2.mono fun b _ e => by subst e; exact .inr hb0.ref.tlt)
            have hb5 : Both w1 S1 R1 Q1 w5 t r (i + 1) A.2.2 := by
              have h := both_add (ids := is) (g := x.g) hb0 (by rw [HA.out]; exact HT1.out) HUP.out HFS.out HFR.out (by rw [HA.out]; exact hr1) hup2 hfq
              rw [HA.out] at h; exact h
            have hu25 : Upd (fun b => S b ∨ b = r) w2 w5 := (HUP.out.mono fun _ _ q => .inl q).trans' (hup2.mono fun _ _ q => .inr q)
            have hm5 : ModsAt S1 r (r + 1) (10 * i) w5 ms := (K2.out.below HB4.out).move hu25 K3.out.1 K3.out.2.2.2.1 HFS.out
            have hst5 : Stay S1 r (r + 1) w5 (.slice za zn zc) is := (Stay.below (by have h := HST.out; rw [HZN.out] at h; exact h) HB4.out).move (hu25.mono fun _ _ q => q.elim .inl (fun q => .inr (.inl q))) HFS.out
            have hmb2 : r + 1 < w2.heap.size := Nat.lt_of_lt_of_le (heap_lt K2.out.at_) HB4.out.size
            have hoff := off_add hb0 hmb2 K3.out HUP.out.size HFS.out HFR.out hfq
            have hs24 := HUP.out.size
            have hst2 : Stay S1 r (r + 1) w5 u2 A.1 := fun w'' hu => hu2 w'' (hu.mono fun b _ q => by
              have hr := hb0.ref.tlt
              rcases q with q | q | q
              · exact (HT1.out.tab.lt b q).1
              · omega
              · omega)
            have hown5 : IntsAt w5 (.slice oa zn oc) is := HOWN.out w5 (hu25.mono fun b _ q => q.elim .inl (fun q => .inr (.inl q)))
            have zx5 := hup2.heap_some ZX4.out (fun q => HXS.out.2.1 q)
            have hAl : A.1.length ≤ is.length + 10 := by
              rw [← HA.out]
              have := HGL.out
              rcases addG_fact gs is x.g with ⟨_, h, _⟩ | ⟨_, h⟩
              · rw [h]; exact Nat.zero_le _
              · rw [h.len]; omega
            have hisl : is.length ≤ 430 := by have := HIS.out; have := HLT.out; have := HN40.out; omega
            obtain ⟨ua, uc, hu1f⟩ := RowAt.form hu1v
            obtain ⟨va, vc, hu2f⟩ := RowAt.form hst2.now
            obtain ⟨an, han⟩ : ∃ an, A.1.length = an := ⟨_, rfl⟩
            rw [han] at hu1f hu2f
            subst hu1f hu2f
            obtain ⟨T, hT⟩ : ∃ T, total A.2.2 = T := ⟨_, rfl⟩
            have d1 : ∀ q : Ext w5, Calls Tryz.prog 11 #[.slice ua an uc, .slice va an vc] q.val fun e w' => e = .returned (.bool true) ∧ ∃ n, w' = q.val.drewN n := fun q => by
              have h := ints_any _ _ A.1 A.1 q.val (RowAt.ext hu1v q) (RowAt.ext hst2.now q) (by omega) (by omega)
              rw [decide_eq_true rfl] at h; exact h
            have d2 : ∀ q : Ext w5, Calls Tryz.prog 11 #[.slice oa zn oc, .slice za zn zc] q.val fun e w' => e = .returned (.bool true) ∧ ∃ n, w' = q.val.drewN n := fun q => by
              have h := ints_any _ _ is is q.val (RowAt.ext hown5 q) (RowAt.ext hst5.now q) (by omega) (by omega)
              rw [decide_eq_true rfl] at h; exact h
            have d3 : ∀ q : Ext w5, Calls Tryz.prog 12 #[.pointer (some ⟨t, 0, none⟩)] q.val fun e w' => e = .returned (.int .i64 T) ∧ ∃ n, w' = q.val.drewN n := fun q => by
              rw [← hT]
              exact (len_any (hb5.below q.2).tab.tab).mono fun _ _ ⟨h1, h2⟩ => ⟨h1, 0, by rw [h2]; rfl⟩
            have d4 : ∀ q : Ext w5, Calls Tryz.prog 13 #[.pointer (some ⟨r, 0, none⟩)] q.val fun e w' => e = .returned (.int .i64 T) ∧ ∃ n, w' = q.val.drewN n := fun q => by
              rw [← hT]
              exact kLen_dr (hb5.below q.2).ref hb5.tab.ok (by have := HLT.out; have := HN40.out; omega)
            have D1 := Lib.hid d1; have D2 := Lib.hid d2; have D3 := Lib.hid d3; have D4 := Lib.hid d4
            have HB5 := Lib.hid hb5; have HM5 := Lib.hid hm5; have HST5 := Lib.hid hst5; have HOFF := Lib.hid hoff; have HST2 := Lib.hid hst2; have ZX5 := Lib.hid zx5; have HAL := Lib.hid hAl; have HISL := Lib.hid hisl; have HAN := Lib.hid han
            clear d1 d2 d3 d4 hb5 hm5 hst5 hoff hst2 zx5 hAl hisl han hb0 hu1v hu25 hmb2 hs24 hown5 hr1 hu2 hup2 hfq hT DD2
            have hee : (er != er) = false := by simp
            have htt : ((T : Int) != (T : Int)) = false := by simp
            rw [HER.out]
            go_wp2_with fail
            refine (Ext.call_quiet ⟨w5, Below.refl _ _⟩ (D1.out ⟨w5, Below.refl _ _⟩)).mono ?_
            rintro e y1 ⟨rfl, q1, rfl⟩
            go_wp2_with fail
            refine (Ext.call_quiet q1 (D2.out q1)).mono ?_
            rintro e y1 ⟨rfl, q2, rfl⟩
            go_wp2_with fail
            refine (Ext.call_quiet q2 (D3.out q2)).mono ?_
            rintro e y1 ⟨rfl, q3, rfl⟩
            go_wp2_with fail
            refine (Ext.call_quiet q3 (D4.out q3)).mono ?_
            rintro e y1 ⟨rfl, q4, rfl⟩
            clear D1 D2 D3 D4 htt
            have hb6 := HB5.out.below q4.2
            have hm6 := HM5.out.below q4.2
            have hst6 := HST5.out.below q4.2
            have hst26 := HST2.out.below q4.2
            have zx6 := (q4.2.block _ (heap_lt ZX5.out)).trans ZX5.out
            obtain ⟨w6, hw6⟩ : ∃ w6, q4.val = w6 := ⟨_, rfl⟩
            rw [hw6] at hb6 hm6 hst6 hst26 zx6 ⊢
            clear hw6 x0 x1 x2 x3 HB5 HM5 HST5 HST2 ZX5
            have HB6 := Lib.hid hb6; have HM6 := Lib.hid hm6; have HST6 := Lib.hid hst6; have HST26 := Lib.hid hst26; have ZX6 := Lib.hid zx6
            have x0 := heap_cell zx6 0; have x1 := heap_cell zx6 1; have x2 := heap_cell zx6 2; have x3 := heap_cell zx6 3
            simp at x0 x1 x2 x3
            obtain ⟨od, hod⟩ : ∃ od, x.odd = od := ⟨_, rfl⟩
            rw [hod] at x1
            have HOD := Lib.hid hod
            obtain ⟨bz, hbz⟩ : ∃ bz, (er == 0) = bz := ⟨_, rfl⟩
            have HBZ := Lib.hid hbz
            clear hb6 hm6 hst6 hst26 zx6 hod hbz
            go_upto_region 29 with fail
            go_cut [158] from 152 to 159 (fun s158 wx => s158 = .bool (bz && !od) ∧ wx = w6)
            case first =>
              have hz := HBZ.out
              cases bz <;> cases od
              all_goals
                go_wp2_with fail
                go_meet
                exact ⟨rfl, rfl⟩
            case rest =>
              obtain ⟨rfl, hwx⟩ := hcut
              obtain rfl : w6 = wc := hwx.symm
              obtain ⟨bs, hbs⟩ : ∃ bs, (bz && !od) = bs := ⟨_, rfl⟩
              have HBS := Lib.hid hbs
              rw [hbs]
              clear hbs hwx
              go_upto_if 158 with fail
              go_cut [14] from 159 to 162 (fun s14 wx => s14 = .int .i64 a ∧ ∃ ms', Both w1 S1 R1 Q1 wx t r (i + 1) A.2.2 ∧ ModsAt S1 r (r + 1) (10 * (i + 1)) wx ms' ∧ Stay S1 r (r + 1) wx (.slice za zn zc) is)
              case first =>
                cases bs
                · go_wp2_with fail
                  go_meet
                  exact ⟨rfl, ms, HB6.out, HM6.out.more (by omega), HST6.out⟩
                · have hbe : bz = true ∧ od = false := by have h := HBS.out; revert h; cases bz <;> cases od <;> simp
                  obtain ⟨v9, _, hv9, _, _⟩ := HM6.out.cell HA4.out
                  have fm := fun i => heap_frozen HM6.out.at_ i
                  have hal : an ≤ 10 * (i + 1) := by
                    have h1 := HAL.out; have h2 := HODD.out (by rw [HOD.out]; exact hbe.2)
                    rw [HAN.out] at h1; omega
                  have HAL2 := Lib.hid hal
                  clear hal hbe
                  go_wp2_with fail
                  go_meet
                  exact ⟨rfl, _, HB6.out.mods HOFF.out, HM6.out.set (by omega) HST26.out (by rw [HAN.out]; exact HAL2.out), HST6.out.move ((Upd.refl _ w6).setCell (.inl (.inr (.inr rfl))) _) (fun _ q => .inl q)⟩
              case rest =>
                obtain ⟨rfl, ms', hb7, hm7, hst7⟩ := hcut
                obtain ⟨w7, hw7⟩ : ∃ w7, w7 = wc := ⟨_, rfl⟩
                subst hw7
                have HB7 := Lib.hid hb7; have HM7 := Lib.hid hm7; have HST7 := Lib.hid hst7
                clear hb7 hm7 hst7 HB6 HM6 HST6 HST26 ZX6 x0 x1 x2 x3 HXS K1 K2 HT1 HU1 HUP HFS HFR ZX4 ZX2 HBE2 HB4 HOWN HGW HIW ha4
                go_upto_region 31 with fail
                go_cut [164] from 162 to 165 (fun s164 wx => ∃ b5 : Bool, s164 = .bool b5 ∧ wx = w7)
                case first =>
                  go_wp2_with fail
                  go_meet
                  exact ⟨_, rfl, rfl⟩
                case rest =>
                  obtain ⟨b5, rfl, hwx⟩ := hcut
                  obtain rfl : w7 = wc := hwx.symm
                  clear hwx
                  go_upto_if 164 with fail
                  have CC := Lib.hid (copy_any HB7.out.tab.tab HB7.out.tab.ok)
                  go_cut [7] from 165 to 174 (fun s7 wx => ∃ t' S', s7 = .pointer (some ⟨t', 0, none⟩) ∧ Both w1 S' R1 Q1 wx t' r (i + 1) A.2.2 ∧ ModsAt S' r (r + 1) (10 * (i + 1)) wx ms' ∧ Stay S' r (r + 1) wx (.slice za zn zc) is ∧ ¬ S' (r + 1))
                  case first =>
                    cases b5
                    case false =>
                      go_wp2_with fail
                      go_meet
                      exact ⟨t, S1, rfl, HB7.out, HM7.out, HST7.out, HOFF.out.1⟩
                    case true =>
                      go_wp2_with fail
                      refine CC.out.mono ?_
                      rintro e w8 ⟨t2, S2, rfl, hta, hs2, hb8⟩
                      have HTA := Lib.hid hta; have HS2 := Lib.hid hs2; have HB8 := Lib.hid hb8
                      clear hta hs2 hb8
                      go_wp2_with fail
                      refine (box_any 0 w8).mono ?_
                      rintro e y1 ⟨a1, c1, rfl, sb1, hx1⟩
                      have SB1 := Lib.hid sb1; have HX1 := Lib.hid hx1
                      clear sb1 hx1
                      go_wp2_with fail
                      refine (box_any 1 y1).mono ?_
                      rintro e y2 ⟨a2, c2, rfl, sb2, hx2⟩
                      have SB2 := Lib.hid sb2; have HX2 := Lib.hid hx2
                      clear sb2 hx2
                      go_wp2_with fail
                      refine (box_any 0 y2).mono ?_
                      rintro e y3 ⟨a3, c3, rfl, sb3, hx3⟩
                      have hy12 := HX1.out.trans (HX2.out.mono HX1.out.size)
                      have hy13 := hy12.trans (hx3.mono hy12.size)
                      have hal := hy13.alloc hy13.size (.cells #[.bool false, .slice none 0 0, .int .i64 2, .slice none 0 0, .slice none 0 0, .slice a1 1 c1, .bool false, .slice none 0 0, .int .i64 2, .slice none 0 0, .slice none 0 0, .slice a2 1 c2, .bool false, .slice none 0 0, .int .i64 2, .slice none 0 0, .slice none 0 0, .slice a3 1 c3] 48)
                      have hg3 : GrpAt (y3.alloc (.cells #[.bool false, .slice none 0 0, .int .i64 2, .slice none 0 0, .slice none 0 0, .slice a1 1 c1, .bool false, .slice none 0 0, .int .i64 2, .slice none 0 0, .slice none 0 0, .slice a2 1 c2, .bool false, .slice none 0 0, .int .i64 2, .slice none 0 0, .slice none 0 0, .slice a3 1 c3] 48)) (.slice (some ⟨y3.heap.size, 0, none⟩) 3 3) [bx 0, bx 1, bx 0] := by
                        have q := (Below.refl y3.heap.size y3).alloc (Nat.le_refl _) (.cells #[.bool false, .slice none 0 0, .int .i64 2, .slice none 0 0, .slice none 0 0, .slice a1 1 c1, .bool false, .slice none 0 0, .int .i64 2, .slice none 0 0, .slice none 0 0, .slice a2 1 c2, .bool false, .slice none 0 0, .int .i64 2, .slice none 0 0, .slice none 0 0, .slice a3 1 c3] 48)
                        refine grp_of (css := [[.bool false, .slice none 0 0, .int .i64 2, .slice none 0 0, .slice none 0 0, .slice a1 1 c1], [.bool false, .slice none 0 0, .int .i64 2, .slice none 0 0, .slice none 0 0, .slice a2 1 c2], [.bool false, .slice none 0 0, .int .i64 2, .slice none 0 0, .slice none 0 0, .slice a3 1 c3]]) (heap_alloc_at _ _ rfl) rfl (by simp) (fun j c x hc hx => ?_) 3 3 rfl (Nat.le_refl _)
                        have h0 : j = 0 ∨ j = 1 ∨ j = 2 := by have := (List.getElem?_eq_some_iff.1 hc).1; simp at this; omega
                        rcases h0 with rfl | rfl | rfl
                        · simp at hc hx; subst hc hx; exact (((SB1.out.below HX2.out (Nat.le_refl _)).below hx3 (Nat.le_refl _)).below q (Nat.le_refl _))
                        · simp at hc hx; subst hc hx; exact ((SB2.out.below hx3 (Nat.le_refl _)).below q (Nat.le_refl _))
                        · simp at hc hx; subst hc hx; exact (sb3.below q (Nat.le_refl _))
                      have hb78 := HB8.out.trans (hal.mono HB8.out.size)
                      have CA := add_n2 (v1 := .slice none 0 0) (HB7.out.tab.below hb78) (fun w' _ => RowAt.nil w' 1) (ids := []) (by simp) hg3 (show RawG ([bx 0] ++ ([bx 1] ++ [bx 0])) from raw_app (bx_raw1 0 (by omega)) (raw_app (bx_raw1 1 (by omega)) (bx_raw1 0 (by omega)) (by simp)) (by simp)) HTAB1.out
                      have HCA := Lib.hid CA; have HAL1 := Lib.hid hal
                      clear CA hg3 hal hb78 hy12 hy13 sb3 hx3
                      go_wp2_with fail
                      refine HCA.out.mono ?_
                      rintro e w10 ⟨u9, S3, R3, rfl, -, -, hup3, -, -⟩
                      have hupw : Upd S1 w8 w10 := (Upd.of_below HAL1.out).trans' hup3
                      have hupw7 : Upd (fun b => S1 b ∨ b = r) w7 w10 := (Upd.of_below HB8.out).trans' (hupw.mono fun _ _ q => .inl q)
                      have HUPW := Lib.hid hupw; have HUPW7 := Lib.hid hupw7
                      clear hup3 hupw hupw7
                      go_wp2_with fail
                      go_meet
                      exact ⟨t2, S2, rfl, HB7.out.copied HTA.out HS2.out HB8.out HUPW.out, HM7.out.move HUPW7.out HOFF.out.1 HOFF.out.2.2.2.1 (fun k hk => .inr (HS2.out k hk)), HST7.out.move (HUPW7.out.mono fun _ _ q => q.elim .inl (fun q => .inr (.inl q))) (fun k hk => .inr (HS2.out k hk)), fun q => by have h1 := HS2.out _ q; have h2 := heap_lt HM7.out.at_; omega⟩
                  case rest =>
                    obtain ⟨t', S', rfl, hb8, hm8, hst8, hns8⟩ := hcut
                    obtain ⟨w8, hw8⟩ : ∃ w8, w8 = wc := ⟨_, rfl⟩
                    subst hw8
                    have hi1 : i + 1 ≤ 100000 := by have := HLT.out; have := HN40.out; omega
                    have C1 := Lib.hid (stands_any hb8 hi1 id)
                    have HB8 := Lib.hid hb8; have HM8 := Lib.hid hm8; have HST8 := Lib.hid hst8; have HNS8 := Lib.hid hns8; have HI1 := Lib.hid hi1
                    clear hb8 hm8 hst8 hns8 hi1 CC HB7 HM7 HST7
                    go_wp2_with fail
                    refine C1.out.mono ?_
                    rintro e w9 ⟨rfl, hb9⟩
                    have C2 := Lib.hid (stands_any (HB8.out.below hb9) HI1.out (i : Int))
                    have HB9 := Lib.hid hb9
                    clear hb9
                    go_wp2_with fail
                    refine C2.out.mono ?_
                    rintro e w10 ⟨rfl, hb10⟩
                    have h8_10 := HB9.out.trans (hb10.mono HB9.out.size)
                    have zv := (((HB8.out.below h8_10).tab.be).block _ (heap_lt ZV1.out)).trans ZV1.out
                    have v0 := heap_cell zv 0; have v1 := heap_cell zv 1; have v2 := heap_cell zv 2; have v3 := heap_cell zv 3
                    simp at v0 v1 v2 v3
                    obtain ⟨⟨⟨ck, cl, ch, cn⟩, ce⟩, hcl⟩ : ∃ c, closeG A.2.2 is ⟨vk, vl, vh, vn⟩ = c := ⟨_, rfl⟩
                    have C3 : Calls Tryz.prog 17 #[.pointer (some ⟨t', 0, none⟩), .slice za zn zc, .agg #[.int .i64 vk, .bool vl, .int .i64 vh, .int .i64 vn]] w10 fun e w' => e = .returned (.tuple #[.agg #[.int .i64 ck, .bool cl, .int .i64 ch, .int .i64 cn], .int .i64 ce]) ∧ Below w10.heap.size w10 w' := by
                      have h := close_any (HB8.out.below h8_10).tab.tab HB8.out.tab.ok (.slice za zn zc) is ⟨vk, vl, vh, vn⟩ (HST8.out.below h8_10).now (by have := HISL.out; omega)
                      rw [hcl] at h
                      exact h
                    have HCL := Lib.hid hcl; have HC3 := Lib.hid C3; have H810 := Lib.hid h8_10
                    clear C3 hcl h8_10 zv hb10
                    go_wp2_with fail
                    refine HC3.out.mono ?_
                    rintro e w11 ⟨rfl, hb11⟩
                    obtain ⟨W11, hW11⟩ : ∃ W11 : World, W11 = w11.alloc (.cells #[.int .i64 ck, .bool cl, .int .i64 ch, .int .i64 cn] 28) := ⟨_, rfl⟩
                    have hb11' : Below w10.heap.size w10 W11 := by rw [hW11]; exact hb11.alloc hb11.size _
                    have h8_11 := H810.out.trans (hb11'.mono H810.out.size)
                    have zv := (((HB8.out.below (H810.out.trans (hb11.mono H810.out.size))).tab.be).block _ (heap_lt ZV1.out)).trans ZV1.out
                    have hvl := heap_lt zv
                    have zc1 : W11.heap[w11.heap.size]? = some (.cells #[.int .i64 ck, .bool cl, .int .i64 ch, .int .i64 cn] 28 (0, 0)) := by rw [hW11]; exact heap_alloc_at _ _ rfl
                    have C4 : Calls Tryz.prog 18 #[.pointer (some ⟨r, 0, none⟩), .slice za zn zc, .agg #[.int .i64 vk, .bool vl, .int .i64 vh, .int .i64 vn]] W11 fun e w' => e = .returned (.tuple #[.agg #[.int .i64 ck, .bool cl, .int .i64 ch, .int .i64 cn], .int .i64 ce]) ∧ Below W11.heap.size W11 w' := by
                      have h := kClose_any (HB8.out.below h8_11).ref HB8.out.tab.ok (by have := HI1.out; omega) (.slice za zn zc) is ⟨vk, vl, vh, vn⟩ (HST8.out.below h8_11).now (by have := HISL.out; omega)
                      rw [HCL.out] at h
                      exact h
                    obtain ⟨cb1, hcb1⟩ : ∃ b, w11.heap.size = b := ⟨_, rfl⟩
                    rw [hcb1] at zc1
                    have HC4 := Lib.hid C4; have H811 := Lib.hid h8_11; have HW11 := Lib.hid hW11; have ZC1 := Lib.hid zc1; have HCB1 := Lib.hid hcb1
                    clear v0 v1 v2 v3
                    have v0 := heap_cell zv 0; have v1 := heap_cell zv 1; have v2 := heap_cell zv 2; have v3 := heap_cell zv 3
                    simp at v0 v1 v2 v3
                    clear C4 h8_11 hW11 zv zc1 hcb1 hb11 hb11'
                    go_wp2_with fail
                    rw [show w11.alloc (.cells #[.int .i64 ck, .bool cl, .int .i64 ch, .int .i64 cn] 28) = W11 from HW11.out.symm, HCB1.out]
                    refine HC4.out.mono ?_
                    rintro e w12 ⟨rfl, hb12⟩
                    have zc2 := (hb12.block _ (heap_lt ZC1.out)).trans ZC1.out
                    have r0 := heap_cell zc2 0; have r1 := heap_cell zc2 1; have r2 := heap_cell zc2 2; have r3 := heap_cell zc2 3
                    simp at r0 r1 r2 r3
                    have hcl12 := heap_lt zc2
                    have H812 := Lib.hid (H811.out.trans (hb12.mono H811.out.size))
                    clear v0 v1 v2 v3 hb12 zc2
                    go_wp2
                    have hF := H812.out.alloc H812.out.size (.cells #[.int .i64 ck, .bool cl, .int .i64 ch, .int .i64 cn] 28)
                    have hlt9 := HLT.out
                    refine ⟨⟨i + 1, t', rfl, by simp, hlt9, ⟨S', R1, Q1, A.2.2, ms', HB8.out.below hF, HM8.out.below hF, HNS8.out, HOFF.out.2⟩⟩, ?_⟩
                    simp [intOf]
                    omega
    · obtain rfl : i = n := by omega
      have hlt' : ¬ (i : Int) < i := by omega
      clear hlt hi hgr
      go_wp2
      go_ret
      exact ⟨rfl, HBE.out⟩
end Go.Proofs.YtoamhiaagaaaaaaGreatDoor
