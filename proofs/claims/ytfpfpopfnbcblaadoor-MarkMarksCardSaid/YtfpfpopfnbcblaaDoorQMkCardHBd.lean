/- geodelaw23.MarkMore. -/
import Derived.Test.YtfpfpopfnbcblaaDoorQMkMorePBd
import Derived.Test.YtfpfpopfnbcblaaDoorQMkBuilt
import Derived.BigQuiet
import Derived.Test.YtfpfpopfnbcblaaDoorQWordWalksBd
import Derived.Test.YtfpfpopfnbcblaaDoorCards
import Derived.Test.YtfpfpopfnbcblaaDoorTie
import Derived.Test.YtfpfpopfnbcblaaDoorQUpdBd
namespace Go.Proofs.YtfpfpopfnbcblaaDoor
open Go.RowKit Go.Maps

theorem u64s_one (xs : List Nat) : ∀ u ∈ u64s xs, u.oneCell' = true := by
  intro u hu
  obtain ⟨x, _, rfl⟩ := List.mem_map.1 hu
  rfl
/-- The literal row of no words. -/
theorem ownsRow_none (w : World) (e : TypeId) : (w.alloc (.cells #[] e)).ownsRow w.heap.size e 1 (.slice (some ⟨w.heap.size, 0, none⟩) 0 0) 0 [] :=
  ⟨rfl, .inr ⟨w.heap.size, 0, #[], rfl, Nat.le_refl _, heap_alloc_at w _ rfl, Nat.le_refl _, Nat.zero_le _, rfl, rfl⟩⟩
theorem RowG.cast {w : World} {c n : Nat} {v : Value} {xs ys : List Value} (h : RowG w c v n xs) (e : xs = ys) : RowG w c v n ys := e ▸ h
theorem used_le {bs : List Blk} (hw : Wf 600 bs) {a : Nat} (h : UsedC (content bs) a) : a ≤ 601 := by
  obtain ⟨b, hb, _, e⟩ := usedAt_mem (usedC_iff.1 h)
  have h1 := hw.span.mem b hb
  have h2 : endOf 600 = 601 := by decide
  omega
theorem fun_drew {w w' : World} (h : Below w.heap.size w w') (nq : Nat) : Below w.heap.size w (w'.drewN nq) := ((Upd.of_below (S := fun _ => False) h).drewN nq).toBelow (fun _ h => h)
/-- How a row stands to the one that comes next. -/
theorem three {W : World} {z x : List Nat} {ao : Option Addr} (hz : z.Pairwise (· < ·)) (hx : x.Pairwise (· < ·)) (h : ∀ a ∈ x, a ∈ z) {n c : Nat} (hn : z[n]? = some c) (hc : ∀ k a : Nat, x[k]? = some a → ∃ g, ao = some ⟨g, 0, none⟩ ∧ W.cell? ⟨g, k, none⟩ = some (.int .i64 (a : Nat))) :
    (∃ g, ao = some ⟨g, 0, none⟩ ∧ cntX x z n < x.length ∧ W.cell? ⟨g, cntX x z n, none⟩ = some (.int .i64 (c : Nat)) ∧ cntX x z (n + 1) = cntX x z n + 1) ∨
    (c ∉ x ∧ ∃ g d, ao = some ⟨g, 0, none⟩ ∧ cntX x z n < x.length ∧ W.cell? ⟨g, cntX x z n, none⟩ = some (.int .i64 (d : Nat)) ∧ d ≠ c ∧ cntX x z (n + 1) = cntX x z n) ∨
    (c ∉ x ∧ cntX x z n = x.length ∧ cntX x z (n + 1) = cntX x z n) := by
  by_cases hm : c ∈ x
  · obtain ⟨h1, h2⟩ := cntX_hit hz hx h hn hm
    obtain ⟨g, e, hg⟩ := hc _ _ h1
    exact .inl ⟨g, e, (List.getElem?_eq_some_iff.1 h1).1, hg, h2⟩
  · obtain ⟨h1, h2⟩ := cntX_miss hn hm
    rcases Nat.lt_or_ge (cntX x z n) x.length with hl | hl
    · obtain ⟨g, e, hg⟩ := hc _ (x[cntX x z n]'hl) (List.getElem?_eq_getElem hl)
      exact .inr (.inl ⟨hm, g, _, e, hl, hg, h1 _ _ (List.getElem?_eq_getElem hl), h2⟩)
    · exact .inr (.inr ⟨hm, Nat.le_antisymm (cntX_le hz hx h n) hl, h2⟩)
theorem RowG.rowZ {Z : Nat → Prop} {w W : World} {v : Value} {n : Nat} {xs : List Nat} (h : RowG w 1 v n (u64s xs)) (hb : Below w.heap.size w W) (hZ : ∀ b, Z b → w.heap.size ≤ b) : RowZ Z W v xs := by
  obtain ⟨ao, c, rfl, h1⟩ := h.u64
  rcases h1 with h1 | ⟨b, o, rfl, hc⟩
  · exact ⟨ao, c, rfl, .inl h1⟩
  · by_cases h0 : xs = []
    · exact ⟨_, c, rfl, .inl h0⟩
    · have hp := List.length_pos_iff.2 h0
      have hlt : b < w.heap.size := by
        have h2 := hc 0 (xs[0]) (List.getElem?_eq_getElem hp)
        have := World.block_lt_of_cell? _ _ h2
        simpa [Addr.add] using this
      exact ⟨_, c, rfl, .inr ⟨b, o, rfl, fun hz => by have := hZ b hz; omega, fun k x hk => below_cell hb (hc k x hk)⟩⟩
theorem more_count {bs bs' : List Blk} {ats AL : List Nat} {n : Nat} {U R : Nat → Prop} {E : Nat → List Nat} (hb : BuOk bs ats) (hw : Wf 600 bs') (hs : AL.Pairwise (· < ·)) (hc : cntM bs' = cntM bs + n)
    (hm : ∀ a, MarkX bs' a ↔ Rch U E (fun x => MarkX bs x ∨ R x) a) (hA : ∀ a, a ∈ AL ↔ Rch U E R a) : n = AL.length := by
  have h0 : marksL bs = [] := by
    unfold marksL
    rw [List.filter_eq_nil_iff.2 (fun b h => by rw [hb.um b h]; simp)]; rfl
  have h1 : marksL bs' = AL := marks_eq hw hs (fun a => by
    rw [hm, hA]
    exact rch_congr (fun x => ⟨fun h => h.resolve_left (fun h2 => by rw [← marksL_mem, h0] at h2; simp at h2), .inr⟩) a)
  rw [cnt_marks, cnt_marks, h0, h1] at hc
  simp at hc; omega
theorem more_le {AL X : List Nat} {U R : Nat → Prop} {E : Nat → List Nat} (hs : AL.Pairwise (· < ·)) (hA : ∀ a, a ∈ AL ↔ Rch U (EF fun _ => []) R a) (hX : ∀ a, a ∈ X ↔ Rch U E R a) : AL.length ≤ X.length :=
  nodup_le _ _ (hs.imp (fun h => Nat.ne_of_lt h)) (fun a ha => by
    have h1 := (rch_none a).1 ((hA a).1 ha)
    exact (hX a).2 (.root h1.1 h1.2))
theorem below_none (w : World) (e : TypeId) : Below w.heap.size w (w.alloc (.cells #[] e)) := (Below.refl _ _).alloc (Nat.le_refl _) _
theorem grown_below {w w' : World} {B : Nat} {e : TypeId} {v : Value} {n : Nat} {xs : List Value} (h : w.grownBy w' v.ownBlock) (ho : w.ownsRow B e 1 v n xs) (hB : B ≤ w.heap.size) : Below B w w' :=
  ((Upd.refl (fun k => v.ownBlock = some k) w).grown h (fun _ hk => .inl hk)).below (fun k hk => (ho.lt k hk).1) hB
set_option maxRecDepth 100000 in
set_option maxHeartbeats 40000000 in
theorem more_any (w : World) (ht : Tab w ∧ TzTab w) (l : List BkIn) (v1 v2 v3 : Value) (xs ys : List Nat) (n2 n3 : Nat) (hv : BksAt w v1 l) (hok : ∀ x ∈ l, OkIn x)
    (h2 : RowG w 1 v2 n2 (u64s xs)) (h3 : RowG w 1 v3 n3 (u64s ys)) (hx : ∀ x ∈ xs, x < 18446744073709551616) (hy : ∀ x ∈ ys, x < 18446744073709551616) :
    Calls Tryd.prog 4 #[v1, v2, v3] w fun e W => e = .returned (.bool true) ∧ Below w.heap.size w W := by
  have HT := Lib.hid ht; have HV := Lib.hid hv; have HOK := Lib.hid hok; have HX := Lib.hid hx; have HY := Lib.hid hy
  have HLX := Lib.hid (show xs.length = n2 by simpa [u64s] using h2.1)
  have HLY := Lib.hid (show ys.length = n3 by simpa [u64s] using h3.1)
  have H2 := Lib.hid h2; have H3 := Lib.hid h3
  obtain ⟨a2, c2, rfl⟩ := h2.form
  obtain ⟨a3, c3, rfl⟩ := h3.form
  clear ht hv hok hx hy h2 h3
  go_enter Tryd.func4, Tryd.ntmps4
  go_wp2_with fail
  refine (known_any w HT.out).mono ?_
  rintro e w1 ⟨rfl, hb1⟩
  have HB1 := Lib.hid hb1
  have HTT1 := Lib.hid (show Tab w1 ∧ TzTab w1 from ⟨tab_on HT.out.1 hb1, HT.out.2.on hb1⟩)
  clear hb1
  go_wp2_with fail
  refine (built_any l v1 w1 (HV.out.on HB1.out) HOK.out).mono ?_
  rintro e w2 (⟨_, rfl, hb2⟩ | ⟨p, q, bs, ats, tv, hbt, rfl, hB⟩)
  · have HB2 := Lib.hid (show Below w.heap.size w w2 from HB1.out.trans (hb2.mono HB1.out.size))
    clear hb2
    go_wp2
    go_ret
    exact ⟨rfl, HB2.out⟩
  · have HBO := Lib.hid (builtF_ok hbt); have HBU := Lib.hid hB
    clear hbt hB
    have HBF := Lib.hid (show Below w.heap.size w w2 from HB1.out.trans (HBU.out.below.mono HB1.out.size))
    by_cases hl2 : (30 : Int) < n2
    · go_wp2
      go_ret
      exact ⟨rfl, HBF.out⟩
    · by_cases hl3 : (30 : Int) < n3
      · go_wp2
        go_ret
        exact ⟨rfl, HBF.out⟩
      · have HL2 := Lib.hid (show n2 ≤ 30 by omega); have HL3 := Lib.hid (show n3 ≤ 30 by omega)
        obtain ⟨Z, hz, hzb, _⟩ := HBU.out.inZ
        have HZ := Lib.hid hz; have HZB := Lib.hid hzb
        have HZL := Lib.hid (show ∀ b, Z b → w1.heap.size ≤ b from fun b hb => (hzb b hb).1)
        have H64 := Lib.hid HBU.out.u64
        have HB2 := Lib.hid HBU.out.below
        clear hz hzb HBU
        go_wp2_with fail
        refine (words_any p w2).mono ?_
        rintro e w3 ⟨rfl, hw3⟩
        have HQ3 := Lib.hid (show w3.cell? ⟨w2.heap.size, 0, none⟩ = some (.pointer (some ⟨p, 0, none⟩)) by rw [hw3]; exact heap_cell (heap_alloc_at w2 _ rfl) 0)
        have HB3 := Lib.hid (show Below w2.heap.size w2 w3 by rw [hw3]; exact (Below.refl _ _).alloc (Nat.le_refl _) _)
        clear hw3
        have HZa := Lib.hid (show ¬ Z w2.heap.size from fun h => by have := (HZB.out _ h).2; omega)
        go_wp2_with fail
        refine (reach_z HTT1.out (HZ.out.below HB3.out) HZL.out (HB2.out.trans (HB3.out.mono HB2.out.size)) (by decide) H64.out HQ3.out HZa.out _ xs (((H2.out.below (HB1.out.trans (HB2.out.mono HB1.out.size)) (Nat.le_refl _)).below HB3.out (Nat.le_refl _)).u64) HX.out (by have := HLX.out; have := HL2.out; omega)).mono ?_
        rintro e w4 ⟨xv, X, rfl, hX1, hX2, hX3, hb4⟩
        have HD4 := Lib.hid (show Below w2.heap.size w2 w4 from HB3.out.trans (hb4.mono HB3.out.size))
        have HXO := Lib.hid (NatsAt.of_own hX1); have HXS := Lib.hid hX2; have HXM := Lib.hid hX3
        clear hb4 hX1 hX2 hX3
        go_wp2_with fail
        refine (words_any p w4).mono ?_
        rintro e w5 ⟨rfl, hw5⟩
        have HQ5 := Lib.hid (show w5.cell? ⟨w4.heap.size, 0, none⟩ = some (.pointer (some ⟨p, 0, none⟩)) by rw [hw5]; exact heap_cell (heap_alloc_at w4 _ rfl) 0)
        have HE5 := Lib.hid (show Below w4.heap.size w4 w5 by rw [hw5]; exact (Below.refl _ _).alloc (Nat.le_refl _) _)
        clear hw5
        have HD5 := Lib.hid (show Below w2.heap.size w2 w5 from HD4.out.trans (HE5.out.mono HD4.out.size))
        have HZb := Lib.hid (show ¬ Z w4.heap.size from fun h => by have := (HZB.out _ h).2; have := HD4.out.size; omega)
        go_wp2_with fail
        refine (reach_z HTT1.out (HZ.out.below HD5.out) HZL.out (HB2.out.trans (HD5.out.mono HB2.out.size)) (by decide) H64.out HQ5.out HZb.out _ ys (((H3.out.below (HB1.out.trans (HB2.out.mono HB1.out.size)) (Nat.le_refl _)).below HD5.out (Nat.le_refl _)).u64) HY.out (by have := HLY.out; have := HL3.out; omega)).mono ?_
        rintro e w6 ⟨yv, Y, rfl, hY1, hY2, hY3, hb6⟩
        have HE6 := Lib.hid (show Below w4.heap.size w4 w6 from HE5.out.trans (hb6.mono HE5.out.size))
        have HD6 := Lib.hid (show Below w2.heap.size w2 w6 from HD5.out.trans (hb6.mono HD5.out.size))
        have HYO := Lib.hid (NatsAt.of_own hY1); have HYS := Lib.hid hY2; have HYM := Lib.hid hY3
        have HXO6 := Lib.hid (HXO.out.on HE6.out)
        clear hb6 hY1 hY2 hY3 HXO HQ3 HQ5 HZa HZb HB3 HD4 HE5 HD5 HE6
        obtain ⟨i0, hi, hz0, hz1, hz2⟩ := info_parts Tryd.infoU64
        have Hi := Lib.hid hi; have Hz0 := Lib.hid hz0; have Hz1 := Lib.hid hz1; have Hz2 := Lib.hid hz2
        clear hi hz0 hz1 hz2
        have HO6 := Lib.hid (ownsRow_none w6 44)
        have HN6 := Lib.hid (below_none w6 44)
        have HG2 := Lib.hid ((H2.out.below (HB1.out.trans (HB2.out.mono HB1.out.size)) (Nat.le_refl _)).below (HD6.out.trans (HN6.out.mono HD6.out.size)) (Nat.le_refl _))
        have HG3 := Lib.hid ((H3.out.below (HB1.out.trans (HB2.out.mono HB1.out.size)) (Nat.le_refl _)).below (HD6.out.trans (HN6.out.mono HD6.out.size)) (Nat.le_refl _))
        go_wp2_with (at_builtin; first | (refine wpList_append_rowG _ rfl _ _ 23 rfl w6.heap.size 44 i0 _ 1 8 Tryd.underlying23 Hi.out Hz0.out Hz1.out Hz2.out rfl (by decide) (.slice (some ⟨w6.heap.size, 0, none⟩) 0 0) 0 [] rfl HO6.out _ _ _ rfl HG2.out (u64s_one xs) (by have := HL2.out; unfold maxLen; omega) (by have := HL2.out; omega) HN6.out.size ?_; intro v7 w7 o7 gr7 mv7; have HN7 := Lib.hid (HN6.out.trans (grown_below gr7 HO6.out HN6.out.size)); have HO7 := Lib.hid o7; clear o7 gr7 mv7) | (refine wpList_append_rowG _ rfl _ _ 23 rfl w6.heap.size 44 i0 _ 1 8 Tryd.underlying23 Hi.out Hz0.out Hz1.out Hz2.out rfl (by decide) _ _ _ rfl HO7.out _ n3 (u64s ys) rfl (((H3.out.below (HB1.out.trans (HB2.out.mono HB1.out.size)) (Nat.le_refl _)).below (HD6.out.trans (HN7.out.mono HD6.out.size)) (Nat.le_refl _))) (u64s_one ys) (by have := HL2.out; have := HL3.out; unfold maxLen; omega) (by have := HL2.out; have := HL3.out; omega) HN7.out.size ?_; intro v8 w8 o8 gr8 mv8; have HN8 := Lib.hid (HN7.out.trans (grown_below gr8 HO7.out HN7.out.size)); have HO8 := Lib.hid o8; clear o8 gr8 mv8))
        refine (words_any p w8).mono ?_
        rintro e w9 ⟨rfl, hw9⟩
        have HQ9 := Lib.hid (show w9.cell? ⟨w8.heap.size, 0, none⟩ = some (.pointer (some ⟨p, 0, none⟩)) by rw [hw9]; exact heap_cell (heap_alloc_at w8 _ rfl) 0)
        have HE9 := Lib.hid (show Below w8.heap.size w8 w9 by rw [hw9]; exact (Below.refl _ _).alloc (Nat.le_refl _) _)
        clear hw9
        have HD8 := Lib.hid (show Below w2.heap.size w2 w8 from HD6.out.trans (HN8.out.mono HD6.out.size))
        have HD9 := Lib.hid (show Below w2.heap.size w2 w9 from HD8.out.trans (HE9.out.mono HD8.out.size))
        have HF9 := Lib.hid (show Below w6.heap.size w6 w9 from HN8.out.trans (HE9.out.mono HN8.out.size))
        have HZc := Lib.hid (show ¬ Z w8.heap.size from fun h => by have := (HZB.out _ h).2; have := HD8.out.size; omega)
        have HU9 := Lib.hid (show U64At w9 v8 (xs ++ ys) from RowG.u64 (n := 0 + n2 + n3) (((RowG.of_own HO8.out).below HE9.out (Nat.le_refl _)).cast (by simp [u64s])))
        go_wp2_with fail
        refine (reach_z HTT1.out (HZ.out.below HD9.out) HZL.out (HB2.out.trans (HD9.out.mono HB2.out.size)) (by decide) H64.out HQ9.out HZc.out _ (xs ++ ys) HU9.out (fun x h => (List.mem_append.1 h).elim (HX.out x) (HY.out x)) (by have := HLX.out; have := HL2.out; have := HLY.out; have := HL3.out; rw [List.length_append]; omega)).mono ?_
        rintro e wa ⟨zv, Zr, rfl, hZ1, hZ2, hZ3, hba⟩
        have HFa := Lib.hid (show Below w6.heap.size w6 wa from HF9.out.trans (hba.mono HF9.out.size))
        have HDa := Lib.hid (show Below w2.heap.size w2 wa from HD9.out.trans (hba.mono HD9.out.size))
        have HZO := Lib.hid (NatsAt.of_own hZ1); have HZS := Lib.hid hZ2; have HZM := Lib.hid hZ3
        have HXOa := Lib.hid (HXO6.out.on HFa.out); have HYOa := Lib.hid (HYO.out.on HFa.out)
        clear hba hZ1 hZ2 hZ3 HXO6 HYO HQ9 HZc HU9 HN8 HO8 HN7 HO7 HE9 HD8 HD9 HF9 HFa HO6 HN6 HG2 HG3 Hi Hz0 Hz1 Hz2 HD6
        have HXZ := Lib.hid (show ∀ a ∈ X, a ∈ Zr from fun a ha => (HZM.out a).2 ((rch_congr (fun x => by rw [List.filterMap_append, List.mem_append]) a).2 ((rch_or a).2 (.inl ((HXM.out a).1 ha)))))
        have HYZ := Lib.hid (show ∀ a ∈ Y, a ∈ Zr from fun a ha => (HZM.out a).2 ((rch_congr (fun x => by rw [List.filterMap_append, List.mem_append]) a).2 ((rch_or a).2 (.inr ((HYM.out a).1 ha)))))
        have HOR := Lib.hid (show ∀ a ∈ Zr, a ∈ X ∨ a ∈ Y from fun a ha => ((rch_or a).1 ((rch_congr (fun x => by rw [List.filterMap_append, List.mem_append]) a).1 ((HZM.out a).1 ha))).imp (HXM.out a).2 (HYM.out a).2)
        have HZ6 := Lib.hid (show Zr.length ≤ 602 from sorted_len HZS.out (fun a ha => used_le HBO.out.1.wf ((HZM.out a).1 ha).used))
        have HX6 := Lib.hid (show X.length ≤ 602 from sorted_len HXS.out (fun a ha => used_le HBO.out.1.wf ((HXM.out a).1 ha).used))
        have HY6 := Lib.hid (show Y.length ≤ 602 from sorted_len HYS.out (fun a ha => used_le HBO.out.1.wf ((HYM.out a).1 ha).used))
        obtain ⟨aox, ccx, rfl, hxc⟩ := HXOa.out
        obtain ⟨aoy, ccy, rfl, hyc⟩ := HYOa.out
        obtain ⟨aoz, ccz, rfl, hzc⟩ := HZO.out
        obtain ⟨lx, hlx⟩ : ∃ lx, X.length = lx := ⟨_, rfl⟩
        obtain ⟨ly, hly⟩ : ∃ ly, Y.length = ly := ⟨_, rfl⟩
        obtain ⟨lz, hlz⟩ : ∃ lz, Zr.length = lz := ⟨_, rfl⟩
        rw [hlx, hly, hlz]
        have HLXX := Lib.hid hlx; have HLYY := Lib.hid hly; have HLZ := Lib.hid hlz
        have HXC := Lib.hid hxc; have HYC := Lib.hid hyc; have HZC := Lib.hid hzc
        clear hlx hly hlz hxc hyc hzc HXOa HYOa HZO
        go_wp2_with fail
        go_loopw [14, 15, 16, 17] (fun t14 t15 t16 _ wr => ∃ n : Nat, t14 = .int .i64 (cntX X Zr n : Nat) ∧ t15 = .int .i64 (cntX Y Zr n : Nat) ∧ t16 = .int .i64 (n : Nat) ∧ n ≤ lz ∧ Below wa.heap.size wa wr) (fun _ _ t16 _ _ => lz - (intOf t16).toNat)
        case atStart => exact ⟨0, rfl, rfl, rfl, Nat.zero_le _, Below.refl _ _⟩
        case round =>
          obtain ⟨n, rfl, rfl, rfl, hn, hbr⟩ := hrel
          have HBR := Lib.hid hbr
          by_cases hnl : n < lz
          · obtain ⟨c, hc⟩ : ∃ c, Zr[n]? = some c := ⟨Zr[n]'(by rw [HLZ.out]; exact hnl), by simp [HLZ.out, hnl]⟩
            obtain ⟨gz, rfl, cz0⟩ := HZC.out n c hc
            have cz0 := below_cell hbr cz0
            have hzc' : ∀ k a : Nat, Zr[k]? = some a → ∃ g, (some ⟨gz, 0, none⟩ : Option Addr) = some ⟨g, 0, none⟩ ∧ wr.cell? ⟨g, k, none⟩ = some (.int .i64 (a : Nat)) := fun k a hk => by obtain ⟨g, e, h⟩ := HZC.out k a hk; exact ⟨g, e, below_cell hbr h⟩
            have hsx := three HZS.out HXS.out HXZ.out hc (fun k a hk => by obtain ⟨g, e, h⟩ := HXC.out k a hk; exact ⟨g, e, below_cell hbr h⟩ : ∀ k a : Nat, X[k]? = some a → ∃ g, aox = some ⟨g, 0, none⟩ ∧ wr.cell? ⟨g, k, none⟩ = some (.int .i64 (a : Nat)))
            have hsy := three HZS.out HYS.out HYZ.out hc (fun k a hk => by obtain ⟨g, e, h⟩ := HYC.out k a hk; exact ⟨g, e, below_cell hbr h⟩ : ∀ k a : Nat, Y[k]? = some a → ∃ g, aoy = some ⟨g, 0, none⟩ ∧ wr.cell? ⟨g, k, none⟩ = some (.int .i64 (a : Nat)))
            have hi6 : cntX X Zr n ≤ 602 := Nat.le_trans (cntX_le HZS.out HXS.out HXZ.out n) HX6.out
            have hj6 : cntX Y Zr n ≤ 602 := Nat.le_trans (cntX_le HZS.out HYS.out HYZ.out n) HY6.out
            obtain ⟨i, hi⟩ : ∃ i, cntX X Zr n = i := ⟨_, rfl⟩
            obtain ⟨j, hj⟩ : ∃ j, cntX Y Zr n = j := ⟨_, rfl⟩
            rw [HLXX.out, hi] at hsx
            rw [HLYY.out, hj] at hsy
            rw [hi] at hi6
            rw [hj] at hj6
            rw [hi, hj]
            have hnl' : (n : Int) < lz := by omega
            have HNL := Lib.hid (show n + 1 ≤ lz from hnl); have HZN := Lib.hid hc
            have HNZ := Lib.hid (show n ≤ 602 by have := HZ6.out; have := HLZ.out; omega)
            have hn6 : n ≤ 602 := HNZ.out
            have h0i : (0 : Int) ≤ i := by omega
            have h0j : (0 : Int) ≤ j := by omega
            have h0n : (0 : Int) ≤ n := by omega
            clear hi hj hc hn hnl hbr
            -- LOOP
            rcases Nat.eq_zero_or_pos n with hn0 | hn0
            · skip
              have hz0 : decide ((0 : Int) < (n : Int)) = false := decide_eq_false (by omega)
              have hz1 : decide (0 < n) = false := decide_eq_false (by omega)
              have hz2 : ¬ (0 : Int) < (n : Int) := by omega
              have hz3 : ¬ 0 < n := by omega
              clear hn0
              rcases hsx with ⟨gx, rfl, hxi, cx0, hcx⟩ | ⟨hne, gx, dx, rfl, hxi, cx0, hdx, hcx⟩ | ⟨hne, hxi, hcx⟩
              · skip
                have hx1 : (i : Int) < lx := by omega
                have hx2 : decide ((i : Int) < lx) = true := by simpa using hx1
                have hx3 : ((c : Int) == (c : Int)) = true := by simp
                have HCX := Lib.hid hcx; clear hcx
                rcases hsy with ⟨gy, rfl, hyi, cy0, hcy⟩ | ⟨_, gy, dy, rfl, hyi, cy0, hdy, hcy⟩ | ⟨_, hyi, hcy⟩
                · skip
                  have hy1 : (j : Int) < ly := by omega
                  have hy2 : decide ((j : Int) < ly) = true := by simpa using hy1
                  have hy3 : ((c : Int) == (c : Int)) = true := by simp
                  have HCY := Lib.hid hcy; clear hcy hyi hxi
                  go_wp2
                  go_quiet (fail)
                  go_wp2
                  go_quiet (fail)
                  go_wp2
                  go_quiet (fail)
                  go_wp2
                  go_roundw
                  case rel => exact ⟨n + 1, by rw [HCX.out] <;> rfl, by rw [HCY.out] <;> rfl, rfl, HNL.out, fun_drew HBR.out _⟩
                  case measure => have := HNL.out; simp [intOf]; omega
                · skip
                  have hy1 : (j : Int) < ly := by omega
                  have hy2 : decide ((j : Int) < ly) = true := by simpa using hy1
                  have hy3 : ((dy : Int) == (c : Int)) = false := by simpa using (show ¬ (dy : Int) = (c : Int) by omega)
                  have HCY := Lib.hid hcy; clear hcy hdy hyi hxi
                  go_wp2
                  go_quiet (fail)
                  go_wp2
                  go_quiet (fail)
                  go_wp2
                  go_quiet (fail)
                  go_wp2
                  go_roundw
                  case rel => exact ⟨n + 1, by rw [HCX.out] <;> rfl, by rw [HCY.out] <;> rfl, rfl, HNL.out, fun_drew HBR.out _⟩
                  case measure => have := HNL.out; simp [intOf]; omega
                · skip
                  have hy1 : ¬ (j : Int) < ly := by omega
                  have hy2 : decide ((j : Int) < ly) = false := decide_eq_false hy1
                  have hy4 : decide (j < ly) = false := decide_eq_false (by omega)
                  have hy5 : ¬ j < ly := by omega
                  have HCY := Lib.hid hcy; clear hcy hyi hxi
                  go_wp2
                  go_quiet (fail)
                  go_wp2
                  go_quiet (fail)
                  go_wp2
                  go_quiet (fail)
                  go_wp2
                  go_roundw
                  case rel => exact ⟨n + 1, by rw [HCX.out] <;> rfl, by rw [HCY.out] <;> rfl, rfl, HNL.out, fun_drew HBR.out _⟩
                  case measure => have := HNL.out; simp [intOf]; omega
              · skip
                have hx1 : (i : Int) < lx := by omega
                have hx2 : decide ((i : Int) < lx) = true := by simpa using hx1
                have hx3 : ((dx : Int) == (c : Int)) = false := by simpa using (show ¬ (dx : Int) = (c : Int) by omega)
                have HCX := Lib.hid hcx; clear hcx
                rcases hsy with ⟨gy, rfl, hyi, cy0, hcy⟩ | ⟨hne2, _⟩ | ⟨hne2, _⟩
                · skip
                  have hy1 : (j : Int) < ly := by omega
                  have hy2 : decide ((j : Int) < ly) = true := by simpa using hy1
                  have hy3 : ((c : Int) == (c : Int)) = true := by simp
                  have HCY := Lib.hid hcy; clear hcy hyi hxi hne hdx
                  go_wp2
                  go_quiet (fail)
                  go_wp2
                  go_quiet (fail)
                  go_wp2
                  go_quiet (fail)
                  go_wp2
                  go_roundw
                  case rel => exact ⟨n + 1, by rw [HCX.out] <;> rfl, by rw [HCY.out] <;> rfl, rfl, HNL.out, fun_drew HBR.out _⟩
                  case measure => have := HNL.out; simp [intOf]; omega
                · exact ((HOR.out c (List.mem_of_getElem? HZN.out)).elim hne hne2).elim
                · exact ((HOR.out c (List.mem_of_getElem? HZN.out)).elim hne hne2).elim
              · skip
                have hx1 : ¬ (i : Int) < lx := by omega
                have hx2 : decide ((i : Int) < lx) = false := decide_eq_false hx1
                have hx4 : decide (i < lx) = false := decide_eq_false (by omega)
                have hx5 : ¬ i < lx := by omega
                have HCX := Lib.hid hcx; clear hcx
                rcases hsy with ⟨gy, rfl, hyi, cy0, hcy⟩ | ⟨hne2, _⟩ | ⟨hne2, _⟩
                · skip
                  have hy1 : (j : Int) < ly := by omega
                  have hy2 : decide ((j : Int) < ly) = true := by simpa using hy1
                  have hy3 : ((c : Int) == (c : Int)) = true := by simp
                  have HCY := Lib.hid hcy; clear hcy hyi hxi hne
                  go_wp2
                  go_quiet (fail)
                  go_wp2
                  go_quiet (fail)
                  go_wp2
                  go_quiet (fail)
                  go_wp2
                  go_roundw
                  case rel => exact ⟨n + 1, by rw [HCX.out] <;> rfl, by rw [HCY.out] <;> rfl, rfl, HNL.out, fun_drew HBR.out _⟩
                  case measure => have := HNL.out; simp [intOf]; omega
                · exact ((HOR.out c (List.mem_of_getElem? HZN.out)).elim hne hne2).elim
                · exact ((HOR.out c (List.mem_of_getElem? HZN.out)).elim hne hne2).elim
            · obtain ⟨n1, hn1⟩ : ∃ n1, n = n1 + 1 := ⟨n - 1, by omega⟩
              have hn1l : n1 < Zr.length := by rw [HLZ.out]; have := HNL.out; omega
              obtain ⟨b1, hb1⟩ : ∃ b1, Zr[n1]? = some b1 := ⟨_, List.getElem?_eq_getElem hn1l⟩
              obtain ⟨gz2, e2, cz1⟩ := hzc' n1 b1 hb1
              simp only [Option.some.injEq, Addr.mk.injEq, and_true] at e2
              subst e2
              have hlt1 : b1 < c := sorted_next HZS.out hb1 (by rw [← hn1]; exact HZN.out)
              have hz0 : (0 : Int) < (n : Int) := by omega
              have hz1 : decide ((0 : Int) < (n : Int)) = true := decide_eq_true hz0
              have hz5 : decide (0 < n) = true := decide_eq_true (by omega)
              have hz7 : 0 < n := by omega
              have hz8 : ¬ c ≤ b1 := by omega
              have hz6 : decide (c ≤ b1) = false := decide_eq_false hz8
              have hz2 : decide ((c : Int) ≤ (b1 : Int)) = false := decide_eq_false (by omega)
              have hz3 : IntKind.i64.wrap ((n : Int) - 1) = (n1 : Int) := by have := HNZ.out; rw [IntWalk.i64_in _ ⟨by omega, by omega⟩]; omega
              have hz4 : (n1 : Int) < lz := by omega
              have hz9 : (0 : Int) ≤ n1 := by omega
              clear hb1 hlt1 hn1 hn1l hzc'
              rcases hsx with ⟨gx, rfl, hxi, cx0, hcx⟩ | ⟨hne, gx, dx, rfl, hxi, cx0, hdx, hcx⟩ | ⟨hne, hxi, hcx⟩
              · skip
                have hx1 : (i : Int) < lx := by omega
                have hx2 : decide ((i : Int) < lx) = true := by simpa using hx1
                have hx3 : ((c : Int) == (c : Int)) = true := by simp
                have HCX := Lib.hid hcx; clear hcx
                rcases hsy with ⟨gy, rfl, hyi, cy0, hcy⟩ | ⟨_, gy, dy, rfl, hyi, cy0, hdy, hcy⟩ | ⟨_, hyi, hcy⟩
                · skip
                  have hy1 : (j : Int) < ly := by omega
                  have hy2 : decide ((j : Int) < ly) = true := by simpa using hy1
                  have hy3 : ((c : Int) == (c : Int)) = true := by simp
                  have HCY := Lib.hid hcy; clear hcy hyi hxi
                  go_wp2
                  go_quiet (fail)
                  go_wp2
                  go_quiet (fail)
                  go_wp2
                  go_quiet (fail)
                  go_wp2
                  go_roundw
                  case rel => exact ⟨n + 1, by rw [HCX.out] <;> rfl, by rw [HCY.out] <;> rfl, rfl, HNL.out, fun_drew HBR.out _⟩
                  case measure => have := HNL.out; simp [intOf]; omega
                · skip
                  have hy1 : (j : Int) < ly := by omega
                  have hy2 : decide ((j : Int) < ly) = true := by simpa using hy1
                  have hy3 : ((dy : Int) == (c : Int)) = false := by simpa using (show ¬ (dy : Int) = (c : Int) by omega)
                  have HCY := Lib.hid hcy; clear hcy hdy hyi hxi
                  go_wp2
                  go_quiet (fail)
                  go_wp2
                  go_quiet (fail)
                  go_wp2
                  go_quiet (fail)
                  go_wp2
                  go_roundw
                  case rel => exact ⟨n + 1, by rw [HCX.out] <;> rfl, by rw [HCY.out] <;> rfl, rfl, HNL.out, fun_drew HBR.out _⟩
                  case measure => have := HNL.out; simp [intOf]; omega
                · skip
                  have hy1 : ¬ (j : Int) < ly := by omega
                  have hy2 : decide ((j : Int) < ly) = false := decide_eq_false hy1
                  have hy4 : decide (j < ly) = false := decide_eq_false (by omega)
                  have hy5 : ¬ j < ly := by omega
                  have HCY := Lib.hid hcy; clear hcy hyi hxi
                  go_wp2
                  go_quiet (fail)
                  go_wp2
                  go_quiet (fail)
                  go_wp2
                  go_quiet (fail)
                  go_wp2
                  go_roundw
                  case rel => exact ⟨n + 1, by rw [HCX.out] <;> rfl, by rw [HCY.out] <;> rfl, rfl, HNL.out, fun_drew HBR.out _⟩
                  case measure => have := HNL.out; simp [intOf]; omega
              · skip
                have hx1 : (i : Int) < lx := by omega
                have hx2 : decide ((i : Int) < lx) = true := by simpa using hx1
                have hx3 : ((dx : Int) == (c : Int)) = false := by simpa using (show ¬ (dx : Int) = (c : Int) by omega)
                have HCX := Lib.hid hcx; clear hcx
                rcases hsy with ⟨gy, rfl, hyi, cy0, hcy⟩ | ⟨hne2, _⟩ | ⟨hne2, _⟩
                · skip
                  have hy1 : (j : Int) < ly := by omega
                  have hy2 : decide ((j : Int) < ly) = true := by simpa using hy1
                  have hy3 : ((c : Int) == (c : Int)) = true := by simp
                  have HCY := Lib.hid hcy; clear hcy hyi hxi hne hdx
                  go_wp2
                  go_quiet (fail)
                  go_wp2
                  go_quiet (fail)
                  go_wp2
                  go_quiet (fail)
                  go_wp2
                  go_roundw
                  case rel => exact ⟨n + 1, by rw [HCX.out] <;> rfl, by rw [HCY.out] <;> rfl, rfl, HNL.out, fun_drew HBR.out _⟩
                  case measure => have := HNL.out; simp [intOf]; omega
                · exact ((HOR.out c (List.mem_of_getElem? HZN.out)).elim hne hne2).elim
                · exact ((HOR.out c (List.mem_of_getElem? HZN.out)).elim hne hne2).elim
              · skip
                have hx1 : ¬ (i : Int) < lx := by omega
                have hx2 : decide ((i : Int) < lx) = false := decide_eq_false hx1
                have hx4 : decide (i < lx) = false := decide_eq_false (by omega)
                have hx5 : ¬ i < lx := by omega
                have HCX := Lib.hid hcx; clear hcx
                rcases hsy with ⟨gy, rfl, hyi, cy0, hcy⟩ | ⟨hne2, _⟩ | ⟨hne2, _⟩
                · skip
                  have hy1 : (j : Int) < ly := by omega
                  have hy2 : decide ((j : Int) < ly) = true := by simpa using hy1
                  have hy3 : ((c : Int) == (c : Int)) = true := by simp
                  have HCY := Lib.hid hcy; clear hcy hyi hxi hne
                  go_wp2
                  go_quiet (fail)
                  go_wp2
                  go_quiet (fail)
                  go_wp2
                  go_quiet (fail)
                  go_wp2
                  go_roundw
                  case rel => exact ⟨n + 1, by rw [HCX.out] <;> rfl, by rw [HCY.out] <;> rfl, rfl, HNL.out, fun_drew HBR.out _⟩
                  case measure => have := HNL.out; simp [intOf]; omega
                · exact ((HOR.out c (List.mem_of_getElem? HZN.out)).elim hne hne2).elim
                · exact ((HOR.out c (List.mem_of_getElem? HZN.out)).elim hne hne2).elim
            -- END LOOP
          · obtain rfl : n = lz := by omega
            have hnn : ¬ (n : Int) < n := by omega
            have ecx : cntX X Zr n = lx := by rw [← HLZ.out, cntX_end HZS.out HXS.out HXZ.out, HLXX.out]
            have ecy : cntX Y Zr n = ly := by rw [← HLZ.out, cntX_end HZS.out HYS.out HYZ.out, HLYY.out]
            rw [ecx, ecy]
            have HDr := Lib.hid (show Below w2.heap.size w2 wr from HDa.out.trans (hbr.mono HDa.out.size))
            have HCr := Lib.hid (show Below w1.heap.size w1 wr from HB2.out.trans (HDr.out.mono HB2.out.size))
            have HRZ := Lib.hid (H2.out.rowZ (HB1.out.trans (HCr.out.mono HB1.out.size)) (fun b hb => Nat.le_trans HB1.out.size (HZL.out b hb)))
            clear hbr HBR ecx ecy hn hnl HDa
            go_wp2_with fail
            refine (reach_za HTT1.out (HZ.out.below HDr.out) HZL.out HCr.out _ xs HRZ.out.u64 HX.out (by have := HLX.out; have := HL2.out; omega)).mono ?_
            rintro e wb ⟨av, AL, rfl, hA1, hA2, hA3, hbb⟩
            have HZB2 := Lib.hid ((HZ.out.below HDr.out).below hbb)
            have HCb := Lib.hid (show Below w1.heap.size w1 wb from HCr.out.trans (hbb.mono HCr.out.size))
            have HRZ2 := Lib.hid (H2.out.rowZ (HB1.out.trans (HCb.out.mono HB1.out.size)) (fun b hb => Nat.le_trans HB1.out.size (HZL.out b hb)))
            obtain ⟨aoa, cca, rfl, _⟩ := NatsAt.of_own hA1
            have HAS := Lib.hid hA2; have HAM := Lib.hid hA3
            clear hbb hA1 hA2 hA3
            go_wp2_with fail
            refine (mark_za HTT1.out HZB2.out HZL.out HCb.out 1 (by decide) (by decide) _ xs HRZ2.out HX.out (by have := HLX.out; have := HL2.out; omega)).mono ?_
            rintro e wc ⟨bs', nm, rfl, hzc', huz, hct, hcm, hmx⟩
            have hnm : nm = AL.length := more_count HBO.out.1 hzc'.wf HAS.out hcm hmx HAM.out
            have hal : AL.length ≤ lx := by rw [← HLXX.out]; exact more_le HAS.out HAM.out HXM.out
            obtain ⟨la, hla⟩ : ∃ la, AL.length = la := ⟨_, rfl⟩
            rw [hla] at hnm hal
            rw [hla]
            subst hnm
            have hal2 : (nm : Int) ≤ lx := by omega
            have hal3 : decide ((nm : Int) ≤ (lx : Int)) = true := decide_eq_true hal2
            have HCc := Lib.hid (show Below w1.heap.size w1 wc from HCb.out.trans (huz.below (fun b hb => HZL.out b hb) HCb.out.size))
            clear hzc' hct hcm hmx hla huz
            go_wp2_with fail
            refine (reach_nil wc _ _).mono ?_
            rintro e wd ⟨rfl, hbd⟩
            have HCd := Lib.hid (show Below w.heap.size w wd from HB1.out.trans ((HCc.out.trans (hbd.mono HCc.out.size)).mono HB1.out.size))
            clear hbd
            go_wp2
            go_ret
            exact ⟨rfl, HCd.out⟩
end Go.Proofs.YtfpfpopfnbcblaaDoor

/- Blocks and words that came in: what they hold. -/
namespace Go.Proofs.YtfpfpopfnbcblaaDoor
open Go.Deep Go.ChangeShapes Go.WideShapes Go.ChangeAt Go.RowKit Go.Joins

theorem rowG_of_cells {w : World} {v : Value} {xs : List Value} (h : CellsAt w v xs) : RowG w 1 v xs.length xs := by
  rcases h with ⟨rfl, rfl⟩ | ⟨a, cap, rfl, hc, hx⟩
  · exact ⟨rfl, .inl ⟨rfl, rfl⟩⟩
  · exact ⟨by simp, .inr ⟨a, cap, rfl, hc, hx⟩⟩
theorem nats_of : ∀ (l : List Int), (∀ n ∈ l, (Lit.int .u64 n).wf = true) → ∃ xs : List Nat, l.map (Value.int .u64) = u64s xs ∧ ∀ x ∈ xs, x < 18446744073709551616
  | [], _ => ⟨[], rfl, fun _ h => by simp at h⟩
  | n :: l, h => by
    obtain ⟨xs, e, hx⟩ := nats_of l (fun m hm => h m (by simp [hm]))
    have hb := bounds_u64 (h n (by simp))
    obtain ⟨k, rfl⟩ : ∃ k : Nat, n = k := ⟨n.toNat, by omega⟩
    refine ⟨k :: xs, by rw [List.map_cons, e]; rfl, fun x hm => ?_⟩
    rcases List.mem_cons.1 hm with rfl | hm
    · omega
    · exact hx x hm
theorem intsAt_of_cells {w : World} {v : Value} {l : List Int} (h : CellsAt w v (l.map (Value.int .i64))) : IntsAt w v l := by
  obtain ⟨ao, c, rfl⟩ := h.form
  refine ⟨ao, c, by rw [List.length_map], ?_⟩
  by_cases h0 : l = []
  · exact .inl h0
  · have hp := List.length_pos_iff.2 h0
    obtain ⟨b, o, e, _, hc⟩ := CellsAt.at h (by rw [List.length_map]; exact hp)
    refine .inr ⟨b, o, e, fun k x hk => ?_⟩
    obtain ⟨hk', rfl⟩ := List.getElem?_eq_some_iff.1 hk
    rw [hc k (by rw [List.length_map]; exact hk')]; simp
/-- One block as it stands in its four cells. -/
structure BkV where
  n : Int
  vt : Value
  ti : List Int
  vr : Value
  raw : List Nat
  exn : Bool
instance : Inhabited BkV := ⟨⟨0, .bool false, [], .bool false, [], false⟩⟩
def bkC (a : BkV) : List Value := [.int .i64 a.n, a.vt, a.vr, .bool a.exn]
section
variable {H : Type} {enc : TypeId × Value → H} {w : World} {base : Nat} {sp : Nat → Bool} {held : Bool}
set_option maxRecDepth 100000 in
theorem trod_bk {fuel : Nat} {cs : List Value} {x : DataW H × List MemPlace} (h : DataW.trod enc Tryd.prog w base sp held fuel 59 cs = some x) : ∃ a : BkV, cs = bkC a ∧ IntsAt w a.vt a.ti ∧ U64At w a.vr a.raw ∧ (-9223372036854775808 ≤ a.n ∧ a.n < 9223372036854775808) ∧ ∀ y ∈ a.raw, y < 18446744073709551616 := by
  obtain ⟨y0, y1, y2, y3, n, hl, h0, h1, h2, h3⟩ := trod4 Tryd.underlying59 h
  have hc : Tryd.prog.cellsOf 59 = 4 := by kernel_rfl
  rw [hc] at hl
  match cs, hl with
  | [c0, c1, c2, c3], _ =>
    have e0 : Tryd.prog.cellsOf 3 = 1 := by kernel_rfl
    have e1 : Tryd.prog.cellsOf 27 = 1 := by kernel_rfl
    have e2 : Tryd.prog.cellsOf 23 = 1 := by kernel_rfl
    have e3 : Tryd.prog.cellsOf 4 = 1 := by kernel_rfl
    simp [e0] at h0
    simp [e1] at h1
    simp [e2] at h2
    simp [e3] at h3
    obtain ⟨a, ha, hb⟩ := DataW.trod_int Tryd.underlying3 h0
    obtain ⟨v, l, hv, k1, _, _⟩ := open_intcells Tryd.underlying27 Tryd.underlying3 (by kernel_rfl) h1
    obtain ⟨v', l', hv', k2, _, k3⟩ := open_intcells Tryd.underlying23 Tryd.underlying44 (by kernel_rfl) h2
    obtain ⟨o, ho, _⟩ := DataW.trod_bool Tryd.underlying4 h3
    obtain ⟨xs, ex, hx⟩ := nats_of l' k3
    rw [ex] at k2
    have hb' := bounds_i64 (n := a) (by first | exact hb.2 | exact hb.2.1)
    simp at ha hv hv' ho
    exact ⟨⟨a, v, l, v', xs, o⟩, by rw [ha, hv, hv', ho]; rfl, intsAt_of_cells k1, RowG.u64 (rowG_of_cells k2), ⟨hb'.1, by dsimp only; omega⟩, hx⟩
set_option maxRecDepth 100000 in
theorem open_bks {r : Reach} {b0 : Nat} {v : Value} {d : DataW H} {ps : List MemPlace} (hval : Value.okWide Tryd.prog w r b0 22 v) (h : DataW.Trod enc Tryd.prog w base sp held 22 v d ps) : ∃ l : List BkIn, BksAt w v l ∧ ∀ x ∈ l, OkIn x := by
  obtain ⟨fu, hm⟩ := h
  obtain ⟨v', l, hv, h1, _, h3⟩ := open_rows (f := bkC) (Q := fun a => IntsAt w a.vt a.ti ∧ U64At w a.vr a.raw ∧ (-9223372036854775808 ≤ a.n ∧ a.n < 9223372036854775808) ∧ ∀ y ∈ a.raw, y < 18446744073709551616) (c := 4) Tryd.underlying22 (by kernel_rfl) (by decide) (fun _ => rfl) (fun _ _ _ h => trod_bk h) hm
  obtain ⟨sa, sn, sc, rfl⟩ := okWide_slice Tryd.underlying22 hval
  have hy : Value.slice sa sn sc = v' := by simpa [Value.cells] using hv
  subst hy
  obtain ⟨ao, cap, e⟩ := h1.form
  rw [e] at h1 ⊢
  refine ⟨l.map fun a => ⟨a.n, a.ti, a.raw, a.exn⟩, ⟨ao, cap, by rw [List.length_map], fun i x hi => ?_⟩, fun x hx => ?_⟩
  · rw [List.getElem?_map] at hi
    cases ha : l[i]? with
    | none => rw [ha] at hi; simp at hi
    | some a =>
      rw [ha] at hi
      simp only [Option.map_some, Option.some.injEq] at hi
      subst hi
      have hil := (List.getElem?_eq_some_iff.1 ha).1
      have hq := h3 a (List.mem_of_getElem? ha)
      obtain ⟨b, off, rfl, _, _, hc⟩ := h1.at (by decide) (by omega)
      have hcell : ∀ j, j < 4 → w.cell? ⟨b, off + i * 4 + j, none⟩ = (bkC a)[j]? := fun j hj => by
        rw [Nat.add_assoc, hc (i * 4 + j) (by omega)]; exact flatG_at (f := bkC) (c := 4) (fun _ => rfl) l i j a ha hj
      exact ⟨b, off, rfl, ⟨hcell 0 (by decide), ⟨_, hcell 1 (by decide), hq.1⟩, ⟨_, hcell 2 (by decide), hq.2.1⟩, hcell 3 (by decide)⟩⟩
  · obtain ⟨a, ha, rfl⟩ := List.mem_map.1 hx
    have hq := h3 a ha
    exact ⟨hq.2.2.1.1, hq.2.2.1.2, hq.2.2.2⟩
set_option maxRecDepth 100000 in
theorem open_words {r : Reach} {b0 : Nat} {v : Value} {d : DataW H} {ps : List MemPlace} (hval : Value.okWide Tryd.prog w r b0 23 v) (h : DataW.Trod enc Tryd.prog w base sp held 23 v d ps) : ∃ (n : Nat) (xs : List Nat), RowG w 1 v n (u64s xs) ∧ ∀ x ∈ xs, x < 18446744073709551616 := by
  obtain ⟨fu, hm⟩ := h
  obtain ⟨v', l', hv', k2, _, k3⟩ := open_intcells Tryd.underlying23 Tryd.underlying44 (by kernel_rfl) hm
  obtain ⟨sa, sn, sc, rfl⟩ := okWide_slice Tryd.underlying23 hval
  have hy : Value.slice sa sn sc = v' := by simpa [Value.cells] using hv'
  subst hy
  obtain ⟨xs, ex, hx⟩ := nats_of l' k3
  rw [ex] at k2
  exact ⟨_, xs, rowG_of_cells k2, hx⟩
end
end Go.Proofs.YtfpfpopfnbcblaaDoor

/- Layer 23: what the cards share. -/
namespace Go.Proofs.YtfpfpopfnbcblaaDoor
open Go.ChangeShapes Go.WideShapes Go.ChangeAt Go.RowKit Go.Joins

theorem own : ownKnob Tryd.prog.godebug = none := by kernel_rfl
theorem laidOut : laidOutB Tryd.prog = true := by kernel_rfl
abbrev laidL : List (String × DataW Unit) := [("math/bits.deBruijn64tab", Rows.laid_math_bits_deBruijn64tab), ("geode/word.bounds", Rows.laid_geode_word_bounds)]
theorem gTab : Tryd.prog.globalNamed "geode/word.bounds" = some 1 := by kernel_rfl
theorem gTabType : (Tryd.prog.globals[1]?).map (·.type) = some 106 := by kernel_rfl
theorem gTabFlat : flatT Tryd.prog 4 106 = true := by kernel_rfl
theorem gTz : Tryd.prog.globalNamed "math/bits.deBruijn64tab" = some 0 := by kernel_rfl
theorem gTzType : (Tryd.prog.globals[0]?).map (·.type) = some 99 := by kernel_rfl
theorem gTzFlat : flatT Tryd.prog 4 99 = true := by kernel_rfl
/-- The door's own heap meets the condition. -/
theorem door_met (os : Os) (args : Array Value) : laidMetH Tryd.prog laidL ((World.doorLaid Tryd.prog 20 os).forCall (fun _ _ => 0) ⟨#[], args, []⟩).memory :=
  laidMetH_of_parts3 (fuel := 8) (laidMet_of_run' 8 (by kernel_rfl) (by kernel_rfl)) (by kernel_rfl) (by kernel_rfl)
set_option maxRecDepth 100000 in
theorem tab_of_laid {W : World} (h : laidMetH Tryd.prog laidL W) : Tab W ∧ TzTab W := by
  rw [MakeChecks.laidMetH_plain _ _ _ (by kernel_rfl)] at h
  obtain ⟨ps, ⟨g1, t1, cs1, f1, p1, q1, hg1, ht1, hv1, hd1, ⟨g0, t0, cs0, f0, p0, q0, hg0, ht0, hv0, hd0, _, _⟩, _⟩, _, _⟩ := h
  obtain rfl := Option.some.inj (gTab.symm.trans hg0)
  obtain rfl := Option.some.inj (gTabType.symm.trans ht0)
  obtain rfl := Option.some.inj (gTz.symm.trans hg1)
  obtain rfl := Option.some.inj (gTzType.symm.trans ht1)
  have hl := leaves_of_trod _ 4 _ _ _ _ gTabFlat hd0
  have hc := World.var?_cell hg0 hv0
  have hl1 := leaves_of_trod _ 4 _ _ _ _ gTzFlat hd1
  have hc1 := World.var?_cell hg1 hv1
  obtain ⟨l⟩ := cs0
  obtain ⟨l1⟩ := cs1
  dsimp only at hl hl1
  subst hl
  subst hl1
  refine ⟨⟨hc 0, hc 1, hc 2, hc 3, hc 4, hc 5, hc 6, hc 7, hc 8, hc 9, hc 10, hc 11⟩, fun j hj => ?_⟩
  have e : leaves (Rows.laid_math_bits_deBruijn64tab : DataW Unit) = Lib.deBruijn64tab.map (fun n : Nat => Value.int .u8 (n : Int)) := by kernel_rfl
  rw [hc1 j, e]
  have h2 : (Lib.deBruijn64tab)[j]? = some (Lib.deBruijn64tab.getD j 0) := by rw [List.getElem?_eq_getElem hj, List.getD_eq_getElem?_getD, List.getElem?_eq_getElem hj]; rfl
  rw [List.getElem?_toArray, List.getElem?_map, h2]; rfl
end Go.Proofs.YtfpfpopfnbcblaaDoor
