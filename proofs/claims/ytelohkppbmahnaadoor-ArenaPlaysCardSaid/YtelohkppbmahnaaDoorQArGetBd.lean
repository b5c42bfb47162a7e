/- package arena: Take. -/
import Derived.Test.YtelohkppbmahnaaDoorQArWhole
namespace Go.Proofs.YtelohkppbmahnaaDoor
open Go.RowKit

theorem Tryd.infoU64 : (Tryd.prog.info? 28).map (fun i => (i.zero, i.size, i.bytes)) = some (some (.int .u64 0), 1, 8) := by kernel_rfl
theorem zeroU64 (w : World) : (zeroValue 28).run Tryd.prog w = .ok (.int .u64 0) w := by
  obtain ⟨i0, hi, hz0, hz1, hz2⟩ := info_parts Tryd.infoU64
  simp [zeroValue, Go.typeInfo, hi, hz0]
theorem zcells1 (v : Value) (n : Nat) : (Builtin.zeroCells #[v] n).toList = List.replicate n v := by
  refine List.ext_getElem (by simp [Builtin.zeroCells]) (fun i h1 h2 => ?_)
  simp [Builtin.zeroCells, Nat.mod_one]
theorem zcU64 (n : Nat) : (Builtin.zeroCells (Value.int .u64 0).cells n).toList = u64s (zeros n) := by
  rw [show (Value.int .u64 0).cells = #[.int .u64 0] from rfl, zcells1]
  simp [u64s, zeros]
theorem Core.cleared {SL : Nat → Prop} {w : World} {p wb m mc : Nat} {tv kv uv lv : Value} {ws : List Nat} {L : List (Value × List (Ent Value))} {T K : Nat → Nat} (c : Core SL w p wb m mc tv kv uv lv ws L T K) (x n : Nat) (hx : x + n ≤ m) :
    m ≤ mc ∧ mc ≤ maxLen ∧ ∃ cur : List Value, w.heap[wb]? = some (.cells cur.toArray 28 (0, 0)) ∧ x + n ≤ cur.length ∧ ∀ w', w'.heap[wb]? = some (.cells (splice cur x (u64s (zeros n))).toArray 28 (0, 0)) → Upd (fun b => b = wb) w w' → Core SL w' p wb m mc tv kv uv lv (splice ws x (zeros n)) L T K := by
  have hlen := c.len
  obtain ⟨_, (⟨h0, _⟩ | ⟨g', cap', cur, h0, hg2, hcur, hc2, hm2, hsz, htk⟩)⟩ := c.wrow
  · cases h0
  simp only [Value.slice.injEq, Option.some.injEq, Addr.mk.injEq, true_and, and_true] at h0
  obtain ⟨rfl, rfl⟩ := h0
  obtain ⟨Lc, rfl⟩ : ∃ Lc : List Value, cur = Lc.toArray := ⟨cur.toList, by simp⟩
  simp only [List.size_toArray, Nat.mul_one] at hsz htk
  have hlz : (u64s (zeros n)).length = n := by rw [u64s_len, zeros_len]
  refine ⟨hc2, hm2, Lc, hcur, by omega, fun w' hw' u => ?_⟩
  have hs1 : (splice Lc x (u64s (zeros n))).length = Lc.length := length_splice _ _ _ (by rw [hlz]; omega)
  have hs2 : (splice ws x (zeros n)).length = ws.length := length_splice _ _ _ (by rw [zeros_len]; omega)
  refine c.words u ⟨by rw [u64s_len, hs2]; omega, .inr ⟨wb, mc, _, rfl, Nat.zero_le _, hw', hc2, hm2, by simp [hs1, hsz], ?_⟩⟩ hs2 (fun k => ?_)
  · simp only [Nat.mul_one]
    have e : u64s (splice ws x (zeros n)) = splice (u64s ws) x (u64s (zeros n)) := by
      unfold splice u64s
      simp only [List.map_append, List.map_take, List.map_drop, List.length_map]
    rw [e, ← htk]
    unfold splice
    rw [hlz]
    have a1 : (Lc.take x).length = x := by rw [List.length_take]; omega
    rw [List.take_append, a1, List.take_append, hlz, List.take_take, List.take_take, List.take_of_length_le (by rw [hlz]; omega : (u64s (zeros n)).length ≤ m - x), List.drop_take]
    rw [show min m x = min x m by omega, show m - x - n = m - (x + n) by omega]
  · rw [getD_splice _ _ _ _ (by rw [zeros_len]; omega)]
    split
    · rw [zeros_getD]; omega
    · exact c.w64 k
/-- What Take answers, and which blocks there are behind it. -/
def TakeR (bs : List Blk) (n : Int) (x : Nat) (e : Int) (bs' : List Blk) : Prop :=
  (n < 1 ∧ x = 0 ∧ e = 2 ∧ bs' = bs) ∨ (1 ≤ n ∧ (∀ b ∈ bs, b.u = false → (b.n : Int) < n) ∧ x = 0 ∧ e = 5 ∧ bs' = bs) ∨
  (1 ≤ n ∧ ∃ pre b post, bs = pre ++ [b] ++ post ∧ b.u = false ∧ n ≤ b.n ∧ (∀ c ∈ bs, c.u = false → n ≤ c.n → b.n < c.n ∨ (b.n = c.n ∧ b.a ≤ c.a)) ∧ x = b.a ∧ e = 0 ∧
    bs' = if n + 2 ≤ b.n then pre ++ [⟨b.a, zeros n.toNat, true, false⟩, ⟨b.a + n.toNat + 1, zeros (b.n - n.toNat - 1), false, false⟩] ++ post else pre ++ [⟨b.a, zeros b.n, true, false⟩] ++ post)
def TakePost (S : Nat → Prop) (w : World) (p m : Nat) (bs : List Blk) (n : Int) (e : Ending) (w' : World) : Prop :=
  ∃ x er bs', TakeR bs n x er bs' ∧ e = .returned (.tuple #[.int .i64 (x : Int), .int .i64 er]) ∧ ArPost S w p m bs' w'
set_option maxRecDepth 100000 in
set_option maxHeartbeats 8000000 in
theorem take_at {S : Nat → Prop} {w : World} {p m : Nat} {bs : List Blk} (A0 : ArV S w p m bs) (n : Int) (hn1 : -9223372036854775808 ≤ n) (hn2 : n < 9223372036854775808) :
    Calls Tryd.prog 8 #[.pointer (some ⟨p, 0, none⟩), .int .i64 n] w (TakePost S w p m bs n) := by
  by_cases h1 : n < 1
  · have HA := Lib.hid A0
    clear A0
    go_enter Tryd.func8, Tryd.ntmps8
    go_wp2_with fail
    refine (absent_at p w).mono ?_
    rintro e w1 ⟨rfl, rfl⟩
    go_wp2
    go_ret2
    exact ⟨0, 2, bs, .inl ⟨h1, rfl, rfl, rfl⟩, rfl, .same HA.out (Below.refl _ _)⟩
  obtain ⟨k, rfl⟩ : ∃ k : Nat, n = (k : Int) := ⟨n.toNat, by omega⟩
  have hk1 : 1 ≤ k := by omega
  clear hn1 hn2
  have HA0 := Lib.hid A0
  obtain ⟨SL, wb, tb, kb, mc, lv, ws, L, T, K, used, tk, mk, tbs, kbs, A, I, O⟩ := A0
  have hlen := A.core.len
  have hsm := I.small
  by_cases h2 : (m : Int) ≤ k
  · have c0 := heap_cell A.core.blk 0
    simp at c0
    have hall : ∀ b ∈ bs, b.u = false → (b.n : Int) < k := fun b hb _ => by have := I.end_le b hb; omega
    clear A I O
    go_enter Tryd.func8, Tryd.ntmps8
    go_wp2_with fail
    refine (absent_at p w).mono ?_
    rintro e w1 ⟨rfl, rfl⟩
    go_wp2
    go_ret2
    exact ⟨0, 5, bs, .inr (.inl ⟨by omega, hall, rfl, rfl, rfl⟩), rfl, .same HA0.out (Below.refl _ _)⟩
  have hkm : k < m := by omega
  have c0 := heap_cell A.core.blk 0
  simp at c0
  have hlog := I.log_lt hk1 (by omega : k ≤ ws.length)
  have hL64 := I.L_le
  rw [List.length_map] at hlog hL64
  have HH := Lib.hid A; have HI := Lib.hid I; have HO := Lib.hid O; have HLOG := Lib.hid hlog; have HL := Lib.hid hL64; have HLEN := Lib.hid hlen
  have hm20 : m ≤ 1048576 := by omega
  clear A I O hlog hL64 hlen hsm
  go_enter Tryd.func8, Tryd.ntmps8
  go_wp2_with fail
  refine (absent_at p w).mono ?_
  rintro e w1 ⟨rfl, rfl⟩
  go_wp2_with fail
  refine (find_at HH.out.core HI.out.lists k hk1 (by omega) HLOG.out HL.out HI.out.fr_lt HI.out.fr_one).mono ?_
  rintro e w1 ⟨⟨x, rfl, hspec⟩, hb1⟩
  rcases hspec with ⟨rfl, hnone⟩ | ⟨hx1, sz, ⟨b, hb, hbu, hbx, hbn⟩, hksz, hleast⟩
  · have HB := Lib.hid hb1; have HN := Lib.hid hnone
    clear hb1 hnone
    go_wp2
    go_ret2
    exact ⟨0, 5, bs, .inr (.inl ⟨by omega, fun b hb hu => by have := HN.out b.a b.n ⟨b, hb, hu, rfl, rfl⟩; omega, rfl, rfl, rfl⟩), rfl, .same HA0.out HB.out⟩
  have hx0 : ¬ x = 0 := by omega
  have A1 := HH.out.below hb1
  have HF := Lib.hid (Upd.of_below (S := S) hb1)
  obtain ⟨pre, post, hsplit⟩ := List.append_of_mem hb
  obtain ⟨rfl⟩ : bs = pre ++ [b] ++ post := by rw [hsplit]; simp
  have HX := Lib.hid hbx; have HN := Lib.hid hbn
  have hend := HI.out.end_le b hb
  rw [hbx, hbn] at hend
  have hxm : x + sz ≤ m := by have := HLEN.out; omega
  have hsz0 : 0 < sz := hend.2.1
  have hhead : ws.getD (x - 1) 0 / 2 = sz := by have := HI.out.head b hb; rw [hbx, hbn] at this; exact this
  have hleast' : ∀ c ∈ pre ++ [b] ++ post, c.u = false → (k : Int) ≤ c.n → b.n < c.n ∨ (b.n = c.n ∧ b.a ≤ c.a) := fun c hc hcu hk => by
    have := hleast c.a c.n ⟨c, hc, hcu, rfl, rfl⟩ (by omega)
    rw [hbx, hbn]; exact this
  have HT := Lib.hid hleast'
  have HU := Lib.hid hbu; have HM := Lib.hid hb; have HD := Lib.hid hhead; have HE := Lib.hid hend
  have H1 := Lib.hid A1
  clear hb1 hleast hleast' hb hbu hhead hend hsplit hbx hbn A1 HH c0
  go_wp2_with fail
  refine (size_at H1.out.core x hx1 (by omega)).mono ?_
  rintro e w2 ⟨rfl, rfl⟩
  rw [HD.out]
  go_wp2_with fail
  refine (delist_at H1.out.core HI.out.lists x sz ⟨b, HM.out, HU.out, HX.out, HN.out⟩ HL.out HI.out.fr_lt).mono ?_
  rintro e w2 ⟨rfl, SL2, ws2, L2, T2, K2, C2, ok2, hL2, lo2, fr2, u2⟩
  have H2 := Lib.hid (H1.out.post C2 fr2 u2)
  have HOK2 := Lib.hid ok2; have HL2 := Lib.hid hL2; have HLO2 := Lib.hid lo2
  have U2 := Lib.hid (show Upd S w w2 from HF.out.trans' (u2.mono (fun q _ hq => HO.out q (hq.elim (fun h => .inr (.inl h)) (fun h => .inr (.inr (.inr (.inr h))))))))
  have S2s := Lib.hid (show Fresh S w SL2 from fun q hq => (fr2 q hq).elim (fun h => .inl (HO.out q (.inr (.inr (.inr (.inr h)))))) (fun h => .inr (Nat.le_trans HF.out.size h)))
  clear C2 ok2 hL2 lo2 fr2 u2
  obtain ⟨lf, hlf⟩ : ∃ lf, sz - k = lf := ⟨_, rfl⟩
  have ew1 : IntKind.i64.wrap ((sz : Int) - k) = (lf : Int) := by rw [IntWalk.i64_in _ ⟨by omega, by omega⟩]; omega
  have hused := HI.out.used_le
  have ex1 : IntKind.i64.wrap ((x : Int) - 1) = ((x - 1 : Nat) : Int) := by rw [IntWalk.i64_in _ ⟨by omega, by omega⟩]; omega
  have hx64 : x < 64 * (m / 64 + 1) := by omega
  by_cases hl2 : (2 : Int) ≤ lf
  · obtain ⟨y, hy⟩ : ∃ y, x + k = y := ⟨_, rfl⟩
    obtain ⟨q, hq⟩ : ∃ q, y + 1 = q := ⟨_, rfl⟩
    obtain ⟨s2, hs2⟩ : ∃ s2, sz - k - 1 = s2 := ⟨_, rfl⟩
    have ey1 : IntKind.i64.wrap ((x : Int) + k) = (y : Int) := by rw [IntWalk.i64_in _ ⟨by omega, by omega⟩]; omega
    have ey2 : IntKind.i64.wrap ((y : Int) + 1) = (q : Int) := by rw [IntWalk.i64_in _ ⟨by omega, by omega⟩]; omega
    have ey3 : IntKind.i64.wrap ((lf : Int) - 1) = (s2 : Int) := by rw [IntWalk.i64_in _ ⟨by omega, by omega⟩]; omega
    have hyx : y - x = k := by omega
    have hym : y ≤ m := by omega
    have hxy : x ≤ y := by omega
    have g1 : x < q ∧ q + s2 = x + sz ∧ 0 < s2 ∧ q = x + k + 1 ∧ s2 < 1048576 ∧ x < q - 1 ∧ s2 = sz - k - 1 ∧ k + 2 ≤ sz := by omega
    have G1 := Lib.hid g1; have HY := Lib.hid hy
    clear g1 hy hq hs2
    go_wp2_with fail
    obtain ⟨f1, f2, f3⟩ := HI.out.noF
    rw [HX.out, HN.out] at f2 f3
    have hlg := HI.out.log_lt (n := s2) G1.out.2.2.1 (by have := HLEN.out; have := G1.out; omega)
    rw [List.length_map] at hlg
    refine (release_at H2.out.core HOK2.out q s2 (by have := G1.out; omega) G1.out.2.2.1 (by have := G1.out; omega) G1.out.2.2.2.2.1 (by rw [HL2.out]; exact hlg) (by rw [HL2.out]; exact HL.out) (fun t h => f3 _ (by have := G1.out; omega) (by have := G1.out; omega) t h.2) (fun t h => f3 _ (by have := G1.out; omega) (by have := G1.out; omega) t h.2) (fun t h => f2 t (by have := h.2; rw [G1.out.2.1] at this; exact this)) (fun y t h => HI.out.fr_lt y t h.2)).mono ?_
    rintro e w3 ⟨rfl, SL3, ws3, L3, T3, K3, C3, ok3, hL3, lo3, fr3, u3⟩
    have H3 := Lib.hid (H2.out.post C3 fr3 u3)
    have hI3 := take_split HI.out HU.out hk1 (by rw [HN.out]; exact G1.out.2.2.2.2.2.2.2) (by rw [HX.out, HN.out]; exact HLO2.out) (L2 := L3.map (·.2)) (by rw [List.length_map, List.length_map]; exact hL3.trans HL2.out) (by rw [HX.out, HN.out, ← G1.out.2.2.2.2.2.2.1, ← G1.out.2.2.2.1]; exact ok3) (by rw [HX.out, HN.out, ← G1.out.2.2.2.2.2.2.1, ← G1.out.2.2.2.1]; exact lo3)
    have hans : TakeR (pre ++ [b] ++ post) (k : Int) x 0 (pre ++ [⟨b.a, zeros k, true, false⟩, ⟨b.a + k + 1, zeros (b.n - k - 1), false, false⟩] ++ post) := .inr (.inr ⟨by omega, pre, b, post, rfl, HU.out, by rw [HN.out]; omega, HT.out, HX.out.symm, rfl, by rw [if_pos (by rw [HN.out]; have := G1.out; omega)]; rfl⟩)
    rw [HX.out] at hI3 hans
    have HA := Lib.hid hans
    have HI3 := Lib.hid hI3
    have U3 := Lib.hid (show Upd S w w3 from U2.out.trans (fun q hq => hq.elim (fun h => .inl (HO.out q (.inr (.inl h)))) (S2s.out q)) u3)
    have S3s := Lib.hid (show Fresh S w SL3 from fun q hq => (fr3 q hq).elim (S2s.out q) (fun h => .inr (Nat.le_trans U2.out.size h)))
    clear f1 f2 f3 hlg C3 ok3 hL3 lo3 fr3 u3 hI3 hans
    have us1 : IntKind.i64.wrap ((k : Int) + 1) = (k : Int) + 1 := IntWalk.i64_in _ ⟨by omega, by omega⟩
    obtain ⟨us, hus⟩ : ∃ us, used + k + 1 = us := ⟨_, rfl⟩
    have us2 : IntKind.i64.wrap ((used : Int) + ((k : Int) + 1)) = (us : Int) := by rw [IntWalk.i64_in _ ⟨by omega, by omega⟩]; omega
    have HUS := Lib.hid hus
    have d0 := heap_cell H3.out.core.blk 0
    simp at d0
    have cf3 := H3.out.core.wrow.frozenAt (x - 1)
    have cw3 := H3.out.core.word (x - 1) (by omega)
    have hpw := H3.out.core.pwb
    have hpw2 : wb ≠ p := fun e => hpw e.symm
    have hx1m : x - 1 < m := by omega
    have H4a := H3.out.words (upd_set _ _ _ _) (H3.out.core.set (x - 1) (2 * k) (by omega))
    rw [show ((2 * k : Nat) : Int) = (k : Int) * 2 by omega] at H4a
    have H4 := Lib.hid H4a
    obtain ⟨hmc, hmc2, cur, hcur, hcl, hclr⟩ := H4.out.core.cleared x k (by omega)
    have hymc : y ≤ mc.w := by omega
    have HC4 := Lib.hid hcur; have HCL := Lib.hid hcl; have HCR := Lib.hid hclr
    clear H4a hcur hcl hclr hus
    go_wp2_with (refine wpList_clear_row rfl _ 47 rfl 28 (.int .u64 0) Tryd.underlying47 zeroU64 wb x k _ rfl cur 28 HC4.out (u64s (zeros k)) (zcU64 _) ?f1 ?f2 ?f3 ?_)
    case f1 => rw [u64s_len, zeros_len]; exact HCL.out
    case f2 => intro u hu; obtain ⟨z, _, rfl⟩ := List.mem_map.1 hu; rfl
    case f3 => intro h; rw [h]; rfl
    intro w5 h5 u5
    have H5 := Lib.hid (H4.out.words u5.out (HCR.out w5 h5.out u5.out))
    have U5 := Lib.hid (show Upd S w w5 from (U3.out.trans' ((upd_set _ _ _ _).mono (fun q _ hq => HO.out q (.inr (.inl hq))))).trans' (u5.out.mono (fun q _ hq => HO.out q (.inr (.inl hq)))))
    have d1 := heap_cell H5.out.core.blk 1
    simp at d1
    clear h5 u5 d0 cf3 cw3
    go_wp2_with fail
    refine (bset_at w5 tb _ _ tk tbs H5.out.brt x hx64 (by omega)).mono ?_
    rintro e w6 ⟨rfl, ⟨tbs6, k6⟩, u6⟩
    have H6 := Lib.hid (H5.out.turnT u6 k6)
    have U6 := Lib.hid (show Upd S w w6 from U5.out.trans' (u6.mono (fun q _ hq => HO.out q (.inr (.inr (.inl hq))))))
    have d3 := heap_cell H6.out.core.blk 3
    simp at d3
    have f3 := heap_frozen H6.out.core.blk 3
    clear d1 u6 k6
    go_wp2
    go_ret2
    have hi := HI3.out
    rw [HUS.out] at hi
    refine ⟨x, 0, _, HA.out, rfl, Own SL3 p wb tb kb, ⟨SL3, wb, tb, kb, mc, lv, _, L3, T3, K3, us, _, _, tbs6, kbs, H6.out.use us, hi, fun _ h => h⟩, fun q hq => ?_, U6.out.trans' ((upd_set _ _ _ _).mono (fun q _ hq => HO.out q (.inl hq)))⟩
    rcases hq with h | h | h | h | h
    · exact .inl (HO.out q (.inl h))
    · exact .inl (HO.out q (.inr (.inl h)))
    · exact .inl (HO.out q (.inr (.inr (.inl h))))
    · exact .inl (HO.out q (.inr (.inr (.inr (.inl h)))))
    · exact S3s.out q h
  · obtain ⟨y, hy⟩ : ∃ y, x + sz = y := ⟨_, rfl⟩
    have ey1 : IntKind.i64.wrap ((x : Int) + sz) = (y : Int) := by rw [IntWalk.i64_in _ ⟨by omega, by omega⟩]; omega
    have hyx : y - x = sz := by omega
    have hym : y ≤ m := by omega
    have hxy : x ≤ y := by omega
    have hnk : ¬ k + 2 ≤ sz := by omega
    have HNK := Lib.hid hnk; have HY := Lib.hid hy
    clear hy hnk
    go_wp2_with fail
    refine (behind_at H2.out.core y false).mono ?_
    rintro e w3 ⟨rfl, C3, u3⟩
    have H3 := Lib.hid (H2.out.words u3 C3)
    have hI3 := take_whole HI.out HU.out (L1 := L2.map (·.2)) (by rw [HX.out]; exact HOK2.out) (by rw [List.length_map, List.length_map]; exact HL2.out) (by rw [HX.out, HN.out]; exact HLO2.out)
    have hans : TakeR (pre ++ [b] ++ post) (k : Int) x 0 (pre ++ [⟨b.a, zeros b.n, true, false⟩] ++ post) := .inr (.inr ⟨by omega, pre, b, post, rfl, HU.out, by rw [HN.out]; omega, HT.out, HX.out.symm, rfl, by rw [if_neg (by rw [HN.out]; have := HNK.out; omega)]⟩)
    rw [HX.out, HN.out, HY.out] at hI3
    rw [HX.out, HN.out] at hans
    have HA := Lib.hid hans
    have HI3 := Lib.hid hI3
    have U3 := Lib.hid (show Upd S w w3 from U2.out.trans' (u3.mono (fun q _ hq => HO.out q (.inr (.inl hq)))))
    have S3s := S2s
    clear C3 u3 hI3 hans
    have us1 : IntKind.i64.wrap ((sz : Int) + 1) = (sz : Int) + 1 := IntWalk.i64_in _ ⟨by omega, by omega⟩
    obtain ⟨us, hus⟩ : ∃ us, used + sz + 1 = us := ⟨_, rfl⟩
    have us2 : IntKind.i64.wrap ((used : Int) + ((sz : Int) + 1)) = (us : Int) := by rw [IntWalk.i64_in _ ⟨by omega, by omega⟩]; omega
    have HUS := Lib.hid hus
    have d0 := heap_cell H3.out.core.blk 0
    simp at d0
    have cf3 := H3.out.core.wrow.frozenAt (x - 1)
    have cw3 := H3.out.core.word (x - 1) (by omega)
    have hpw := H3.out.core.pwb
    have hpw2 : wb ≠ p := fun e => hpw e.symm
    have hx1m : x - 1 < m := by omega
    have H4a := H3.out.words (upd_set _ _ _ _) (H3.out.core.set (x - 1) (2 * sz) (by omega))
    rw [show ((2 * sz : Nat) : Int) = (sz : Int) * 2 by omega] at H4a
    have H4 := Lib.hid H4a
    obtain ⟨hmc, hmc2, cur, hcur, hcl, hclr⟩ := H4.out.core.cleared x sz (by omega)
    have hymc : y ≤ mc.w := by omega
    have HC4 := Lib.hid hcur; have HCL := Lib.hid hcl; have HCR := Lib.hid hclr
    clear H4a hcur hcl hclr hus
    go_wp2_with (refine wpList_clear_row rfl _ 47 rfl 28 (.int .u64 0) Tryd.underlying47 zeroU64 wb x sz _ rfl cur 28 HC4.out (u64s (zeros sz)) (zcU64 _) ?f1 ?f2 ?f3 ?_)
    case f1 => rw [u64s_len, zeros_len]; exact HCL.out
    case f2 => intro u hu; obtain ⟨z, _, rfl⟩ := List.mem_map.1 hu; rfl
    case f3 => intro h; rw [h]; rfl
    intro w5 h5 u5
    have H5 := Lib.hid (H4.out.words u5.out (HCR.out w5 h5.out u5.out))
    have U5 := Lib.hid (show Upd S w w5 from (U3.out.trans' ((upd_set _ _ _ _).mono (fun q _ hq => HO.out q (.inr (.inl hq))))).trans' (u5.out.mono (fun q _ hq => HO.out q (.inr (.inl hq)))))
    have d1 := heap_cell H5.out.core.blk 1
    simp at d1
    clear h5 u5 d0 cf3 cw3
    go_wp2_with fail
    refine (bset_at w5 tb _ _ tk tbs H5.out.brt x hx64 (by omega)).mono ?_
    rintro e w6 ⟨rfl, ⟨tbs6, k6⟩, u6⟩
    have H6 := Lib.hid (H5.out.turnT u6 k6)
    have U6 := Lib.hid (show Upd S w w6 from U5.out.trans' (u6.mono (fun q _ hq => HO.out q (.inr (.inr (.inl hq))))))
    have d3 := heap_cell H6.out.core.blk 3
    simp at d3
    have f3 := heap_frozen H6.out.core.blk 3
    clear d1 u6 k6
    go_wp2
    go_ret2
    have hi := HI3.out
    rw [HUS.out] at hi
    refine ⟨x, 0, _, HA.out, rfl, Own SL2 p wb tb kb, ⟨SL2, wb, tb, kb, mc, lv, _, L2, T2, K2, us, _, _, tbs6, kbs, H6.out.use us, hi, fun _ h => h⟩, fun q hq => ?_, U6.out.trans' ((upd_set _ _ _ _).mono (fun q _ hq => HO.out q (.inl hq)))⟩
    rcases hq with h | h | h | h | h
    · exact .inl (HO.out q (.inl h))
    · exact .inl (HO.out q (.inr (.inl h)))
    · exact .inl (HO.out q (.inr (.inr (.inl h))))
    · exact .inl (HO.out q (.inr (.inr (.inr (.inl h)))))
    · exact S3s.out q h
end Go.Proofs.YtelohkppbmahnaaDoor

/- package arena: has, word, Get, Set, Size, Mark, Used, Cap. -/
namespace Go.Proofs.YtelohkppbmahnaaDoor
open Go.RowKit

/-- Is there a used block at q? -/
def usedAt (bs : List Blk) (q : Int) : Bool := bs.any fun b => b.u && ((b.a : Int) == q)
theorem usedAt_iff (bs : List Blk) (q : Int) : usedAt bs q = true ↔ ∃ b ∈ bs, b.u = true ∧ (b.a : Int) = q := by
  simp [usedAt]
section
variable {SL : Nat → Prop} {w : World} {p wb tb kb m : Nat} {mc : Caps} {lv : Value} {ws : List Nat} {L : List (Value × List (Ent Value))} {T K : Nat → Nat} {used : Nat} {tk mk : Nat → Bool} {tbs kbs : List Nat} {bs : List Blk}
theorem Inv.usedAt_tk {V : Type} {L : List (List (Ent V))} (I : Inv ws tk mk used L bs) (x : Nat) : usedAt bs x = tk x := by
  rw [Bool.eq_iff_iff, usedAt_iff, I.taken]
  constructor
  · rintro ⟨b, h1, h2, h3⟩; exact ⟨b, h1, h2, by omega⟩
  · rintro ⟨b, h1, h2, h3⟩; exact ⟨b, h1, h2, by omega⟩
theorem has_at (A : Ar1 SL w p wb tb kb m mc lv ws L T K used tk mk tbs kbs) (I : Inv ws tk mk used (L.map (·.2)) bs) (q : Int) (_hq1 : -9223372036854775808 ≤ q) (_hq2 : q < 9223372036854775808) :
    Calls Tryd.prog 33 #[.pointer (some ⟨p, 0, none⟩), .int .i64 q] w fun e w' => e = .returned (.bool (usedAt bs q)) ∧ w = w' := by
  have c0 := heap_cell A.core.blk 0
  have c1 := heap_cell A.core.blk 1
  simp at c0 c1
  have hlen := A.core.len
  have hsm := I.small
  have hend := I.end_le
  clear _hq1 _hq2
  by_cases h1 : q > 0
  · obtain ⟨x, rfl⟩ : ∃ x : Nat, q = (x : Int) := ⟨q.toNat, by omega⟩
    rw [I.usedAt_tk]
    have hx0 : 0 < x := by omega
    by_cases h2 : (x : Int) < m
    · have ht := bhas_at w tb _ _ tk tbs A.brt x (by omega) (by omega)
      have HT := Lib.hid ht
      clear A I hend ht hlen
      go_enter Tryd.func33, Tryd.ntmps33
      go_wp2_with fail
      refine HT.out.mono ?_
      rintro e w1 ⟨rfl, rfl⟩
      go_wp2
      go_ret
      exact ⟨rfl, rfl⟩
    · have hno : tk x = false := by
        cases ht : tk x
        · rfl
        · obtain ⟨b, hb, _, e⟩ := (I.taken x).1 ht
          have := hend b hb; omega
      rw [hno]
      clear A I hend hlen hno
      go_enter Tryd.func33, Tryd.ntmps33
      go_wp2
      go_ret
      exact ⟨rfl, rfl⟩
  · have hno : usedAt bs q = false := by
      cases ht : usedAt bs q
      · rfl
      · obtain ⟨b, hb, _, e⟩ := (usedAt_iff bs q).1 ht
        have := hend b hb; omega
    rw [hno]
    clear A I hend hlen hno
    go_enter Tryd.func33, Tryd.ntmps33
    go_wp2
    go_ret
    exact ⟨rfl, rfl⟩
end
theorem usedAt_mem {bs : List Blk} {q : Int} (h : usedAt bs q = true) : ∃ b ∈ bs, b.u = true ∧ q = (b.a : Int) := by
  obtain ⟨b, h1, h2, h3⟩ := (usedAt_iff bs q).1 h; exact ⟨b, h1, h2, h3.symm⟩
/-- Size. -/
def sizeOfAt (bs : List Blk) (q : Int) (r : Nat) : Prop := (usedAt bs q = false ∧ r = 0) ∨ ∃ b ∈ bs, b.u = true ∧ q = (b.a : Int) ∧ r = b.n
theorem Size_at {S : Nat → Prop} {w : World} {p m : Nat} {bs : List Blk} (A0 : ArV S w p m bs) (q : Int) (hq1 : -9223372036854775808 ≤ q) (hq2 : q < 9223372036854775808) :
    Calls Tryd.prog 42 #[.pointer (some ⟨p, 0, none⟩), .int .i64 q] w fun e w' => ∃ r, sizeOfAt bs q r ∧ e = .returned (.int .i64 (r : Nat)) ∧ w = w' := by
  obtain ⟨SL, wb, tb, kb, mc, lv, ws, L, T, K, used, tk, mk, tbs, kbs, A, I, O⟩ := A0
  have HA := Lib.hid A; have HI := Lib.hid I; have HQ1 := Lib.hid hq1; have HQ2 := Lib.hid hq2
  have hlen := A.core.len
  clear A I O hq1 hq2
  cases hu : usedAt bs q
  · have HU := Lib.hid hu
    clear hu hlen
    go_enter Tryd.func42, Tryd.ntmps42
    go_wp2_with fail
    refine (absent_at p w).mono ?_
    rintro e w1 ⟨rfl, rfl⟩
    go_wp2_with fail
    refine (has_at HA.out HI.out q HQ1.out HQ2.out).mono ?_
    rintro e w1 ⟨rfl, rfl⟩
    rw [HU.out]
    go_wp2
    go_ret
    exact ⟨0, .inl ⟨HU.out, rfl⟩, rfl, rfl⟩
  · obtain ⟨b, hb, hbu, rfl⟩ := usedAt_mem hu
    have hend := HI.out.end_le b hb
    have hh := HI.out.head b hb
    have HU := Lib.hid hu; have HH := Lib.hid hh; have HB := Lib.hid hb; have HBU := Lib.hid hbu; have HE := Lib.hid hend; have HL := Lib.hid hlen
    clear hu hh hb hbu hend hlen
    go_enter Tryd.func42, Tryd.ntmps42
    go_wp2_with fail
    refine (absent_at p w).mono ?_
    rintro e w1 ⟨rfl, rfl⟩
    go_wp2_with fail
    refine (has_at HA.out HI.out _ HQ1.out HQ2.out).mono ?_
    rintro e w1 ⟨rfl, rfl⟩
    rw [HU.out]
    go_wp2_with fail
    refine (size_at HA.out.core b.a HE.out.1 (by have := HE.out; have := HL.out; omega)).mono ?_
    rintro e w1 ⟨rfl, rfl⟩
    rw [HH.out]
    go_wp2
    go_ret
    exact ⟨b.n, .inr ⟨b, HB.out, HBU.out, rfl, rfl⟩, rfl, rfl⟩
/-- Used, Cap. -/
theorem Used_at {S : Nat → Prop} {w : World} {p m : Nat} {bs : List Blk} (A0 : ArV S w p m bs) :
    Calls Tryd.prog 23 #[.pointer (some ⟨p, 0, none⟩)] w fun e w' => e = .returned (.int .i64 (usedSum bs : Nat)) ∧ w = w' := by
  obtain ⟨SL, wb, tb, kb, mc, lv, ws, L, T, K, used, tk, mk, tbs, kbs, A, I, O⟩ := A0
  have c3 := heap_cell A.core.blk 3
  simp at c3
  rw [← I.sum]
  clear A I O
  go_enter Tryd.func23, Tryd.ntmps23
  go_wp2_with fail
  refine (absent_at p w).mono ?_
  rintro e w1 ⟨rfl, rfl⟩
  go_wp2
  go_ret
  exact ⟨rfl, rfl⟩
theorem Cap_at {S : Nat → Prop} {w : World} {p m : Nat} {bs : List Blk} (A0 : ArV S w p m bs) :
    Calls Tryd.prog 40 #[.pointer (some ⟨p, 0, none⟩)] w fun e w' => e = .returned (.int .i64 (m : Nat)) ∧ w = w' := by
  obtain ⟨SL, wb, tb, kb, mc, lv, ws, L, T, K, used, tk, mk, tbs, kbs, A, I, O⟩ := A0
  have c3 := heap_cell A.core.blk 0
  simp at c3
  clear A I O
  go_enter Tryd.func40, Tryd.ntmps40
  go_wp2_with fail
  refine (absent_at p w).mono ?_
  rintro e w1 ⟨rfl, rfl⟩
  go_wp2
  go_ret
  exact ⟨rfl, rfl⟩
/-- What word answers. -/
def wordR (bs : List Blk) (q i : Int) (er : Int) : Prop := (usedAt bs q = false ∧ er = 4) ∨ ∃ b ∈ bs, b.u = true ∧ q = (b.a : Int) ∧ ((er = 2 ∧ (i < 0 ∨ (b.n : Int) ≤ i)) ∨ (er = 0 ∧ 0 ≤ i ∧ i < b.n))
set_option maxRecDepth 100000 in
theorem word_at {SL : Nat → Prop} {w : World} {p wb tb kb m : Nat} {mc : Caps} {lv : Value} {ws : List Nat} {L : List (Value × List (Ent Value))} {T K : Nat → Nat} {used : Nat} {tk mk : Nat → Bool} {tbs kbs : List Nat} {bs : List Blk} (A : Ar1 SL w p wb tb kb m mc lv ws L T K used tk mk tbs kbs) (I : Inv ws tk mk used (L.map (·.2)) bs) (q i : Int) (hq1 : -9223372036854775808 ≤ q) (hq2 : q < 9223372036854775808) :
    Calls Tryd.prog 38 #[.pointer (some ⟨p, 0, none⟩), .int .i64 q, .int .i64 i] w fun e w' => ∃ er, wordR bs q i er ∧ e = .returned (.int .i64 er) ∧ w = w' := by
  have HA := Lib.hid A; have HI := Lib.hid I; have HQ1 := Lib.hid hq1; have HQ2 := Lib.hid hq2
  have hlen := A.core.len
  clear A I hq1 hq2
  cases hu : usedAt bs q
  · have HU := Lib.hid hu
    clear hu hlen
    go_enter Tryd.func38, Tryd.ntmps38
    go_wp2_with fail
    refine (absent_at p w).mono ?_
    rintro e w1 ⟨rfl, rfl⟩
    go_wp2_with fail
    refine (has_at HA.out HI.out q HQ1.out HQ2.out).mono ?_
    rintro e w1 ⟨rfl, rfl⟩
    rw [HU.out]
    go_wp2
    go_ret
    exact ⟨4, .inl ⟨HU.out, rfl⟩, rfl, rfl⟩
  · obtain ⟨b, hb, hbu, rfl⟩ := usedAt_mem hu
    have hend := HI.out.end_le b hb
    have hh := HI.out.head b hb
    have HU := Lib.hid hu; have HH := Lib.hid hh; have HB := Lib.hid hb; have HBU := Lib.hid hbu; have HE := Lib.hid hend; have HL := Lib.hid hlen
    clear hu hh hb hbu hend hlen
    by_cases hi : i < 0
    · go_enter Tryd.func38, Tryd.ntmps38
      go_wp2_with fail
      refine (absent_at p w).mono ?_
      rintro e w1 ⟨rfl, rfl⟩
      go_wp2_with fail
      refine (has_at HA.out HI.out _ HQ1.out HQ2.out).mono ?_
      rintro e w1 ⟨rfl, rfl⟩
      rw [HU.out]
      go_wp2
      go_ret
      exact ⟨2, .inr ⟨b, HB.out, HBU.out, rfl, .inl ⟨rfl, .inl hi⟩⟩, rfl, rfl⟩
    · obtain ⟨n, hn⟩ : ∃ n, b.n = n := ⟨_, rfl⟩
      have HN := Lib.hid hn
      obtain ⟨j, rfl⟩ : ∃ j : Nat, i = (j : Int) := ⟨i.toNat, by omega⟩
      clear hn hi
      by_cases hin : (n : Int) ≤ j
      · have g0 : decide ((j : Int) < 0) = false := decide_eq_false (by omega)
        have g1 : decide (n ≤ j) = true := decide_eq_true (by omega)
        have HJ := Lib.hid hin
        clear hin
        go_enter Tryd.func38, Tryd.ntmps38
        go_wp2_with fail
        refine (absent_at p w).mono ?_
        rintro e w1 ⟨rfl, rfl⟩
        go_wp2_with fail
        refine (has_at HA.out HI.out _ HQ1.out HQ2.out).mono ?_
        rintro e w1 ⟨rfl, rfl⟩
        rw [HU.out]
        go_wp2_with fail
        refine (size_at HA.out.core b.a HE.out.1 (by have := HE.out; have := HL.out; omega)).mono ?_
        rintro e w1 ⟨rfl, rfl⟩
        rw [HH.out, HN.out]
        go_wp2
        go_ret
        exact ⟨2, .inr ⟨b, HB.out, HBU.out, rfl, .inl ⟨rfl, .inr (by rw [HN.out]; exact HJ.out)⟩⟩, rfl, rfl⟩
      · have g0 : decide ((j : Int) < 0) = false := decide_eq_false (by omega)
        have g1 : decide (n ≤ j) = false := decide_eq_false (by omega)
        have HJ := Lib.hid hin
        clear hin
        go_enter Tryd.func38, Tryd.ntmps38
        go_wp2_with fail
        refine (absent_at p w).mono ?_
        rintro e w1 ⟨rfl, rfl⟩
        go_wp2_with fail
        refine (has_at HA.out HI.out _ HQ1.out HQ2.out).mono ?_
        rintro e w1 ⟨rfl, rfl⟩
        rw [HU.out]
        go_wp2_with fail
        refine (size_at HA.out.core b.a HE.out.1 (by have := HE.out; have := HL.out; omega)).mono ?_
        rintro e w1 ⟨rfl, rfl⟩
        rw [HH.out, HN.out]
        go_wp2
        go_ret
        exact ⟨0, .inr ⟨b, HB.out, HBU.out, rfl, .inr ⟨rfl, by omega, by have := HJ.out; rw [HN.out]; omega⟩⟩, rfl, rfl⟩
end Go.Proofs.YtelohkppbmahnaaDoor
