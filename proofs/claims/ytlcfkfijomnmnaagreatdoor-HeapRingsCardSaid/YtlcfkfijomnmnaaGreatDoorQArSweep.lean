import Derived.Test.YtlcfkfijomnmnaaGreatDoorQArSweepPBd
namespace Go.Proofs.YtlcfkfijomnmnaaGreatDoor
open Lib (hid)
open Go.RowKit
theorem row_cleared {w : World} {e : TypeId} {g n cap : Nat} {vs : List Value} (h : w.ownsRow 0 e 1 (.slice (some ⟨g, 0, none⟩) n cap) n vs) :
    n ≤ cap ∧ cap ≤ maxLen ∧ ∃ cur : List Value, w.heap[g]? = some (.cells cur.toArray e (0, 0)) ∧ n ≤ cur.length ∧ ∀ (w' : World) (zs : List Value), zs.length = n → w'.heap[g]? = some (.cells (splice cur 0 zs).toArray e (0, 0)) → w'.ownsRow 0 e 1 (.slice (some ⟨g, 0, none⟩) n cap) n zs := by
  obtain ⟨hl, (⟨h0, _⟩ | ⟨g', cap', cur, h0, hg2, hcur, hc2, hm2, hsz, htk⟩)⟩ := h
  · cases h0
  simp only [Value.slice.injEq, Option.some.injEq, Addr.mk.injEq, true_and, and_true] at h0
  obtain ⟨rfl, rfl⟩ := h0
  obtain ⟨Lc, rfl⟩ : ∃ Lc : List Value, cur = Lc.toArray := ⟨cur.toList, by simp⟩
  simp only [List.size_toArray, Nat.mul_one] at hsz htk
  refine ⟨hc2, hm2, Lc, hcur, by omega, fun w' zs hz hw' => ⟨by omega, .inr ⟨g, cap, _, rfl, Nat.zero_le _, hw', hc2, hm2, ?_, ?_⟩⟩⟩
  · have : (splice Lc 0 zs).length = Lc.length := length_splice _ _ _ (by omega)
    simp [this, hsz]
  · simp [splice, ← hz]
section
variable {SL : Nat → Prop} {w : World} {p wb tb kb m : Nat} {mc : Caps} {lv : Value} {ws : List Nat} {L : List (Value × List (Ent Value))} {T K : Nat → Nat} {used : Nat} {tk mk : Nat → Bool} {tbs kbs : List Nat}
theorem Ar1.emptied (A : Ar1 SL w p wb tb kb m mc lv ws L T K used tk mk tbs kbs) {w' : World} {gb : Nat} (ho : lv.ownBlock = some gb) (u : Upd (fun b => b = gb) w w') (hr : w'.ownsRow 0 182 1 lv L.length (List.replicate L.length (.slice none 0 0))) :
    Ar1 SL w' p wb tb kb m mc lv ws (noLists L.length) T K used tk mk tbs kbs := by
  have hg := A.core.ls.own gb ho
  have c := A.core
  have hL : (noLists L.length).length = L.length := by simp [noLists]
  have hM : (noLists L.length).map (·.1) = List.replicate L.length (.slice none 0 0) := by simp [noLists]
  refine ⟨⟨u.heap_some c.blk (fun e => c.np (e ▸ hg)), ownsRow_upd c.wrow u (fun b hb => by simp [Value.ownBlock] at hb; subst hb; exact fun e => c.nwb (e ▸ hg)), ⟨by rw [hL, hM]; exact hr, c.ls.own, fun j pr h => ?_, fun j pr h b hb => ?_, fun j pr h e he => ?_, fun j pr h e he => ?_⟩,
    fun b hb => Nat.lt_of_lt_of_le (c.bound b hb) u.size, c.np, c.nwb, c.small, c.w64⟩, A.brt.upd u (fun e => A.nt (e ▸ hg)), A.brk.upd u (fun e => A.nk (e ▸ hg)), A.nt, A.nk, A.tw, A.kw, A.tkb⟩
  · rw [noLists_at h]; exact ⟨rfl, .inl ⟨rfl, rfl⟩⟩
  · rw [noLists_at h] at hb; cases hb
  · rw [noLists_at h] at he; cases he
  · rw [noLists_at h] at he; cases he
theorem brow_zero {w' : World} {g n c : Nat} (hr : w'.ownsRow 0 56 1 (.slice (some ⟨g, 0, none⟩) n c) n (u64s (zeros n))) : BRow w' g n c (fun _ => false) (zeros n) :=
  ⟨hr, fun k => by rw [zeros_getD]; omega, fun i _ => by rw [zeros_getD]; exact Nat.zero_testBit _⟩
theorem sw_rel_at (A : Ar1 SL w p wb tb kb m mc lv ws L T K used tk mk tbs kbs) {done rest : List Blk} {s t l : Nat} (C : SwC ws tk used (L.map (·.2)) done rest s t) (hl : s + l + 1 = t) (l0 : 0 < l) :
    Calls Tryz.prog 46 #[.pointer (some ⟨p, 0, none⟩), .int .i64 s, .int .i64 l] w fun e w' => e = .returned (.tuple #[]) ∧ ∃ SL' ws' L' T' K', Ar1 SL' w' p wb tb kb m mc lv ws' L' T' K' used tk mk tbs kbs ∧ ListsOk (L'.map (·.2)) ws' (more (frF done) s l) ∧ L'.length = L.length ∧ LowOnly (fun y => y = s ∨ frF done y l) (relP ws s l) ws' ∧ Fresh SL w SL' ∧ Upd (fun b => b = wb ∨ SL b) w w' := by
  have hlen := A.core.len
  have hsm := C.small
  have s1 := C.sd.le
  have tl := C.sq.le
  have dm := C.sd.mem
  have hlens := C.lens
  rw [List.length_map] at hlens
  have two := C.two
  have hlg : Nat.log2 l ≤ Nat.log2 ws.length := log2_mono (by omega) (by omega)
  have hl20 : Nat.log2 ws.length ≤ Nat.log2 1048576 := log2_mono (by omega) hsm
  have e20 : Nat.log2 1048576 = 20 := by decide +kernel
  refine (release_at A.core C.lists s l s1 l0 (by omega) (by omega) (by omega) (by omega) (fun u ⟨c, hc, _, e, _⟩ => by have := dm c hc; omega) (fun u ⟨c, hc, _, e, _⟩ => by have := dm c hc; omega) (fun u ⟨c, hc, _, e, _⟩ => by have := dm c hc; omega) (fun x u ⟨c, hc, _, e, e2⟩ => by have := dm c hc; omega)).mono ?_
  rintro e w2 ⟨rfl, SL2, ws2, L2, T2, K2, C2, ok2, hL2, lo2, fr2, u2⟩
  exact ⟨rfl, SL2, ws2, L2, T2, K2, A.post C2 fr2 u2, ok2, hL2, lo2, fr2, u2⟩
end
section
variable {V : Type} {bs : List Blk} {ws : List Nat} {tk mk : Nat → Bool} {used : Nat} {L : List (List (Ent V))} {done run rest : List Blk} {s t : Nat} {b : Blk}
theorem SwI.mk_at (I : SwI bs ws tk mk used L done run (b :: rest) s t) : mk b.a = b.m := by
  have hb := I.sub b (by simp)
  rw [Bool.eq_iff_iff, I.marked]
  constructor
  · rintro ⟨c, hc, h1, h2⟩; rw [I.bspan.inj hc hb h2] at h1; exact h1
  · intro h; exact ⟨b, hb, h, rfl⟩
theorem SwI.tk_at (I : SwI bs ws tk mk used L done run (b :: rest) s t) : tk b.a = b.u := by
  rw [Bool.eq_iff_iff, I.c.taken]
  obtain ⟨q1, q2, q3⟩ := I.c.sq
  have hle := I.c.le
  constructor
  · rintro ⟨c, h | h | h, h1, h2⟩
    · have := I.c.sd.mem c h; omega
    · rcases List.mem_cons.1 h with h | h
      · rw [← h]; exact h1
      · have := q3.mem c h; omega
    · exact h.elim
  · intro h; exact ⟨b, .inr (.inl (by simp)), h, rfl⟩
end
def SwW (SL : Nat → Prop) (w : World) (p wb tb kb m : Nat) (mc : Caps) (lv : Value) (bs : List Blk) (mk : Nat → Bool) (kbs : List Nat) (done run rest : List Blk) (s t : Nat) (wr : World) : Prop :=
  ∃ SL1 ws1 L1 T1 K1 used1 tk1 tbs1, Ar1 SL1 wr p wb tb kb m mc lv ws1 L1 T1 K1 used1 tk1 mk tbs1 kbs ∧ SwI bs ws1 tk1 mk used1 (L1.map (·.2)) done run rest s t ∧ Fresh (Own SL p wb tb kb) w SL1 ∧ Upd (Own SL p wb tb kb) w wr
def beginV (run : List Blk) (s : Nat) : Nat := match run with
  | [] => 0
  | _ :: _ => s
def SwPost (S : Nat → Prop) (w : World) (p m : Nat) (bs : List Blk) (e : Ending) (w' : World) : Prop := e = .returned (.int .i64 ((usedSum bs : Int) - (usedSum (sweepF bs) : Int))) ∧ ArPost S w p m (sweepF bs) w'
theorem infoRowM2 : (Tryz.prog.info? 182).map (fun i => (i.zero, i.size, i.bytes)) = some (some (.slice none 0 0), 1, 24) := by kernel_rfl
theorem zeroRowM (w : World) : (zeroValue 182).run Tryz.prog w = .ok (.slice none 0 0) w := by
  obtain ⟨i0, hi, hz0, hz1, hz2⟩ := info_parts infoRowM2
  simp [zeroValue, Go.typeInfo, hi, hz0]
theorem zcRowM (n : Nat) : (Builtin.zeroCells (Value.slice none 0 0).cells n).toList = List.replicate n (.slice none 0 0) := by
  rw [show (Value.slice none 0 0).cells = #[.slice none 0 0] from rfl, zcells1]
set_option maxRecDepth 100000 in
set_option maxHeartbeats 8000000 in
theorem Sweep_at {S : Nat → Prop} {w : World} {p m : Nat} {bs : List Blk} (A0 : ArV S w p m bs) :
    Calls Tryz.prog 53 #[.pointer (some ⟨p, 0, none⟩)] w (SwPost S w p m bs) := by
  have HA0 := hid A0
  obtain ⟨SL, wb, tb, kb, mc, lv, ws, L, T, K, used, tk, mk, tbs, kbs, A, I, O⟩ := A0
  have hlen := A.core.len
  have hsm := I.small
  have c0 := heap_cell A.core.blk 0
  simp at c0
  by_cases hm2 : (m : Int) < 2
  · have hbs : bs = [] := by
      cases bs with
      | nil => rfl
      | cons b r => exfalso; have := I.end_le b (by simp); omega
    subst hbs
    clear A I O hlen hsm
    go_enter Tryz.func53, Tryz.ntmps53
    go_wp2_with fail
    refine (absent_at p w).mono ?_
    rintro e w1 ⟨rfl, rfl⟩
    go_wp2
    go_ret
    exact ⟨rfl, .same HA0.out (Below.refl _ _)⟩
  have hm20 : m ≤ 1048576 := by omega
  have hused := I.used_le
  have hsum0 := I.sum
  have hl0 := I.lens
  rw [List.length_map, if_neg (by omega)] at hl0
  obtain ⟨gb, lc, lcur, rfl, _⟩ := ownsRow_some A.core.ls.row (by omega)
  obtain ⟨ln, hln⟩ : ∃ ln, L.length = ln := ⟨_, rfl⟩
  have c3 := heap_cell A.core.blk 3
  have c4 := heap_cell A.core.blk 4
  simp at c3 c4
  rw [hln] at c4
  have hrow := A.core.ls.row
  rw [hln] at hrow
  obtain ⟨hlc1, hlc2, cur, hcur, hcl, hclr⟩ := row_cleared hrow
  have HA := hid A; have HI := hid I; have HO := hid O; have HLN := hid hln; have HC := hid hcur; have HCL := hid hcl; have HCR := hid hclr; have HS0 := hid hsum0; have HLEN := hid hlen; have HL0 := hid hl0
  clear A I O hln hcur hcl hclr hrow hsum0 hlen hsm hl0
  go_enter Tryz.func53, Tryz.ntmps53
  go_wp2_with fail
  refine (absent_at p w).mono ?_
  rintro e w1 ⟨rfl, rfl⟩
  go_wp2_with (refine wpList_clear_row rfl _ 112 rfl 182 (.slice none 0 0) Tryz.underlying112 zeroRowM gb 0 ln _ rfl cur 182 HC.out (List.replicate ln (.slice none 0 0)) (zcRowM _) ?f1 ?f2 ?f3 ?_)
  case f1 => simpa using HCL.out
  case f2 => intro u hu; rw [(List.mem_replicate.1 hu).2]; rfl
  case f3 => intro h; rw [h]; rfl
  intro w2 h2 u2
  have A2 : Ar1 SL w2 p wb tb kb m mc _ ws (noLists L.length) T K used tk mk tbs kbs := HA.out.emptied (gb := gb) rfl u2.out (by rw [HLN.out]; exact HCR.out w2 _ (by simp) h2.out)
  have I2 := SwI.start (L := (noLists L.length).map (·.2)) HI.out (by have := HLEN.out; omega) (by simp [noLists]) (noLists_ok _ _)
  have HSW := hid (show SwW SL w p wb tb kb m mc _ bs mk kbs [] [] bs 1 1 w2 from ⟨SL, ws, _, T, K, used, tk, tbs, A2, I2, fun b hb => .inl (.inr (.inr (.inr (.inr hb)))), u2.out.mono (fun b _ hb => .inr (.inr (.inr (.inr (hb ▸ HA.out.core.ls.own gb rfl)))))⟩)
  clear A2 I2 h2 u2 c0 c3 c4
  go_wp2
  go_loopw [4, 5] (fun t4 t5 wr => ∃ done run rest s t, t4 = .int .i64 (beginV run s : Nat) ∧ t5 = .int .i64 (t : Nat) ∧ SwW SL w p wb tb kb m mc (.slice (some ⟨gb, 0, none⟩) L.length lc) bs mk kbs done run rest s t wr) (fun _ t5 _ => m + 2 - (intOf t5).toNat)
  case atStart => exact ⟨[], [], bs, 1, 1, rfl, rfl, HSW.out⟩
  case round =>
    clear HSW
    obtain ⟨done, run, rest, s, t, rfl, rfl, SL1, ws1, L1, T1, K1, used1, tk1, tbs1, A1, I1, F1, U1⟩ := hrel
    have d0 := heap_cell A1.core.blk 0
    have d1 := heap_cell A1.core.blk 1
    have d2 := heap_cell A1.core.blk 2
    have d3 := heap_cell A1.core.blk 3
    simp at d0 d1 d2 d3
    have hl1 := A1.core.len
    have s1 := I1.c.sd.le
    have t1 := I1.c.le
    have H1 := hid A1; have HI1 := hid I1; have HF1 := hid F1; have HU1 := hid U1; have HL1 := hid hl1
    cases rest with
    | nil =>
      have htm : t = m + 1 := by have := I1.c.sq; have : t = ws1.length + 1 := this; omega
      subst htm
      have hnt : ¬ ((m + 1 : Nat) : Int) < m := by omega
      clear A1 I1 F1 U1 hl1 d1
      cases run with
      | nil =>
        rw [show ((beginV [] s : Nat) : Int) = 0 from rfl]
        have hI := HI1.out.done0
        have H3 := H1; have HI3 := hid hI; have HF3 := HF1; have HU3 := HU1
        have e2 := d2
        have e3 := d3
        clear hI HI1 HF1 HU1
        have hsumE := HI3.out.sum
        have husE := HI3.out.used_le
        have hrK := H3.out.brk.row
        obtain ⟨hk1, hk2, curK, hcurK, hclK, hclrK⟩ := row_cleared hrK
        have HCK := hid hcurK; have HCLK := hid hclK; have HCRK := hid hclrK; have HSE := hid hsumE
        have ed : IntKind.i64.wrap ((used : Int) - used1) = (used : Int) - used1 := IntWalk.i64_in _ ⟨by omega, by omega⟩
        clear hrK hcurK hclK hclrK hsumE
        go_wp2_with (refine wpList_clear_row rfl _ 111 rfl 56 (.int .u64 0) Tryz.underlying111 zeroU64 kb 0 (m / 64 + 1) _ rfl curK 56 HCK.out (u64s (zeros (m / 64 + 1))) (zcU64 _) ?f1 ?f2 ?f3 ?_)
        case f1 => rw [u64s_len, zeros_len]; simpa using HCLK.out
        case f2 => intro u hu; obtain ⟨z, _, rfl⟩ := List.mem_map.1 hu; rfl
        intro w5 h5 u5
        have kz := brow_zero (HCRK.out w5 _ (by rw [u64s_len, zeros_len]) h5.out)
        have A5 := H3.out.turnK u5.out kz
        have g3 := heap_cell A5.core.blk 3
        simp at g3
        have H5 := hid A5
        have HU5 := hid (show Upd (Own SL p wb tb kb) w w5 from HU3.out.trans' (u5.out.mono (fun b _ hb => .inr (.inr (.inr (.inl hb))))))
        clear A5 kz h5 u5 e2 e3
        go_wp2
        go_ret
        refine ⟨by rw [← HS0.out, ← HSE.out]; rfl, Own _ p wb tb kb, ⟨_, wb, tb, kb, mc, _, _, _, _, _, _, _, _, _, _, H5.out, HI3.out, fun _ h => h⟩, fun q hq => ?_, HU5.out.mono (fun q _ hq => HO.out q hq)⟩
        rcases hq with h | h | h | h | h
        · exact .inl (HO.out q (.inl h))
        · exact .inl (HO.out q (.inr (.inl h)))
        · exact .inl (HO.out q (.inr (.inr (.inl h))))
        · exact .inl (HO.out q (.inr (.inr (.inr (.inl h)))))
        · exact (HF3.out q h).imp (HO.out q) id
      | cons r0 run =>
        rw [show ((beginV (r0 :: run) s : Nat) : Int) = (s : Int) from rfl]
        have hs0 : (0 : Int) < s := by omega
        have hsr := HI1.out.sr
        have hsl : s + 2 ≤ m + 1 := by obtain ⟨a1, a2, a3⟩ := hsr; have := a3.le; omega
        obtain ⟨l, hl⟩ : ∃ l, m - s = l := ⟨_, rfl⟩
        have el : IntKind.i64.wrap ((m : Int) - s) = (l : Int) := by rw [IntWalk.i64_in _ ⟨by omega, by omega⟩]; omega
        have HLL := hid (show s + l + 1 = m + 1 ∧ 0 < l by omega)
        clear hsr hsl hl d2 d3
        go_wp2_with fail
        refine (sw_rel_at H1.out HI1.out.c HLL.out.1 HLL.out.2).mono ?_
        rintro e w3 ⟨rfl, SL3, ws3, L3, T3, K3, A3, ok3, hL3, lo3, fr3, u3⟩
        have hI := HI1.out.done1 HLL.out.1 HLL.out.2 ok3 (by rw [List.length_map, List.length_map]; exact hL3) lo3
        have H3 := hid A3; have HI3 := hid hI
        have HF3 := hid (show Fresh (Own SL p wb tb kb) w SL3 from fun q hq => (fr3 q hq).elim (HF1.out q) (fun h => .inr (Nat.le_trans HU1.out.size h)))
        have HU3 := hid (show Upd (Own SL p wb tb kb) w w3 from HU1.out.trans (fun q hq => hq.elim (fun h => .inl (.inr (.inl h))) (HF1.out q)) u3)
        have e2 := heap_cell A3.core.blk 2
        have e3 := heap_cell A3.core.blk 3
        simp at e2 e3
        clear A3 ok3 hL3 lo3 fr3 u3 hI HI1 HF1 HU1 d0
        have hsumE := HI3.out.sum
        have husE := HI3.out.used_le
        have hrK := H3.out.brk.row
        obtain ⟨hk1, hk2, curK, hcurK, hclK, hclrK⟩ := row_cleared hrK
        have HCK := hid hcurK; have HCLK := hid hclK; have HCRK := hid hclrK; have HSE := hid hsumE
        have ed : IntKind.i64.wrap ((used : Int) - used1) = (used : Int) - used1 := IntWalk.i64_in _ ⟨by omega, by omega⟩
        clear hrK hcurK hclK hclrK hsumE
        go_wp2_with (refine wpList_clear_row rfl _ 111 rfl 56 (.int .u64 0) Tryz.underlying111 zeroU64 kb 0 (m / 64 + 1) _ rfl curK 56 HCK.out (u64s (zeros (m / 64 + 1))) (zcU64 _) ?f1 ?f2 ?f3 ?_)
        case f1 => rw [u64s_len, zeros_len]; simpa using HCLK.out
        case f2 => intro u hu; obtain ⟨z, _, rfl⟩ := List.mem_map.1 hu; rfl
        intro w5 h5 u5
        have kz := brow_zero (HCRK.out w5 _ (by rw [u64s_len, zeros_len]) h5.out)
        have A5 := H3.out.turnK u5.out kz
        have g3 := heap_cell A5.core.blk 3
        simp at g3
        have H5 := hid A5
        have HU5 := hid (show Upd (Own SL p wb tb kb) w w5 from HU3.out.trans' (u5.out.mono (fun b _ hb => .inr (.inr (.inr (.inl hb))))))
        clear A5 kz h5 u5 e2 e3
        go_wp2
        go_ret
        refine ⟨by rw [← HS0.out, ← HSE.out]; rfl, Own _ p wb tb kb, ⟨_, wb, tb, kb, mc, _, _, _, _, _, _, _, _, _, _, H5.out, HI3.out, fun _ h => h⟩, fun q hq => ?_, HU5.out.mono (fun q _ hq => HO.out q hq)⟩
        rcases hq with h | h | h | h | h
        · exact .inl (HO.out q (.inl h))
        · exact .inl (HO.out q (.inr (.inl h)))
        · exact .inl (HO.out q (.inr (.inr (.inl h))))
        · exact .inl (HO.out q (.inr (.inr (.inr (.inl h)))))
        · exact (HF3.out q h).imp (HO.out q) id
    | cons b rest =>
      have hbm := I1.mk_at
      have hbt := I1.tk_at
      obtain ⟨q1, q2, q3⟩ := I1.c.sq
      have q4 := q3.le
      have hhead := I1.c.head b (by simp)
      obtain ⟨sz, hsz⟩ : ∃ sz, b.n = sz := ⟨_, rfl⟩
      rw [q1] at hbm hbt hhead
      rw [hsz] at hhead q2 q4
      have htm : (t : Int) < m := by omega
      have ht1 : 1 ≤ t := by omega
      have htm2 : t ≤ m := by omega
      have hx64 : t < 64 * (m / 64 + 1) := by omega
      obtain ⟨y, hy⟩ : ∃ y, t + sz = y := ⟨_, rfl⟩
      obtain ⟨q, hq⟩ : ∃ q, y + 1 = q := ⟨_, rfl⟩
      have ey : IntKind.i64.wrap ((t : Int) + sz) = (y : Int) := by rw [IntWalk.i64_in _ ⟨by omega, by omega⟩]; omega
      have eq : IntKind.i64.wrap ((y : Int) + 1) = (q : Int) := by rw [IntWalk.i64_in _ ⟨by omega, by omega⟩]; omega
      have hqt : b.a + b.n + 1 = q := by omega
      have hqm : q ≤ m + 1 ∧ t < q := by omega
      have HQ1 := hid q1; have HSZ := hid hsz; have HH := hid hhead; have HBM := hid hbm; have HBT := hid hbt; have HQT := hid hqt; have HQM := hid hqm; have HY := hid (And.intro hy hq)
      have hus1 : used1 ≤ 1048576 := by have := I1.c.sum; have a1 := I1.c.sd.used_le; have a2 := I1.c.sq.used_le; have := I1.c.small; have := I1.c.le; omega
      have hsum1 := I1.c.sum
      rw [usedSum_cons] at hsum1
      have HS1 := hid hsum1
      clear A1 I1 F1 U1 hl1 q1 q2 q3 q4 hhead hsz hbm hbt hqt hqm hy hq hsum1
      go_wp2_with fail
      refine (size_at H1.out.core t ht1 htm2).mono ?_
      rintro e w3 ⟨rfl, rfl⟩
      rw [HH.out]
      go_wp2_with fail
      refine (bhas_at wr kb _ _ mk kbs H1.out.brk t hx64 (by omega)).mono ?_
      rintro e w3 ⟨rfl, rfl⟩
      rw [HBM.out]
      cases hm : b.m
      · have HM := hid hm
        clear hm
        go_wp2_with fail
        refine (bhas_at wr tb _ _ tk1 tbs1 H1.out.brt t hx64 (by omega)).mono ?_
        rintro e w3 ⟨rfl, rfl⟩
        rw [HBT.out]
        cases hu : b.u
        · have HU := hid hu
          have hI := HI1.out.skip HM.out (tk' := tk1) (used' := used1) (fun x => by by_cases e : x = b.a; rw [if_pos e, e, HQ1.out, HBT.out, HU.out]; rw [if_neg e]) (by rw [HU.out]; rfl)
          rw [HQT.out] at hI
          have HI2 := hid hI
          clear hu hI
          cases run with
          | nil =>
            rw [show ((beginV [] s : Nat) : Int) = 0 from rfl]
            go_wp2
            go_roundw
            case rel => exact ⟨done, [] ++ [b], rest, s, q, by rw [show s = t from HI1.out.sr]; rfl, rfl, SL1, ws1, L1, T1, K1, used1, tk1, tbs1, H1.out, HI2.out, HF1.out, HU1.out⟩
            case measure => simp only [intOf]; have := HQM.out; omega
          | cons r0 run =>
            rw [show ((beginV (r0 :: run) s : Nat) : Int) = (s : Int) from rfl]
            have hs0 : ¬ (s : Int) = 0 := by omega
            have hs1 : ¬ s = 0 := by omega
            go_wp2
            go_roundw
            case rel => exact ⟨done, r0 :: run ++ [b], rest, s, q, rfl, rfl, SL1, ws1, L1, T1, K1, used1, tk1, tbs1, H1.out, HI2.out, HF1.out, HU1.out⟩
            case measure => simp only [intOf]; have := HQM.out; omega
        · have HU := hid hu
          clear hu
          obtain ⟨us, hus⟩ : ∃ us, used1 - (sz + 1) = us := ⟨_, rfl⟩
          have hle : sz + 1 ≤ used1 := by have := HS1.out; rw [if_pos HU.out, HSZ.out] at this; omega
          have eu1 : IntKind.i64.wrap ((q : Int) - t) = (sz : Int) + 1 := by have := HY.out; rw [IntWalk.i64_in _ ⟨by omega, by omega⟩]; omega
          have eu2 : IntKind.i64.wrap ((used1 : Int) - ((sz : Int) + 1)) = (us : Int) := by rw [IntWalk.i64_in _ ⟨by omega, by omega⟩]; omega
          have HUS := hid hus
          clear hus hle
          go_wp2_with fail
          refine (bunset_at wr tb _ _ tk1 tbs1 H1.out.brt t hx64 (by omega)).mono ?_
          rintro e w4 ⟨rfl, ⟨tbs4, k4⟩, u4⟩
          have A4 := H1.out.turnT u4 k4
          have f3 := heap_frozen A4.core.blk 3
          have g0 := heap_cell A4.core.blk 0
          have g3 := heap_cell A4.core.blk 3
          simp at g0 g3
          have H5 := hid (A4.use us)
          have HU5 := hid (show Upd (Own SL p wb tb kb) w (w4.setCell ⟨p, 3, none⟩ (.int .i64 (us : Int))) from (HU1.out.trans' (u4.mono (fun b _ hb => .inr (.inr (.inl hb))))).trans' ((upd_set _ _ _ _).mono (fun b _ hb => .inl hb)))
          have hI := HI1.out.skip HM.out (tk' := turned tk1 t false) (used' := us) (fun x => by rw [HQ1.out]; rfl) (by rw [if_pos HU.out, HSZ.out]; exact HUS.out.symm)
          rw [HQT.out] at hI
          have HI2 := hid hI
          clear A4 u4 k4 hI d0 d1 d2 d3
          cases run with
          | nil =>
            rw [show ((beginV [] s : Nat) : Int) = 0 from rfl]
            go_wp2
            go_roundw
            case rel => exact ⟨done, [] ++ [b], rest, s, q, by rw [show s = t from HI1.out.sr]; rfl, rfl, SL1, ws1, L1, T1, K1, us, _, tbs4, H5.out, HI2.out, HF1.out, HU5.out⟩
            case measure => simp only [intOf]; have := HQM.out; omega
          | cons r0 run =>
            rw [show ((beginV (r0 :: run) s : Nat) : Int) = (s : Int) from rfl]
            have hs0 : ¬ (s : Int) = 0 := by omega
            have hs1 : ¬ s = 0 := by omega
            go_wp2
            go_roundw
            case rel => exact ⟨done, r0 :: run ++ [b], rest, s, q, rfl, rfl, SL1, ws1, L1, T1, K1, us, _, tbs4, H5.out, HI2.out, HF1.out, HU5.out⟩
            case measure => simp only [intOf]; have := HQM.out; omega
      · have HM := hid hm
        clear hm
        cases run with
        | nil =>
          rw [show ((beginV [] s : Nat) : Int) = 0 from rfl]
          have hI := HI1.out.stay HM.out
          rw [HQT.out] at hI
          have HI2 := hid hI
          clear hI
          go_wp2
          go_roundw
          case rel => exact ⟨_, [], rest, q, q, rfl, rfl, SL1, ws1, L1, T1, K1, used1, tk1, tbs1, H1.out, HI2.out, HF1.out, HU1.out⟩
          case measure => simp only [intOf]; have := HQM.out; omega
        | cons r0 run =>
          rw [show ((beginV (r0 :: run) s : Nat) : Int) = (s : Int) from rfl]
          have hs0 : (0 : Int) < s := by omega
          have hsr := HI1.out.sr
          have hsl : s + 2 ≤ t := by obtain ⟨a1, a2, a3⟩ := hsr; have := a3.le; omega
          obtain ⟨t0, ht0⟩ : ∃ t0, t - 1 = t0 := ⟨_, rfl⟩
          obtain ⟨l, hl⟩ : ∃ l, t0 - s = l := ⟨_, rfl⟩
          have et0 : IntKind.i64.wrap ((t : Int) - 1) = (t0 : Int) := by rw [IntWalk.i64_in _ ⟨by omega, by omega⟩]; omega
          have el : IntKind.i64.wrap ((t0 : Int) - s) = (l : Int) := by rw [IntWalk.i64_in _ ⟨by omega, by omega⟩]; omega
          have HLL := hid (show s + l + 1 = t ∧ 0 < l by omega)
          clear hsr hsl hl ht0
          go_wp2_with fail
          refine (sw_rel_at H1.out HI1.out.c HLL.out.1 HLL.out.2).mono ?_
          rintro e w3 ⟨rfl, SL3, ws3, L3, T3, K3, A3, ok3, hL3, lo3, fr3, u3⟩
          have hI := HI1.out.relStay HM.out HLL.out.1 HLL.out.2 ok3 (by rw [List.length_map, List.length_map]; exact hL3) lo3
          rw [HQT.out] at hI
          have H3 := hid A3; have HI3 := hid hI
          have HF3 := hid (show Fresh (Own SL p wb tb kb) w SL3 from fun q hq => (fr3 q hq).elim (HF1.out q) (fun h => .inr (Nat.le_trans HU1.out.size h)))
          have HU3 := hid (show Upd (Own SL p wb tb kb) w w3 from HU1.out.trans (fun q hq => hq.elim (fun h => .inl (.inr (.inl h))) (HF1.out q)) u3)
          clear A3 ok3 hL3 lo3 fr3 u3 hI d0 d1 d2 d3
          go_wp2
          go_roundw
          case rel => exact ⟨_, [], rest, q, q, rfl, rfl, SL3, ws3, L3, T3, K3, used1, tk1, tbs1, H3.out, HI3.out, HF3.out, HU3.out⟩
          case measure => simp only [intOf]; have := HQM.out; omega
end Go.Proofs.YtlcfkfijomnmnaaGreatDoor
