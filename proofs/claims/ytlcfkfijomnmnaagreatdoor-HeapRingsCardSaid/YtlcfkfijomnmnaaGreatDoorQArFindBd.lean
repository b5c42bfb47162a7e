import Derived.Test.YtlcfkfijomnmnaaGreatDoorQArEnlist
import Derived.Test.YtlcfkfijomnmnaaGreatDoorQMidBd
namespace Go.Proofs.YtlcfkfijomnmnaaGreatDoor
open Lib (hid)
section
open Go.RowKit
theorem delP_lt (h ws : List Nat) (x : Nat) (k : HeapOk h ws) (hx : x ∈ h) : ∃ i la, ws.getD x 0 % 4294967296 = i ∧ h.length = la + 1 ∧ i ≤ la ∧ h.getD i 0 = x := by
  obtain ⟨i, hi, rfl⟩ := mem_getD.1 hx
  exact ⟨i, h.length - 1, k.back i hi, by omega, by omega, rfl⟩
theorem fallP_all (P : Nat → Prop) (x : Nat) (hx : P x) : ∀ (n i : Nat) (h ws : List Nat), h.length - i ≤ n → i < h.length → (∀ j, j < h.length → P (h.getD j 0)) → (fallP x i h ws).1.length = h.length ∧ ∀ j, j < h.length → P ((fallP x i h ws).1.getD j 0) := by
  intro n
  induction n with
  | zero => intro i h ws h0 hi; omega
  | succ n ih =>
    intro i h ws hn hi hall
    rw [fallP]
    split
    · rename_i hc
      have hil : i < leastP i h := by unfold leastP; split <;> omega
      have hl : (h.set i (h.getD (leastP i h) 0)).length = h.length := by simp
      obtain ⟨a, b⟩ := ih (leastP i h) (h.set i (h.getD (leastP i h) 0)) (stamp ws (h.getD (leastP i h) 0) i) (by rw [hl]; omega) (by rw [hl]; exact hc.1) (fun j hj => by
        rw [getD_set _ _ _ _ hi]
        split
        · exact hall _ hc.1
        · rw [hl] at hj; exact hall j hj)
      rw [hl] at a b
      exact ⟨a, b⟩
    · refine ⟨by simp, fun j hj => ?_⟩
      dsimp only
      rw [getD_set _ _ _ _ hi]
      split
      · exact hx
      · exact hall j hj
theorem del_done {SL : Nat → Prop} {w : World} {p wb m mc : Nat} {tv kv uv lv : Value} {ws : List Nat} {L : List (Value × List (Ent Value))} {T K : Nat → Nat} {F : Nat → Nat → Prop} (c : Core SL w p wb m mc tv kv uv lv ws L T K) (ok : ListsOk (L.map (·.2)) ws F)
    {s x : Nat} {l1 l2 : List (Ent Value)} {mv : Value} {e0 : Ent Value} (hat : L[Nat.log2 s]? = some (mv, l1 ++ [e0] ++ l2)) (low : ∀ e ∈ l1, e.s < s) (high : ∀ e ∈ l2, s < e.s) (hes : e0.s = s) (hx : x ∈ e0.h) (hf : F x s)
    {w5 : World} {ws' h' : List Nat} {new : List (Ent Value)} {mv' : Value} (hdp : delP (ws.getD x 0 % 4294967296) e0.h ws = (h', ws'))
    (hnew : (new = [] ∧ h' = []) ∨ ∃ v', new = [⟨s, v', h'⟩] ∧ h' ≠ [] ∧ w5.ownsRow 0 3 1 v' h'.length (ints h') ∧ v'.ownBlock = e0.v.ownBlock)
    (u5 : Upd (fun b => b = wb ∨ mv.ownBlock = some b ∨ e0.v.ownBlock = some b ∨ lv.ownBlock = some b) w w5)
    (rm5 : w5.ownsRow 0 187 2 mv' (l1 ++ new ++ l2).length (flatE (l1 ++ new ++ l2))) (hmm : mv'.ownBlock = mv.ownBlock ∨ ∀ b, mv'.ownBlock = some b → w.heap.size ≤ b)
    (rl5 : w5.ownsRow 0 182 1 lv L.length ((L.map (·.1)).set (Nat.log2 s) mv'))
    (wr5 : w5.ownsRow 0 56 1 (.slice (some ⟨wb, 0, none⟩) m mc) m (u64s ws')) :
    CorePost SL w p wb m mc tv kv uv lv ws L (less F x) (fun y => y ≠ x ∧ F y s) (.returned (.tuple #[])) w5 := by
  have hatl : (L.map (·.2))[Nat.log2 s]? = some (l1 ++ [e0] ++ l2) := by rw [List.getElem?_map, hat]; rfl
  have hem : e0 ∈ l1 ++ [e0] ++ l2 := by simp
  have hmem : ∀ y, y ∈ e0.h ↔ F y s := fun y => by rw [ok.mem _ _ hatl e0 hem y, hes]
  have ho := ok.heap _ _ hatl e0 hem
  have hlen := ho.len_le
  have hsm := c.small
  obtain ⟨d0, d1, d2, d3, d4⟩ := delP_ok x e0.h ws ho hx (by omega)
  rw [hdp] at d1 d2 d3 d4
  dsimp only at d1 d2 d3 d4
  have hlow : LowOnly (fun y => y ≠ x ∧ F y s) ws ws' := ⟨d4.len, d4.up, fun k hk => d4.off k (fun q => hk ⟨q.1, (hmem k).1 q.2⟩)⟩
  obtain ⟨wcur, hwcur⟩ := row_block c.wrow (b := wb) rfl
  obtain ⟨SL', T', K', k1, k2, k3⟩ := c.ls.renew ok hat rfl (.inr ⟨e0, rfl, hes⟩) low high e0.v.ownBlock (fun b hb => ⟨e0, by simp, hb⟩) wb hwcur u5 new
    (fun e he => by
      rcases hnew with ⟨rfl, _⟩ | ⟨v', rfl, _, hr, hv⟩
      · simp at he
      · rw [List.mem_singleton.1 he]; exact ⟨rfl, hr, .inl hv⟩) mv' rm5 hmm (by rw [map_set]; exact rl5) c.bound
  refine ⟨rfl, SL', ws', _, T', K', ⟨?_, wr5, k1, k3, ?_, ?_, by rw [d4.len]; exact hsm, fun k => ?_⟩, ?_, by rw [List.length_set], hlow, k2, u5.mono (fun b _ h => ?_)⟩
  · refine u5.heap_some c.blk (fun hc => ?_)
    rcases hc with h | h | h | h
    · obtain ⟨cc, hcc⟩ := row_block c.wrow (b := wb) rfl; rw [← h, c.blk] at hcc; simp at hcc
    · obtain ⟨cc, hcc⟩ := row_block (c.ls.mrow _ _ hat) h; rw [c.blk] at hcc; simp at hcc
    · obtain ⟨cc, hcc⟩ := row_block (c.ls.hrow _ _ hat e0 hem) h; rw [c.blk] at hcc; simp at hcc
    · obtain ⟨cc, hcc⟩ := row_block c.ls.row h; rw [c.blk] at hcc; simp at hcc
  · intro h; rcases k2 p h with h | h
    · exact c.np h
    · have := heap_lt c.blk; omega
  · intro h; rcases k2 wb h with h | h
    · exact c.nwb h
    · have := heap_lt hwcur; omega
  · have a := d4.up k
    have b := c.w64 k
    omega
  · rw [map_set]
    rw [← hes] at hatl hf ⊢
    have hatl2 : (L.map (·.2))[Nat.log2 e0.s]? = some (l1 ++ e0 :: l2) := by rw [hatl]; simp
    rcases hnew with ⟨rfl, h0⟩ | ⟨v', rfl, h0, _, _⟩
    · subst h0
      exact ok.drop (v := .slice none 0 0) [] hatl2 hf d2 d3 d4 (.inl ⟨rfl, rfl⟩)
    · rw [← hes]
      exact ok.drop (v := v') _ hatl2 hf d2 d3 d4 (.inr ⟨rfl, h0⟩)
  · rcases h with h | h | h | h
    · exact .inl h
    · exact .inr (c.ls.mown _ _ hat b h).1
    · exact .inr (c.ls.hown _ _ hat e0 hem b h).1
    · exact .inr (c.ls.own b h)
set_option maxRecDepth 100000 in
set_option maxHeartbeats 8000000 in
theorem delist_at {SL : Nat → Prop} {w : World} {p wb m mc : Nat} {tv kv uv lv : Value} {ws : List Nat} {L : List (Value × List (Ent Value))} {T K : Nat → Nat} {F : Nat → Nat → Prop} (c : Core SL w p wb m mc tv kv uv lv ws L T K) (ok : ListsOk (L.map (·.2)) ws F) (x s : Nat) (hf : F x s) (hL : L.length ≤ 64) (hF : ∀ x s, F x s → s < 1048576) :
    Calls Tryz.prog 88 #[.pointer (some ⟨p, 0, none⟩), .int .i64 x, .int .i64 s] w (CorePost SL w p wb m mc tv kv uv lv ws L (less F x) (fun y => y ≠ x ∧ F y s)) := by
  obtain ⟨l, hatl, e0, he0, hes⟩ := ok.all x s hf
  have hk : Nat.log2 s < L.length := by have := (List.getElem?_eq_some_iff.1 hatl).1; simpa using this
  obtain ⟨⟨mv, l'⟩, hat⟩ : ∃ pr, L[Nat.log2 s]? = some pr := ⟨_, List.getElem?_eq_getElem hk⟩
  obtain rfl : l' = l := by rw [List.getElem?_map, hat] at hatl; simpa using hatl
  have hsorted := ok.sorted _ _ hatl
  obtain ⟨l1, l2', hsp, p1, p2⟩ := split_at s l' hsorted
  have hs0 : 0 < s := by have := (ok.pos _ _ hatl e0 he0).1; omega
  have hsm := hF x s hf
  have hin2 : e0 ∈ l2' := by
    rw [hsp] at he0
    rcases List.mem_append.1 he0 with h | h
    · have := p1 e0 h; omega
    · exact h
  obtain ⟨l2, rfl⟩ : ∃ l2, l2' = e0 :: l2 := by
    cases l2' with
    | nil => simp at hin2
    | cons a r =>
      rcases List.mem_cons.1 hin2 with h | h
      · exact ⟨r, by rw [h]⟩
      · rw [hsp, List.pairwise_append, List.pairwise_cons] at hsorted
        have h4 := hsorted.2.1.1 e0 h
        have h5 := p2 a (by simp)
        omega
  subst hsp
  have hhigh : ∀ e ∈ l2, s < e.s := fun a ha => by
    rw [List.pairwise_append, List.pairwise_cons] at hsorted
    have := hsorted.2.1.1 a ha
    omega
  have hll := ok.len_le hF _ _ hatl
  have hem : e0 ∈ l1 ++ e0 :: l2 := by simp
  have ho := ok.heap _ _ hatl e0 hem
  have hxh : x ∈ e0.h := (ok.mem _ _ hatl e0 hem x).2 (by rw [hes]; exact hf)
  obtain ⟨i, la, hi, hla, hil, hix⟩ := delP_lt e0.h ws x ho hxh
  have hlaw := ho.len_le
  rw [c.len] at hlaw
  have hlam : la < m := by omega
  have hxm : x < m := by rw [← c.len, ← hix]; exact ho.lt i (by omega)
  have hm20 : m ≤ 1048576 := by rw [← c.len]; exact c.small
  have hth : thereB (e0 :: l2) s = true := by simp [thereB, hes]
  obtain ⟨gb, lc, lcur, rfl, _, hlc1, hlc2, hlcell⟩ := ownsRow_some c.ls.row (by omega)
  have c4 := heap_cell c.blk 4
  have c0 := heap_cell c.blk 0
  simp at c4 c0
  have cg := hlcell (Nat.log2 s) (by omega)
  rw [List.getElem?_map, hat] at cg
  simp only [Option.map_some] at cg
  have hmrow := c.ls.mrow _ _ hat
  dsimp only at hmrow
  obtain ⟨n, hnl⟩ : ∃ n, (l1 ++ e0 :: l2).length = n := ⟨_, rfl⟩
  have hn0 : 0 < n := by rw [← hnl]; simp; omega
  rw [hnl] at hmrow hll
  obtain ⟨mb, mcap, mcur, rfl, _, hmn, hmc2, hmcell⟩ := ownsRow_some hmrow hn0
  obtain ⟨k1, hk1⟩ : ∃ k1, l1.length = k1 := ⟨_, rfl⟩
  have hk1n : k1 < n := by rw [← hnl, ← hk1]; simp
  have cv := hmcell (k1 * 2 + 1) (by omega)
  rw [(flatE_at _ k1 e0 (by rw [← hk1]; simp)).2] at cv
  have hhrow := c.ls.hrow _ _ hat e0 hem
  rw [hla] at hhrow
  obtain ⟨hb, hcap, hcur, hev, _, hhc, hhc2, hhcell⟩ := ownsRow_some hhrow (by omega)
  rw [hev] at cv hhrow
  have cm := hhcell la (by omega)
  rw [ints_at (by omega)] at cm
  have cw := c.wrow.cellAt x (by omega)
  rw [u64s_at (by rw [c.len]; exact hxm)] at cw
  obtain ⟨y, hy⟩ : ∃ y, ws.getD x 0 = y := ⟨_, rfl⟩
  have hy64 := c.w64 x
  rw [hy] at cw hi hy64
  obtain ⟨mo, hmo⟩ : ∃ mo, e0.h.getD la 0 = mo := ⟨_, rfl⟩
  have hmom : mo < m := by rw [← c.len, ← hmo]; exact ho.lt la (by omega)
  rw [hmo] at cm
  have hand : bits .and .u64 (y : Int) 4294967295 = (i : Int) := by rw [and_low y hy64, hi]
  unfold maxLen at hmc2 hlc2 hhc2
  have hpr : mb ≠ hb := fun e => rows_ne hmrow hhrow (by decide) (b := mb) rfl (by rw [e]; rfl)
  have hpm : p ≠ mb := fun e => by obtain ⟨cc, hcc⟩ := row_block hmrow (b := mb) rfl; rw [← e, c.blk] at hcc; simp at hcc
  have hph : p ≠ hb := fun e => by obtain ⟨cc, hcc⟩ := row_block hhrow (b := hb) rfl; rw [← e, c.blk] at hcc; simp at hcc
  have hwm : wb ≠ mb := fun e => rows_ne c.wrow hmrow (by decide) (b := wb) rfl (by rw [e]; rfl)
  have hwh : wb ≠ hb := fun e => rows_ne c.wrow hhrow (by decide) (b := wb) rfl (by rw [e]; rfl)
  have hpw : p ≠ wb := fun e => by obtain ⟨cc, hcc⟩ := row_block c.wrow (b := wb) rfl; rw [← e, c.blk] at hcc; simp at hcc
  have hgm : gb ≠ mb := fun e => rows_ne c.ls.row hmrow (by decide) (b := gb) rfl (by rw [e]; rfl)
  have hgh : gb ≠ hb := fun e => rows_ne c.ls.row hhrow (by decide) (b := gb) rfl (by rw [e]; rfl)
  have hgw : gb ≠ wb := fun e => rows_ne c.ls.row c.wrow (by decide) (b := gb) rfl (by rw [e]; rfl)
  have C := hid c; have OK := hid ok; have HAT := hid hat; have HATL := hid hatl; have P1 := hid p1; have P2 := hid p2; have HHI := hid hhigh
  have C4 := hid c4; have C0 := hid c0; have CG := hid cg; have HMR := hid hmrow; have HHR := hid hhrow; have HLL := hid hll; have HNL := hid hnl; have HK1 := hid hk1
  have CV := hid cv; have CM := hid cm; have CW := hid cw; have HI := hid hi; have HLA := hid hla; have HIX := hid hix; have HO := hid ho; have HXH := hid hxh; have HEV := hid hev; have HMO := hid hmo; have HY := hid hy; have HES := hid hes; have HEM := hid hem
  clear c ok hat hatl hsorted p1 p2 hhigh hlcell c4 c0 cg hmrow hhrow hmcell hhcell cv cm cw hi hla hix ho hxh hev hmo hnl hk1 he0 hin2 hlaw hy hes hem
  go_enter Tryz.func88, Tryz.ntmps88
  go_wp2_with fail
  refine (place_at w p s m gb L.length lc l1 (e0 :: l2) _ C4.out hk hL (by rw [CG.out]) (by rw [HNL.out]; exact HMR.out) P1.out P2.out hs0 (by omega) (by rw [HNL.out]; exact hll)).mono ?_
  rw [hth]
  rw [HK1.out]
  rintro e w1 ⟨rfl, hb1⟩
  have HB1 := hid hb1
  have d0 := below_cell hb1 C0.out; have d4 := below_cell hb1 C4.out; have dv := below_cell hb1 CV.out; have dm := below_cell hb1 CM.out; have dw := below_cell hb1 CW.out
  have RM1 := ownsRow_upd (S := fun _ => False) HMR.out (Upd.of_below hb1) (fun _ _ h => h)
  have dvf := RM1.frozenAt (k1 * 2 + 1)
  have HRM1 := hid RM1
  clear hb1 RM1 hth
  go_wp2
  go_quiet (fail)
  obtain ⟨W1, hW1⟩ : ∃ W1, W1 = w1.drewN nq := ⟨_, rfl⟩
  have HX : w1.cell? ⟨hb, i, none⟩ = some (.int .i64 x) := by
    have h1 := HHR.out.cellAt i (by omega)
    rw [ints_at (by rw [HLA.out]; omega), HIX.out] at h1
    exact below_cell HB1.out h1
  have HXf : w1.frozen? ⟨hb, i, none⟩ = false := (ownsRow_upd (S := fun _ => False) HHR.out (Upd.of_below HB1.out) (fun _ _ h => h)).frozenAt i
  by_cases hla0 : la = 0
  · subst hla0
    obtain rfl : i = 0 := by omega
    have U2 : Upd (fun b => b = mb) w ((w1.drewN nq).setCell ⟨mb, k1 * 2 + 1, none⟩ (.slice (some ⟨hb, 0, none⟩) 0 hcap)) := ((show Upd (fun b => b = mb) w (w1.drewN nq) from (Upd.of_below HB1.out).drewN nq)).trans' (upd_set _ mb _ _)
    have RM2 : ∀ h', ((w1.drewN nq).setCell ⟨mb, k1 * 2 + 1, none⟩ (.slice (some ⟨hb, 0, none⟩) 0 hcap)).ownsRow 0 187 2 (.slice (some ⟨mb, 0, none⟩) n mcap) n (flatE (l1 ++ [⟨e0.s, .slice (some ⟨hb, 0, none⟩) 0 hcap, h'⟩] ++ l2)) := fun h' => by
      have h1 : (w1.drewN nq).ownsRow 0 187 2 (.slice (some ⟨mb, 0, none⟩) n mcap) n (flatE (l1 ++ [e0] ++ l2)) := by have := HRM1.out; rw [show l1 ++ e0 :: l2 = l1 ++ [e0] ++ l2 by simp] at this; exact this
      have h2 := (h1.stored (k1 * 2 + 1) (.slice (some ⟨hb, 0, none⟩) 0 hcap)).1
      rw [← HK1.out, flatE_set l1 l2 e0 _ h', HK1.out] at h2
      exact h2
    have RH2 : ((w1.drewN nq).setCell ⟨mb, k1 * 2 + 1, none⟩ (.slice (some ⟨hb, 0, none⟩) 0 hcap)).ownsRow 0 3 1 (.slice (some ⟨hb, 0, none⟩) 0 hcap) 0 (ints (e0.h.take 0)) := by
      have h1 := ownsRow_upd HHR.out U2 (fun b hb' e => hpr (by simp [Value.ownBlock] at hb'; rw [hb', e]))
      have h2 := ownsRow_take h1 0 (by omega)
      have h3 : (ints e0.h).take (0 * 1) = ints (e0.h.take 0) := by rw [Nat.mul_one]; simp [ints]
      rw [h3] at h2
      exact h2
    have WR2 := ownsRow_upd C.out.wrow U2 (fun b hb' e => hwm (by simp [Value.ownBlock] at hb'; rw [hb', e]))
    have RL2 := ownsRow_upd C.out.ls.row U2 (fun b hb' e => hgm (by simp [Value.ownBlock] at hb'; rw [hb', e]))
    have hrl : (L.map (·.1)).set (Nat.log2 s) (.slice (some ⟨mb, 0, none⟩) n mcap) = L.map (·.1) := by
      apply List.ext_getElem?
      intro j
      rw [List.getElem?_set]
      split
      · rename_i e; subst e
        rw [List.getElem?_map, HAT.out, if_pos (by simpa using hk)]; rfl
      · rfl
    have HU2 := hid U2; have HRM2 := hid RM2; have HRH2 := hid RH2; have HWR2 := hid WR2; have HRL2 := hid RL2; have HRL := hid hrl
    clear U2 RM2 RH2 WR2 RL2 hrl
    go_wp2
    have dd4 : ((w1.drewN nq).setCell ⟨mb, k1 * 2 + 1, none⟩ (.slice (some ⟨hb, 0, none⟩) 0 hcap)).cell? ⟨p, 4, none⟩ = some (.slice (some ⟨gb, 0, none⟩) L.length lc) := HU2.out.cell_some C4.out hpm
    have ee4 := ExtU.cells (R := fun b => b = mb) dd4 hpm
    refine wp_region_midX (fun x : ExtU (fun b => b = mb) ((w1.drewN nq).setCell ⟨mb, k1 * 2 + 1, none⟩ (.slice (some ⟨hb, 0, none⟩) 0 hcap)) => x.val) 11 [0, 1, 2, 3, 4, 6, 7, 8, 9] [5, 10] (by kernel_rfl) (by kernel_rfl) (by kernel_rfl) (by kernel_rfl) (by rintro c a (_ | d) v w h <;> exact h) ⟨⟨_, (Upd.refl _ _).drew⟩, rfl⟩ ?_
    simp only [pickO, List.getD_cons_succ, List.getD_cons_zero, List.drop_succ_cons, List.drop_zero]
    repeat (go_big_quiet_step (fail))
    refine wpQuiet_nil ?_
    unfold wpMids
    go_wp2_with fail
    refine (list_below s _ hs0 (by omega)).mono ?_
    rintro e y1 ⟨rfl, hby0⟩
    have hby1 : Below ((w1.drewN nq).setCell ⟨mb, k1 * 2 + 1, none⟩ (.slice (some ⟨hb, 0, none⟩) 0 hcap)).heap.size ((w1.drewN nq).setCell ⟨mb, k1 * 2 + 1, none⟩ (.slice (some ⟨hb, 0, none⟩) 0 hcap)) y1 := ((Below.refl _ _).drew).trans hby0
    have V1 : Upd (fun b => b = mb) ((w1.drewN nq).setCell ⟨mb, k1 * 2 + 1, none⟩ (.slice (some ⟨hb, 0, none⟩) 0 hcap)) y1 := Upd.of_below hby1
    have RMy := ownsRow_upd (S := fun _ => False) (HRM2.out []) (Upd.of_below hby1) (fun _ _ h => h)
    have HRMy := hid RMy; have HV1 := hid V1
    clear hby0 hby1 RMy V1
    go_wp2
    refine ⟨⟨⟨_, HV1.out⟩, rfl⟩, ?_⟩
    unfold wpMids
    go_wp2_with fail
    refine (delete_at y1 mb n mcap k1 _ HRMy.out ?_ hk1n hll).mono ?_
    · refine one_flatE _ (fun e he => ?_)
      rcases List.mem_append.1 he with h | h
      · rcases List.mem_append.1 h with h | h
        · exact one_of_row (C.out.ls.hrow _ _ HAT.out e (by simp [h]))
        · rw [List.mem_singleton.1 h]; rfl
      · exact one_of_row (C.out.ls.hrow _ _ HAT.out e (by simp [h]))
    rintro e y2 ⟨v', rfl, r2, u2, m2⟩
    have hxs : (flatE (l1 ++ [(⟨e0.s, .slice (some ⟨hb, 0, none⟩) 0 hcap, []⟩ : Ent Value)] ++ l2)).take (k1 * 2) ++ (flatE (l1 ++ [(⟨e0.s, .slice (some ⟨hb, 0, none⟩) 0 hcap, []⟩ : Ent Value)] ++ l2)).drop ((k1 + 1) * 2) = flatE (l1 ++ [] ++ l2) := by
      have hf1 : (flatE l1).length = k1 * 2 := by rw [flatE_len, HK1.out]; omega
      have hf2 : (flatE (l1 ++ [(⟨e0.s, .slice (some ⟨hb, 0, none⟩) 0 hcap, []⟩ : Ent Value)])).length = (k1 + 1) * 2 := by rw [flatE_len, List.length_append, HK1.out]; simp; omega
      rw [List.append_nil]
      conv => lhs; rhs; rw [flatE_append, ← hf2, List.drop_left]
      rw [flatE_append, flatE_append, List.append_assoc, ← hf1, List.take_left, flatE_append]
    rw [hxs] at r2
    obtain ⟨vao, vcap, rfl, _⟩ := ownsRow_form r2
    have V2 : Upd (fun b => b = mb) ((w1.drewN nq).setCell ⟨mb, k1 * 2 + 1, none⟩ (.slice (some ⟨hb, 0, none⟩) 0 hcap)) y2 := HV1.out.trans' (u2.mono (fun b _ h => by simp [Value.ownBlock] at h; exact h.symm))
    have RLy := ownsRow_upd HRL2.out V2 (fun b hb' e => hgm (by simp [Value.ownBlock] at hb'; rw [hb', e]))
    have WRy := ownsRow_upd HWR2.out V2 (fun b hb' e => hwm (by simp [Value.ownBlock] at hb'; rw [hb', e]))
    have hgc := RLy.cellAt (Nat.log2 s) (by omega)
    rw [List.getElem?_map, HAT.out] at hgc
    simp only [Option.map_some] at hgc
    have hgf := RLy.frozenAt (Nat.log2 s)
    have HR2 := hid r2; have HV2 := hid V2; have HM2 := hid m2; have HRLy := hid RLy; have HWRy := hid WRy
    clear r2 u2 m2 V2 RLy WRy hxs
    go_wp2
    refine ⟨⟨⟨_, HV2.out⟩, rfl⟩, ?_⟩
    unfold wpMids
    go_wp2
    refine bodyPost_ret (v := .tuple #[]) (results_none rfl _ _ _) rfl ?_
    have U25 : Upd (fun b => b = gb) y2 (y2.setCell ⟨gb, Nat.log2 s, none⟩ (.slice vao (n - 1) vcap)) := upd_set _ _ _ _
    have hd : delP (ws.getD x 0 % 4294967296) e0.h ws = ([], ws) := by
      rw [HY.out, HI.out, delP, if_neg (by rw [HLA.out]; omega), HLA.out]; rfl
    have hmb2 : (Value.slice vao (n - 1) vcap).ownBlock = (Value.slice (some ⟨mb, 0, none⟩) n mcap).ownBlock ∨ ∀ b, (Value.slice vao (n - 1) vcap).ownBlock = some b → w.heap.size ≤ b := by
      rcases HM2.out with h | h
      · exact .inl h
      · exact .inr (fun b hb' => Nat.le_trans (Nat.le_trans HU2.out.size HV1.out.size) (h b hb'))
    refine del_done C.out OK.out (mv := .slice (some ⟨mb, 0, none⟩) n mcap) (by rw [HAT.out]; simp) P1.out HHI.out HES.out HXH.out hf (new := []) (h' := []) (ws' := ws) (mv' := .slice vao (n - 1) vcap) hd (.inl ⟨rfl, rfl⟩) ?_ ?_ hmb2 ?_ ?_
    · exact ((HU2.out.trans' HV2.out).mono (fun b _ h => .inr (.inl (by rw [h]; rfl)))).trans' (U25.mono (fun b _ h => .inr (.inr (.inr (by rw [h]; rfl)))))
    · rw [show (l1 ++ ([] : List (Ent Value)) ++ l2).length = n - 1 by rw [← HNL.out]; simp]
      refine ownsRow_upd HR2.out U25 (fun b hb' e => rows_ne HR2.out HRLy.out (by decide) hb' (by rw [e]; rfl))
    · exact (HRLy.out.stored (Nat.log2 s) (.slice vao (n - 1) vcap)).1
    · exact ownsRow_upd HWRy.out U25 (fun b hb' e => hgw (by simp [Value.ownBlock] at hb'; rw [← e, hb']))
  · have hla1 : ¬ (la : Int) = 0 := by omega
    have U2 : Upd (fun b => b = mb) w ((w1.drewN nq).setCell ⟨mb, k1 * 2 + 1, none⟩ (.slice (some ⟨hb, 0, none⟩) la hcap)) := ((show Upd (fun b => b = mb) w (w1.drewN nq) from (Upd.of_below HB1.out).drewN nq)).trans' (upd_set _ mb _ _)
    have RM2 : ∀ h', ((w1.drewN nq).setCell ⟨mb, k1 * 2 + 1, none⟩ (.slice (some ⟨hb, 0, none⟩) la hcap)).ownsRow 0 187 2 (.slice (some ⟨mb, 0, none⟩) n mcap) n (flatE (l1 ++ [⟨e0.s, .slice (some ⟨hb, 0, none⟩) la hcap, h'⟩] ++ l2)) := fun h' => by
      have h1 : (w1.drewN nq).ownsRow 0 187 2 (.slice (some ⟨mb, 0, none⟩) n mcap) n (flatE (l1 ++ [e0] ++ l2)) := by have := HRM1.out; rw [show l1 ++ e0 :: l2 = l1 ++ [e0] ++ l2 by simp] at this; exact this
      have h2 := (h1.stored (k1 * 2 + 1) (.slice (some ⟨hb, 0, none⟩) la hcap)).1
      rw [← HK1.out, flatE_set l1 l2 e0 _ h', HK1.out] at h2
      exact h2
    have RH2 : ((w1.drewN nq).setCell ⟨mb, k1 * 2 + 1, none⟩ (.slice (some ⟨hb, 0, none⟩) la hcap)).ownsRow 0 3 1 (.slice (some ⟨hb, 0, none⟩) la hcap) la (ints (e0.h.take la)) := by
      have h1 := ownsRow_upd HHR.out U2 (fun b hb' e => hpr (by simp [Value.ownBlock] at hb'; rw [hb', e]))
      have h2 := ownsRow_take h1 la (by omega)
      have h3 : (ints e0.h).take (la * 1) = ints (e0.h.take la) := by rw [Nat.mul_one]; simp [ints]
      rw [h3] at h2
      exact h2
    have WR2 := ownsRow_upd C.out.wrow U2 (fun b hb' e => hwm (by simp [Value.ownBlock] at hb'; rw [hb', e]))
    have RL2 := ownsRow_upd C.out.ls.row U2 (fun b hb' e => hgm (by simp [Value.ownBlock] at hb'; rw [hb', e]))
    have hrl : (L.map (·.1)).set (Nat.log2 s) (.slice (some ⟨mb, 0, none⟩) n mcap) = L.map (·.1) := by
      apply List.ext_getElem?
      intro j
      rw [List.getElem?_set]
      split
      · rename_i e; subst e
        rw [List.getElem?_map, HAT.out, if_pos (by simpa using hk)]; rfl
      · rfl
    have HU2 := hid U2; have HRM2 := hid RM2; have HRH2 := hid RH2; have HWR2 := hid WR2; have HRL2 := hid RL2; have HRL := hid hrl
    clear U2 RM2 RH2 WR2 RL2 hrl
    by_cases hil2 : i < la
    · have hil3 : (i : Int) < la := by omega
      go_wp2_with fail
      have hh3 : ((e0.h.take la).set i mo).length = la := by rw [List.length_set, List.length_take, HLA.out]; omega
      have gh3 : ∀ j, j < la → ((e0.h.take la).set i mo).getD j 0 = if j = i then mo else e0.h.getD j 0 := fun j hj => by
        rw [getD_set _ _ _ _ (by rw [List.length_take, HLA.out]; omega)]
        split
        · rfl
        · simp only [List.getD_eq_getElem?_getD, List.getElem?_take, if_pos hj]
      have hall : ∀ j, j < la → ((e0.h.take la).set i mo).getD j 0 < m := fun j hj => by
        rw [gh3 j hj]
        split
        · exact hmom
        · rw [← C.out.len]; exact HO.out.lt j (by rw [HLA.out]; omega)
      have hgi : ((e0.h.take la).set i mo).getD i 0 = mo := by rw [gh3 i hil2, if_pos rfl]
      have HV3 : HV (((w1.drewN nq).setCell ⟨mb, k1 * 2 + 1, none⟩ (.slice (some ⟨hb, 0, none⟩) la hcap)).setCell ⟨hb, i, none⟩ (.int .i64 mo)) p wb hb m mc la hcap ((e0.h.take la).set i mo) ws := by
        have U3 : Upd (fun b => b = hb) ((w1.drewN nq).setCell ⟨mb, k1 * 2 + 1, none⟩ (.slice (some ⟨hb, 0, none⟩) la hcap)) (((w1.drewN nq).setCell ⟨mb, k1 * 2 + 1, none⟩ (.slice (some ⟨hb, 0, none⟩) la hcap)).setCell ⟨hb, i, none⟩ (.int .i64 mo)) := upd_set _ _ _ _
        have P2 := HU2.out.heap_some C.out.blk hpm
        have P3 := U3.heap_some P2 hph
        refine ⟨heap_cell P3 0, ownsRow_upd HWR2.out U3 (fun b hb' e => hwh (by simp [Value.ownBlock] at hb'; rw [hb', e])), ?_, hpw, hph, hwh, C.out.small, C.out.w64⟩
        have h1 := (HRH2.out.stored i (.int .i64 mo)).1
        rw [← ints_set] at h1
        exact h1
      have HHV3 := hid HV3; have HALL := hid hall; have HGI := hid hgi; have HH3 := hid hh3
      clear HV3 hall hgi hh3 gh3
      refine (fall_at _ p wb hb m mc la hcap _ ws HHV3.out i hil2 (by omega) HALL.out).mono ?_
      rw [HGI.out]
      obtain ⟨R, hR⟩ : ∃ R, fallP mo i ((e0.h.take la).set i mo) ws = R := ⟨_, rfl⟩
      rw [hR]
      have hfa := fallP_all (fun z => z < m) mo hmom _ i ((e0.h.take la).set i mo) ws (Nat.le_refl _) (by rw [HH3.out]; exact hil2) (fun j hj => HALL.out j (by rw [HH3.out] at hj; exact hj))
      rw [hR, HH3.out] at hfa
      have HFA := hid hfa; have HR := hid hR
      clear hfa hR
      rintro e w4 ⟨rfl, hv4, hu4⟩
      have HV4 := hid hv4; have HU4 := hid hu4
      have U24 : Upd (fun b => b = hb ∨ b = wb) ((w1.drewN nq).setCell ⟨mb, k1 * 2 + 1, none⟩ (.slice (some ⟨hb, 0, none⟩) la hcap)) w4 := ((upd_set _ hb i _).mono (fun b _ h => .inl h)).trans' hu4
      have RM4 := ownsRow_upd (HRM2.out (delP i e0.h ws).1) U24 (fun b hb' e => by
        simp [Value.ownBlock] at hb'
        rcases e with h | h
        · exact hpr (by rw [hb', h])
        · exact hwm (by rw [hb', h]))
      have cv4 := RM4.cellAt (k1 * 2 + 1) (by omega)
      rw [(flatE_at _ k1 ⟨e0.s, .slice (some ⟨hb, 0, none⟩) la hcap, (delP i e0.h ws).1⟩ (by rw [← HK1.out]; simp)).2] at cv4
      dsimp only at cv4
      have HRM4 := hid RM4; have HU24 := hid U24
      clear hv4 hu4 U24 RM4
      go_wp2_with fail
      refine (rise_at w4 p wb hb m mc la hcap R.1 R.2 HV4.out i hil2 (by omega) HFA.out.2).mono ?_
      rintro e w5 ⟨rfl, hv5, hu5⟩
      have HV5 := hid hv5; have HU5 := hid hu5
      clear hv5 hu5
      go_wp2
      refine bodyPost_end (v := .tuple #[]) (results_none rfl _ _ _) rfl ?_
      have hd : riseP (R.1.getD i 0) i R.1 R.2 = delP i e0.h ws := by
        rw [delP, if_pos (by rw [HLA.out]; omega), HLA.out]
        simp only [Nat.add_sub_cancel]
        rw [HMO.out, HR.out]
      have hv := HV5.out
      rw [hd] at hv
      obtain ⟨D1, D2, hD⟩ : ∃ D1 D2, delP i e0.h ws = (D1, D2) := ⟨_, _, rfl⟩
      have hrm4 := HRM4.out
      rw [hD] at hv hrm4
      dsimp only at hv hrm4
      have hu5 : Upd (fun b => b = hb ∨ b = wb) w4 w5 := HU5.out
      have hD1 : D1.length = la := hv.m_eq.2
      have u05 := HU24.out.trans' hu5
      refine del_done C.out OK.out (mv := .slice (some ⟨mb, 0, none⟩) n mcap) (by rw [HAT.out]; simp) P1.out HHI.out HES.out HXH.out hf (h' := D1) (ws' := D2) (by rw [HY.out, HI.out]; exact hD) (.inr ⟨.slice (some ⟨hb, 0, none⟩) la hcap, rfl, fun h => by rw [h] at hD1; simp at hD1; omega, by rw [hD1]; exact hv.hrow, by rw [HEV.out]; rfl⟩) ?_ ?_ (.inl rfl) ?_ hv.wrow
      · exact (HU2.out.mono (fun b _ h => .inr (.inl (by rw [h]; rfl)))).trans' (u05.mono (fun b _ h => h.elim (fun h => .inr (.inr (.inl (by rw [HEV.out, h]; rfl)))) (fun h => .inl h)))
      · rw [show (l1 ++ [(⟨s, .slice (some ⟨hb, 0, none⟩) la hcap, D1⟩ : Ent Value)] ++ l2).length = n by rw [← HNL.out]; simp]
        rw [HES.out] at hrm4
        refine ownsRow_upd hrm4 hu5 (fun b hb' e => ?_)
        simp [Value.ownBlock] at hb'
        rcases e with h | h
        · exact hpr (by rw [hb', h])
        · exact hwm (by rw [hb', h])
      · rw [HRL.out]
        refine ownsRow_upd HRL2.out u05 (fun b hb' e => ?_)
        simp [Value.ownBlock] at hb'
        rcases e with h | h
        · exact hgh (by rw [hb', h])
        · exact hgw (by rw [hb', h])
    · have hil3 : ¬ (i : Int) < la := by omega
      go_wp2
      refine bodyPost_end (v := .tuple #[]) (results_none rfl _ _ _) rfl ?_
      have hd : delP (ws.getD x 0 % 4294967296) e0.h ws = (e0.h.take la, ws) := by
        rw [HY.out, HI.out, delP, if_neg (by rw [HLA.out]; omega), HLA.out]; rfl
      have hne : e0.h.take la ≠ [] := fun h => by have := congrArg List.length h; rw [List.length_take, HLA.out] at this; simp at this; omega
      have htl : (e0.h.take la).length = la := by rw [List.length_take, HLA.out]; omega
      refine del_done C.out OK.out (mv := .slice (some ⟨mb, 0, none⟩) n mcap) (by rw [HAT.out]; simp) P1.out HHI.out HES.out HXH.out hf hd (.inr ⟨.slice (some ⟨hb, 0, none⟩) la hcap, rfl, hne, by rw [htl]; exact HRH2.out, by rw [HEV.out]; rfl⟩) (HU2.out.mono (fun b _ h => .inr (.inl (by rw [h]; rfl)))) ?_ (.inl rfl) (by rw [HRL.out]; exact HRL2.out) HWR2.out
      have h1 := HRM2.out (e0.h.take la)
      rw [HES.out] at h1
      rw [show (l1 ++ [(⟨s, .slice (some ⟨hb, 0, none⟩) la hcap, e0.h.take la⟩ : Ent Value)] ++ l2).length = n by rw [← HNL.out]; simp]
      exact h1
end
section
open Go.RowKit
section
variable {SL : Nat → Prop} {w : World} {p wb m mc : Nat} {tv kv uv lv : Value} {ws : List Nat} {L : List (Value × List (Ent Value))} {T K : Nat → Nat}
theorem Core.pwb (c : Core SL w p wb m mc tv kv uv lv ws L T K) : p ≠ wb := fun e => by
  obtain ⟨cc, hcc⟩ := row_block c.wrow (b := wb) rfl; rw [← e, c.blk] at hcc; simp at hcc
theorem Core.words (c : Core SL w p wb m mc tv kv uv lv ws L T K) {w' : World} (u : Upd (fun b => b = wb) w w') {ws' : List Nat} (hr : w'.ownsRow 0 56 1 (.slice (some ⟨wb, 0, none⟩) m mc) m (u64s ws')) (hl : ws'.length = ws.length) (h64 : ∀ k, ws'.getD k 0 < 18446744073709551616) : Core SL w' p wb m mc tv kv uv lv ws' L T K := by
  refine ⟨u.heap_some c.blk c.pwb, hr, ⟨ownsRow_upd c.ls.row u (fun b hb e => ?_), c.ls.own, fun k pr hk => ownsRow_upd (c.ls.mrow k pr hk) u (fun b hb e => ?_), c.ls.mown, fun k pr hk e he => ownsRow_upd (c.ls.hrow k pr hk e he) u (fun b hb e' => ?_), c.ls.hown⟩, fun b hb => Nat.lt_of_lt_of_le (c.bound b hb) u.size, c.np, c.nwb, by rw [hl]; exact c.small, h64⟩
  · exact rows_ne c.ls.row c.wrow (by decide) hb (by rw [e]; rfl)
  · exact rows_ne (c.ls.mrow k pr hk) c.wrow (by decide) hb (by rw [e]; rfl)
  · exact rows_ne (c.ls.hrow k pr hk e he) c.wrow (by decide) hb (by rw [e']; rfl)
theorem Core.set (c : Core SL w p wb m mc tv kv uv lv ws L T K) (i v : Nat) (hv : v < 18446744073709551616) : Core SL (w.setCell ⟨wb, i, none⟩ (.int .u64 (v : Int))) p wb m mc tv kv uv lv (ws.set i v) L T K := by
  refine c.words (upd_set _ _ _ _) (by rw [u64s_set]; exact (c.wrow.stored i _).1) (by simp) (fun k => ?_)
  by_cases hi : i < ws.length
  · rw [getD_set _ _ _ _ hi]
    split
    · exact hv
    · exact c.w64 k
  · rw [List.set_eq_of_length_le (by omega)]; exact c.w64 k
theorem Core.below (c : Core SL w p wb m mc tv kv uv lv ws L T K) {w' : World} (hb : Below w.heap.size w w') : Core SL w' p wb m mc tv kv uv lv ws L T K :=
  c.words (Upd.of_below hb) (ownsRow_upd (S := fun _ => False) c.wrow (Upd.of_below hb) (fun _ _ h => h)) rfl c.w64
theorem Core.word (c : Core SL w p wb m mc tv kv uv lv ws L T K) (i : Nat) (hi : i < m) : w.cell? ⟨wb, i, none⟩ = some (.int .u64 (ws.getD i 0 : Nat)) := by
  rw [c.wrow.cellAt i (by omega), u64s_at (by rw [c.len]; exact hi)]
end
def tellP (ws : List Nat) (e : Nat) (b : Bool) : List Nat := ws.set e (ws.getD e 0 / 2 * 2 + (if b then 1 else 0))
def WPost (SL : Nat → Prop) (w : World) (p wb m mc : Nat) (tv kv uv lv : Value) (ws : List Nat) (L : List (Value × List (Ent Value))) (T K : Nat → Nat) (e : Ending) (w' : World) : Prop :=
  e = .returned (.tuple #[]) ∧ Core SL w' p wb m mc tv kv uv lv ws L T K ∧ Upd (fun b => b = wb) w w'
set_option maxHeartbeats 1000000 in
theorem behind_at {SL : Nat → Prop} {w : World} {p wb m mc : Nat} {tv kv uv lv : Value} {ws : List Nat} {L : List (Value × List (Ent Value))} {T K : Nat → Nat} (c : Core SL w p wb m mc tv kv uv lv ws L T K) (q : Nat) (b : Bool) :
    Calls Tryz.prog 84 #[.pointer (some ⟨p, 0, none⟩), .int .i64 q, .bool b] w (WPost SL w p wb m mc tv kv uv lv (tellP ws q b) L T K) := by
  have c0 := heap_cell c.blk 0
  simp at c0
  have hlen := c.len
  have hsm := c.small
  have C := hid c
  by_cases hq : q < m
  · have hq2 : ¬ (m : Int) ≤ q := by omega
    have cw := c.word q hq
    have cf := c.wrow.frozenAt q
    have hy64 := c.w64 q
    obtain ⟨y, hy⟩ : ∃ y, ws.getD q 0 = y := ⟨_, rfl⟩
    rw [hy] at cw hy64
    have h1 : bits .andNot .u64 (y : Int) 1 = (y : Int) / 2 * 2 := by rw [andNot_one y hy64]; omega
    have h2 : bits .or .u64 ((y : Int) / 2 * 2) 1 = (y : Int) / 2 * 2 + 1 := by
      have := or_one y hy64
      rw [show ((y / 2 * 2 : Nat) : Int) = (y : Int) / 2 * 2 by omega] at this
      rw [this]; omega
    have hpw := c.pwb
    have hpw2 : wb ≠ p := fun e => hpw e.symm
    have HY := hid hy
    clear c hy hlen
    cases b
    · go_enter Tryz.func84, Tryz.ntmps84
      go_wp2
      refine bodyPost_end (v := .tuple #[]) (results_none rfl _ _ _) rfl ⟨rfl, ?_, upd_set _ _ _ _⟩
      have := C.out.set q (y / 2 * 2) (by omega)
      rw [show ((y / 2 * 2 : Nat) : Int) = (y : Int) / 2 * 2 by omega] at this
      simp only [tellP, HY.out]
      exact this
    · go_enter Tryz.func84, Tryz.ntmps84
      go_wp2
      refine bodyPost_end (v := .tuple #[]) (results_none rfl _ _ _) rfl ⟨rfl, ?_, (upd_set _ _ _ _).trans' (upd_set _ _ _ _)⟩
      have := (C.out.set q (y / 2 * 2) (by omega)).set q (y / 2 * 2 + 1) (by omega)
      rw [show ((y / 2 * 2 : Nat) : Int) = (y : Int) / 2 * 2 by omega, show ((y / 2 * 2 + 1 : Nat) : Int) = (y : Int) / 2 * 2 + 1 by omega, List.set_set] at this
      simp only [tellP, HY.out]
      exact this
  · have hq2 : (m : Int) ≤ q := by omega
    have ht : tellP ws q b = ws := by unfold tellP; rw [List.set_eq_of_length_le (by omega)]
    rw [ht]
    clear c hlen ht
    go_enter Tryz.func84, Tryz.ntmps84
    go_wp2
    refine bodyPost_ret (v := .tuple #[]) (results_none rfl _ _ _) rfl ⟨rfl, C.out, Upd.refl _ _⟩
def relP (ws : List Nat) (x s : Nat) : List Nat := tellP ((ws.set (x - 1) (2 * s)).set (x + s - 1) (s * 4294967296 + ws.getD (x + s - 1) 0 % 4294967296)) (x + s) true
theorem ListsOk.same {V : Type} {L : List (List (Ent V))} {ws ws' : List Nat} {F : Nat → Nat → Prop} (k : ListsOk L ws F) (hl : ws'.length = ws.length) (h : ∀ y t, F y t → ws'.getD y 0 % 4294967296 = ws.getD y 0 % 4294967296) : ListsOk L ws' F :=
  ⟨k.sorted, k.pos, fun j l hj e he => ⟨fun i hi => by rw [hl]; exact (k.heap j l hj e he).lt i hi, fun i hi => by
    rw [h _ e.s ((k.mem j l hj e he _).1 (mem_getD.2 ⟨i, hi, rfl⟩))]; exact (k.heap j l hj e he).back i hi, (k.heap j l hj e he).ord⟩, k.mem, k.all, k.uniq⟩
theorem getD_set' (l : List Nat) (i j x : Nat) : (l.set i x).getD j 0 = if j = i ∧ i < l.length then x else l.getD j 0 := by
  by_cases hi : i < l.length
  · rw [getD_set _ _ _ _ hi]; simp [hi]
  · rw [List.set_eq_of_length_le (by omega), if_neg (fun h => hi h.2)]
set_option maxHeartbeats 2000000 in
set_option maxRecDepth 100000 in
theorem release_at {SL : Nat → Prop} {w : World} {p wb m mc : Nat} {tv kv uv lv : Value} {ws : List Nat} {L : List (Value × List (Ent Value))} {T K : Nat → Nat} {F : Nat → Nat → Prop} (c : Core SL w p wb m mc tv kv uv lv ws L T K) (ok : ListsOk (L.map (·.2)) ws F)
    (x s : Nat) (hx : 1 ≤ x) (hs0 : 0 < s) (hxs : x + s ≤ m) (hsm : s < 1048576) (hk : Nat.log2 s < L.length) (hL : L.length ≤ 64) (hxF : ∀ t, ¬ F x t) (hF1 : ∀ t, ¬ F (x - 1) t) (hF2 : ∀ t, ¬ F (x + s) t) (hF : ∀ x s, F x s → s < 1048576) :
    Calls Tryz.prog 46 #[.pointer (some ⟨p, 0, none⟩), .int .i64 x, .int .i64 s] w (CorePost SL w p wb m mc tv kv uv lv (relP ws x s) L (more F x s) (fun y => y = x ∨ F y s)) := by
  have c0 := heap_cell c.blk 0
  simp at c0
  have hlen := c.len
  have hsm2 := c.small
  have hpw := c.pwb
  have hpw2 : wb ≠ p := fun e => hpw e.symm
  have cf1 := c.wrow.frozenAt (x - 1)
  have cw1 := c.word (x - 1) (by omega)
  have C := hid c; have OK := hid ok
  have e1 : IntKind.i64.wrap ((x : Int) - 1) = ((x - 1 : Nat) : Int) := by rw [IntWalk.i64_in _ ⟨by omega, by omega⟩]; omega
  have e2 : IntKind.i64.wrap ((x : Int) + s - 1) = ((x + s - 1 : Nat) : Int) := by rw [IntWalk.i64_in _ ⟨by omega, by omega⟩]; omega
  have C1 := c.set (x - 1) (2 * s) (by omega)
  have hz64 := C1.w64 (x + s - 1)
  have cw2 := C1.word (x + s - 1) (by omega)
  have hgz : (ws.set (x - 1) (2 * s)).getD (x + s - 1) 0 = ws.getD (x + s - 1) 0 := by rw [getD_set' , if_neg (fun h => by omega)]
  rw [hgz] at hz64 cw2
  obtain ⟨z, hz⟩ : ∃ z, ws.getD (x + s - 1) 0 = z := ⟨_, rfl⟩
  rw [hz] at hz64 cw2
  have hand : bits .and .u64 (z : Int) 4294967295 = (z : Int) % 4294967296 := by rw [and_low z hz64]; omega
  have hor : bits .or .u64 ((s : Int) * 4294967296) ((z : Int) % 4294967296) = (s : Int) * 4294967296 + (z : Int) % 4294967296 := by
    have := or_tail s z (by omega)
    rw [wrap_u64_in (by omega) (by omega), show ((z % 4294967296 : Nat) : Int) = (z : Int) % 4294967296 by omega] at this
    rw [this]; omega
  have HZ := hid hz
  have hw1 : w.setCell ⟨wb, x - 1, none⟩ (.int .u64 ((2 * s : Nat) : Int)) = w.setCell ⟨wb, x - 1, none⟩ (.int .u64 ((s : Int) * 2)) := by rw [show ((2 * s : Nat) : Int) = (s : Int) * 2 by omega]
  rw [hw1] at C1 cw2
  have HC1 := hid C1
  have d0 := Ext.cells (w0 := w.setCell ⟨wb, x - 1, none⟩ (.int .u64 ((s : Int) * 2))) (heap_cell C1.blk 0)
  have d1 := Ext.cells (w0 := w.setCell ⟨wb, x - 1, none⟩ (.int .u64 ((s : Int) * 2))) cw2
  simp at d0
  clear c ok C1 hgz hz hw1 cw2
  go_enter Tryz.func46, Tryz.ntmps46
  go_wp2
  refine wp_region_calm_tail 18 (by kernel_rfl) (by kernel_rfl) ?_
  simp only [List.take_succ_cons, List.take_zero, List.drop_succ_cons, List.drop_zero]
  repeat (go_big_quiet_step (fail))
  refine wpQuiet_nil ?_
  intro w2 hb2
  have C2 := HC1.out.below hb2
  have f2 := C2.wrow.frozenAt (x + s - 1)
  have g2 := C2.word (x + s - 1) (by omega)
  have HC2 := hid C2; have HB2 := hid hb2
  clear C2 hb2 d0 d1
  go_wp2_with fail
  have C3 := HC2.out.set (x + s - 1) (s * 4294967296 + z % 4294967296) (by omega)
  rw [show ((s * 4294967296 + z % 4294967296 : Nat) : Int) = (s : Int) * 4294967296 + (z : Int) % 4294967296 by omega] at C3
  have HC3 := hid C3
  clear C3
  refine (behind_at HC3.out (x + s) true).mono ?_
  rintro e w3 ⟨rfl, hc3, hu3⟩
  have HR := hid (show Core SL w3 p wb m mc tv kv uv lv (relP ws x s) L T K by unfold relP; rw [HZ.out]; exact hc3)
  have U03 := hid (show Upd (fun b => b = wb) w w3 from ((((upd_set _ _ _ _).trans' (Upd.of_below HB2.out)).trans' (upd_set _ _ _ _)).trans' hu3))
  have hok : ListsOk (L.map (·.2)) (relP ws x s) F := by
    refine OK.out.same (by simp [relP, tellP]) (fun y t hy => ?_)
    have n1 : y ≠ x - 1 := fun h => hF1 t (h ▸ hy)
    have n2 : y ≠ x + s := fun h => hF2 t (h ▸ hy)
    unfold relP tellP
    rw [getD_set', if_neg (fun h => n2 h.1), getD_set']
    split
    · rename_i h
      rw [h.1]; omega
    · rw [getD_set', if_neg (fun h => n1 h.1)]
  have HOK := hid hok
  clear hc3 hu3 hok
  go_wp2_with fail
  refine (enlist_at HR.out HOK.out x s (by omega) hs0 hsm hk hL hxF hF).mono ?_
  rintro e w4 ⟨rfl, h4⟩
  have H4 := hid h4
  clear h4
  go_wp2
  refine bodyPost_end (v := .tuple #[]) (results_none rfl _ _ _) rfl ⟨rfl, ?_⟩
  obtain ⟨SL', ws', L', T', K', a1, a2, a3, a4, a5, a6⟩ := H4.out
  refine ⟨SL', ws', L', T', K', a1, a2, a3, a4, fun b hb => (a5 b hb).imp id (fun h => Nat.le_trans U03.out.size h), (U03.out.mono (fun b _ h => .inl h)).trans' a6⟩
end
section
open Go.RowKit
theorem size_at {SL : Nat → Prop} {w : World} {p wb m mc : Nat} {tv kv uv lv : Value} {ws : List Nat} {L : List (Value × List (Ent Value))} {T K : Nat → Nat} (c : Core SL w p wb m mc tv kv uv lv ws L T K) (x : Nat) (hx : 1 ≤ x) (hxm : x ≤ m) :
    Calls Tryz.prog 66 #[.pointer (some ⟨p, 0, none⟩), .int .i64 x] w fun e w' => e = .returned (.int .i64 ((ws.getD (x - 1) 0 / 2 : Nat) : Int)) ∧ w = w' := by
  have c0 := heap_cell c.blk 0
  simp at c0
  have hsm := c.small
  have hlen := c.len
  have cw := c.word (x - 1) (by omega)
  have h64 := c.w64 (x - 1)
  obtain ⟨y, hy⟩ : ∃ y, ws.getD (x - 1) 0 = y := ⟨_, rfl⟩
  rw [hy] at cw h64 ⊢
  have e1 : IntKind.i64.wrap ((x : Int) - 1) = ((x - 1 : Nat) : Int) := by rw [IntWalk.i64_in _ ⟨by omega, by omega⟩]; omega
  have e2 : ((y / 2 : Nat) : Int) = (y : Int) / 2 := by omega
  rw [e2]
  clear c hy hlen e2
  go_enter Tryz.func66, Tryz.ntmps66
  go_wp2
  go_ret
  exact ⟨rfl, rfl⟩
theorem find1_at (w : World) (lb sb mb n c i s y : Nat) (h1 : w.cell? ⟨lb, 0, none⟩ = some (.slice (some ⟨mb, 0, none⟩) n c)) (h2 : w.cell? ⟨sb, 0, none⟩ = some (.int .i64 s)) (h3 : w.cell? ⟨mb, i * 2, none⟩ = some (.int .i64 y)) (hi : i < n) (_ : n ≤ 1048576) :
    Calls Tryz.prog 124 (#[.int .i64 i] ++ #[.pointer (some ⟨lb, 0, none⟩), .pointer (some ⟨sb, 0, none⟩)]) w fun e w' => e = .returned (.bool (decide (s ≤ y))) ∧ Below w.heap.size w w' := by
  go_enter Tryz.func124, Tryz.ntmps124
  go_wp2
  go_quiet (fail)
  go_wp2
  go_ret
  exact ⟨by simp, below_drewN' (Below.refl _ _) _⟩
def firstP (l2 : List (Ent Value)) : Nat := match l2 with
  | [] => 0
  | e :: _ => e.h.getD 0 0
set_option maxHeartbeats 2000000 in
theorem pick_at (w : World) (nb s : Nat) (l1 l2 : List (Ent Value)) (mv : Value) (hnb : w.cell? ⟨nb, 0, none⟩ = some (.int .i64 s))
    (mrow : w.ownsRow 0 187 2 mv (l1 ++ l2).length (flatE (l1 ++ l2))) (hrow : ∀ e ∈ l2, w.ownsRow 0 3 1 e.v e.h.length (ints e.h)) (hne : ∀ e ∈ l2, e.h ≠ []) (p1 : ∀ e ∈ l1, e.s < s) (p2 : ∀ e ∈ l2, s ≤ e.s) (hl : (l1 ++ l2).length ≤ 1048576) :
    Calls Tryz.prog 122 #[mv, .pointer (some ⟨nb, 0, none⟩)] w fun e w' => e = .returned (.int .i64 (firstP l2)) ∧ Below w.heap.size w w' := by
  obtain ⟨mao, mcap, rfl, hmc, hmm, _⟩ := ownsRow_form mrow
  obtain ⟨n, hn⟩ : ∃ n, (l1 ++ l2).length = n := ⟨_, rfl⟩
  obtain ⟨k1, hk1⟩ : ∃ k1, l1.length = k1 := ⟨_, rfl⟩
  have hk1n : k1 ≤ n := by rw [← hn, ← hk1]; simp
  obtain ⟨fp, hfp⟩ : ∃ fp, firstP l2 = fp := ⟨_, rfl⟩
  rw [hfp]
  have HFP := hid hfp
  clear hfp
  rw [hn] at mrow hmc hl ⊢
  obtain ⟨W1, hW1⟩ : ∃ W1, W1 = w.alloc (.cells #[.slice mao n mcap] 182) := ⟨_, rfl⟩
  have hb1 : Below w.heap.size w W1 := by rw [hW1]; exact (Below.refl _ _).alloc (Nat.le_refl _) _
  have b0 := heap_alloc_at w (.cells #[.slice mao n mcap] 182) (b := w.heap.size) rfl
  rw [← hW1] at b0
  have g1 := Ext.cells (w0 := W1) (heap_cell b0 0)
  have g0 := Ext.cells (w0 := W1) (below_cell hb1 hnb)
  simp at g1
  have q1 := g1 ⟨W1, Below.refl _ _⟩
  have HN := hid hn; have HK1 := hid hk1; have MR := hid mrow; have P1 := hid p1; have P2 := hid p2; have HROW := hid hrow; have HNE := hid hne; have HW := hid hW1; have HB1 := hid hb1; have G1 := hid g1
  clear hn hk1 mrow p1 p2 hrow hne hb1 hnb b0
  go_enter Tryz.func122, Tryz.ntmps122
  rw [hW1] at q1
  go_wp2_with fail
  rw [← HW.out]
  refine (search_at 124 _ n k1 W1 (fun _ _ => by kernel_rfl) hk1n hl (fun x i hi => ?_)).mono ?_
  · have hmr := ownsRow_upd (S := fun _ => False) MR.out (Upd.of_below (HB1.out.trans (x.2.mono HB1.out.size))) (fun _ _ h => h)
    obtain ⟨e, he⟩ : ∃ e, (l1 ++ l2)[i]? = some e := ⟨_, List.getElem?_eq_getElem (by rw [HN.out]; exact hi)⟩
    obtain ⟨g, cap, cur, hv, _, _, _, hcell⟩ := ownsRow_some hmr (by omega)
    simp only [Value.slice.injEq] at hv
    obtain ⟨rfl, _, rfl⟩ := hv
    have hc := hcell (i * 2) (by omega)
    rw [(flatE_at _ i e he).1] at hc
    refine (find1_at x.val _ _ g n mcap i s e.s (g1 x) (g0 x) hc hi hl).mono ?_
    rintro e' w' ⟨rfl, hb⟩
    refine ⟨?_, hb⟩
    rw [split_tells s P1.out P2.out i e he, HK1.out]
  rintro e w3 ⟨rfl, hb3⟩
  have q3 : w3.cell? ⟨w.heap.size, 0, none⟩ = some (.slice mao n mcap) := G1.out ⟨w3, hb3⟩
  have HB3 := hid hb3
  have hwb : Below w.heap.size w w3 := HB1.out.trans (hb3.mono HB1.out.size)
  have HWB := hid hwb
  clear g0 g1 q1 hb3 hwb hW1
  cases l2 with
  | nil =>
    have hkn : n = k1 := by have a := HN.out; have b := HK1.out; simp at a; omega
    subst hkn
    have hf0 := HFP.out
    simp only [firstP] at hf0
    subst hf0
    go_wp2
    go_ret
    exact ⟨rfl, HWB.out⟩
  | cons e r =>
    have hkn : k1 < n := by have a := HN.out; have b := HK1.out; simp at a; omega
    have he : (l1 ++ e :: r)[k1]? = some e := by rw [← HK1.out]; simp
    have hmr := ownsRow_upd (S := fun _ => False) MR.out (Upd.of_below HWB.out) (fun _ _ h => h)
    obtain ⟨g, cap, cur, hv, _, _, _, hcell⟩ := ownsRow_some hmr (by omega)
    simp only [Value.slice.injEq] at hv
    obtain ⟨rfl, _, rfl⟩ := hv
    have hc := hcell (k1 * 2 + 1) (by omega)
    rw [(flatE_at _ k1 e he).2] at hc
    have hlen : 0 < e.h.length := List.length_pos_iff.2 (HNE.out e (by simp))
    obtain ⟨hb, hcap, hcur, hev, _, _, _, hhc⟩ := ownsRow_some (ownsRow_upd (S := fun _ => False) (HROW.out e (by simp)) (Upd.of_below HWB.out) (fun _ _ h => h)) hlen
    rw [hev] at hc
    have hc0 := hhc 0 (by omega)
    rw [ints_at hlen] at hc0
    obtain ⟨a, ha⟩ : ∃ a, e.h.getD 0 0 = a := ⟨_, rfl⟩
    obtain ⟨hl2, hhl2⟩ : ∃ hl, e.h.length = hl := ⟨_, rfl⟩
    rw [ha] at hc0
    rw [hhl2] at hc hlen
    obtain rfl : fp = a := by rw [← HFP.out, ← ha]; rfl
    have hne1 : ¬ k1 = n := by omega
    have hne2 : ¬ (k1 : Int) = n := by omega
    clear he hmr hcell hev hhc ha hhl2
    go_wp2
    go_ret
    exact ⟨rfl, HWB.out⟩
def FindSpec (F : Nat → Nat → Prop) (n a : Nat) : Prop := (a = 0 ∧ ∀ x s, F x s → s < n) ∨ (1 ≤ a ∧ ∃ s, F a s ∧ n ≤ s ∧ ∀ x s', F x s' → n ≤ s' → s < s' ∨ (s = s' ∧ a ≤ x))
theorem log2_mono {a b : Nat} (ha : 0 < a) (h : a ≤ b) : Nat.log2 a ≤ Nat.log2 b := by
  rw [Nat.le_log2 (by omega)]
  exact Nat.le_trans (Nat.log2_self_le (by omega)) h
theorem find_hit {V : Type} {L : List (List (Ent V))} {ws : List Nat} {F : Nat → Nat → Prop} (ok : ListsOk L ws F) {n k : Nat} {l1 l2 : List (Ent V)} {e : Ent V} (hl : L[k]? = some (l1 ++ e :: l2)) (h1 : 1 ≤ n) (p1 : ∀ a ∈ l1, a.s < n) (p2 : ∀ a ∈ e :: l2, n ≤ a.s) (hinv : ∀ x s, F x s → n ≤ s → k ≤ Nat.log2 s) (hF1 : ∀ x s, F x s → 1 ≤ x) : FindSpec F n (e.h.getD 0 0) := by
  have hem : e ∈ l1 ++ e :: l2 := by simp
  have hh := ok.heap k _ hl e hem
  have hpos := ok.pos k _ hl e hem
  have hlen : 0 < e.h.length := List.length_pos_iff.2 hpos.2.2
  have hin : e.h.getD 0 0 ∈ e.h := mem_getD.2 ⟨0, hlen, rfl⟩
  have hf := (ok.mem k _ hl e hem _).1 hin
  have hsorted := ok.sorted k _ hl
  refine .inr ⟨hF1 _ _ hf, e.s, hf, p2 e (by simp), fun x s' hx hs' => ?_⟩
  have hk := hinv x s' hx hs'
  obtain ⟨l', hl', e', he', rfl⟩ := ok.all x s' hx
  by_cases hkk : Nat.log2 e'.s = k
  · rw [hkk, hl] at hl'
    simp only [Option.some.injEq] at hl'
    subst hl'
    rcases List.mem_append.1 he' with h | h
    · have := p1 e' h; omega
    · rcases List.mem_cons.1 h with h | h
      · subst h
        right
        obtain ⟨j, hj, hjx⟩ := mem_getD.1 ((ok.mem k _ hl e' hem x).2 hx)
        exact ⟨rfl, by rw [← hjx]; exact hh.least j hj⟩
      · left
        rw [List.pairwise_append, List.pairwise_cons] at hsorted
        exact hsorted.2.1.1 e' h
  · left
    have h2 : Nat.log2 e.s < Nat.log2 e'.s := by rw [hpos.2.1]; omega
    by_cases h3 : e.s < e'.s
    · exact h3
    · have := log2_mono (by have := hpos.1; have := p2 e (by simp); omega : 0 < e'.s) (by omega : e'.s ≤ e.s)
      omega
theorem find_miss {V : Type} {L : List (List (Ent V))} {ws : List Nat} {F : Nat → Nat → Prop} (ok : ListsOk L ws F) {n k : Nat} {l1 : List (Ent V)} (hl : L[k]? = some l1) (p1 : ∀ a ∈ l1, a.s < n) (hinv : ∀ x s, F x s → n ≤ s → k ≤ Nat.log2 s) : ∀ x s, F x s → n ≤ s → k + 1 ≤ Nat.log2 s := fun x s hx hs => by
  have h1 := hinv x s hx hs
  obtain ⟨l', hl', e', he', rfl⟩ := ok.all x s hx
  by_cases hkk : Nat.log2 e'.s = k
  · rw [hkk, hl] at hl'
    simp only [Option.some.injEq] at hl'
    subst hl'
    have := p1 e' he'
    omega
  · omega
set_option maxRecDepth 100000 in
set_option maxHeartbeats 4000000 in
theorem find_at {SL : Nat → Prop} {w : World} {p wb m mc : Nat} {tv kv uv lv : Value} {ws : List Nat} {L : List (Value × List (Ent Value))} {T K : Nat → Nat} {F : Nat → Nat → Prop} (c : Core SL w p wb m mc tv kv uv lv ws L T K) (ok : ListsOk (L.map (·.2)) ws F) (n : Nat) (hn : 1 ≤ n) (hnm : n < 1048577) (hk : Nat.log2 n < L.length) (hL : L.length ≤ 64) (hF : ∀ x s, F x s → s < 1048576) (hF1 : ∀ x s, F x s → 1 ≤ x) :
    Calls Tryz.prog 87 #[.pointer (some ⟨p, 0, none⟩), .int .i64 n] w fun e w' => (∃ a : Nat, e = .returned (.int .i64 a) ∧ FindSpec F n a) ∧ Below w.heap.size w w' := by
  obtain ⟨gb, lc, lcur, rfl, _, hlc1, hlc2, hlcell⟩ := ownsRow_some c.ls.row (by omega)
  unfold maxLen at hlc2
  obtain ⟨ln, hln⟩ : ∃ ln, L.length = ln := ⟨_, rfl⟩
  have c4 := heap_cell c.blk 4
  simp at c4
  rw [hln] at c4 hlc1 hk hL hlcell
  obtain ⟨W1, hW1⟩ : ∃ W1, W1 = w.alloc (.cells #[.int .i64 n] 3) := ⟨_, rfl⟩
  have hb1 : Below w.heap.size w W1 := by rw [hW1]; exact (Below.refl _ _).alloc (Nat.le_refl _) _
  have b0 := heap_alloc_at w (.cells #[.int .i64 n] 3) (b := w.heap.size) rfl
  rw [← hW1] at b0
  have g0 := Ext.cells (w0 := W1) (heap_cell b0 0)
  have g4 := Ext.cells (w0 := W1) (below_cell hb1 c4)
  simp at g0
  have hmf : ∀ (fn : Fn) (first cap : Array Value) (w : World), (Instr.makeFunc fn first cap).run Tryz.prog w = .ok (.func fn first cap) w := fun _ _ _ _ => rfl
  have hlk : ¬ lc = Nat.log2 n := by omega
  have C := hid c; have OK := hid ok; have HW := hid hW1; have HB1 := hid hb1; have G0 := hid g0; have HLC := hid hlcell; have HLN := hid hln; have HF := hid hF; have HF1 := hid hF1
  obtain ⟨k, hkk⟩ : ∃ k, Nat.log2 n = k := ⟨_, rfl⟩
  have HK := hid hkk
  have hlist := fun w => list_below n w (by omega) (by omega)
  rw [hkk] at hk hlk hlist
  have HLI := hid hlist
  clear c ok hW1 hb1 hlcell hln hF hF1 c4 hkk b0 hlist
  go_enter Tryz.func87, Tryz.ntmps87
  go_wp2
  rw [← HW.out]
  refine wp_region_calm (by kernel_rfl) (by kernel_rfl) ?_
  repeat (go_big_quiet_step ((exact Ext.call _ (HLI.out _))))
  refine wpQuiet_nil ?_
  rintro _ ⟨x0, rfl⟩
  have G4 := hid g4
  clear g0 g4
  go_wp2
  go_loopw [18] (fun t18 wr => ∃ (j : Nat) (x : Ext W1), wr = x.val ∧ t18 = .int .i64 j ∧ j ≤ ln - k ∧ ∀ y s, F y s → n ≤ s → k + j ≤ Nat.log2 s) (fun t18 _ => ln - k - (intOf t18).toNat)
  case atStart => exact ⟨0, x0, rfl, rfl, Nat.zero_le _, fun y s _ hs => by rw [← HK.out]; exact log2_mono (by omega) hs⟩
  case round =>
    obtain ⟨j, x, rfl, rfl, hj, hinv⟩ := hrel
    have HINV := hid hinv
    clear hinv
    by_cases hjl : j < ln - k
    · have hjl2 : (j : Int) < ((ln - k : Nat) : Int) := by omega
      have hkj : k + j < L.length := by rw [HLN.out]; omega
      obtain ⟨⟨mv, l⟩, hat⟩ : ∃ pr, L[k + j]? = some pr := ⟨_, List.getElem?_eq_getElem hkj⟩
      have hatl : (L.map (·.2))[k + j]? = some l := by rw [List.getElem?_map, hat]; rfl
      obtain ⟨l1, l2, rfl, p1, p2⟩ := split_at n l (OK.out.sorted _ _ hatl)
      have hb2 : Below w.heap.size w x.val := HB1.out.trans (x.2.mono HB1.out.size)
      have cg := below_cell hb2 (show w.cell? ⟨gb, k + j, none⟩ = some mv by
        have := HLC.out (k + j) (by rw [HLN.out] at hkj; omega)
        rw [List.getElem?_map, hat] at this
        exact this)
      have hmr := ownsRow_upd (S := fun _ => False) (C.out.ls.mrow _ _ hat) (Upd.of_below hb2) (fun _ _ h => h)
      dsimp only at hmr
      obtain ⟨mao, mcap, hmv, _⟩ := ownsRow_form hmr
      obtain ⟨mn, hmn⟩ : ∃ mn, (l1 ++ l2).length = mn := ⟨_, rfl⟩
      have hmr2 := hmr
      rw [hmn] at hmv
      rw [hmv] at cg hmr2
      have HMR := hid hmr2; have P1 := hid p1; have P2 := hid p2; have HAT := hid hat; have HATL := hid hatl; have HB2 := hid hb2
      clear hmr hmr2 p1 p2 hat hatl hmv hb2 hmn
      go_wp2_with fail
      refine (pick_at x.val w.heap.size n l1 l2 _ (G0.out x) HMR.out (fun e he => ownsRow_upd (S := fun _ => False) (C.out.ls.hrow _ _ HAT.out e (by simp [he])) (Upd.of_below HB2.out) (fun _ _ h => h)) (fun e he => (OK.out.pos _ _ HATL.out e (by simp [he])).2.2) P1.out P2.out (OK.out.len_le HF.out _ _ HATL.out)).mono ?_
      rintro e w2 ⟨rfl, hbw⟩
      have HX2 := hid (x.2.trans (hbw.mono x.2.size))
      clear hbw
      cases l2 with
      | nil =>
        have hz : firstP ([] : List (Ent Value)) = 0 := rfl
        rw [hz]
        have HN2 := hid (find_miss (l1 := l1) OK.out (by have := HATL.out; simpa using this) P1.out HINV.out)
        clear hz
        go_wp2
        go_roundw
        case rel => exact ⟨j + 1, ⟨w2, HX2.out⟩, rfl, rfl, by omega, fun y s h1 h2 => by have := HN2.out y s h1 h2; omega⟩
        case measure => simp [intOf]; omega
      | cons e r =>
        have hspec := find_hit OK.out HATL.out hn P1.out P2.out HINV.out HF1.out
        have hz : firstP (e :: r) = e.h.getD 0 0 := rfl
        rw [hz]
        obtain ⟨a, ha⟩ : ∃ a, e.h.getD 0 0 = a := ⟨_, rfl⟩
        rw [ha] at hspec ⊢
        have ha1 : 0 < a := by
          have hem : e ∈ l1 ++ e :: r := by simp
          have hlen : 0 < e.h.length := List.length_pos_iff.2 (OK.out.pos _ _ HATL.out e hem).2.2
          have := HF1.out _ _ ((OK.out.mem _ _ HATL.out e hem _).1 (mem_getD.2 ⟨0, hlen, rfl⟩))
          omega
        have ha2 : (0 : Int) < a := by omega
        have HS := hid hspec
        clear hspec hz ha
        go_wp2
        go_ret
        exact ⟨⟨a, rfl, HS.out⟩, HB1.out.trans (HX2.out.mono HB1.out.size)⟩
    · have hjl2 : ¬ (j : Int) < ((ln - k : Nat) : Int) := by omega
      go_wp2
      go_ret
      refine ⟨⟨0, rfl, .inl ⟨rfl, fun y s hy => ?_⟩⟩, HB1.out.trans (x.2.mono HB1.out.size)⟩
      by_cases h : n ≤ s
      · have h1 := HINV.out y s hy h
        obtain ⟨l, hl, _⟩ := OK.out.all y s hy
        have := (List.getElem?_eq_some_iff.1 hl).1
        rw [List.length_map, HLN.out] at this
        omega
      · omega
end
end Go.Proofs.YtlcfkfijomnmnaaGreatDoor
