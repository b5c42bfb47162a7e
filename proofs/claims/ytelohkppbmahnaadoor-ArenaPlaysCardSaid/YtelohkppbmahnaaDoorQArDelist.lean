/- package arena: delist. -/
import Derived.Test.YtelohkppbmahnaaDoorQArEnlist
import Derived.Test.YtelohkppbmahnaaDoorQMid
namespace Go.Proofs.YtelohkppbmahnaaDoor
open Go.RowKit

theorem delP_lt (h ws : List Nat) (x : Nat) (k : HeapOk h ws) (hx : x ∈ h) : ∃ i la, ws.getD x 0 % 4294967296 = i ∧ h.length = la + 1 ∧ i ≤ la ∧ h.getD i 0 = x := by
  obtain ⟨i, hi, rfl⟩ := mem_getD.1 hx
  exact ⟨i, h.length - 1, k.back i hi, by omega, by omega, rfl⟩
theorem fallP_all (P : Nat → Prop) (x : Nat) (hx : P x) : ∀ (n i : Nat) (h ws : List Nat), h.length - i ≤ n → i < h.length → (∀ j, j < h.length → P (h.getD j 0)) → (fallP x i h ws).1.length = h.length ∧ ∀ j, j < h.length → P ((fallP x i h ws).1.getD j 0) := by
  intro n
  induction n with
  | zero => intro i h ws h0 hi; omega
  | succ n ih =>
    intro i h ws hn hi hall
    rw [fallP]
    split
    · rename_i hc
      have hil : i < leastP i h := by unfold leastP; split <;> omega
      have hl : (h.set i (h.getD (leastP i h) 0)).length = h.length := by simp
      obtain ⟨a, b⟩ := ih (leastP i h) (h.set i (h.getD (leastP i h) 0)) (stamp ws (h.getD (leastP i h) 0) i) (by rw [hl]; omega) (by rw [hl]; exact hc.1) (fun j hj => by
        rw [getD_set _ _ _ _ hi]
        split
        · exact hall _ hc.1
        · rw [hl] at hj; exact hall j hj)
      rw [hl] at a b
      exact ⟨a, b⟩
    · refine ⟨by simp, fun j hj => ?_⟩
      dsimp only
      rw [getD_set _ _ _ _ hi]
      split
      · exact hx
      · exact hall j hj
theorem del_done {SL : Nat → Prop} {w : World} {p wb m mc : Nat} {tv kv uv lv : Value} {ws : List Nat} {L : List (Value × List (Ent Value))} {T K : Nat → Nat} {F : Nat → Nat → Prop} (c : Core SL w p wb m mc tv kv uv lv ws L T K) (ok : ListsOk (L.map (·.2)) ws F)
    {s x : Nat} {l1 l2 : List (Ent Value)} {mv : Value} {e0 : Ent Value} (hat : L[Nat.log2 s]? = some (mv, l1 ++ [e0] ++ l2)) (low : ∀ e ∈ l1, e.s < s) (high : ∀ e ∈ l2, s < e.s) (hes : e0.s = s) (hx : x ∈ e0.h) (hf : F x s)
    {w5 : World} {ws' h' : List Nat} {new : List (Ent Value)} {mv' : Value} (hdp : delP (ws.getD x 0 % 4294967296) e0.h ws = (h', ws'))
    (hnew : (new = [] ∧ h' = []) ∨ ∃ v', new = [⟨s, v', h'⟩] ∧ h' ≠ [] ∧ w5.ownsRow 0 3 1 v' h'.length (ints h') ∧ v'.ownBlock = e0.v.ownBlock)
    (u5 : Upd (fun b => b = wb ∨ mv.ownBlock = some b ∨ e0.v.ownBlock = some b ∨ lv.ownBlock = some b) w w5)
    (rm5 : w5.ownsRow 0 69 2 mv' (l1 ++ new ++ l2).length (flatE (l1 ++ new ++ l2))) (hmm : mv'.ownBlock = mv.ownBlock ∨ ∀ b, mv'.ownBlock = some b → w.heap.size ≤ b)
    (rl5 : w5.ownsRow 0 67 1 lv L.length ((L.map (·.1)).set (Nat.log2 s) mv'))
    (wr5 : w5.ownsRow 0 28 1 (.slice (some ⟨wb, 0, none⟩) m mc) m (u64s ws')) :
    CorePost SL w p wb m mc tv kv uv lv ws L (less F x) (fun y => y ≠ x ∧ F y s) (.returned (.tuple #[])) w5 := by
  have hatl : (L.map (·.2))[Nat.log2 s]? = some (l1 ++ [e0] ++ l2) := by rw [List.getElem?_map, hat]; rfl
  have hem : e0 ∈ l1 ++ [e0] ++ l2 := by simp
  have hmem : ∀ y, y ∈ e0.h ↔ F y s := fun y => by rw [ok.mem _ _ hatl e0 hem y, hes]
  have ho := ok.heap _ _ hatl e0 hem
  have hlen := ho.len_le
  have hsm := c.small
  obtain ⟨d0, d1, d2, d3, d4⟩ := delP_ok x e0.h ws ho hx (by omega)
  rw [hdp] at d1 d2 d3 d4
  dsimp only at d1 d2 d3 d4
  have hlow : LowOnly (fun y => y ≠ x ∧ F y s) ws ws' := ⟨d4.len, d4.up, fun k hk => d4.off k (fun q => hk ⟨q.1, (hmem k).1 q.2⟩)⟩
  obtain ⟨wcur, hwcur⟩ := row_block c.wrow (b := wb) rfl
  obtain ⟨SL', T', K', k1, k2, k3⟩ := c.ls.renew ok hat rfl (.inr ⟨e0, rfl, hes⟩) low high e0.v.ownBlock (fun b hb => ⟨e0, by simp, hb⟩) wb hwcur u5 new
    (fun e he => by
      rcases hnew with ⟨rfl, _⟩ | ⟨v', rfl, _, hr, hv⟩
      · simp at he
      · rw [List.mem_singleton.1 he]; exact ⟨rfl, hr, .inl hv⟩) mv' rm5 hmm (by rw [map_set]; exact rl5) c.bound
  refine ⟨rfl, SL', ws', _, T', K', ⟨?_, wr5, k1, k3, ?_, ?_, by rw [d4.len]; exact hsm, fun k => ?_⟩, ?_, by rw [List.length_set], hlow, k2, u5.mono (fun b _ h => ?_)⟩
  · refine u5.heap_some c.blk (fun hc => ?_)
    rcases hc with h | h | h | h
    · obtain ⟨cc, hcc⟩ := row_block c.wrow (b := wb) rfl; rw [← h, c.blk] at hcc; simp at hcc
    · obtain ⟨cc, hcc⟩ := row_block (c.ls.mrow _ _ hat) h; rw [c.blk] at hcc; simp at hcc
    · obtain ⟨cc, hcc⟩ := row_block (c.ls.hrow _ _ hat e0 hem) h; rw [c.blk] at hcc; simp at hcc
    · obtain ⟨cc, hcc⟩ := row_block c.ls.row h; rw [c.blk] at hcc; simp at hcc
  · intro h; rcases k2 p h with h | h
    · exact c.np h
    · have := heap_lt c.blk; omega
  · intro h; rcases k2 wb h with h | h
    · exact c.nwb h
    · have := heap_lt hwcur; omega
  · have a := d4.up k
    have b := c.w64 k
    omega
  · rw [map_set]
    rw [← hes] at hatl hf ⊢
    have hatl2 : (L.map (·.2))[Nat.log2 e0.s]? = some (l1 ++ e0 :: l2) := by rw [hatl]; simp
    rcases hnew with ⟨rfl, h0⟩ | ⟨v', rfl, h0, _, _⟩
    · subst h0
      exact ok.drop (v := .slice none 0 0) [] hatl2 hf d2 d3 d4 (.inl ⟨rfl, rfl⟩)
    · rw [← hes]
      exact ok.drop (v := v') _ hatl2 hf d2 d3 d4 (.inr ⟨rfl, h0⟩)
  · rcases h with h | h | h | h
    · exact .inl h
    · exact .inr (c.ls.mown _ _ hat b h).1
    · exact .inr (c.ls.hown _ _ hat e0 hem b h).1
    · exact .inr (c.ls.own b h)
set_option maxRecDepth 100000 in
set_option maxHeartbeats 8000000 in
theorem delist_at {SL : Nat → Prop} {w : World} {p wb m mc : Nat} {tv kv uv lv : Value} {ws : List Nat} {L : List (Value × List (Ent Value))} {T K : Nat → Nat} {F : Nat → Nat → Prop} (c : Core SL w p wb m mc tv kv uv lv ws L T K) (ok : ListsOk (L.map (·.2)) ws F) (x s : Nat) (hf : F x s) (hL : L.length ≤ 64) (hF : ∀ x s, F x s → s < 1048576) :
    Calls Tryd.prog 30 #[.pointer (some ⟨p, 0, none⟩), .int .i64 x, .int .i64 s] w (CorePost SL w p wb m mc tv kv uv lv ws L (less F x) (fun y => y ≠ x ∧ F y s)) := by
  obtain ⟨l, hatl, e0, he0, hes⟩ := ok.all x s hf
  have hk : Nat.log2 s < L.length := by have := (List.getElem?_eq_some_iff.1 hatl).1; simpa using this
  obtain ⟨⟨mv, l'⟩, hat⟩ : ∃ pr, L[Nat.log2 s]? = some pr := ⟨_, List.getElem?_eq_getElem hk⟩
  obtain rfl : l' = l := by rw [List.getElem?_map, hat] at hatl; simpa using hatl
  have hsorted := ok.sorted _ _ hatl
  obtain ⟨l1, l2', hsp, p1, p2⟩ := split_at s l' hsorted
  have hs0 : 0 < s := by have := (ok.pos _ _ hatl e0 he0).1; omega
  have hsm := hF x s hf
  have hin2 : e0 ∈ l2' := by
    rw [hsp] at he0
    rcases List.mem_append.1 he0 with h | h
    · have := p1 e0 h; omega
    · exact h
  obtain ⟨l2, rfl⟩ : ∃ l2, l2' = e0 :: l2 := by
    cases l2' with
    | nil => simp at hin2
    | cons a r =>
      rcases List.mem_cons.1 hin2 with h | h
      · exact ⟨r, by rw [h]⟩
      · rw [hsp, List.pairwise_append, List.pairwise_cons] at hsorted
        have h4 := hsorted.2.1.1 e0 h
        have h5 := p2 a (by simp)
        omega
  subst hsp
  have hhigh : ∀ e ∈ l2, s < e.s := fun a ha => by
    rw [List.pairwise_append, List.pairwise_cons] at hsorted
    have := hsorted.2.1.1 a ha
    omega
  have hll := ok.len_le hF _ _ hatl
  have hem : e0 ∈ l1 ++ e0 :: l2 := by simp
  have ho := ok.heap _ _ hatl e0 hem
  have hxh : x ∈ e0.h := (ok.mem _ _ hatl e0 hem x).2 (by rw [hes]; exact hf)
  obtain ⟨i, la, hi, hla, hil, hix⟩ := delP_lt e0.h ws x ho hxh
  have hlaw := ho.len_le
  rw [c.len] at hlaw
  have hlam : la < m := by omega
  have hxm : x < m := by rw [← c.len, ← hix]; exact ho.lt i (by omega)
  have hm20 : m ≤ 1048576 := by rw [← c.len]; exact c.small
  have hth : thereB (e0 :: l2) s = true := by simp [thereB, hes]
  obtain ⟨gb, lc, lcur, rfl, _, hlc1, hlc2, hlcell⟩ := ownsRow_some c.ls.row (by omega)
  have c4 := heap_cell c.blk 4
  have c0 := heap_cell c.blk 0
  simp at c4 c0
  have cg := hlcell (Nat.log2 s) (by omega)
  rw [List.getElem?_map, hat] at cg
  simp only [Option.map_some] at cg
  have hmrow := c.ls.mrow _ _ hat
  dsimp only at hmrow
  obtain ⟨n, hnl⟩ : ∃ n, (l1 ++ e0 :: l2).length = n := ⟨_, rfl⟩
  have hn0 : 0 < n := by rw [← hnl]; simp; omega
  rw [hnl] at hmrow hll
  obtain ⟨mb, mcap, mcur, rfl, _, hmn, hmc2, hmcell⟩ := ownsRow_some hmrow hn0
  obtain ⟨k1, hk1⟩ : ∃ k1, l1.length = k1 := ⟨_, rfl⟩
  have hk1n : k1 < n := by rw [← hnl, ← hk1]; simp
  have cv := hmcell (k1 * 2 + 1) (by omega)
  rw [(flatE_at _ k1 e0 (by rw [← hk1]; simp)).2] at cv
  have hhrow := c.ls.hrow _ _ hat e0 hem
  rw [hla] at hhrow
  obtain ⟨hb, hcap, hcur, hev, _, hhc, hhc2, hhcell⟩ := ownsRow_some hhrow (by omega)
  rw [hev] at cv hhrow
  have cm := hhcell la (by omega)
  rw [ints_at (by omega)] at cm
  have cw := c.wrow.cellAt x (by omega)
  rw [u64s_at (by rw [c.len]; exact hxm)] at cw
  obtain ⟨y, hy⟩ : ∃ y, ws.getD x 0 = y := ⟨_, rfl⟩
  have hy64 := c.w64 x
  rw [hy] at cw hi hy64
  obtain ⟨mo, hmo⟩ : ∃ mo, e0.h.getD la 0 = mo := ⟨_, rfl⟩
  have hmom : mo < m := by rw [← c.len, ← hmo]; exact ho.lt la (by omega)
  rw [hmo] at cm
  have hand : bits .and .u64 (y : Int) 4294967295 = (i : Int) := by rw [and_low y hy64, hi]
  unfold maxLen at hmc2 hlc2 hhc2
  have hpr : mb ≠ hb := fun e => rows_ne hmrow hhrow (by decide) (b := mb) rfl (by rw [e]; rfl)
  have hpm : p ≠ mb := fun e => by obtain ⟨cc, hcc⟩ := row_block hmrow (b := mb) rfl; rw [← e, c.blk] at hcc; simp at hcc
  have hph : p ≠ hb := fun e => by obtain ⟨cc, hcc⟩ := row_block hhrow (b := hb) rfl; rw [← e, c.blk] at hcc; simp at hcc
  have hwm : wb ≠ mb := fun e => rows_ne c.wrow hmrow (by decide) (b := wb) rfl (by rw [e]; rfl)
  have hwh : wb ≠ hb := fun e => rows_ne c.wrow hhrow (by decide) (b := wb) rfl (by rw [e]; rfl)
  have hpw : p ≠ wb := fun e => by obtain ⟨cc, hcc⟩ := row_block c.wrow (b := wb) rfl; rw [← e, c.blk] at hcc; simp at hcc
  have hgm : gb ≠ mb := fun e => rows_ne c.ls.row hmrow (by decide) (b := gb) rfl (by rw [e]; rfl)
  have hgh : gb ≠ hb := fun e => rows_ne c.ls.row hhrow (by decide) (b := gb) rfl (by rw [e]; rfl)
  have hgw : gb ≠ wb := fun e => rows_ne c.ls.row c.wrow (by decide) (b := gb) rfl (by rw [e]; rfl)
  have C := Lib.hid c; have OK := Lib.hid ok; have HAT := Lib.hid hat; have HATL := Lib.hid hatl; have P1 := Lib.hid p1; have P2 := Lib.hid p2; have HHI := Lib.hid hhigh
  have C4 := Lib.hid c4; have C0 := Lib.hid c0; have CG := Lib.hid cg; have HMR := Lib.hid hmrow; have HHR := Lib.hid hhrow; have HLL := Lib.hid hll; have HNL := Lib.hid hnl; have HK1 := Lib.hid hk1
  have CV := Lib.hid cv; have CM := Lib.hid cm; have CW := Lib.hid cw; have HI := Lib.hid hi; have HLA := Lib.hid hla; have HIX := Lib.hid hix; have HO := Lib.hid ho; have HXH := Lib.hid hxh; have HEV := Lib.hid hev; have HMO := Lib.hid hmo; have HY := Lib.hid hy; have HES := Lib.hid hes; have HEM := Lib.hid hem
  clear c ok hat hatl hsorted p1 p2 hhigh hlcell c4 c0 cg hmrow hhrow hmcell hhcell cv cm cw hi hla hix ho hxh hev hmo hnl hk1 he0 hin2 hlaw hy hes hem
  go_enter Tryd.func30, Tryd.ntmps30
  go_wp2_with fail
  refine (place_at w p s m gb L.length lc l1 (e0 :: l2) _ C4.out hk hL (by rw [CG.out]) (by rw [HNL.out]; exact HMR.out) P1.out P2.out hs0 (by omega) (by rw [HNL.out]; exact hll)).mono ?_
  rw [hth]
  rw [HK1.out]
  rintro e w1 ⟨rfl, hb1⟩
  have HB1 := Lib.hid hb1
  have d0 := below_cell hb1 C0.out; have d4 := below_cell hb1 C4.out; have dv := below_cell hb1 CV.out; have dm := below_cell hb1 CM.out; have dw := below_cell hb1 CW.out
  have RM1 := ownsRow_upd (S := fun _ => False) HMR.out (Upd.of_below hb1) (fun _ _ h => h)
  have dvf := RM1.frozenAt (k1 * 2 + 1)
  have HRM1 := Lib.hid RM1
  clear hb1 RM1 hth
  go_wp2
  go_quiet (fail)
  obtain ⟨W1, hW1⟩ : ∃ W1, W1 = w1.drewN nq := ⟨_, rfl⟩
  have HX : w1.cell? ⟨hb, i, none⟩ = some (.int .i64 x) := by
    have h1 := HHR.out.cellAt i (by omega)
    rw [ints_at (by rw [HLA.out]; omega), HIX.out] at h1
    exact below_cell HB1.out h1
  have HXf : w1.frozen? ⟨hb, i, none⟩ = false := (ownsRow_upd (S := fun _ => False) HHR.out (Upd.of_below HB1.out) (fun _ _ h => h)).frozenAt i
  by_cases hla0 : la = 0
  · subst hla0
    obtain rfl : i = 0 := by omega
    have U2 : Upd (fun b => b = mb) w ((w1.drewN nq).setCell ⟨mb, k1 * 2 + 1, none⟩ (.slice (some ⟨hb, 0, none⟩) 0 hcap)) := ((show Upd (fun b => b = mb) w (w1.drewN nq) from (Upd.of_below HB1.out).drewN nq)).trans' (upd_set _ mb _ _)
    have RM2 : ∀ h', ((w1.drewN nq).setCell ⟨mb, k1 * 2 + 1, none⟩ (.slice (some ⟨hb, 0, none⟩) 0 hcap)).ownsRow 0 69 2 (.slice (some ⟨mb, 0, none⟩) n mcap) n (flatE (l1 ++ [⟨e0.s, .slice (some ⟨hb, 0, none⟩) 0 hcap, h'⟩] ++ l2)) := fun h' => by
      have h1 : (w1.drewN nq).ownsRow 0 69 2 (.slice (some ⟨mb, 0, none⟩) n mcap) n (flatE (l1 ++ [e0] ++ l2)) := by have := HRM1.out; rw [show l1 ++ e0 :: l2 = l1 ++ [e0] ++ l2 by simp] at this; exact this
      have h2 := (h1.stored (k1 * 2 + 1) (.slice (some ⟨hb, 0, none⟩) 0 hcap)).1
      rw [← HK1.out, flatE_set l1 l2 e0 _ h', HK1.out] at h2
      exact h2
    have RH2 : ((w1.drewN nq).setCell ⟨mb, k1 * 2 + 1, none⟩ (.slice (some ⟨hb, 0, none⟩) 0 hcap)).ownsRow 0 3 1 (.slice (some ⟨hb, 0, none⟩) 0 hcap) 0 (ints (e0.h.take 0)) := by
      have h1 := ownsRow_upd HHR.out U2 (fun b hb' e => hpr (by simp [Value.ownBlock] at hb'; rw [hb', e]))
      have h2 := ownsRow_take h1 0 (by omega)
      have h3 : (ints e0.h).take (0 * 1) = ints (e0.h.take 0) := by rw [Nat.mul_one]; simp [ints]
      rw [h3] at h2
      exact h2
    have WR2 := ownsRow_upd C.out.wrow U2 (fun b hb' e => hwm (by simp [Value.ownBlock] at hb'; rw [hb', e]))
    have RL2 := ownsRow_upd C.out.ls.row U2 (fun b hb' e => hgm (by simp [Value.ownBlock] at hb'; rw [hb', e]))
    have hrl : (L.map (·.1)).set (Nat.log2 s) (.slice (some ⟨mb, 0, none⟩) n mcap) = L.map (·.1) := by
      apply List.ext_getElem?
      intro j
      rw [List.getElem?_set]
      split
      · rename_i e; subst e
        rw [List.getElem?_map, HAT.out, if_pos (by simpa using hk)]; rfl
      · rfl
    have HU2 := Lib.hid U2; have HRM2 := Lib.hid RM2; have HRH2 := Lib.hid RH2; have HWR2 := Lib.hid WR2; have HRL2 := Lib.hid RL2; have HRL := Lib.hid hrl
    clear U2 RM2 RH2 WR2 RL2 hrl
    go_wp2
    have dd4 : ((w1.drewN nq).setCell ⟨mb, k1 * 2 + 1, none⟩ (.slice (some ⟨hb, 0, none⟩) 0 hcap)).cell? ⟨p, 4, none⟩ = some (.slice (some ⟨gb, 0, none⟩) L.length lc) := HU2.out.cell_some C4.out hpm
    have ee4 := ExtU.cells (R := fun b => b = mb) dd4 hpm
    refine wp_region_midX (fun x : ExtU (fun b => b = mb) ((w1.drewN nq).setCell ⟨mb, k1 * 2 + 1, none⟩ (.slice (some ⟨hb, 0, none⟩) 0 hcap)) => x.val) 11 [0, 1, 2, 3, 4, 6, 7, 8, 9] [5, 10] (by kernel_rfl) (by kernel_rfl) (by kernel_rfl) (by kernel_rfl) (by rintro c a (_ | d) v w h <;> exact h) ⟨⟨_, (Upd.refl _ _).drew⟩, rfl⟩ ?_
    simp only [pickO, List.getD_cons_succ, List.getD_cons_zero, List.drop_succ_cons, List.drop_zero]
    repeat (go_big_quiet_step (fail))
    refine wpQuiet_nil ?_
    unfold wpMids
    go_wp2_with fail
    refine (list_below s _ hs0 (by omega)).mono ?_
    rintro e y1 ⟨rfl, hby0⟩
    have hby1 : Below ((w1.drewN nq).setCell ⟨mb, k1 * 2 + 1, none⟩ (.slice (some ⟨hb, 0, none⟩) 0 hcap)).heap.size ((w1.drewN nq).setCell ⟨mb, k1 * 2 + 1, none⟩ (.slice (some ⟨hb, 0, none⟩) 0 hcap)) y1 := ((Below.refl _ _).drew).trans hby0
    have V1 : Upd (fun b => b = mb) ((w1.drewN nq).setCell ⟨mb, k1 * 2 + 1, none⟩ (.slice (some ⟨hb, 0, none⟩) 0 hcap)) y1 := Upd.of_below hby1
    have RMy := ownsRow_upd (S := fun _ => False) (HRM2.out []) (Upd.of_below hby1) (fun _ _ h => h)
    have HRMy := Lib.hid RMy; have HV1 := Lib.hid V1
    clear hby0 hby1 RMy V1
    go_wp2
    refine ⟨⟨⟨_, HV1.out⟩, rfl⟩, ?_⟩
    unfold wpMids
    go_wp2_with fail
    refine (delete_at y1 mb n mcap k1 _ HRMy.out ?_ hk1n hll).mono ?_
    · refine one_flatE _ (fun e he => ?_)
      rcases List.mem_append.1 he with h | h
      · rcases List.mem_append.1 h with h | h
        · exact one_of_row (C.out.ls.hrow _ _ HAT.out e (by simp [h]))
        · rw [List.mem_singleton.1 h]; rfl
      · exact one_of_row (C.out.ls.hrow _ _ HAT.out e (by simp [h]))
    rintro e y2 ⟨v', rfl, r2, u2, m2⟩
    have hxs : (flatE (l1 ++ [(⟨e0.s, .slice (some ⟨hb, 0, none⟩) 0 hcap, []⟩ : Ent Value)] ++ l2)).take (k1 * 2) ++ (flatE (l1 ++ [(⟨e0.s, .slice (some ⟨hb, 0, none⟩) 0 hcap, []⟩ : Ent Value)] ++ l2)).drop ((k1 + 1) * 2) = flatE (l1 ++ [] ++ l2) := by
      have hf1 : (flatE l1).length = k1 * 2 := by rw [flatE_len, HK1.out]; omega
      have hf2 : (flatE (l1 ++ [(⟨e0.s, .slice (some ⟨hb, 0, none⟩) 0 hcap, []⟩ : Ent Value)])).length = (k1 + 1) * 2 := by rw [flatE_len, List.length_append, HK1.out]; simp; omega
      rw [List.append_nil]
      conv => lhs; rhs; rw [flatE_append, ← hf2, List.drop_left]
      rw [flatE_append, flatE_append, List.append_assoc, ← hf1, List.take_left, flatE_append]
    rw [hxs] at r2
    obtain ⟨vao, vcap, rfl, _⟩ := ownsRow_form r2
    have V2 : Upd (fun b => b = mb) ((w1.drewN nq).setCell ⟨mb, k1 * 2 + 1, none⟩ (.slice (some ⟨hb, 0, none⟩) 0 hcap)) y2 := HV1.out.trans' (u2.mono (fun b _ h => by simp [Value.ownBlock] at h; exact h.symm))
    have RLy := ownsRow_upd HRL2.out V2 (fun b hb' e => hgm (by simp [Value.ownBlock] at hb'; rw [hb', e]))
    have WRy := ownsRow_upd HWR2.out V2 (fun b hb' e => hwm (by simp [Value.ownBlock] at hb'; rw [hb', e]))
    have hgc := RLy.cellAt (Nat.log2 s) (by omega)
    rw [List.getElem?_map, HAT.out] at hgc
    simp only [Option.map_some] at hgc
    have hgf := RLy.frozenAt (Nat.log2 s)
    have HR2 := Lib.hid r2; have HV2 := Lib.hid V2; have HM2 := Lib.hid m2; have HRLy := Lib.hid RLy; have HWRy := Lib.hid WRy
    clear r2 u2 m2 V2 RLy WRy hxs
    go_wp2
    refine ⟨⟨⟨_, HV2.out⟩, rfl⟩, ?_⟩
    unfold wpMids
    go_wp2
    refine bodyPost_ret (v := .tuple #[]) (results_none rfl _ _ _) rfl ?_
    have U25 : Upd (fun b => b = gb) y2 (y2.setCell ⟨gb, Nat.log2 s, none⟩ (.slice vao (n - 1) vcap)) := upd_set _ _ _ _
    have hd : delP (ws.getD x 0 % 4294967296) e0.h ws = ([], ws) := by
      rw [HY.out, HI.out, delP, if_neg (by rw [HLA.out]; omega), HLA.out]; rfl
    have hmb2 : (Value.slice vao (n - 1) vcap).ownBlock = (Value.slice (some ⟨mb, 0, none⟩) n mcap).ownBlock ∨ ∀ b, (Value.slice vao (n - 1) vcap).ownBlock = some b → w.heap.size ≤ b := by
      rcases HM2.out with h | h
      · exact .inl h
      · exact .inr (fun b hb' => Nat.le_trans (Nat.le_trans HU2.out.size HV1.out.size) (h b hb'))
    refine del_done C.out OK.out (mv := .slice (some ⟨mb, 0, none⟩) n mcap) (by rw [HAT.out]; simp) P1.out HHI.out HES.out HXH.out hf (new := []) (h' := []) (ws' := ws) (mv' := .slice vao (n - 1) vcap) hd (.inl ⟨rfl, rfl⟩) ?_ ?_ hmb2 ?_ ?_
    · exact ((HU2.out.trans' HV2.out).mono (fun b _ h => .inr (.inl (by rw [h]; rfl)))).trans' (U25.mono (fun b _ h => .inr (.inr (.inr (by rw [h]; rfl)))))
    · rw [show (l1 ++ ([] : List (Ent Value)) ++ l2).length = n - 1 by rw [← HNL.out]; simp]
      refine ownsRow_upd HR2.out U25 (fun b hb' e => rows_ne HR2.out HRLy.out (by decide) hb' (by rw [e]; rfl))
    · exact (HRLy.out.stored (Nat.log2 s) (.slice vao (n - 1) vcap)).1
    · exact ownsRow_upd HWRy.out U25 (fun b hb' e => hgw (by simp [Value.ownBlock] at hb'; rw [← e, hb']))
  · have hla1 : ¬ (la : Int) = 0 := by omega
    have U2 : Upd (fun b => b = mb) w ((w1.drewN nq).setCell ⟨mb, k1 * 2 + 1, none⟩ (.slice (some ⟨hb, 0, none⟩) la hcap)) := ((show Upd (fun b => b = mb) w (w1.drewN nq) from (Upd.of_below HB1.out).drewN nq)).trans' (upd_set _ mb _ _)
    have RM2 : ∀ h', ((w1.drewN nq).setCell ⟨mb, k1 * 2 + 1, none⟩ (.slice (some ⟨hb, 0, none⟩) la hcap)).ownsRow 0 69 2 (.slice (some ⟨mb, 0, none⟩) n mcap) n (flatE (l1 ++ [⟨e0.s, .slice (some ⟨hb, 0, none⟩) la hcap, h'⟩] ++ l2)) := fun h' => by
      have h1 : (w1.drewN nq).ownsRow 0 69 2 (.slice (some ⟨mb, 0, none⟩) n mcap) n (flatE (l1 ++ [e0] ++ l2)) := by have := HRM1.out; rw [show l1 ++ e0 :: l2 = l1 ++ [e0] ++ l2 by simp] at this; exact this
      have h2 := (h1.stored (k1 * 2 + 1) (.slice (some ⟨hb, 0, none⟩) la hcap)).1
      rw [← HK1.out, flatE_set l1 l2 e0 _ h', HK1.out] at h2
      exact h2
    have RH2 : ((w1.drewN nq).setCell ⟨mb, k1 * 2 + 1, none⟩ (.slice (some ⟨hb, 0, none⟩) la hcap)).ownsRow 0 3 1 (.slice (some ⟨hb, 0, none⟩) la hcap) la (ints (e0.h.take la)) := by
      have h1 := ownsRow_upd HHR.out U2 (fun b hb' e => hpr (by simp [Value.ownBlock] at hb'; rw [hb', e]))
      have h2 := ownsRow_take h1 la (by omega)
      have h3 : (ints e0.h).take (la * 1) = ints (e0.h.take la) := by rw [Nat.mul_one]; simp [ints]
      rw [h3] at h2
      exact h2
    have WR2 := ownsRow_upd C.out.wrow U2 (fun b hb' e => hwm (by simp [Value.ownBlock] at hb'; rw [hb', e]))
    have RL2 := ownsRow_upd C.out.ls.row U2 (fun b hb' e => hgm (by simp [Value.ownBlock] at hb'; rw [hb', e]))
    have hrl : (L.map (·.1)).set (Nat.log2 s) (.slice (some ⟨mb, 0, none⟩) n mcap) = L.map (·.1) := by
      apply List.ext_getElem?
      intro j
      rw [List.getElem?_set]
      split
      · rename_i e; subst e
        rw [List.getElem?_map, HAT.out, if_pos (by simpa using hk)]; rfl
      · rfl
    have HU2 := Lib.hid U2; have HRM2 := Lib.hid RM2; have HRH2 := Lib.hid RH2; have HWR2 := Lib.hid WR2; have HRL2 := Lib.hid RL2; have HRL := Lib.hid hrl
    clear U2 RM2 RH2 WR2 RL2 hrl
    by_cases hil2 : i < la
    · have hil3 : (i : Int) < la := by omega
      go_wp2_with fail
      have hh3 : ((e0.h.take la).set i mo).length = la := by rw [List.length_set, List.length_take, HLA.out]; omega
      have gh3 : ∀ j, j < la → ((e0.h.take la).set i mo).getD j 0 = if j = i then mo else e0.h.getD j 0 := fun j hj => by
        rw [getD_set _ _ _ _ (by rw [List.length_take, HLA.out]; omega)]
        split
        · rfl
        · simp only [List.getD_eq_getElem?_getD, List.getElem?_take, if_pos hj]
      have hall : ∀ j, j < la → ((e0.h.take la).set i mo).getD j 0 < m := fun j hj => by
        rw [gh3 j hj]
        split
        · exact hmom
        · rw [← C.out.len]; exact HO.out.lt j (by rw [HLA.out]; omega)
      have hgi : ((e0.h.take la).set i mo).getD i 0 = mo := by rw [gh3 i hil2, if_pos rfl]
      have HV3 : HV (((w1.drewN nq).setCell ⟨mb, k1 * 2 + 1, none⟩ (.slice (some ⟨hb, 0, none⟩) la hcap)).setCell ⟨hb, i, none⟩ (.int .i64 mo)) p wb hb m mc la hcap ((e0.h.take la).set i mo) ws := by
        have U3 : Upd (fun b => b = hb) ((w1.drewN nq).setCell ⟨mb, k1 * 2 + 1, none⟩ (.slice (some ⟨hb, 0, none⟩) la hcap)) (((w1.drewN nq).setCell ⟨mb, k1 * 2 + 1, none⟩ (.slice (some ⟨hb, 0, none⟩) la hcap)).setCell ⟨hb, i, none⟩ (.int .i64 mo)) := upd_set _ _ _ _
        have P2 := HU2.out.heap_some C.out.blk hpm
        have P3 := U3.heap_some P2 hph
        refine ⟨heap_cell P3 0, ownsRow_upd HWR2.out U3 (fun b hb' e => hwh (by simp [Value.ownBlock] at hb'; rw [hb', e])), ?_, hpw, hph, hwh, C.out.small, C.out.w64⟩
        have h1 := (HRH2.out.stored i (.int .i64 mo)).1
        rw [← ints_set] at h1
        exact h1
      have HHV3 := Lib.hid HV3; have HALL := Lib.hid hall; have HGI := Lib.hid hgi; have HH3 := Lib.hid hh3
      clear HV3 hall hgi hh3 gh3
      refine (fall_at _ p wb hb m mc la hcap _ ws HHV3.out i hil2 (by omega) HALL.out).mono ?_
      rw [HGI.out]
      obtain ⟨R, hR⟩ : ∃ R, fallP mo i ((e0.h.take la).set i mo) ws = R := ⟨_, rfl⟩
      rw [hR]
      have hfa := fallP_all (fun z => z < m) mo hmom _ i ((e0.h.take la).set i mo) ws (Nat.le_refl _) (by rw [HH3.out]; exact hil2) (fun j hj => HALL.out j (by rw [HH3.out] at hj; exact hj))
      rw [hR, HH3.out] at hfa
      have HFA := Lib.hid hfa; have HR := Lib.hid hR
      clear hfa hR
      rintro e w4 ⟨rfl, hv4, hu4⟩
      have HV4 := Lib.hid hv4; have HU4 := Lib.hid hu4
      have U24 : Upd (fun b => b = hb ∨ b = wb) ((w1.drewN nq).setCell ⟨mb, k1 * 2 + 1, none⟩ (.slice (some ⟨hb, 0, none⟩) la hcap)) w4 := ((upd_set _ hb i _).mono (fun b _ h => .inl h)).trans' hu4
      have RM4 := ownsRow_upd (HRM2.out (delP i e0.h ws).1) U24 (fun b hb' e => by
        simp [Value.ownBlock] at hb'
        rcases e with h | h
        · exact hpr (by rw [hb', h])
        · exact hwm (by rw [hb', h]))
      have cv4 := RM4.cellAt (k1 * 2 + 1) (by omega)
      rw [(flatE_at _ k1 ⟨e0.s, .slice (some ⟨hb, 0, none⟩) la hcap, (delP i e0.h ws).1⟩ (by rw [← HK1.out]; simp)).2] at cv4
      dsimp only at cv4
      have HRM4 := Lib.hid RM4; have HU24 := Lib.hid U24
      clear hv4 hu4 U24 RM4
      go_wp2_with fail
      refine (rise_at w4 p wb hb m mc la hcap R.1 R.2 HV4.out i hil2 (by omega) HFA.out.2).mono ?_
      rintro e w5 ⟨rfl, hv5, hu5⟩
      have HV5 := Lib.hid hv5; have HU5 := Lib.hid hu5
      clear hv5 hu5
      go_wp2
      refine bodyPost_end (v := .tuple #[]) (results_none rfl _ _ _) rfl ?_
      have hd : riseP (R.1.getD i 0) i R.1 R.2 = delP i e0.h ws := by
        rw [delP, if_pos (by rw [HLA.out]; omega), HLA.out]
        simp only [Nat.add_sub_cancel]
        rw [HMO.out, HR.out]
      have hv := HV5.out
      rw [hd] at hv
      obtain ⟨D1, D2, hD⟩ : ∃ D1 D2, delP i e0.h ws = (D1, D2) := ⟨_, _, rfl⟩
      have hrm4 := HRM4.out
      rw [hD] at hv hrm4
      dsimp only at hv hrm4
      have hu5 : Upd (fun b => b = hb ∨ b = wb) w4 w5 := HU5.out
      have hD1 : D1.length = la := hv.m_eq.2
      have u05 := HU24.out.trans' hu5
      refine del_done C.out OK.out (mv := .slice (some ⟨mb, 0, none⟩) n mcap) (by rw [HAT.out]; simp) P1.out HHI.out HES.out HXH.out hf (h' := D1) (ws' := D2) (by rw [HY.out, HI.out]; exact hD) (.inr ⟨.slice (some ⟨hb, 0, none⟩) la hcap, rfl, fun h => by rw [h] at hD1; simp at hD1; omega, by rw [hD1]; exact hv.hrow, by rw [HEV.out]; rfl⟩) ?_ ?_ (.inl rfl) ?_ hv.wrow
      · exact (HU2.out.mono (fun b _ h => .inr (.inl (by rw [h]; rfl)))).trans' (u05.mono (fun b _ h => h.elim (fun h => .inr (.inr (.inl (by rw [HEV.out, h]; rfl)))) (fun h => .inl h)))
      · rw [show (l1 ++ [(⟨s, .slice (some ⟨hb, 0, none⟩) la hcap, D1⟩ : Ent Value)] ++ l2).length = n by rw [← HNL.out]; simp]
        rw [HES.out] at hrm4
        refine ownsRow_upd hrm4 hu5 (fun b hb' e => ?_)
        simp [Value.ownBlock] at hb'
        rcases e with h | h
        · exact hpr (by rw [hb', h])
        · exact hwm (by rw [hb', h])
      · rw [HRL.out]
        refine ownsRow_upd HRL2.out u05 (fun b hb' e => ?_)
        simp [Value.ownBlock] at hb'
        rcases e with h | h
        · exact hgh (by rw [hb', h])
        · exact hgw (by rw [hb', h])
    · have hil3 : ¬ (i : Int) < la := by omega
      go_wp2
      refine bodyPost_end (v := .tuple #[]) (results_none rfl _ _ _) rfl ?_
      have hd : delP (ws.getD x 0 % 4294967296) e0.h ws = (e0.h.take la, ws) := by
        rw [HY.out, HI.out, delP, if_neg (by rw [HLA.out]; omega), HLA.out]; rfl
      have hne : e0.h.take la ≠ [] := fun h => by have := congrArg List.length h; rw [List.length_take, HLA.out] at this; simp at this; omega
      have htl : (e0.h.take la).length = la := by rw [List.length_take, HLA.out]; omega
      refine del_done C.out OK.out (mv := .slice (some ⟨mb, 0, none⟩) n mcap) (by rw [HAT.out]; simp) P1.out HHI.out HES.out HXH.out hf hd (.inr ⟨.slice (some ⟨hb, 0, none⟩) la hcap, rfl, hne, by rw [htl]; exact HRH2.out, by rw [HEV.out]; rfl⟩) (HU2.out.mono (fun b _ h => .inr (.inl (by rw [h]; rfl)))) ?_ (.inl rfl) (by rw [HRL.out]; exact HRL2.out) HWR2.out
      have h1 := HRM2.out (e0.h.take la)
      rw [HES.out] at h1
      rw [show (l1 ++ [(⟨s, .slice (some ⟨hb, 0, none⟩) la hcap, e0.h.take la⟩ : Ent Value)] ++ l2).length = n by rw [← HNL.out]; simp]
      exact h1
end Go.Proofs.YtelohkppbmahnaaDoor
