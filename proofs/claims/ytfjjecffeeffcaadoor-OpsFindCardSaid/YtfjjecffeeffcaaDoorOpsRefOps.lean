/- Layer 5 (ops): the document's answer: Ops. -/
import Derived.Test.YtfjjecffeeffcaaDoorOpsRefs
namespace Go.Proofs.YtfjjecffeeffcaaDoor
open Go.RowKit

theorem lines_get (k : Nat) (hk : k < 18) : linesC[k]? = some (strV (linesL.getD k [])) := by
  have a2 : k < linesL.length := hk
  simp [linesC, List.getElem?_eq_getElem a2]
theorem firsts_get (k : Nat) (hk : k < 18) : firstsC[k]? = some (.int .i64 (firstsL.getD k 0)) := by
  have a2 : k < firstsL.length := hk
  simp [firstsC, List.getElem?_eq_getElem a2]
theorem grown_of_below {w w' : World} (h : Below w.heap.size w w') : w.grownBy w' none := ⟨h.os, h.tape, h.output, h.size, fun k hk _ => h.block k hk⟩
theorem row_below {w w' : World} (h : Below w.heap.size w w') {base : Nat} {e : TypeId} {size : Nat} {v : Value} {n : Nat} {xs : List Value} (hr : w.ownsRow base e size v n xs) : w'.ownsRow base e size v n xs :=
  hr.kept (grown_of_below h) (by rcases v.ownBlock with _ | g <;> simp)
theorem refs_len : ∀ k, k ≤ 18 → (opsR k).length ≤ 200 * k ∧ (namesR k).length ≤ 200 * k
  | 0, _ => ⟨Nat.le_refl _, Nat.le_refl _⟩
  | k + 1, h => by
    obtain ⟨f, l, -, -, -, -, -, h1, h2, h3⟩ := refs_at k (by omega)
    have := refs_len k (by omega)
    rw [h2, h3]
    simp
    omega
theorem rows_apart {w : World} {b b' : Nat} {e e' : TypeId} {size size' n n' : Nat} {v v' : Value} {xs xs' : List Value} (h : w.ownsRow b e size v n xs) (h' : w.ownsRow b' e' size' v' n' xs') (hne : e ≠ e') : v.ownBlock = none ∨ v.ownBlock ≠ v'.ownBlock := by
  rcases h.2 with ⟨rfl, -⟩ | ⟨g, cap, cur, rfl, -, hg, -⟩
  · exact .inl rfl
  · exact .inr fun e1 => not_row_of_type hg hne h' (by rw [← e1]; rfl)
set_option maxHeartbeats 4000000 in
theorem Ops_any (w : World) :
    Calls Tryd.prog 11 #[] w fun e w' => ∃ v u, e = .returned (.tuple #[v, u]) ∧ w'.ownsRow w.heap.size 23 1 v (opsR 18).length ((opsR 18).map (Value.int .i64)) ∧
      w'.ownsRow w.heap.size 9 1 u (namesR 18).length ((namesR 18).map strV) ∧ Below w.heap.size w w' := by
  obtain ⟨i0, hi, hz0, hz1, hz2⟩ := info_parts Tryd.infoOp
  have Hi := Lib.hid hi; have Hz0 := Lib.hid hz0; have Hz1 := Lib.hid hz1; have Hz2 := Lib.hid hz2
  clear hi hz0 hz1 hz2
  obtain ⟨i1, hi, hz0, hz1, hz2⟩ := info_parts Tryd.infoString
  have Hi' := Lib.hid hi; have Hz0' := Lib.hid hz0; have Hz1' := Lib.hid hz1; have Hz2' := Lib.hid hz2
  clear hi hz0 hz1 hz2
  have hsl := store_lines
  have hsf := store_firsts
  obtain ⟨L, hL⟩ : ∃ L, linesC = L := ⟨_, rfl⟩
  have hLs : L.size = 18 := by rw [← hL]; rfl
  rw [hL] at hsl
  have HL := Lib.hid hL
  clear hL
  obtain ⟨F, hF⟩ : ∃ F, firstsC = F := ⟨_, rfl⟩
  have hFs : F.size = 18 := by rw [← hF]; rfl
  rw [hF] at hsf
  have HF := Lib.hid hF
  clear hF
  go_enter Tryd.func11, Tryd.ntmps11
  go_wp2_with fail
  refine (lines_any _).mono ?_
  rintro e w1 ⟨rfl, hb1⟩
  rw [HL.out]
  have HB1 := Lib.hid hb1
  clear hb1
  go_wp2_with fail
  refine (firsts_any _).mono ?_
  rintro e w2 ⟨rfl, hb2⟩
  rw [HF.out]
  have HB2 := Lib.hid hb2
  clear hb2
  go_wp2
  obtain ⟨X, hX⟩ : ∃ X, w1.heap.size = X := ⟨_, rfl⟩
  obtain ⟨Y, hY⟩ : ∃ Y, w2.heap.size = Y := ⟨_, rfl⟩
  obtain ⟨w3, hw3⟩ : ∃ w3, w3 = w2.alloc (.cells F 44) := ⟨_, rfl⟩
  rw [hX, hY, ← hw3]
  have hlX : (w1.alloc (.cells L 42)).heap[X]? = some (.cells L 42 (0, 0)) := by rw [← hX]; exact World.alloc_heap_new _ _
  have hXlt : X < (w1.alloc (.cells L 42)).heap.size := (Array.getElem?_eq_some_iff.1 hlX).1
  have hlX2 : w2.heap[X]? = some (.cells L 42 (0, 0)) := by rw [HB2.out.block _ hXlt]; exact hlX
  have hX3 : w3.heap[X]? = some (.cells L 42 (0, 0)) := by
    rw [hw3, Below.heap_alloc _ _ _ (Array.getElem?_eq_some_iff.1 hlX2).1]; exact hlX2
  have hY3 : w3.heap[Y]? = some (.cells F 44 (0, 0)) := by rw [hw3, ← hY]; exact World.alloc_heap_new _ _
  have hb3 : Below w.heap.size w w3 := by
    rw [hw3]
    have h1 : Below w.heap.size w (w1.alloc (.cells L 42)) := HB1.out.alloc HB1.out.size _
    have h2 : Below w.heap.size w w2 := h1.trans (HB2.out.mono h1.size)
    exact h2.alloc h2.size _
  have HX3 := Lib.hid hX3; have HY3 := Lib.hid hY3; have HB3 := Lib.hid hb3
  clear hw3 hX hY hlX hlX2 hXlt hX3 hY3 hb3 HB1 HB2 hsl hsf
  go_loopw [2, 3, 6] (fun t1 t2 t3 wr => ∃ (k : Nat), k ≤ 18 ∧ t3 = .int .i64 k ∧ wr.ownsRow w.heap.size 23 1 t1 (opsR k).length ((opsR k).map (Value.int .i64)) ∧
      wr.ownsRow w.heap.size 9 1 t2 (namesR k).length ((namesR k).map strV) ∧ Below w.heap.size w wr ∧ wr.heap[X]? = some (.cells L 42 (0, 0)) ∧ wr.heap[Y]? = some (.cells F 44 (0, 0))) (fun _ _ t3 _ => 18 - (intOf t3).toNat)
  case atStart => exact ⟨0, by omega, rfl, World.ownsRow_nil _ _ _ _, World.ownsRow_nil _ _ _ _, HB3.out, HX3.out, HY3.out⟩
  case round =>
    clear HX3 HY3 HB3
    obtain ⟨k, hk, rfl, ho1, ho2, hb, hx, hy⟩ := hrel
    have HO1 := Lib.hid ho1; have HO2 := Lib.hid ho2; have HB := Lib.hid hb
    clear ho1 ho2 hb
    by_cases hlt : k < 18
    · obtain ⟨f, l, hf, hl, hf0, hf1, hll, hlw, hsO, hsN⟩ := refs_at k hlt
      have hcl : L[k]? = some (strV l) := by rw [← HL.out, ← hl]; exact lines_get k hlt
      have hcf : F[k]? = some (.int .i64 f) := by rw [← HF.out, ← hf]; exact firsts_get k hlt
      have q1 := cell_of_block hx k
      rw [hcl] at q1
      have HX := Lib.hid hx; have HY := Lib.hid hy; have HSO := Lib.hid hsO; have HSN := Lib.hid hsN
      clear hx hy hsO hsN hf hl
      unfold strV at q1
      go_wp2_with fail
      refine (words_any l _ hll).mono ?_
      rintro e w4 ⟨vw, rfl, how, hb4⟩
      obtain ⟨ws, hws⟩ : ∃ ws, wordsL l = ws := ⟨_, rfl⟩
      rw [hws] at how hlw HSO HSN
      have hap : ∀ g, vw.ownBlock = some g → u3.ownBlock ≠ some g := fun g h1 h2 => by
        have a1 := (how.lt g h1).1
        have a2 := (HO2.out.lt g h2).2
        omega
      obtain ⟨p, cap, hvw⟩ : ∃ p cap, vw = .slice p ws.length cap := by
        rcases how.2 with ⟨h1, h2⟩ | ⟨g, cap, cur, h1, _⟩
        · exact ⟨none, 0, by rw [h1, h2]⟩
        · exact ⟨_, _, h1⟩
      subst hvw
      have hlen1 := (refs_len k hk).1
      have hlen2 := (refs_len k hk).2
      have r1 := row_below hb4 HO1.out
      have r2 := row_below hb4 HO2.out
      have b4 : Below w.heap.size w w4 := HB.out.trans (hb4.mono HB.out.size)
      have x4 : w4.heap[X]? = some (.cells L 42 (0, 0)) := by rw [hb4.block _ (Array.getElem?_eq_some_iff.1 HX.out).1]; exact HX.out
      have y4 : w4.heap[Y]? = some (.cells F 44 (0, 0)) := by rw [hb4.block _ (Array.getElem?_eq_some_iff.1 HY.out).1]; exact HY.out
      have hsz4 : w.heap.size ≤ w4.heap.size := b4.size
      have how' := ownsRow_low how (Nat.zero_le _)
      have R1 := Lib.hid r1; have R2 := Lib.hid r2; have B4 := Lib.hid b4; have X4 := Lib.hid x4; have Y4 := Lib.hid y4; have HOW := Lib.hid how'; have HAP := Lib.hid hap
      clear r1 r2 b4 x4 y4 how how' hap HO1 HO2 HB HX HY q1 hb4 hws hcl hll
      go_wp2
      go_loopw [2, 3, 8] (fun t1 t2 t3 wi => ∃ (i : Nat), i ≤ ws.length ∧ t3 = .int .i64 i ∧ wi.ownsRow w.heap.size 23 1 t1 ((opsR k).length + i) ((opsR k ++ (List.range i).map fun i : Nat => f + (i : Int)).map (Value.int .i64)) ∧
          wi.ownsRow w.heap.size 9 1 t2 ((namesR k).length + i) ((namesR k ++ ws.take i).map strV) ∧ wi.ownsRow 0 9 1 (.slice p ws.length cap) ws.length (ws.map strV) ∧ (∀ g, (Value.slice p ws.length cap).ownBlock = some g → t2.ownBlock ≠ some g) ∧
          Below w.heap.size w wi ∧ wi.heap[X]? = some (.cells L 42 (0, 0)) ∧ wi.heap[Y]? = some (.cells F 44 (0, 0))) (fun _ _ t3 _ => ws.length - (intOf t3).toNat)
      case atStart => exact ⟨0, by omega, rfl, by simpa using R1.out, by simpa using R2.out, HOW.out, HAP.out, B4.out, X4.out, Y4.out⟩
      case round =>
        clear R1 R2 B4 X4 Y4 HOW HAP
        obtain ⟨i, hi, rfl, ho1, ho2, how, hap, hb, hx, hy⟩ := hrel
        have q1 := cell_of_block hy k
        rw [hcf] at q1
        have HO1 := Lib.hid ho1; have HO2 := Lib.hid ho2; have HOW := Lib.hid how; have HAP := Lib.hid hap; have HB := Lib.hid hb; have HX := Lib.hid hx; have HY := Lib.hid hy
        clear ho1 ho2 how hap hb hx hy
        by_cases hil : i < ws.length
        · obtain ⟨g, rfl⟩ : ∃ g, p = some ⟨g, 0, none⟩ := by
            rcases HOW.out.2 with ⟨_, h2⟩ | ⟨g, cap, cur, h1, _⟩
            · omega
            · exact ⟨g, by simpa using (Value.slice.inj h1).1⟩
          have hown := HO1.out
          go_wp2_with (at_builtin; refine wpList_append_own _ rfl _ _ 26 rfl w.heap.size 23 i0 (.int .i64 0) 1 8 Tryd.underlying26 Hi.out Hz0.out Hz1.out Hz2.out rfl (by decide) _ _ _ rfl (hown.alloc _) ⟨wr.heap.size, 0, none⟩ 1 1 [.int .i64 (f + i)] rfl rfl ?c1 ?c2 ?c3 ?c4 ?c5 ?_)
          case c1 => exact cell_one_new _ _ _
          case c2 => simp [Value.oneCell']
          case c3 => unfold maxLen; omega
          case c4 => omega
          case c5 => have := HB.out.size; simp; omega
          intro v' w5 hown1 hgrow _
          have hb5 : Below w.heap.size w w5 := (HB.out.alloc HB.out.size _).grown hgrow (by have := HB.out.size; simp; omega) (fun j e => (HO1.out.lt j e).1)
          have x5 : w5.heap[X]? = some (.cells L 42 (0, 0)) := by
            have hlt : X < wr.heap.size := (Array.getElem?_eq_some_iff.1 HX.out).1
            rw [hgrow.block X (by simp; omega) (Ne.symm (not_row_of_type HX.out (by decide) HO1.out)), Below.heap_alloc _ _ _ hlt]
            exact HX.out
          have y5 : w5.heap[Y]? = some (.cells F 44 (0, 0)) := by
            have hlt : Y < wr.heap.size := (Array.getElem?_eq_some_iff.1 HY.out).1
            rw [hgrow.block Y (by simp; omega) (Ne.symm (not_row_of_type HY.out (by decide) HO1.out)), Below.heap_alloc _ _ _ hlt]
            exact HY.out
          have n5 := (HO2.out.alloc (.cells #[.int .i64 (f + i)] 23)).kept hgrow (rows_apart HO2.out HO1.out (by decide))
          have o5 := (HOW.out.alloc (.cells #[.int .i64 (f + i)] 23)).kept hgrow (rows_apart HOW.out HO1.out (by decide))
          clear hown hgrow q1 HO1 HO2 HOW HB HX HY
          obtain ⟨z, hz⟩ : ∃ z, ws[i]? = some z := ⟨ws[i], List.getElem?_eq_getElem hil⟩
          have q2 : w5.cell? ⟨g, i, none⟩ = some (.string ⟨z.toArray⟩) := by
            have hadd : (⟨g, 0, none⟩ : Addr).add i = ⟨g, i, none⟩ := by unfold Addr.add; split <;> simp_all
            rw [← hadd]
            exact o5.cells (g := g) rfl i _ (by rw [List.getElem?_map, hz]; rfl)
          have HO1 := Lib.hid hown1; have HO2 := Lib.hid n5; have HOW := Lib.hid o5; have HB := Lib.hid hb5; have HX := Lib.hid x5; have HY := Lib.hid y5; have HZ := Lib.hid hz
          clear hown1 n5 o5 hb5 x5 y5 hz
          have hown := HO2.out
          go_wp2_with (at_builtin; refine wpList_append_own2 _ rfl _ _ 28 rfl w.heap.size 9 i1 (.string ⟨#[]⟩) 1 16 Tryd.underlying28 Hi'.out Hz0'.out Hz1'.out Hz2'.out rfl (by decide) _ _ _ rfl (hown.alloc _) ⟨w5.heap.size, 0, none⟩ 1 1 [.string ⟨z.toArray⟩] rfl rfl ?c1 ?c2 ?c3 ?c4 ?c5 (by decide) ?_)
          case c1 => exact cell_one_new _ _ _
          case c2 => simp [Value.oneCell']
          case c3 => unfold maxLen; omega
          case c4 => omega
          case c5 => have := HB.out.size; simp; omega
          intro v'' w6 hown2 hgrow hmv
          have hb6 : Below w.heap.size w w6 := (HB.out.alloc HB.out.size _).grown hgrow (by have := HB.out.size; simp; omega) (fun j e => (HO2.out.lt j e).1)
          have x6 : w6.heap[X]? = some (.cells L 42 (0, 0)) := by
            have hlt : X < w5.heap.size := (Array.getElem?_eq_some_iff.1 HX.out).1
            rw [hgrow.block X (by simp; omega) (Ne.symm (not_row_of_type HX.out (by decide) HO2.out)), Below.heap_alloc _ _ _ hlt]
            exact HX.out
          have y6 : w6.heap[Y]? = some (.cells F 44 (0, 0)) := by
            have hlt : Y < w5.heap.size := (Array.getElem?_eq_some_iff.1 HY.out).1
            rw [hgrow.block Y (by simp; omega) (Ne.symm (not_row_of_type HY.out (by decide) HO2.out)), Below.heap_alloc _ _ _ hlt]
            exact HY.out
          have p6 := (HO1.out.alloc (.cells #[.string ⟨z.toArray⟩] 9)).kept hgrow (rows_apart HO1.out HO2.out (by decide))
          have o6 := (HOW.out.alloc (.cells #[.string ⟨z.toArray⟩] 9)).kept hgrow (.inr fun e => HAP.out g rfl e.symm)
          have hap6 : ∀ g1, (Value.slice (some ⟨g, 0, none⟩) ws.length cap).ownBlock = some g1 → v''.ownBlock ≠ some g1 := fun g1 h1 h2 => by
            rcases hmv with h3 | h3
            · exact HAP.out g1 h1 (h3 ▸ h2)
            · have a1 := h3 g1 h2
              have a2 := (HOW.out.lt g1 h1).2
              simp at a1
              omega
          clear hown hgrow q2 HO1 HO2 HOW HB HX HY HAP
          have HO1 := Lib.hid p6; have HO2 := Lib.hid hown2; have HOW := Lib.hid o6; have HB := Lib.hid hb6; have HX := Lib.hid x6; have HY := Lib.hid y6; have HAP := Lib.hid hap6
          clear p6 hown2 o6 hb6 x6 y6 hap6 hmv
          go_wp2
          go_roundw
          case rel => exact ⟨i + 1, by omega, by go_num, by have := HO1.out; simp only [List.range_succ, List.map_append, List.append_assoc, List.map_cons, List.map_nil] at this ⊢; simpa [Nat.add_assoc] using this, by
            have := HO2.out
            have e1 : (namesR k ++ ws.take (i + 1)).map strV = (namesR k ++ ws.take i).map strV ++ [.string ⟨z.toArray⟩] := by
              rw [List.take_add_one, HZ.out]; simp [strV]
            rw [e1]; simpa [Nat.add_assoc] using this, HOW.out, HAP.out, HB.out, HX.out, HY.out⟩
          case measure => simp [intOf]; omega
        · obtain rfl : i = ws.length := by omega
          go_wp2
          go_roundw
          case rel => exact ⟨k + 1, by omega, by go_num, by rw [HSO.out]; simpa using HO1.out, by rw [HSN.out]; simpa using HO2.out, HB.out, HX.out, HY.out⟩
          case measure => simp [intOf]; omega
    · obtain rfl : k = 18 := by omega
      go_wp2
      go_ret2
      exact ⟨_, _, rfl, HO1.out, HO2.out, HB.out⟩
end Go.Proofs.YtfjjecffeeffcaaDoor
