/- geoderef20 in plain lists: the document's arena keeps the words of free blocks; what is told is alike. -/
import Derived.Test.YtelohkppbmahnaaDoorQArFreshPBd
import Derived.Test.YtelohkppbmahnaaDoorQArAllBd
namespace Go.Proofs.YtelohkppbmahnaaDoor

/-- A block without what is left in it when it is free. -/
def canon (b : Blk) : Blk := if b.u then b else ⟨b.a, zeros b.n, false, b.m⟩
def canonL (l : List Blk) : List Blk := l.map canon
theorem canon_s (b : Blk) : (canon b).a = b.a ∧ (canon b).n = b.n ∧ (canon b).u = b.u ∧ (canon b).m = b.m := by
  unfold canon
  split
  · exact ⟨rfl, rfl, rfl, rfl⟩
  · rename_i h
    exact ⟨rfl, zeros_len _, by cases hb : b.u <;> simp_all, rfl⟩
theorem canon_u {b : Blk} (h : b.u = true) : canon b = b := if_pos h
theorem canon_f {b : Blk} (h : b.u = false) : canon b = ⟨b.a, zeros b.n, false, b.m⟩ := if_neg (by rw [h]; simp)
theorem canon_canon (b : Blk) : canon (canon b) = canon b := by
  cases h : b.u
  · rw [canon_f h, canon_f rfl]; simp [Blk.n, zeros_len]
  · rw [canon_u h, canon_u h]
theorem canonL_app (l r : List Blk) : canonL (l ++ r) = canonL l ++ canonL r := List.map_append ..
theorem canonL_mem {l : List Blk} {c : Blk} (h : c ∈ canonL l) : ∃ b ∈ l, canon b = c := List.mem_map.1 h
theorem wf_canon {m : Nat} {l : List Blk} : Wf m (canonL l) ↔ Wf m l := by
  have e : ∀ b, (canon b).a = b.a ∧ (canon b).n = b.n := fun b => ⟨(canon_s b).1, (canon_s b).2.1⟩
  have sp : ∀ (l : List Blk) (s t : Nat), Span s (canonL l) t → Span s l t := by
    intro l
    induction l with
    | nil => intro s t h; exact h
    | cons b l ih =>
      intro s t ⟨h1, h2, h3⟩
      exact ⟨by rw [← (e b).1]; exact h1, by rw [← (e b).2]; exact h2, by rw [← (e b).2]; exact ih _ _ h3⟩
  constructor
  · intro h
    refine ⟨h.small, sp _ _ _ h.span, fun b hb c hc hbu hcu => ?_, fun b hb hu => ?_⟩
    · have := h.two (canon b) (List.mem_map.2 ⟨b, hb, rfl⟩) (canon c) (List.mem_map.2 ⟨c, hc, rfl⟩) (by rw [(canon_s b).2.2.1]; exact hbu) (by rw [(canon_s c).2.2.1]; exact hcu)
      rw [(e b).1, (e b).2, (e c).1] at this; exact this
    · have := h.unm (canon b) (List.mem_map.2 ⟨b, hb, rfl⟩) (by rw [(canon_s b).2.2.1]; exact hu)
      rw [(canon_s b).2.2.2] at this; exact this
  · intro h
    refine ⟨h.small, Span.map e h.span, fun b hb c hc hbu hcu => ?_, fun b hb hu => ?_⟩
    · obtain ⟨b', hb', rfl⟩ := canonL_mem hb
      obtain ⟨c', hc', rfl⟩ := canonL_mem hc
      rw [(canon_s _).2.2.1] at hbu hcu
      rw [(e _).1, (e _).2, (e _).1]; exact h.two b' hb' c' hc' hbu hcu
    · obtain ⟨b', hb', rfl⟩ := canonL_mem hb
      rw [(canon_s _).2.2.1] at hu
      rw [(canon_s _).2.2.2]; exact h.unm b' hb' hu
/-! JOIN -/
/-- One block behind the ones so far: joined with the last one, if both are free. -/
def putJ (out : List Blk) (b : Blk) : List Blk :=
  match out.getLast? with
  | some x => if b.u = false ∧ x.u = false then out.dropLast ++ [⟨x.a, zeros (x.n + 1 + b.n), false, x.m⟩] else out ++ [b]
  | none => out ++ [b]
def joinL (l : List Blk) : List Blk := l.foldl putJ []
theorem putJ_nil (b : Blk) : putJ [] b = [b] := rfl
theorem putJ_snoc (o : List Blk) (x b : Blk) : putJ (o ++ [x]) b = if b.u = false ∧ x.u = false then o ++ [⟨x.a, zeros (x.n + 1 + b.n), false, x.m⟩] else o ++ [x] ++ [b] := by
  unfold putJ
  rw [List.getLast?_append]
  simp
/-- No two free ones stand side by side. -/
def NA : List Blk → Prop
  | [] => True
  | [_] => True
  | x :: y :: l => ¬ (x.u = false ∧ y.u = false) ∧ NA (y :: l)
theorem NA.tail {x : Blk} {l : List Blk} (h : NA (x :: l)) : NA l := by
  cases l with
  | nil => trivial
  | cons y l => exact h.2
theorem NA.norm : ∀ {l : List Blk}, NA l → normB l = l
  | [], _ => rfl
  | [x], _ => rfl
  | x :: y :: l, h => by
    rw [normB_cons, NA.norm h.2, glue_cons, if_neg h.1]
theorem NA.snoc : ∀ {o : List Blk} {x b : Blk}, NA (o ++ [x]) → ¬ (x.u = false ∧ b.u = false) → NA (o ++ [x] ++ [b])
  | [], _, _, _, hb => ⟨hb, trivial⟩
  | [_], _, _, h, hb => ⟨h.1, hb, trivial⟩
  | _ :: z :: o, _, _, h, hb => ⟨h.1, NA.snoc (o := z :: o) h.2 hb⟩
theorem NA.swap : ∀ {o : List Blk} {x y : Blk}, NA (o ++ [x]) → y.u = x.u → NA (o ++ [y])
  | [], _, _, _, _ => trivial
  | [z], x, y, h, e => ⟨by have := h.1; rw [e]; exact this, trivial⟩
  | z :: z2 :: o, x, y, h, e => ⟨h.1, NA.swap (o := z2 :: o) h.2 e⟩
theorem glue_two {x b : Blk} {R : List Blk} (hx : x.u = false) (hb : b.u = false) : glue x (glue b R) = glue ⟨x.a, zeros (x.n + 1 + b.n), false, false⟩ R := by
  cases R with
  | nil =>
    show glue x [b] = _
    rw [glue_cons, if_pos ⟨hx, hb⟩, show x.n + b.n + 1 = x.n + 1 + b.n by omega]; rfl
  | cons c r =>
    rw [glue_cons b c r]
    split
    · rename_i h
      rw [glue_cons, if_pos ⟨hx, rfl⟩, glue_cons, if_pos ⟨rfl, h.2⟩]
      simp only [Blk.n, zeros_len]
      congr 3
      omega
    · rename_i h
      have hc : ¬ c.u = false := fun e => h ⟨hb, e⟩
      rw [glue_cons, if_pos ⟨hx, hb⟩, glue_cons, if_neg (fun e => hc e.2), show x.n + b.n + 1 = x.n + 1 + b.n by omega]
theorem norm_two {o l : List Blk} {x b : Blk} (hx : x.u = false) (hb : b.u = false) : normB (o ++ [x] ++ b :: l) = normB (o ++ [⟨x.a, zeros (x.n + 1 + b.n), false, false⟩] ++ l) := by
  unfold normB
  have e : (x :: b :: l).foldr glue [] = ((⟨x.a, zeros (x.n + 1 + b.n), false, false⟩ : Blk) :: l).foldr glue [] := glue_two hx hb
  rw [List.append_assoc, List.append_assoc, List.foldr_append, List.foldr_append (l := o)]
  exact congrArg (fun r => o.foldr glue r) e
theorem join_canon_go : ∀ (l out : List Blk), NA out → (∀ b ∈ out ++ l, b.u = false → b.m = false) → NA (l.foldl putJ out) ∧ canonL (l.foldl putJ out) = normB (canonL (out ++ l)) ∧ ∀ b ∈ l.foldl putJ out, b.u = false → b.m = false
  | [], out, hn, hm => by
    have hc : ∀ l : List Blk, NA l → NA (canonL l) := by
      intro l
      induction l with
      | nil => intro _; trivial
      | cons x l ih =>
        intro h
        cases l with
        | nil => trivial
        | cons y l => exact ⟨by rw [(canon_s x).2.2.1, (canon_s y).2.2.1]; exact h.1, ih h.2⟩
    refine ⟨hn, ?_, by simpa using hm⟩
    rw [List.append_nil, (hc out hn).norm]; rfl
  | b :: l, out, hn, hm => by
    rw [List.foldl_cons]
    rcases List.eq_nil_or_concat out with rfl | ⟨o, x, rfl⟩
    · rw [putJ_nil]
      exact join_canon_go l [b] trivial hm
    · rw [List.concat_eq_append] at hn hm ⊢
      rw [putJ_snoc]
      split
      · rename_i h
        have hxm : x.m = false := hm x (by simp) h.2
        have h1 := join_canon_go l (o ++ [⟨x.a, zeros (x.n + 1 + b.n), false, x.m⟩]) (hn.swap (by rw [h.2])) (fun c hc hu => by
          simp only [List.append_assoc, List.mem_append, List.mem_cons, List.singleton_append] at hc
          rcases hc with hc | rfl | hc
          · exact hm c (by simp [hc]) hu
          · exact hxm
          · exact hm c (by simp [hc]) hu)
        refine ⟨h1.1, ?_, h1.2.2⟩
        rw [h1.2.1]
        have e1 : canonL (o ++ [x] ++ b :: l) = canonL o ++ [canon x] ++ canon b :: canonL l := by simp [canonL]
        have e2 : canonL (o ++ [⟨x.a, zeros (x.n + 1 + b.n), false, x.m⟩] ++ l) = canonL o ++ [⟨x.a, zeros (x.n + 1 + b.n), false, false⟩] ++ canonL l := by
          simp only [canonL, List.map_append, List.map_cons, List.map_nil]
          rw [canon_f rfl, hxm]; simp [Blk.n, zeros_len]
        rw [e1, e2, norm_two (by rw [(canon_s x).2.2.1]; exact h.2) (by rw [(canon_s b).2.2.1]; exact h.1), (canon_s x).1, (canon_s x).2.1, (canon_s b).2.1]
      · rename_i h
        have h1 := join_canon_go l (o ++ [x] ++ [b]) (hn.snoc (fun e => h ⟨e.2, e.1⟩)) (by simpa using hm)
        refine ⟨h1.1, ?_, h1.2.2⟩
        rw [h1.2.1]; simp
theorem join_canon {l : List Blk} (hm : ∀ b ∈ l, b.u = false → b.m = false) : canonL (joinL l) = normB (canonL l) := (join_canon_go l [] trivial (by simpa using hm)).2.1
/-! THE CALLS -/
/-- The document's blocks and the arena's. -/
def Eqv (bA bR : List Blk) : Prop := bA = canonL bR
theorem used_canon (bR : List Blk) : usedSum (canonL bR) = usedSum bR := by
  unfold usedSum canonL
  rw [List.map_map]
  congr 1
  refine List.map_congr_left fun b _ => ?_
  show (if (canon b).u then (canon b).n + 1 else 0) = _
  rw [(canon_s b).2.2.1, (canon_s b).2.1]
theorem room_canon : ∀ bR : List Blk, roomOf (canonL bR) = roomOf bR
  | [] => rfl
  | b :: l => by
    show (if (canon b).u then roomOf (canonL l) else max (canon b).n (roomOf (canonL l))) = _
    rw [(canon_s b).2.2.1, (canon_s b).2.1, room_canon l]; rfl
theorem blkAt_canon (bR : List Blk) (q : Int) : blkAt (canonL bR) q = blkAt bR q := by
  induction bR with
  | nil => rfl
  | cons b l ih =>
    have e : blkAt (canonL (b :: l)) q = if (canon b).u && (((canon b).a : Int) == q) then some (canon b) else blkAt (canonL l) q := by
      unfold blkAt canonL
      rw [List.map_cons, List.find?_cons]
      split <;> simp_all
    have e2 : blkAt (b :: l) q = if b.u && ((b.a : Int) == q) then some b else blkAt l q := by
      unfold blkAt
      rw [List.find?_cons]
      split <;> simp_all
    rw [e, e2, ih, (canon_s b).2.2.1, (canon_s b).1]
    cases hu : b.u
    · simp
    · rw [canon_u hu]
theorem get_canon (bR : List Blk) (q k : Int) : getF (canonL bR) q k = getF bR q k := by unfold getF; rw [blkAt_canon]
theorem size_canon (bR : List Blk) (q : Int) : sizeF (canonL bR) q = sizeF bR q := by unfold sizeF; rw [blkAt_canon]
theorem usedAt_canon (bR : List Blk) (q : Int) : usedAt (canonL bR) q = usedAt bR q := by
  unfold usedAt canonL
  rw [List.any_map]
  congr 1
  funext b
  show ((canon b).u && (((canon b).a : Int) == q)) = _
  rw [(canon_s b).2.2.1, (canon_s b).1]
theorem set_canon (bR : List Blk) (q k : Int) (v : Nat) (hw : ∀ b ∈ bR, ∀ c ∈ bR, b.a = c.a → b = c) : setF (canonL bR) q k v = ((setF bR q k v).1, canonL (setF bR q k v).2) := by
  unfold setF
  rw [blkAt_canon]
  cases hb : blkAt bR q with
  | none => rfl
  | some b =>
    dsimp only
    split
    · refine Prod.ext rfl ?_
      show (canonL bR).map _ = canonL (bR.map _)
      unfold canonL
      rw [List.map_map, List.map_map]
      have hb1 := List.mem_of_find?_eq_some hb
      have hb2 := List.find?_some hb
      simp only [Bool.and_eq_true] at hb2
      refine List.map_congr_left fun c hc => ?_
      simp only [Function.comp_apply]
      rw [(canon_s c).1]
      split
      · rename_i e
        obtain rfl := hw c hc b hb1 e
        rw [canon_u hb2.1, canon_u (by exact hb2.1)]
      · rfl
    · rfl
theorem mark_canon (bR : List Blk) (q : Int) (hw : ∀ b ∈ bR, ∀ c ∈ bR, b.a = c.a → b = c) : markG (canonL bR) q = ((markG bR q).1, canonL (markG bR q).2) := by
  unfold markG
  rw [blkAt_canon]
  cases hb : blkAt bR q with
  | none => rfl
  | some b =>
    dsimp only
    have hb1 := List.mem_of_find?_eq_some hb
    have hb2 := List.find?_some hb
    simp only [Bool.and_eq_true] at hb2
    split
    · rfl
    · refine Prod.ext rfl ?_
      show markF (canonL bR) b.a = canonL (markF bR b.a)
      unfold markF canonL
      rw [List.map_map, List.map_map]
      refine List.map_congr_left fun c hc => ?_
      simp only [Function.comp_apply]
      rw [(canon_s c).1]
      split
      · rename_i e
        obtain rfl := hw c hc b hb1 e
        rw [canon_u hb2.1, canon_u (by exact hb2.1)]
      · rfl
theorem free_canon (bR : List Blk) (x : Nat) : freeF (canonL bR) x = normB (canonL (bR.map fun c => if c.a = x then ⟨c.a, c.ws, false, false⟩ else c)) := by
  unfold freeF canonL
  rw [List.map_map, List.map_map]
  congr 1
  refine List.map_congr_left fun c _ => ?_
  simp only [Function.comp_apply]
  rw [(canon_s c).1, (canon_s c).2.1]
  split
  · rw [canon_f rfl]; rfl
  · rfl
theorem sweep_canon {bR : List Blk} (hm : ∀ b ∈ bR, b.u = false → b.m = false) : sweepF (canonL bR) = normB (canonL (bR.map fun c => ⟨c.a, c.ws, c.u && c.m, false⟩)) := by
  rw [sweepF_def]
  unfold canonL
  rw [List.map_map, List.map_map]
  congr 1
  refine List.map_congr_left fun c hc => ?_
  simp only [Function.comp_apply]
  unfold swB
  rw [(canon_s c).2.2.2]
  cases hcm : c.m
  · rw [Bool.and_false, canon_f (b := ⟨c.a, c.ws, false, false⟩) rfl, if_neg (by simp), (canon_s c).1, (canon_s c).2.1]; rfl
  · have hu : c.u = true := by
      cases h : c.u
      · rw [hm c hc h] at hcm; cases hcm
      · rfl
    rw [canon_u hu, canon_u (by simp [hu])]
    simp [hu]
theorem pick_canon (n : Int) : ∀ bR : List Blk, pickB n (canonL bR) = (pickB n bR).map canon
  | [] => rfl
  | b :: l => by
    have ih := pick_canon n l
    have hf : fits n (canon b) = fits n b := by unfold fits; rw [(canon_s b).2.2.1, (canon_s b).2.1]
    have e1 : canonL (b :: l) = canon b :: canonL l := rfl
    rw [e1]
    simp only [pickB]
    cases hp : pickB n l with
    | none =>
      rw [hp] at ih
      rw [ih]
      dsimp only [Option.map]
      rw [hf]
      cases fits n b <;> rfl
    | some c =>
      rw [hp] at ih
      rw [ih]
      dsimp only [Option.map]
      rw [hf, (canon_s b).2.1, (canon_s c).2.1, (canon_s b).1, (canon_s c).1]
      cases (fits n b && (decide (b.n < c.n) || decide (b.n = c.n) && decide (b.a ≤ c.a))) <;> rfl
theorem take_canon (bR : List Blk) (n : Int) : takeF (canonL bR) n = ((takeF bR n).1, (takeF bR n).2.1, canonL (takeF bR n).2.2) := by
  unfold takeF
  split
  · rfl
  · rw [pick_canon]
    cases pickB n bR with
    | none => rfl
    | some b =>
      dsimp only [Option.map]
      refine Prod.ext (canon_s b).1 (Prod.ext rfl ?_)
      show (canonL bR).flatMap _ = canonL (bR.flatMap _)
      unfold canonL
      rw [List.flatMap_map, List.map_flatMap]
      congr 1
      funext c
      rw [(canon_s c).1, (canon_s b).1]
      split
      · unfold takeB
        rw [(canon_s b).1, (canon_s b).2.1]
        split
        · simp only [List.map_cons, List.map_nil]
          rw [canon_u rfl, canon_f rfl]; simp [Blk.n, zeros_len]
        · simp only [List.map_cons, List.map_nil]
          rw [canon_u rfl]
      · rfl
theorem glue_canon (b : Blk) (l : List Blk) : canonL (glue b l) = glue (canon b) (canonL l) := by
  cases l with
  | nil => rfl
  | cons c r =>
    show canonL (glue b (c :: r)) = glue (canon b) (canon c :: canonL r)
    rw [glue_cons, glue_cons, (canon_s b).2.2.1, (canon_s c).2.2.1, (canon_s b).1, (canon_s b).2.1, (canon_s c).2.1]
    split
    · show canon _ :: canonL r = _
      rw [canon_f rfl]; simp [Blk.n, zeros_len]
    · rfl
theorem norm_canon : ∀ l : List Blk, canonL (normB l) = normB (canonL l)
  | [] => rfl
  | b :: l => by
    rw [normB_cons, glue_canon, norm_canon l]; rfl
theorem canonL_canonL (l : List Blk) : canonL (canonL l) = canonL l := by
  unfold canonL
  rw [List.map_map]
  exact List.map_congr_left fun b _ => canon_canon b
theorem NA.two : ∀ {l : List Blk} {s t : Nat}, Span s l t → NA l → noTwo l
  | [], _, _, _, _ => fun b hb => by simp at hb
  | [x], s, t, hs, _ => fun b hb c hc _ _ => by
    rw [List.mem_singleton] at hb hc; subst hb; subst hc; omega
  | x :: y :: l, s, t, hs, hn => by
    obtain ⟨h1, h2, h3⟩ := hs
    have ih := NA.two h3 hn.2
    have hy : y.a = s + x.n + 1 := h3.1
    intro b hb c hc hbu hcu e
    rcases List.mem_cons.1 hb with rfl | hb'
    · rcases List.mem_cons.1 hc with rfl | hc'
      · omega
      · have : c = y := h3.inj hc' (by simp) (by omega)
        subst this
        exact hn.1 ⟨hbu, hcu⟩
    · rcases List.mem_cons.1 hc with rfl | hc'
      · have := h3.mem b hb'; omega
      · exact ih b hb' c hc' hbu hcu e
theorem joinL_ok {m : Nat} {l : List Blk} (hs : Span 1 (joinL l) (endOf m)) (hm : m ≤ 1048576) (hu : ∀ b ∈ l, b.u = false → b.m = false) : Wf m (joinL l) := by
  obtain ⟨h1, _, h3⟩ := join_canon_go l [] trivial (by simpa using hu)
  exact ⟨hm, hs, NA.two hs h1, h3⟩
end Go.Proofs.YtelohkppbmahnaaDoor
