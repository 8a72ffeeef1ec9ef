/- What the proof of LevelOrbits leans on, part 7 of 13. -/
import Derived.Test.YtgpjcekpmhfljaaZLevelOrbitsF
import Derived.DeepKeys
import Derived.Laws.StructEq
import Derived.Deep.Cut
import Derived.Deep.CutRange
/- The tree of a word: one step (the program's closure). -/
namespace Go.Proofs.Ytgpjcekpmhfljaa
open Go.RowKit
set_option linter.unusedVariables false
set_option linter.unusedSimpArgs false
-- @LONG

/-- A row of a slice of slices set anew; the row's part goes into it. -/
theorem St.setMR {base gn n cap : Nat} {w0 w : World} {L : List Asn} {r : Value} {rows : List Value} {M : List (List Int)} {l : List Int} (h : St base w0 (Asn.mat base (.slice (some ⟨gn, 0, none⟩) n cap) rows M :: Asn.own base 2 r (ints l) :: L) w)
    (hn : M.length = n) (i : Nat) (hi : i < n) : St base w0 (Asn.mat base (.slice (some ⟨gn, 0, none⟩) n cap) (rows.set i r) (M.set i l) :: L) (w.setCell ⟨gn, i, none⟩ r) := by
  obtain ⟨⟨h1, h2, h3⟩, hf, hr, hf2, hL⟩ := h.star
  have hbg : base ≤ gn := (h1.lt gn rfl).1
  have hother : ∀ k, k ≠ gn → (w.setCell ⟨gn, i, none⟩ r).heap[k]? = w.heap[k]? := fun k hk => heap_setCell_other w ⟨gn, i, none⟩ k r (fun e => hk e)
  have hO : Own (w.setCell ⟨gn, i, none⟩ r) base 34 (.slice (some ⟨gn, 0, none⟩) n cap) (rows.set i r) := Own.set h1 (h2.trans hn) i r hi
  have hne : ∀ {r' : Value} {l' : List Value}, Own w base 2 r' l' → ∀ k, r'.ownBlock = some k → k ≠ gn := fun h' k hk e => (h'.ne h1 (by decide) k hk) (by rw [e]; rfl)
  have hb : Below base w (w.setCell ⟨gn, i, none⟩ r) := (Below.refl _ _).setCell hbg r
  refine ⟨h.bel.trans hb, Nat.le_trans h.le hb.size, ⟨hO, by simp [h2], fun j r' l' e1 e2 => ?_⟩, fun k hk hF => ?_, hL.keep fun k hk => hother k fun e => hf gn (.inl rfl) (.inr (e ▸ hk))⟩
  · simp only [List.getElem?_set] at e1 e2
    by_cases e : i = j
    · subst e
      rw [if_pos rfl, if_pos (by omega)] at e1
      rw [if_pos rfl, if_pos (by omega)] at e2
      injection e1 with e1; injection e2 with e2
      subst e1; subst e2
      exact Own.keep hr fun k hk => hother k (hne hr k hk)
    · rw [if_neg e] at e1 e2
      exact (h3 j r' l' e1 e2).keep fun k hk => hother k (hne (h3 j r' l' e1 e2) k hk)
  · rcases hk with hk | ⟨r', hr', hk⟩
    · exact hf k (.inl hk) (.inr hF)
    · rcases List.mem_or_eq_of_mem_set hr' with hr' | rfl
      · exact hf k (.inr ⟨r', hr', hk⟩) (.inr hF)
      · exact hf2 k hk hF
/-- The tree in memory. -/
def treeP (base bt gf cf gw cw n : Nat) (vq : Value) (rows : List Value) (t : Tr) : List Asn :=
  [Asn.blk bt #[vq, .slice (some ⟨gf, 0, none⟩) n cf, .slice (some ⟨gw, 0, none⟩) n cw] 66, Asn.own base 2 vq (nats t.q), Asn.own base 2 (.slice (some ⟨gf, 0, none⟩) n cf) (ints t.far), Asn.mat base (.slice (some ⟨gw, 0, none⟩) n cw) rows t.ways]
/-- What the second part of a step reads. -/
def tcell (bp bt gw n cw bf fr : Nat) (r : Value) (W : World) : Prop :=
  W.cell? ⟨bp, 0, none⟩ = some (.pointer (some ⟨bt, 0, none⟩)) ∧ W.cell? ⟨bt, 2, none⟩ = some (.slice (some ⟨gw, 0, none⟩) n cw) ∧ W.cell? ⟨bf, 0, none⟩ = some (.int .i64 (fr : Nat)) ∧ W.cell? ⟨gw, fr, none⟩ = some r
def qcell (bp bt : Nat) (vq : Value) (W : World) : Prop := W.cell? ⟨bp, 0, none⟩ = some (.pointer (some ⟨bt, 0, none⟩)) ∧ W.cell? ⟨bt, 0, none⟩ = some vq
set_option maxHeartbeats 4000000 in
set_option maxRecDepth 100000 in
theorem meet_any (base : Nat) (w0 : World) (L : List Asn) (w : World) (bp bt bf gf cf gw cw n : Nat) (hbt : base ≤ bt) (hn : n ≤ 81) (vq : Value) (rows : List Value) (t : Tr) (ok : TrOk n t) (fr tx : Nat) (hfr : fr ∈ t.q) (hto : tx < n) (st : Int)
    (hS : St base w0 (treeP base bt gf cf gw cw n vq rows t ++ Asn.blk bp #[.pointer (some ⟨bt, 0, none⟩)] 62 :: Asn.blk bf #[.int .i64 fr] 2 :: L) w) :
    Calls Try.prog 75 #[.int .i64 tx, .int .i64 st, .pointer (some ⟨bp, 0, none⟩), .pointer (some ⟨bf, 0, none⟩)] w fun e w' => e = .returned (.tuple #[]) ∧
      ∃ vq' rows', St base w0 (treeP base bt gf cf gw cw n vq' rows' (meetT t fr tx st) ++ Asn.blk bp #[.pointer (some ⟨bt, 0, none⟩)] 62 :: Asn.blk bf #[.int .i64 fr] 2 :: L) w' := by
  have hfn := ok.qb fr hfr
  have e1 : t.far[tx]? = some (t.far.getD tx 0) := by rw [List.getD_eq_getElem?_getD, List.getElem?_eq_getElem (by rw [ok.fl]; exact hto)]; rfl
  have e2 : t.far[fr]? = some (t.far.getD fr 0) := by rw [List.getD_eq_getElem?_getD, List.getElem?_eq_getElem (by rw [ok.fl]; exact hfn)]; rfl
  have e3 : t.ways[fr]? = some (t.ways.getD fr []) := by rw [List.getD_eq_getElem?_getD, List.getElem?_eq_getElem (by rw [ok.wl]; exact hfn)]; rfl
  have hql := ok.ql
  have hff : 0 ≤ t.far.getD fr 0 ∧ t.far.getD fr 0 < 81 := by
    rcases ok.fb fr _ e2 with h1 | h1
    · exact absurd hfr h1.2
    · have := h1.2.2; omega
  have hww := ok.wb fr _ e3
  have hm1 : meetT t fr tx st = if t.far.getD tx 0 < 0 then ⟨t.q ++ [tx], t.far.set tx (t.far.getD fr 0 + 1), t.ways.set tx (t.ways.getD fr [] ++ [st])⟩ else t := rfl
  have hfl := ok.fl
  have hwl := ok.wl
  obtain ⟨tq, tf, tw⟩ := t
  simp only at hfr e1 e2 e3 hql hff hww hm1 hfl hwl
  replace ok := hid ok
  generalize tf.getD tx 0 = ft at *
  generalize tf.getD fr 0 = ff at *
  generalize tw.getD fr [] = wf at *
  have g1 : (ints tf)[tx]? = some (.int .i64 ft) := by simp [ints, e1]
  have g2 : (ints tf)[fr]? = some (.int .i64 ff) := by simp [ints, e2]
  replace hS := hid (show St base w0 (Asn.blk bt #[vq, .slice (some ⟨gf, 0, none⟩) n cf, .slice (some ⟨gw, 0, none⟩) n cw] 66 :: Asn.own base 2 vq (nats tq) :: Asn.own base 2 (.slice (some ⟨gf, 0, none⟩) n cf) (ints tf) :: Asn.mat base (.slice (some ⟨gw, 0, none⟩) n cw) rows tw ::
    Asn.blk bp #[.pointer (some ⟨bt, 0, none⟩)] 62 :: Asn.blk bf #[.int .i64 fr] 2 :: L) w from hS)
  have q1 : w.cell? ⟨bp, 0, none⟩ = some (.pointer (some ⟨bt, 0, none⟩)) := cell_of_row _ _ 0 _ _ _ hS.out.k4
  have q2 : w.cell? ⟨bt, 1, none⟩ = some (.slice (some ⟨gf, 0, none⟩) n cf) := cell_of_row _ _ 1 _ _ _ hS.out.k0
  have q3 : w.cell? ⟨gf, tx, none⟩ = some (.int .i64 ft) := hS.out.o2.cellAt tx _ g1
  have q4 : w.cell? ⟨gf, fr, none⟩ = some (.int .i64 ff) := hS.out.o2.cellAt fr _ g2
  have q5 : w.cell? ⟨bf, 0, none⟩ = some (.int .i64 fr) := cell_of_row _ _ 0 _ _ _ hS.out.k5
  have t0 : (0 : Int) ≤ (tx : Int) := Int.natCast_nonneg _
  have t1 : (tx : Int) < (n : Int) := by omega
  have f0 : (0 : Int) ≤ (fr : Int) := Int.natCast_nonneg _
  have f1 : (fr : Int) < (n : Int) := by omega
  by_cases hneg : ft < 0
  · rw [if_pos hneg] at hm1
    rw [hm1]
    have ef : IntKind.i64.wrap (ff + 1) = ff + 1 := IntWalk.i64_in _ (by omega)
    have hcl := hid (fun W b v (hO : Own W b 2 v (ints wf)) => clone_any W b v wf hO (by omega))
    have hqn := hid (nats_length tq)
    have fo := hS.out.o2.frozenAt (by rw [ints_length]; exact hfl) tx
    replace hm1 := hid hm1; replace hfl := hid hfl; replace hwl := hid hwl; replace e1 := hid e1; replace e2 := hid e2; replace e3 := hid e3; replace g1 := hid g1; replace g2 := hid g2; replace hfr := hid hfr
    have hf2 := hid (show (ints tf).set tx (.int .i64 (ff + 1)) = ints (tf.set tx (ff + 1)) by simp [ints, List.map_set])
    have hq2 := hid (show nats tq ++ [.int .i64 (tx : Int)] = nats (tq ++ [tx]) by simp [nats])
    have hw2 := hid (show ints wf ++ [.int .i64 st] = ints (wf ++ [st]) by simp [ints])
    go_enter Try.func75, Try.ntmps75
    go_upto_region 1 with (fail)
    refine wp_region_still_tail 13 (by kernel_rfl) (by kernel_rfl) ?_
    simp only [List.take_succ_cons, List.take_zero, List.drop_succ_cons, List.drop_zero]
    repeat still_step
    try refine wpStill_nil ?_
    change wpList _ _ _ _ _ w.drew
    replace hS := hid hS.out.drew
    have q3' : w.drew.cell? ⟨gf, tx, none⟩ = some (.int .i64 ft) := q3
    have fo' : w.drew.frozen? ⟨gf, tx, none⟩ = false := fo
    clear q1 q2 q3 q4 q5 fo
    generalize w.drew = wa at *
    go_upto_region 2 with (fail)
    replace hS := hid ((hS.out.f2.setOwn (by rw [ints_length]; exact hfl.out) tx (.int .i64 (ff + 1)) hto).b2)
    rw [hf2.out] at hS
    generalize wa.setCell ⟨gf, tx, none⟩ (.int .i64 (ff + 1)) = wb at *
    clear q3' fo'
    have hg3 := hS.out.g3
    obtain ⟨r, hr0⟩ : ∃ r, rows[fr]? = some r := ⟨_, List.getElem?_eq_getElem (by rw [hg3.2.1, hwl.out]; exact hfn)⟩
    have hr2 := hid (show Own wb.drew base 2 r (ints wf) from hg3.2.2 fr r wf hr0 e3.out)
    have hT := hid (fun (W : World) (L' : List Asn) (h : St base w0 (Asn.blk bt #[vq, .slice (some ⟨gf, 0, none⟩) n cf, .slice (some ⟨gw, 0, none⟩) n cw] 66 :: Asn.own base 2 vq (nats tq) :: Asn.own base 2 (.slice (some ⟨gf, 0, none⟩) n cf) (ints (tf.set tx (ff + 1))) :: Asn.mat base (.slice (some ⟨gw, 0, none⟩) n cw) rows tw ::
      Asn.blk bp #[.pointer (some ⟨bt, 0, none⟩)] 62 :: Asn.blk bf #[.int .i64 fr] 2 :: L') W) => (show tcell bp bt gw n cw bf fr r W from ⟨cell_of_row _ _ 0 _ _ _ h.k4, cell_of_row _ _ 2 _ _ _ h.k0, cell_of_row _ _ 0 _ _ _ h.k5, h.g3.1.cellAt fr r hr0⟩))
    clear hg3 hr0
    refine wp_region_heldL (L := [(17, tcell bp bt gw n cw bf fr r)]) (by kernel_rfl) (HeldL.cons (fun _ => hT.out _ _ hS.out.drew) HeldL.nil) (fun hHeld => ?_)
    replace hS := hid hS.out.drew
    generalize wb.drew = wc at *
    refine wpAnyL_takeP (i := 0) 17 [] (v := ?_) (tcell bp bt gw n cw bf fr r) rfl (by kernel_rfl) (by kernel_rfl) (by kernel_rfl) (by rfl) (by kernel_rfl) (by simp) (fun _ _ _ h => h) (Or.inl ⟨by rfl, ?_⟩) (by assumption) ?_
    rotate_left
    · (intro W hW; (obtain ⟨h1, h2, h3, h4⟩ := hW); go_simp; (with_reducible rfl))
    intro hHeld'
    clear hHeld; have hHeld := hHeld'; clear hHeld'
    try simp only [Act.put, List.getElem_toArray, List.getElem_cons_succ, List.getElem_cons_zero, List.setIfInBounds_toArray, List.set_cons_zero, List.set_cons_succ]
    refine wpAnyL_take0 (i := 1) (v := ?_) rfl (by kernel_rfl) (by kernel_rfl) (by kernel_rfl) (by rfl) (fun _ _ _ h => h) (Or.inl ⟨by rfl, ?_⟩) (by assumption) ?_
    rotate_left
    · (intro W _; go_simp; (with_reducible rfl))
    intro hHeld'
    clear hHeld; have hHeld := hHeld'; clear hHeld'
    try simp only [Act.put, List.getElem_toArray, List.getElem_cons_succ, List.getElem_cons_zero, List.setIfInBounds_toArray, List.set_cons_zero, List.set_cons_succ]
    refine wpAnyL_take0 (i := 2) (v := ?_) rfl (by kernel_rfl) (by kernel_rfl) (by kernel_rfl) (by rfl) (fun _ _ _ h => h) (Or.inl ⟨by rfl, ?_⟩) (by assumption) ?_
    rotate_left
    · (intro W _; go_simp; (with_reducible rfl))
    intro hHeld'
    clear hHeld; have hHeld := hHeld'; clear hHeld'
    try simp only [Act.put, List.getElem_toArray, List.getElem_cons_succ, List.getElem_cons_zero, List.setIfInBounds_toArray, List.set_cons_zero, List.set_cons_succ]
    refine wpAnyL_takeP (i := 3) 17 [] (v := ?_) (tcell bp bt gw n cw bf fr r) rfl (by kernel_rfl) (by kernel_rfl) (by kernel_rfl) (by rfl) (by kernel_rfl) (by simp) (fun _ _ _ h => h) (Or.inl ⟨by rfl, ?_⟩) (by assumption) ?_
    rotate_left
    · (intro W hW; (obtain ⟨h1, h2, h3, h4⟩ := hW); go_simp; (with_reducible rfl))
    intro hHeld'
    clear hHeld; have hHeld := hHeld'; clear hHeld'
    try simp only [Act.put, List.getElem_toArray, List.getElem_cons_succ, List.getElem_cons_zero, List.setIfInBounds_toArray, List.set_cons_zero, List.set_cons_succ]
    refine wpAnyL_take0 (i := 4) (v := ?_) rfl (by kernel_rfl) (by kernel_rfl) (by kernel_rfl) (by rfl) (fun _ _ _ h => h) (Or.inl ⟨by rfl, ?_⟩) (by assumption) ?_
    rotate_left
    · (intro W _; go_simp; (with_reducible rfl))
    intro hHeld'
    clear hHeld; have hHeld := hHeld'; clear hHeld'
    try simp only [Act.put, List.getElem_toArray, List.getElem_cons_succ, List.getElem_cons_zero, List.setIfInBounds_toArray, List.set_cons_zero, List.set_cons_succ]
    refine wpAnyL_takeP (i := 5) 17 [] (v := ?_) (tcell bp bt gw n cw bf fr r) rfl (by kernel_rfl) (by kernel_rfl) (by kernel_rfl) (by rfl) (by kernel_rfl) (by simp) (fun _ _ _ h => h) (Or.inl ⟨by rfl, ?_⟩) (by assumption) ?_
    rotate_left
    · (intro W hW; (obtain ⟨h1, h2, h3, h4⟩ := hW); go_simp; (with_reducible rfl))
    intro hHeld'
    clear hHeld; have hHeld := hHeld'; clear hHeld'
    try simp only [Act.put, List.getElem_toArray, List.getElem_cons_succ, List.getElem_cons_zero, List.setIfInBounds_toArray, List.set_cons_zero, List.set_cons_succ]
    refine wpAnyL_take0 (i := 6) (v := ?_) rfl (by kernel_rfl) (by kernel_rfl) (by kernel_rfl) (by rfl) (fun _ _ _ h => h) (Or.inl ⟨by rfl, ?_⟩) (by assumption) ?_
    rotate_left
    · (intro W _; go_simp; (with_reducible rfl))
    intro hHeld'
    clear hHeld; have hHeld := hHeld'; clear hHeld'
    try simp only [Act.put, List.getElem_toArray, List.getElem_cons_succ, List.getElem_cons_zero, List.setIfInBounds_toArray, List.set_cons_zero, List.set_cons_succ]
    refine wpAnyL_take0 (i := 7) (v := ?_) rfl (by kernel_rfl) (by kernel_rfl) (by kernel_rfl) (by rfl) (fun _ _ _ h => h) (Or.inl ⟨by rfl, ?_⟩) (by assumption) ?_
    rotate_left
    · (intro W _; go_simp; (with_reducible rfl))
    intro hHeld'
    clear hHeld; have hHeld := hHeld'; clear hHeld'
    try simp only [Act.put, List.getElem_toArray, List.getElem_cons_succ, List.getElem_cons_zero, List.setIfInBounds_toArray, List.set_cons_zero, List.set_cons_succ]
    refine wpAnyL_takeP (i := 8) 17 [] (v := ?_) (tcell bp bt gw n cw bf fr r) rfl (by kernel_rfl) (by kernel_rfl) (by kernel_rfl) (by rfl) (by kernel_rfl) (by simp) (fun _ _ _ h => h) (Or.inl ⟨by rfl, ?_⟩) (by assumption) ?_
    rotate_left
    · (intro W hW; (obtain ⟨h1, h2, h3, h4⟩ := hW); go_simp; (with_reducible rfl))
    intro hHeld'
    clear hHeld; have hHeld := hHeld'; clear hHeld'
    try simp only [Act.put, List.getElem_toArray, List.getElem_cons_succ, List.getElem_cons_zero, List.setIfInBounds_toArray, List.set_cons_zero, List.set_cons_succ]
    refine wpAnyL_takeP (i := 9) 17 [] (v := ?_) (tcell bp bt gw n cw bf fr r) rfl (by kernel_rfl) (by kernel_rfl) (by kernel_rfl) (by rfl) (by kernel_rfl) (by simp) (fun _ _ _ h => h) (Or.inl ⟨by rfl, ?_⟩) (by assumption) ?_
    rotate_left
    · (intro W hW; (obtain ⟨h1, h2, h3, h4⟩ := hW); go_simp; (with_reducible rfl))
    intro hHeld'
    clear hHeld; have hHeld := hHeld'; clear hHeld'
    try simp only [Act.put, List.getElem_toArray, List.getElem_cons_succ, List.getElem_cons_zero, List.setIfInBounds_toArray, List.set_cons_zero, List.set_cons_succ]
    refine wpAnyL_take0 (i := 10) (v := ?_) rfl (by kernel_rfl) (by kernel_rfl) (by kernel_rfl) (by rfl) (fun _ _ _ h => h) (Or.inl ⟨by rfl, ?_⟩) (by assumption) ?_
    rotate_left
    · (intro W _; go_simp; (with_reducible rfl))
    intro hHeld'
    clear hHeld; have hHeld := hHeld'; clear hHeld'
    try simp only [Act.put, List.getElem_toArray, List.getElem_cons_succ, List.getElem_cons_zero, List.setIfInBounds_toArray, List.set_cons_zero, List.set_cons_succ]
    refine wpAnyL_takeP (i := 11) 17 [] (v := ?_) (tcell bp bt gw n cw bf fr r) rfl (by kernel_rfl) (by kernel_rfl) (by kernel_rfl) (by rfl) (by kernel_rfl) (by simp) (fun _ _ _ h => h) (Or.inl ⟨by rfl, ?_⟩) (by assumption) ?_
    rotate_left
    · (intro W hW; (obtain ⟨h1, h2, h3, h4⟩ := hW); go_simp; (with_reducible rfl))
    intro hHeld'
    clear hHeld; have hHeld := hHeld'; clear hHeld'
    try simp only [Act.put, List.getElem_toArray, List.getElem_cons_succ, List.getElem_cons_zero, List.setIfInBounds_toArray, List.set_cons_zero, List.set_cons_succ]
    refine wpAnyL_take0 (i := 13) (v := ?_) rfl (by kernel_rfl) (by kernel_rfl) (by kernel_rfl) (by rfl) (fun _ _ _ h => h) (Or.inl ⟨by rfl, ?_⟩) (by assumption) ?_
    rotate_left
    · (intro W _; go_simp; (with_reducible rfl))
    intro hHeld'
    clear hHeld; have hHeld := hHeld'; clear hHeld'
    try simp only [Act.put, List.getElem_toArray, List.getElem_cons_succ, List.getElem_cons_zero, List.setIfInBounds_toArray, List.set_cons_zero, List.set_cons_succ]
    refine wpAnyL_ready (rs := [12, 14]) (by kernel_rfl) (by simp) ?_
    refine AllReadyL.cons rfl (fun K hK => ?_) ?_
    · skip
      go_simp
      (with_reducible refine (hcl.out _ _ _ hr2.out).mono ?_)
      rintro e w3 ⟨v', rfl, hO, hb⟩
      replace hS := hid (hS.out.callOwn hb hO)
      clear hb hO
      go_simp
      refine hK.out _ _ (HeldL.cons (fun _ => hT.out _ _ hS.out.drop) HeldL.nil) (fun hHeld' => ?_)
      clear hK K hHeld; have hHeld := hHeld'; clear hHeld'
      try simp only [Act.put, List.getElem_toArray, List.getElem_cons_succ, List.getElem_cons_zero, List.setIfInBounds_toArray, List.set_cons_zero, List.set_cons_succ]
      refine wpAnyL_ready (rs := [14]) (by kernel_rfl) (by simp) ?_
      refine AllReadyL.cons rfl (fun K hK => ?_) AllReadyL.nil
      go_simp
      replace hS := hid ((hS.out.newBlk #[.int .i64 st] 2).f1)
      generalize w3.heap.size = bB at *
      generalize w3.alloc (.cells #[.int .i64 st] 2) = wd at *
      refine hK.out _ _ (HeldL.cons (fun _ => hT.out _ _ hS.out.drop.drop) HeldL.nil) (fun hHeld' => ?_)
      clear hK K hHeld; have hHeld := hHeld'; clear hHeld'
      try simp only [Act.put, List.getElem_toArray, List.getElem_cons_succ, List.getElem_cons_zero, List.setIfInBounds_toArray, List.set_cons_zero, List.set_cons_succ]
      refine wpAnyL_ready (rs := [15]) (by kernel_rfl) (by simp) ?_
      refine AllReadyL.cons rfl (fun K hK => ?_) AllReadyL.nil
      refine St.step1 34 2 2 (.int .i64 0) 8 Try.underlying34 info_i64 rfl (by omega) rfl _ _ rfl _ _ rfl hS.out rfl rfl _ (ints_length wf) (by omega) ?_
      intro gn cn we hS'
      replace hS := hid hS'.f1.drop
      clear hS'
      rw [hw2.out] at hS
      refine hK.out _ _ (HeldL.cons (fun _ => hT.out _ _ hS.out.drop) HeldL.nil) (fun hHeld' => ?_)
      clear hK K hHeld; have hHeld := hHeld'; clear hHeld'
      try simp only [Act.put, List.getElem_toArray, List.getElem_cons_succ, List.getElem_cons_zero, List.setIfInBounds_toArray, List.set_cons_zero, List.set_cons_succ]
      refine wpAnyL_take0 (i := 16) (v := ?_) rfl (by kernel_rfl) (by kernel_rfl) (by kernel_rfl) (by rfl) (fun _ _ _ h => h) (Or.inl ⟨by rfl, ?_⟩) (by assumption) ?_
      rotate_left
      · (intro W _; go_simp; (with_reducible rfl))
      intro hHeld'
      clear hHeld; have hHeld := hHeld'; clear hHeld'
      try simp only [Act.put, List.getElem_toArray, List.getElem_cons_succ, List.getElem_cons_zero, List.setIfInBounds_toArray, List.set_cons_zero, List.set_cons_succ]
      have c1 := hS.out.f4.g0.1.cellAt tx
      have c2 := Own.frozenAt hS.out.f4.g0.1 (by rw [hS.out.f4.g0.2.1]; exact hwl.out) tx
      have c3 : ∃ u, rows[tx]? = some u := ⟨_, List.getElem?_eq_getElem (by rw [hS.out.f4.g0.2.1, hwl.out]; exact hto)⟩
      obtain ⟨u0, hu0⟩ := c3
      replace c1 := c1 u0 hu0
      clear hu0
      refine wpAnyL_ready (rs := [17]) (by kernel_rfl) (by simp) ?_
      refine AllReadyL.cons rfl (fun K hK => ?_) AllReadyL.nil
      go_simp
      replace hS := hid ((hS.out.f4.setMR hwl.out tx hto).b3)
      clear c1 c2
      refine hK.out _ _ (HeldL.cons (fun h => absurd h (by decide +kernel)) HeldL.nil) (fun hHeld' => ?_)
      clear hK K hHeld; have hHeld := hHeld'; clear hHeld'
      try simp only [Act.put, List.getElem_toArray, List.getElem_cons_succ, List.getElem_cons_zero, List.setIfInBounds_toArray, List.set_cons_zero, List.set_cons_succ]
      refine wpAnyL_done (by kernel_rfl) ?_ _
      clear hT hr2 hcl hf2
      generalize we.setCell ⟨gw, tx, none⟩ (.slice (some ⟨gn, 0, none⟩) (wf.length + 1) cn) = wg at *
      go_upto_region 3 with (fail)
      have hq0 := hid (fun (W : World) (h1 : W.heap[bp]? = some (.cells #[.pointer (some ⟨bt, 0, none⟩)] 62 (0, 0))) (h2 : W.heap[bt]? = some (.cells #[vq, .slice (some ⟨gf, 0, none⟩) n cf, .slice (some ⟨gw, 0, none⟩) n cw] 66 (0, 0))) => (show qcell bp bt vq W from ⟨cell_of_row _ _ 0 _ _ _ h1, cell_of_row _ _ 0 _ _ _ h2⟩))
      refine wp_region_heldL (L := [(10, qcell bp bt vq)]) (by kernel_rfl) (HeldL.cons (fun _ => hq0.out _ hS.out.drew.k4 hS.out.drew.k0) HeldL.nil) (fun hHeld => ?_)
      replace hS := hid hS.out.drew
      generalize wg.drew = wh at *
      refine wpAnyL_takeP (i := 0) 10 [] (v := ?_) (qcell bp bt vq) rfl (by kernel_rfl) (by kernel_rfl) (by kernel_rfl) (by rfl) (by kernel_rfl) (by simp) (fun _ _ _ h => h) (Or.inl ⟨by rfl, ?_⟩) (by assumption) ?_
      rotate_left
      · (intro W hW; (obtain ⟨h1, h2⟩ := hW); go_simp; (with_reducible rfl))
      intro hHeld'
      clear hHeld; have hHeld := hHeld'; clear hHeld'
      try simp only [Act.put, List.getElem_toArray, List.getElem_cons_succ, List.getElem_cons_zero, List.setIfInBounds_toArray, List.set_cons_zero, List.set_cons_succ]
      refine wpAnyL_takeP (i := 1) 10 [] (v := ?_) (qcell bp bt vq) rfl (by kernel_rfl) (by kernel_rfl) (by kernel_rfl) (by rfl) (by kernel_rfl) (by simp) (fun _ _ _ h => h) (Or.inl ⟨by rfl, ?_⟩) (by assumption) ?_
      rotate_left
      · (intro W hW; (obtain ⟨h1, h2⟩ := hW); go_simp; (with_reducible rfl))
      intro hHeld'
      clear hHeld; have hHeld := hHeld'; clear hHeld'
      try simp only [Act.put, List.getElem_toArray, List.getElem_cons_succ, List.getElem_cons_zero, List.setIfInBounds_toArray, List.set_cons_zero, List.set_cons_succ]
      refine wpAnyL_take0 (i := 2) (v := ?_) rfl (by kernel_rfl) (by kernel_rfl) (by kernel_rfl) (by rfl) (fun _ _ _ h => h) (Or.inl ⟨by rfl, ?_⟩) (by assumption) ?_
      rotate_left
      · (intro W _; go_simp; (with_reducible rfl))
      intro hHeld'
      clear hHeld; have hHeld := hHeld'; clear hHeld'
      try simp only [Act.put, List.getElem_toArray, List.getElem_cons_succ, List.getElem_cons_zero, List.setIfInBounds_toArray, List.set_cons_zero, List.set_cons_succ]
      refine wpAnyL_take0 (i := 3) (v := ?_) rfl (by kernel_rfl) (by kernel_rfl) (by kernel_rfl) (by rfl) (fun _ _ _ h => h) (Or.inl ⟨by rfl, ?_⟩) (by assumption) ?_
      rotate_left
      · (intro W _; go_simp; (with_reducible rfl))
      intro hHeld'
      clear hHeld; have hHeld := hHeld'; clear hHeld'
      try simp only [Act.put, List.getElem_toArray, List.getElem_cons_succ, List.getElem_cons_zero, List.setIfInBounds_toArray, List.set_cons_zero, List.set_cons_succ]
      refine wpAnyL_takeP (i := 4) 10 [] (v := ?_) (qcell bp bt vq) rfl (by kernel_rfl) (by kernel_rfl) (by kernel_rfl) (by rfl) (by kernel_rfl) (by simp) (fun _ _ _ h => h) (Or.inl ⟨by rfl, ?_⟩) (by assumption) ?_
      rotate_left
      · (intro W hW; (obtain ⟨h1, h2⟩ := hW); go_simp; (with_reducible rfl))
      intro hHeld'
      clear hHeld; have hHeld := hHeld'; clear hHeld'
      try simp only [Act.put, List.getElem_toArray, List.getElem_cons_succ, List.getElem_cons_zero, List.setIfInBounds_toArray, List.set_cons_zero, List.set_cons_succ]
      refine wpAnyL_take0 (i := 5) (v := ?_) rfl (by kernel_rfl) (by kernel_rfl) (by kernel_rfl) (by rfl) (fun _ _ _ h => h) (Or.inl ⟨by rfl, ?_⟩) (by assumption) ?_
      rotate_left
      · (intro W _; go_simp; (with_reducible rfl))
      intro hHeld'
      clear hHeld; have hHeld := hHeld'; clear hHeld'
      try simp only [Act.put, List.getElem_toArray, List.getElem_cons_succ, List.getElem_cons_zero, List.setIfInBounds_toArray, List.set_cons_zero, List.set_cons_succ]
      refine wpAnyL_ready (rs := [6]) (by kernel_rfl) (by simp) ?_
      refine AllReadyL.cons rfl (fun K hK => ?_) AllReadyL.nil
      go_simp
      replace hS := hid ((hS.out.newBlk #[.int .i64 (tx : Int)] 2).f2)
      generalize wh.heap.size = bC at *
      generalize wh.alloc (.cells #[.int .i64 (tx : Int)] 2) = wi at *
      refine hK.out _ _ (HeldL.cons (fun _ => hq0.out _ hS.out.k5 hS.out.k2) HeldL.nil) (fun hHeld' => ?_)
      clear hK K hHeld; have hHeld := hHeld'; clear hHeld'
      try simp only [Act.put, List.getElem_toArray, List.getElem_cons_succ, List.getElem_cons_zero, List.setIfInBounds_toArray, List.set_cons_zero, List.set_cons_succ]
      refine wpAnyL_ready (rs := [7]) (by kernel_rfl) (by simp) ?_
      refine AllReadyL.cons rfl (fun K hK => ?_) AllReadyL.nil
      refine St.step1 34 2 2 (.int .i64 0) 8 Try.underlying34 info_i64 rfl (by omega) rfl _ _ rfl _ _ rfl hS.out rfl rfl _ hqn.out (by omega) ?_
      intro gq cq wj hS'
      replace hS := hid (hS'.f1.drop.f1)
      clear hS'
      rw [hq2.out] at hS
      refine hK.out _ _ (HeldL.cons (fun _ => hq0.out _ hS.out.k4 hS.out.k0) HeldL.nil) (fun hHeld' => ?_)
      clear hK K hHeld; have hHeld := hHeld'; clear hHeld'
      try simp only [Act.put, List.getElem_toArray, List.getElem_cons_succ, List.getElem_cons_zero, List.setIfInBounds_toArray, List.set_cons_zero, List.set_cons_succ]
      refine wpAnyL_take0 (i := 8) (v := ?_) rfl (by kernel_rfl) (by kernel_rfl) (by kernel_rfl) (by rfl) (fun _ _ _ h => h) (Or.inl ⟨by rfl, ?_⟩) (by assumption) ?_
      rotate_left
      · (intro W _; go_simp; (with_reducible rfl))
      intro hHeld'
      clear hHeld; have hHeld := hHeld'; clear hHeld'
      try simp only [Act.put, List.getElem_toArray, List.getElem_cons_succ, List.getElem_cons_zero, List.setIfInBounds_toArray, List.set_cons_zero, List.set_cons_succ]
      refine wpAnyL_take0 (i := 9) (v := ?_) rfl (by kernel_rfl) (by kernel_rfl) (by kernel_rfl) (by rfl) (fun _ _ _ h => h) (Or.inl ⟨by rfl, ?_⟩) (by assumption) ?_
      rotate_left
      · (intro W _; go_simp; (with_reducible rfl))
      intro hHeld'
      clear hHeld; have hHeld := hHeld'; clear hHeld'
      try simp only [Act.put, List.getElem_toArray, List.getElem_cons_succ, List.getElem_cons_zero, List.setIfInBounds_toArray, List.set_cons_zero, List.set_cons_succ]
      have c1 := cell_of_row _ _ 0 _ _ _ hS.out.k0
      have c2 := frozen_of_row _ _ 0 _ _ hS.out.k0
      refine wpAnyL_ready (rs := [10]) (by kernel_rfl) (by simp) ?_
      refine AllReadyL.cons rfl (fun K hK => ?_) AllReadyL.nil
      go_simp
      replace hS := hid (hS.out.setBlk hbt 0 (.slice (some ⟨gq, 0, none⟩) (tq.length + 1) cq))
      clear c1 c2
      refine hK.out _ _ (HeldL.cons (fun h => absurd h (by decide +kernel)) HeldL.nil) (fun hHeld' => ?_)
      clear hK K hHeld; have hHeld := hHeld'; clear hHeld'
      try simp only [Act.put, List.getElem_toArray, List.getElem_cons_succ, List.getElem_cons_zero, List.setIfInBounds_toArray, List.set_cons_zero, List.set_cons_succ]
      refine wpAnyL_done (by kernel_rfl) ?_ _
      go_end0
      exact ⟨rfl, _, _, hS.out⟩
    · skip
      refine AllReadyL.cons rfl (fun K hK => ?_) AllReadyL.nil
      go_simp
      replace hS := hid (hS.out.newBlk #[.int .i64 st] 2)
      replace hr2 := hid (hr2.out.alloc (.cells #[.int .i64 st] 2))
      generalize wc.heap.size = bB at *
      generalize wc.alloc (.cells #[.int .i64 st] 2) = wd at *
      refine hK.out _ _ (HeldL.cons (fun _ => hT.out _ _ hS.out.drop) HeldL.nil) (fun hHeld' => ?_)
      clear hK K hHeld; have hHeld := hHeld'; clear hHeld'
      try simp only [Act.put, List.getElem_toArray, List.getElem_cons_succ, List.getElem_cons_zero, List.setIfInBounds_toArray, List.set_cons_zero, List.set_cons_succ]
      refine wpAnyL_ready (rs := [12]) (by kernel_rfl) (by simp) ?_
      refine AllReadyL.cons rfl (fun K hK => ?_) AllReadyL.nil
      go_simp
      (with_reducible refine (hcl.out _ _ _ hr2.out).mono ?_)
      rintro e w3 ⟨v', rfl, hO, hb⟩
      replace hS := hid (hS.out.callOwn hb hO)
      clear hb hO
      go_simp
      generalize w3 = wd at *
      refine hK.out _ _ (HeldL.cons (fun _ => hT.out _ _ hS.out.drop.drop) HeldL.nil) (fun hHeld' => ?_)
      clear hK K hHeld; have hHeld := hHeld'; clear hHeld'
      try simp only [Act.put, List.getElem_toArray, List.getElem_cons_succ, List.getElem_cons_zero, List.setIfInBounds_toArray, List.set_cons_zero, List.set_cons_succ]
      refine wpAnyL_ready (rs := [15]) (by kernel_rfl) (by simp) ?_
      refine AllReadyL.cons rfl (fun K hK => ?_) AllReadyL.nil
      refine St.step1 34 2 2 (.int .i64 0) 8 Try.underlying34 info_i64 rfl (by omega) rfl _ _ rfl _ _ rfl hS.out rfl rfl _ (ints_length wf) (by omega) ?_
      intro gn cn we hS'
      replace hS := hid hS'.f1.drop
      clear hS'
      rw [hw2.out] at hS
      refine hK.out _ _ (HeldL.cons (fun _ => hT.out _ _ hS.out.drop) HeldL.nil) (fun hHeld' => ?_)
      clear hK K hHeld; have hHeld := hHeld'; clear hHeld'
      try simp only [Act.put, List.getElem_toArray, List.getElem_cons_succ, List.getElem_cons_zero, List.setIfInBounds_toArray, List.set_cons_zero, List.set_cons_succ]
      refine wpAnyL_take0 (i := 16) (v := ?_) rfl (by kernel_rfl) (by kernel_rfl) (by kernel_rfl) (by rfl) (fun _ _ _ h => h) (Or.inl ⟨by rfl, ?_⟩) (by assumption) ?_
      rotate_left
      · (intro W _; go_simp; (with_reducible rfl))
      intro hHeld'
      clear hHeld; have hHeld := hHeld'; clear hHeld'
      try simp only [Act.put, List.getElem_toArray, List.getElem_cons_succ, List.getElem_cons_zero, List.setIfInBounds_toArray, List.set_cons_zero, List.set_cons_succ]
      have c1 := hS.out.f4.g0.1.cellAt tx
      have c2 := Own.frozenAt hS.out.f4.g0.1 (by rw [hS.out.f4.g0.2.1]; exact hwl.out) tx
      have c3 : ∃ u, rows[tx]? = some u := ⟨_, List.getElem?_eq_getElem (by rw [hS.out.f4.g0.2.1, hwl.out]; exact hto)⟩
      obtain ⟨u0, hu0⟩ := c3
      replace c1 := c1 u0 hu0
      clear hu0
      refine wpAnyL_ready (rs := [17]) (by kernel_rfl) (by simp) ?_
      refine AllReadyL.cons rfl (fun K hK => ?_) AllReadyL.nil
      go_simp
      replace hS := hid ((hS.out.f4.setMR hwl.out tx hto).b3)
      clear c1 c2
      refine hK.out _ _ (HeldL.cons (fun h => absurd h (by decide +kernel)) HeldL.nil) (fun hHeld' => ?_)
      clear hK K hHeld; have hHeld := hHeld'; clear hHeld'
      try simp only [Act.put, List.getElem_toArray, List.getElem_cons_succ, List.getElem_cons_zero, List.setIfInBounds_toArray, List.set_cons_zero, List.set_cons_succ]
      refine wpAnyL_done (by kernel_rfl) ?_ _
      clear hT hr2 hcl hf2
      generalize we.setCell ⟨gw, tx, none⟩ (.slice (some ⟨gn, 0, none⟩) (wf.length + 1) cn) = wg at *
      go_upto_region 3 with (fail)
      have hq0 := hid (fun (W : World) (h1 : W.heap[bp]? = some (.cells #[.pointer (some ⟨bt, 0, none⟩)] 62 (0, 0))) (h2 : W.heap[bt]? = some (.cells #[vq, .slice (some ⟨gf, 0, none⟩) n cf, .slice (some ⟨gw, 0, none⟩) n cw] 66 (0, 0))) => (show qcell bp bt vq W from ⟨cell_of_row _ _ 0 _ _ _ h1, cell_of_row _ _ 0 _ _ _ h2⟩))
      refine wp_region_heldL (L := [(10, qcell bp bt vq)]) (by kernel_rfl) (HeldL.cons (fun _ => hq0.out _ hS.out.drew.k4 hS.out.drew.k0) HeldL.nil) (fun hHeld => ?_)
      replace hS := hid hS.out.drew
      generalize wg.drew = wh at *
      refine wpAnyL_takeP (i := 0) 10 [] (v := ?_) (qcell bp bt vq) rfl (by kernel_rfl) (by kernel_rfl) (by kernel_rfl) (by rfl) (by kernel_rfl) (by simp) (fun _ _ _ h => h) (Or.inl ⟨by rfl, ?_⟩) (by assumption) ?_
      rotate_left
      · (intro W hW; (obtain ⟨h1, h2⟩ := hW); go_simp; (with_reducible rfl))
      intro hHeld'
      clear hHeld; have hHeld := hHeld'; clear hHeld'
      try simp only [Act.put, List.getElem_toArray, List.getElem_cons_succ, List.getElem_cons_zero, List.setIfInBounds_toArray, List.set_cons_zero, List.set_cons_succ]
      refine wpAnyL_takeP (i := 1) 10 [] (v := ?_) (qcell bp bt vq) rfl (by kernel_rfl) (by kernel_rfl) (by kernel_rfl) (by rfl) (by kernel_rfl) (by simp) (fun _ _ _ h => h) (Or.inl ⟨by rfl, ?_⟩) (by assumption) ?_
      rotate_left
      · (intro W hW; (obtain ⟨h1, h2⟩ := hW); go_simp; (with_reducible rfl))
      intro hHeld'
      clear hHeld; have hHeld := hHeld'; clear hHeld'
      try simp only [Act.put, List.getElem_toArray, List.getElem_cons_succ, List.getElem_cons_zero, List.setIfInBounds_toArray, List.set_cons_zero, List.set_cons_succ]
      refine wpAnyL_take0 (i := 2) (v := ?_) rfl (by kernel_rfl) (by kernel_rfl) (by kernel_rfl) (by rfl) (fun _ _ _ h => h) (Or.inl ⟨by rfl, ?_⟩) (by assumption) ?_
      rotate_left
      · (intro W _; go_simp; (with_reducible rfl))
      intro hHeld'
      clear hHeld; have hHeld := hHeld'; clear hHeld'
      try simp only [Act.put, List.getElem_toArray, List.getElem_cons_succ, List.getElem_cons_zero, List.setIfInBounds_toArray, List.set_cons_zero, List.set_cons_succ]
      refine wpAnyL_take0 (i := 3) (v := ?_) rfl (by kernel_rfl) (by kernel_rfl) (by kernel_rfl) (by rfl) (fun _ _ _ h => h) (Or.inl ⟨by rfl, ?_⟩) (by assumption) ?_
      rotate_left
      · (intro W _; go_simp; (with_reducible rfl))
      intro hHeld'
      clear hHeld; have hHeld := hHeld'; clear hHeld'
      try simp only [Act.put, List.getElem_toArray, List.getElem_cons_succ, List.getElem_cons_zero, List.setIfInBounds_toArray, List.set_cons_zero, List.set_cons_succ]
      refine wpAnyL_takeP (i := 4) 10 [] (v := ?_) (qcell bp bt vq) rfl (by kernel_rfl) (by kernel_rfl) (by kernel_rfl) (by rfl) (by kernel_rfl) (by simp) (fun _ _ _ h => h) (Or.inl ⟨by rfl, ?_⟩) (by assumption) ?_
      rotate_left
      · (intro W hW; (obtain ⟨h1, h2⟩ := hW); go_simp; (with_reducible rfl))
      intro hHeld'
      clear hHeld; have hHeld := hHeld'; clear hHeld'
      try simp only [Act.put, List.getElem_toArray, List.getElem_cons_succ, List.getElem_cons_zero, List.setIfInBounds_toArray, List.set_cons_zero, List.set_cons_succ]
      refine wpAnyL_take0 (i := 5) (v := ?_) rfl (by kernel_rfl) (by kernel_rfl) (by kernel_rfl) (by rfl) (fun _ _ _ h => h) (Or.inl ⟨by rfl, ?_⟩) (by assumption) ?_
      rotate_left
      · (intro W _; go_simp; (with_reducible rfl))
      intro hHeld'
      clear hHeld; have hHeld := hHeld'; clear hHeld'
      try simp only [Act.put, List.getElem_toArray, List.getElem_cons_succ, List.getElem_cons_zero, List.setIfInBounds_toArray, List.set_cons_zero, List.set_cons_succ]
      refine wpAnyL_ready (rs := [6]) (by kernel_rfl) (by simp) ?_
      refine AllReadyL.cons rfl (fun K hK => ?_) AllReadyL.nil
      go_simp
      replace hS := hid ((hS.out.newBlk #[.int .i64 (tx : Int)] 2).f2)
      generalize wh.heap.size = bC at *
      generalize wh.alloc (.cells #[.int .i64 (tx : Int)] 2) = wi at *
      refine hK.out _ _ (HeldL.cons (fun _ => hq0.out _ hS.out.k5 hS.out.k2) HeldL.nil) (fun hHeld' => ?_)
      clear hK K hHeld; have hHeld := hHeld'; clear hHeld'
      try simp only [Act.put, List.getElem_toArray, List.getElem_cons_succ, List.getElem_cons_zero, List.setIfInBounds_toArray, List.set_cons_zero, List.set_cons_succ]
      refine wpAnyL_ready (rs := [7]) (by kernel_rfl) (by simp) ?_
      refine AllReadyL.cons rfl (fun K hK => ?_) AllReadyL.nil
      refine St.step1 34 2 2 (.int .i64 0) 8 Try.underlying34 info_i64 rfl (by omega) rfl _ _ rfl _ _ rfl hS.out rfl rfl _ hqn.out (by omega) ?_
      intro gq cq wj hS'
      replace hS := hid (hS'.f1.drop.f1)
      clear hS'
      rw [hq2.out] at hS
      refine hK.out _ _ (HeldL.cons (fun _ => hq0.out _ hS.out.k4 hS.out.k0) HeldL.nil) (fun hHeld' => ?_)
      clear hK K hHeld; have hHeld := hHeld'; clear hHeld'
      try simp only [Act.put, List.getElem_toArray, List.getElem_cons_succ, List.getElem_cons_zero, List.setIfInBounds_toArray, List.set_cons_zero, List.set_cons_succ]
      refine wpAnyL_take0 (i := 8) (v := ?_) rfl (by kernel_rfl) (by kernel_rfl) (by kernel_rfl) (by rfl) (fun _ _ _ h => h) (Or.inl ⟨by rfl, ?_⟩) (by assumption) ?_
      rotate_left
      · (intro W _; go_simp; (with_reducible rfl))
      intro hHeld'
      clear hHeld; have hHeld := hHeld'; clear hHeld'
      try simp only [Act.put, List.getElem_toArray, List.getElem_cons_succ, List.getElem_cons_zero, List.setIfInBounds_toArray, List.set_cons_zero, List.set_cons_succ]
      refine wpAnyL_take0 (i := 9) (v := ?_) rfl (by kernel_rfl) (by kernel_rfl) (by kernel_rfl) (by rfl) (fun _ _ _ h => h) (Or.inl ⟨by rfl, ?_⟩) (by assumption) ?_
      rotate_left
      · (intro W _; go_simp; (with_reducible rfl))
      intro hHeld'
      clear hHeld; have hHeld := hHeld'; clear hHeld'
      try simp only [Act.put, List.getElem_toArray, List.getElem_cons_succ, List.getElem_cons_zero, List.setIfInBounds_toArray, List.set_cons_zero, List.set_cons_succ]
      have c1 := cell_of_row _ _ 0 _ _ _ hS.out.k0
      have c2 := frozen_of_row _ _ 0 _ _ hS.out.k0
      refine wpAnyL_ready (rs := [10]) (by kernel_rfl) (by simp) ?_
      refine AllReadyL.cons rfl (fun K hK => ?_) AllReadyL.nil
      go_simp
      replace hS := hid (hS.out.setBlk hbt 0 (.slice (some ⟨gq, 0, none⟩) (tq.length + 1) cq))
      clear c1 c2
      refine hK.out _ _ (HeldL.cons (fun h => absurd h (by decide +kernel)) HeldL.nil) (fun hHeld' => ?_)
      clear hK K hHeld; have hHeld := hHeld'; clear hHeld'
      try simp only [Act.put, List.getElem_toArray, List.getElem_cons_succ, List.getElem_cons_zero, List.setIfInBounds_toArray, List.set_cons_zero, List.set_cons_succ]
      refine wpAnyL_done (by kernel_rfl) ?_ _
      go_end0
      exact ⟨rfl, _, _, hS.out⟩
  · rw [if_neg hneg] at hm1
    rw [hm1]
    go_enter Try.func75, Try.ntmps75
    go_wp2
    go_end0
    exact ⟨rfl, _, _, hS.out⟩
end Go.Proofs.Ytgpjcekpmhfljaa

/- Arrays of bytes and machines, compared by ==. -/
namespace Go.Proofs.Ytgpjcekpmhfljaa
open Go.RowKit
set_option linter.unusedVariables false
set_option linter.unusedSimpArgs false

theorem guard_b3 : Try.prog.eqGuardType Try.prog.depth 22 = false := by kernel_rfl
theorem guard_mach : Try.prog.eqGuardType Try.prog.depth 29 = false := by kernel_rfl
theorem key_b3 : Try.prog.keyTypeAt 2 22 = true := by kernel_rfl
theorem key_mach : Try.prog.keyTypeAt 5 29 = true := by kernel_rfl
theorem cells_b3 : Try.prog.cellsOf 22 = 3 := by kernel_rfl
theorem cells_u8 : Try.prog.cellsOf 5 = 1 := by kernel_rfl
theorem wf_u8 (a : Nat) (h : a < 256) : (Lit.int .u8 (a : Int)).wf = true := by
  have h0 : IntKind.u8.min = 0 := by decide
  have h1 : IntKind.u8.max = 255 := by decide
  simp [Lit.wf, IntKind.has, h0, h1]; omega
/-- The literals of a row of bytes. -/
theorem lits_u8 (d : Nat) (a : Nat) (h : a < 256) : Try.prog.keyLits (d + 1) 5 [.int .u8 (a : Int)] = some [.int .u8 (a : Int)] := by
  unfold Program.keyLits
  rw [Try.underlying5]
  simp [wf_u8 a h]
theorem lits_b3 (d : Nat) (a b c : Nat) (ha : a < 256) (hb : b < 256) (hc : c < 256) : Try.prog.keyLits (d + 2) 22 [.int .u8 (a : Int), .int .u8 (b : Int), .int .u8 (c : Int)] = some [.int .u8 (a : Int), .int .u8 (b : Int), .int .u8 (c : Int)] := by
  unfold Program.keyLits
  rw [Try.underlying22]
  simp only [cells_b3, List.length_cons, List.length_nil, cells_u8, Nat.mul_one]
  rw [if_pos trivial]
  have e : List.range 3 = [0, 1, 2] := rfl
  rw [e]
  simp [List.mapM_cons, lits_u8, ha, hb, hc]
/-- Two rows of bytes. -/
theorem eq_b3 (w : World) (a b c a' b' c' : Nat) (h : a < 256 ∧ b < 256 ∧ c < 256) (h' : a' < 256 ∧ b' < 256 ∧ c' < 256) (r : Bool) (hr : Tells r (a = a' ∧ b = b' ∧ c = c')) :
    (Op.equalIn 10000 22 (.agg #[.int .u8 (a : Int), .int .u8 (b : Int), .int .u8 (c : Int)]) (.agg #[.int .u8 (a' : Int), .int .u8 (b' : Int), .int .u8 (c' : Int)])).run Try.prog w = .ok r w := by
  have hf : ∀ x y z : Nat, (Value.agg #[.int .u8 (x : Int), .int .u8 (y : Int), .int .u8 (z : Int)]).formed Try.prog 22 = true := fun x y z => by
    simp [Value.formed, Try.underlying22, cells_b3]
  obtain ⟨q, hq, hi⟩ := run_equalIn_deep (P := Try.prog) 9998 2 22 key_b3 w 2 2 _ _ _ _ (hf a b c) (hf a' b' c') (lits_b3 0 a b c h.1 h.2.1 h.2.2) (lits_b3 0 a' b' c' h'.1 h'.2.1 h'.2.2)
  have e : q = r := by
    rw [Bool.eq_iff_iff, hi, hr.out]
    simp
    omega
  rw [← e]
  exact hq
end Go.Proofs.Ytgpjcekpmhfljaa

/- Machines, compared by ==; and the machine of a state of a table is of bytes, and a machine again. -/
namespace Go.Proofs.Ytgpjcekpmhfljaa
open Go.RowKit
set_option linter.unusedVariables false
set_option linter.unusedSimpArgs false

theorem cells_b48 : Try.prog.cellsOf 23 = 48 := by kernel_rfl
theorem cells_mach : Try.prog.cellsOf 29 = 98 := by kernel_rfl
theorem cells_i64 : Try.prog.cellsOf 2 = 1 := by kernel_rfl
theorem wf_i64s (a : Nat) (h : a < 1000000) : (Lit.int .i64 (a : Int)).wf = true := by
  have h0 : IntKind.i64.min = -9223372036854775808 := by decide
  have h1 : IntKind.i64.max = 9223372036854775807 := by decide
  simp [Lit.wf, IntKind.has, h0, h1]; omega
theorem lits_i64 (d : Nat) (a : Nat) (h : a < 1000000) : Try.prog.keyLits (d + 1) 2 [.int .i64 (a : Int)] = some [.int .i64 (a : Int)] := by
  unfold Program.keyLits
  rw [Try.underlying2]
  simp [wf_i64s a h]
theorem mapM_all {α β : Type} (F : α → Option β) (G : α → β) : ∀ l : List α, (∀ a ∈ l, F a = some (G a)) → l.mapM F = some (l.map G)
  | [], _ => rfl
  | a :: l, h => by
    rw [List.mapM_cons, h a (by simp), mapM_all F G l (fun b hb => h b (by simp [hb]))]
    rfl
def lrow3 (f : Nat → Nat) (i : Nat) : List Lit := [.int .u8 (f (i * 3) : Nat), .int .u8 (f (i * 3 + 1) : Nat), .int .u8 (f (i * 3 + 2) : Nat)]
def lit48 (f : Nat → Nat) : List Lit := ((List.range 16).map (lrow3 f)).flatten
theorem cut3 {α : Type} (g : Nat → α) (i : Nat) (h : i < 16) : (((List.range 48).map g).drop (i * 3)).take 3 = [g (i * 3), g (i * 3 + 1), g (i * 3 + 2)] := by
  apply List.ext_getElem?
  intro n
  rw [List.getElem?_take]
  rcases n with _ | _ | _ | n
  · rw [if_pos (by omega), List.getElem?_drop, List.getElem?_map, List.getElem?_range (by omega)]; rfl
  · rw [if_pos (by omega), List.getElem?_drop, List.getElem?_map, List.getElem?_range (by omega)]; rfl
  · rw [if_pos (by omega), List.getElem?_drop, List.getElem?_map, List.getElem?_range (by omega)]; rfl
  · rw [if_neg (by omega)]; rfl
theorem lits_b48 (d : Nat) (f : Nat → Nat) (h : ∀ i, f i < 256) : Try.prog.keyLits (d + 3) 23 ((List.range 48).map fun i => .int .u8 (f i : Nat)) = some (lit48 f) := by
  unfold Program.keyLits
  rw [Try.underlying23]
  simp only [cells_b48, List.length_map, List.length_range, cells_b3, if_true]
  rw [mapM_all _ (lrow3 f)]
  · rfl
  · intro i hi
    rw [List.mem_range] at hi
    rw [cut3 _ i hi]
    exact lits_b3 d _ _ _ (h _) (h _) (h _)
theorem flat3_inj (f g : Nat → Nat) : ∀ l : List Nat, (l.map (lrow3 f)).flatten = (l.map (lrow3 g)).flatten ↔ ∀ i ∈ l, lrow3 f i = lrow3 g i
  | [] => by simp
  | a :: l => by
    simp only [List.map_cons, List.flatten_cons, List.mem_cons, forall_eq_or_imp]
    rw [← flat3_inj f g l]
    exact ⟨fun h => List.append_inj h rfl, fun h => by rw [h.1, h.2]⟩
theorem lit48_inj (f g : Nat → Nat) (h : lit48 f = lit48 g) : ∀ i, i < 48 → f i = g i := fun i hi => by
  have := (flat3_inj f g _).1 h (i / 3) (List.mem_range.2 (by omega))
  simp only [lrow3, List.cons.injEq, Lit.int.injEq, true_and, and_true, Int.natCast_inj] at this
  obtain ⟨h0, h1, h2⟩ := this
  rcases (show i = i / 3 * 3 ∨ i = i / 3 * 3 + 1 ∨ i = i / 3 * 3 + 2 by omega) with e | e | e
  · rw [e]; exact h0
  · rw [e]; exact h1
  · rw [e]; exact h2
theorem mcells_list (m : Mach) : (mcells m).toList = [.int .i64 m.L] ++ ([.int .i64 m.S] ++ (((List.range 48).map fun i => .int .u8 (m.nx i : Nat)) ++ ((List.range 48).map fun i => .int .u8 (m.ot i : Nat)))) := by
  apply List.ext_getElem?
  intro n
  rw [Array.getElem?_toList]
  by_cases h : n < 98
  · rw [mcells_get m n h]
    rcases n with _ | _ | n
    · rfl
    · rfl
    · rw [List.getElem?_append_right (by simp), List.getElem?_append_right (by simp)]
      simp only [List.length_cons, List.length_nil]
      rw [show n + 1 + 1 - (0 + 1) - (0 + 1) = n by omega]
      by_cases hn : n < 48
      · rw [List.getElem?_append_left (by simpa using hn)]
        simp [mf, hn]; omega
      · rw [List.getElem?_append_right (by simp; omega)]
        simp only [List.length_map, List.length_range]
        rw [List.getElem?_map, List.getElem?_range (by omega)]
        unfold mf
        rw [if_neg (by omega), if_neg (by omega), if_neg (by omega), show n + 1 + 1 - 50 = n - 48 by omega]
        rfl
  · rw [Array.getElem?_eq_none (by rw [size_mcells]; omega), List.getElem?_eq_none (by simp; omega)]
def mlits (a b : Nat) (m : Mach) : List Lit := [.int .i64 (a : Int)] ++ ([.int .i64 (b : Int)] ++ (lit48 m.nx ++ lit48 m.ot))
set_option maxRecDepth 4000 in
theorem lits_mach (d : Nat) (m : Mach) (hk : m.Ok) (a b : Nat) (ha : m.L = a) (hb : m.S = b) (ha' : a < 1000000) (hb' : b < 1000000) : Try.prog.keyLits (d + 4) 29 (mcells m).toList = some (mlits a b m) := by
  have hlen : (mcells m).toList.length = 98 := by rw [Array.length_toList, size_mcells]
  have hc := mcells_list m
  rw [ha, hb] at hc
  have hN : ((List.range 48).map fun i => Value.int .u8 (m.nx i : Nat)).length = 48 := by simp
  have hO : ((List.range 48).map fun i => Value.int .u8 (m.ot i : Nat)).length = 48 := by simp
  have kN := lits_b48 d m.nx (fun i => (hk i).1)
  have kO := lits_b48 d m.ot (fun i => (hk i).2)
  generalize (List.range 48).map (fun i => Value.int .u8 (m.nx i : Nat)) = N at *
  generalize (List.range 48).map (fun i => Value.int .u8 (m.ot i : Nat)) = O at *
  unfold Program.keyLits
  rw [Try.underlying29]
  simp only [hlen, cells_mach, if_true, true_and]
  rw [if_pos (by decide +kernel)]
  rw [hc]
  simp only [List.mapM_cons, List.mapM_nil, cells_i64, cells_b48]
  have e0 : ([Value.int .i64 (a : Int)] ++ ([Value.int .i64 (b : Int)] ++ (N ++ O))).drop 2 = N ++ O := rfl
  have e1 : ([Value.int .i64 (a : Int)] ++ ([Value.int .i64 (b : Int)] ++ (N ++ O))).drop 50 = O := by
    show (N ++ O).drop 48 = O
    rw [List.drop_append_of_le_length (by omega), List.drop_of_length_le (by omega), List.nil_append]
  have e2 : (N ++ O).take 48 = N := by rw [List.take_append_of_le_length (by omega), List.take_of_length_le (by omega)]
  have e3 : O.take 48 = O := List.take_of_length_le (by omega)
  have e4 : (([Value.int .i64 (a : Int)] ++ ([Value.int .i64 (b : Int)] ++ (N ++ O))).drop 0).take 1 = [Value.int .i64 (a : Int)] := rfl
  have e5 : (([Value.int .i64 (a : Int)] ++ ([Value.int .i64 (b : Int)] ++ (N ++ O))).drop 1).take 1 = [Value.int .i64 (b : Int)] := rfl
  rw [e0, e1, e2, e3, e4, e5, lits_i64 _ a ha', lits_i64 _ b hb', kN, kO]
  simp [mlits]
theorem mlits_inj {a b a' b' : Nat} {m k : Mach} (ha : m.L = a) (hb : m.S = b) (ha' : k.L = a') (hb' : k.S = b') : mlits a b m = mlits a' b' k ↔ mcells m = mcells k := by
  constructor
  · intro h
    unfold mlits at h
    have l1 : (lit48 m.nx).length = 48 := rfl
    have l2 : (lit48 k.nx).length = 48 := rfl
    have h1 := List.append_inj h rfl
    have h2 := List.append_inj h1.2 rfl
    have h3 := List.append_inj h2.2 (by rw [l1, l2])
    have i1 := lit48_inj _ _ h3.1
    have i2 := lit48_inj _ _ h3.2
    have e1 : a = a' := by have := h1.1; simp at this; omega
    have e2 : b = b' := by have := h2.1; simp at this; omega
    unfold mcells
    congr 1
    apply List.map_congr_left
    intro i hi
    rw [List.mem_range] at hi
    unfold mf
    rw [ha, hb, ha', hb', e1, e2]
    split
    · rfl
    · split
      · rfl
      · split
        · rw [i1 _ (by omega)]
        · rw [i2 _ (by omega)]
  · intro h
    have g : ∀ i, i < 98 → mf m i = mf k i := fun i hi => by
      have := mcells_get m i hi
      rw [h, mcells_get k i hi] at this
      exact (Option.some.inj this).symm
    have e1 : a = a' := by have := g 0 (by omega); simp [mf, ha, ha'] at this; omega
    have e2 : b = b' := by have := g 1 (by omega); simp [mf, hb, hb'] at this; omega
    have i1 : ∀ i, i < 48 → m.nx i = k.nx i := fun i hi => by
      have := g (i + 2) (by omega)
      unfold mf at this
      rw [if_neg (by omega), if_neg (by omega), if_pos (by omega), if_neg (by omega), if_neg (by omega), if_pos (by omega)] at this
      simp at this
      omega
    have i2 : ∀ i, i < 48 → m.ot i = k.ot i := fun i hi => by
      have := g (i + 50) (by omega)
      unfold mf at this
      rw [if_neg (by omega), if_neg (by omega), if_neg (by omega), if_neg (by omega), if_neg (by omega), if_neg (by omega)] at this
      simp at this
      omega
    unfold mlits lit48
    rw [e1, e2]
    congr 3
    · congr 1
      apply List.map_congr_left
      intro i hi
      rw [List.mem_range] at hi
      unfold lrow3
      rw [i1 _ (by omega), i1 _ (by omega), i1 _ (by omega)]
    · congr 1
      apply List.map_congr_left
      intro i hi
      rw [List.mem_range] at hi
      unfold lrow3
      rw [i2 _ (by omega), i2 _ (by omega), i2 _ (by omega)]
/-- Two machines. -/
theorem eq_mach (w : World) (m k : Mach) (hm : m.Ok) (hk : k.Ok) (a b a' b' : Nat) (ha : m.L = a) (hb : m.S = b) (ha' : k.L = a') (hb' : k.S = b') (la : a < 1000000) (lb : b < 1000000) (la' : a' < 1000000) (lb' : b' < 1000000) (r : Bool) (hr : Tells r (mcells m = mcells k)) :
    (Op.equalIn 10000 29 (.agg (mcells m)) (.agg (mcells k))).run Try.prog w = .ok r w := by
  have hf : ∀ m : Mach, (Value.agg (mcells m)).formed Try.prog 29 = true := fun m => by
    simp [Value.formed, Try.underlying29, cells_mach, size_mcells]
  obtain ⟨q, hq, hi⟩ := run_equalIn_deep (P := Try.prog) 9995 5 29 key_mach w 4 4 _ _ _ _ (hf m) (hf k) (lits_mach 0 m hm a b ha hb la lb) (lits_mach 0 k hk a' b' ha' hb' la' lb')
  have e : q = r := by
    rw [Bool.eq_iff_iff, hi, hr.out, mlits_inj ha hb ha' hb']
  rw [← e]
  exact hq

section
variable {T : Tab}
/-- The machine of a state of a table. -/
theorem fin_lt (hT : T.Ok) {q : Nat} (hq : q < T.n) {s : Nat} (hs : s ∈ fin T (fix T) q) : s < T.n := (bfs_uniq hT (fun q hq => fix_lt q hq) q hq T.n).2 s hs
theorem gth_nx (hT : T.Ok) {q : Nat} (hq : q < T.n) (p : Nat) : (gth T (fix T) (fin T (fix T) q)).nx p ≤ (fin T (fix T) q).length ∧ (p / 3 < (fin T (fix T) q).length → p % 3 < T.L → (gth T (fix T) (fin T (fix T) q)).nx p < (fin T (fix T) q).length) := by
  have hp := fin_pos T (fix T) q
  unfold gth gthP
  dsimp only
  split
  · rename_i h
    have hi : p / 3 < (fin T (fix T) q).length := by omega
    have hs : (fin T (fix T) q).getD (p / 3) 0 ∈ fin T (fix T) q := by
      rw [List.getD_eq_getElem?_getD, List.getElem?_eq_getElem hi]; exact List.getElem_mem hi
    have := mem_idxOf_lt (fin_closed hT (c := fix T) (fun q hq => fix_lt q hq) hq _ hs (p % 3) h.2)
    exact ⟨Nat.le_of_lt this, fun _ _ => this⟩
  · rename_i h
    exact ⟨Nat.zero_le _, fun h1 h2 => absurd ⟨.inl h1, h2⟩ h⟩
theorem gth_ot (hT : T.Ok) {q : Nat} (hq : q < T.n) {N : Nat} (hN : 0 < N) (hot : ∀ q x, q < T.n → x < T.L → T.ot q x < N) (p : Nat) : (gth T (fix T) (fin T (fix T) q)).ot p < N := by
  unfold gth gthP
  dsimp only
  split
  · rename_i h
    refine hot _ _ ?_ h.2
    have hi : p / 3 < (fin T (fix T) q).length := by omega
    rw [List.getD_eq_getElem?_getD, List.getElem?_eq_getElem hi]
    exact fin_lt hT hq (List.getElem_mem hi)
  · exact hN
theorem fromM_ok (hT : T.Ok) {q : Nat} (hq : q < T.n) (hot : ∀ q x, q < T.n → x < T.L → T.ot q x < 256) : (fromM T q).Ok := by
  unfold fromM
  split
  · rename_i h
    intro p
    exact ⟨by have := (gth_nx hT hq p).1; omega, gth_ot hT hq (by omega) hot p⟩
  · exact fun p => ⟨by show 0 < 256; omega, by show 0 < 256; omega⟩
theorem fromM_L (T : Tab) (q : Nat) : ∃ a : Nat, (fromM T q).L = a ∧ a ≤ T.L := by
  unfold fromM; split
  · exact ⟨T.L, rfl, Nat.le_refl _⟩
  · exact ⟨0, rfl, Nat.zero_le _⟩
theorem fromM_S (T : Tab) (q : Nat) : ∃ a : Nat, (fromM T q).S = a ∧ a ≤ 16 := by
  unfold fromM; split
  · rename_i h; exact ⟨_, rfl, h⟩
  · exact ⟨0, rfl, Nat.zero_le _⟩
/-- .. is a machine, where the table's rows are permutations. -/
theorem fromM_good (hT : T.Ok) {q : Nat} (hq : q < T.n) (h2 : 2 ≤ T.L) (h3 : T.L ≤ 3) (hot : ∀ q x, q < T.n → x < T.L → T.ot q x < T.L) (hinj : ∀ q, q < T.n → ∀ y x, y < x → x < T.L → T.ot q y ≠ T.ot q x) (hc : fromC T q = 0) :
    ∃ s, Good (fromM T q) T.L s := by
  have h : (fin T (fix T) q).length ≤ 16 := by
    unfold fromC at hc
    split at hc
    · assumption
    · cases hc
  refine ⟨(fin T (fix T) q).length, ?_⟩
  have hg : fromM T q = gth T (fix T) (fin T (fix T) q) := by unfold fromM; rw [if_pos h]
  rw [hg]
  have hat : ∀ r, r < (fin T (fix T) q).length → (fin T (fix T) q).getD r 0 < T.n := fun r hr => by
    rw [List.getD_eq_getElem?_getD, List.getElem?_eq_getElem hr]
    exact fin_lt hT hq (List.getElem_mem hr)
  refine ⟨rfl, rfl, h2, h3, fin_pos _ _ _, h, ?_, ?_, ?_, ?_⟩
  · intro r x hr hx
    exact (gth_nx hT hq _).2 (by omega) (by omega)
  · intro r x hr hx
    exact gth_ot hT hq (by omega) hot _
  · intro r hr y x hy hx
    unfold gth gthP
    dsimp only
    rw [if_pos (by omega), if_pos (by omega), show (r * 3 + y) / 3 = r by omega, show (r * 3 + x) / 3 = r by omega, show (r * 3 + y) % 3 = y by omega, show (r * 3 + x) % 3 = x by omega]
    exact hinj _ (hat r hr) y x hy hx
  · intro r x hr hx hn
    unfold gth gthP
    dsimp only
    rw [if_neg (by omega), if_neg (by omega)]
    exact ⟨rfl, rfl⟩
theorem tabOf_ot {m : Mach} {l s : Nat} (g : Good m l s) : ∀ q x, q < (tabOf m l s).n → x < (tabOf m l s).L → (tabOf m l s).ot q x < (tabOf m l s).L := fun q x hq hx => g.ot q x hq hx
theorem tabOf_inj {m : Mach} {l s : Nat} (g : Good m l s) : ∀ q, q < (tabOf m l s).n → ∀ y x, y < x → x < (tabOf m l s).L → (tabOf m l s).ot q y ≠ (tabOf m l s).ot q x := fun q hq y x hy hx => g.inj q hq y x hy hx
end
end Go.Proofs.Ytgpjcekpmhfljaa

/- The product of two states: the program's side. -/
namespace Go.Proofs.Ytgpjcekpmhfljaa
open Go.RowKit
set_option linter.unusedVariables false
set_option linter.unusedSimpArgs false

/-- The table of a product. -/
def prodT (m k : Mach) (l s s' : Nat) : Tab := ⟨s * s', l, fun p x => m.nx (p / s' * 3 + x) * s' + k.nx (p % s' * 3 + m.ot (p / s' * 3 + x)), fun p x => k.ot (p % s' * 3 + m.ot (p / s' * 3 + x))⟩
section
variable {m k : Mach} {l s s' : Nat}
theorem prod_nx (m k : Mach) (l s : Nat) {a b P : Nat} (x : Nat) (hb : b < s') (hP : P = a * s') : (prodT m k l s s').nx (P + b) x = m.nx (a * 3 + x) * s' + k.nx (b * 3 + m.ot (a * 3 + x)) := by
  have e1 : (P + b) / s' = a := by rw [hP, Nat.mul_comm, Nat.mul_add_div (by omega), Nat.div_eq_of_lt hb, Nat.add_zero]
  have e2 : (P + b) % s' = b := by rw [hP, Nat.mul_comm, Nat.mul_add_mod, Nat.mod_eq_of_lt hb]
  simp only [prodT, e1, e2]
theorem prod_ot (m k : Mach) (l s : Nat) {a b P : Nat} (x : Nat) (hb : b < s') (hP : P = a * s') : (prodT m k l s s').ot (P + b) x = k.ot (b * 3 + m.ot (a * 3 + x)) := by
  have e1 : (P + b) / s' = a := by rw [hP, Nat.mul_comm, Nat.mul_add_div (by omega), Nat.div_eq_of_lt hb, Nat.add_zero]
  have e2 : (P + b) % s' = b := by rw [hP, Nat.mul_comm, Nat.mul_add_mod, Nat.mod_eq_of_lt hb]
  simp only [prodT, e1, e2]
theorem prod_split {p : Nat} (hp : p < s * s') : p / s' < s ∧ p % s' < s' := by
  have h0 : 0 < s' := Nat.pos_of_ne_zero (fun h => by rw [h] at hp; simp at hp)
  exact ⟨Nat.div_lt_of_lt_mul (by rw [Nat.mul_comm]; exact hp), Nat.mod_lt _ h0⟩
theorem prod_in {a b : Nat} (ha : a < s) (hb : b < s') : a * s' + b < s * s' := by
  have h1 : a * s' + s' ≤ s * s' := by rw [← Nat.succ_mul]; exact Nat.mul_le_mul_right _ ha
  omega
theorem prod_ok (g : Good m l s) (g' : Good k l s') : (prodT m k l s s').Ok := by
  refine ⟨Nat.mul_pos g.s1 g'.s1, fun p x hp hx => ?_⟩
  obtain ⟨h1, h2⟩ := prod_split hp
  exact prod_in (g.nx _ x h1 hx) (g'.nx _ _ h2 (g.ot _ x h1 hx))
theorem prod_o (g : Good m l s) (g' : Good k l s') : ∀ p x, p < (prodT m k l s s').n → x < (prodT m k l s s').L → (prodT m k l s s').ot p x < (prodT m k l s s').L := fun p x hp hx => by
  obtain ⟨h1, h2⟩ := prod_split hp
  exact g'.ot _ _ h2 (g.ot _ x h1 hx)
theorem prod_o256 (g : Good m l s) (g' : Good k l s') : ∀ p x, p < (prodT m k l s s').n → x < (prodT m k l s s').L → (prodT m k l s s').ot p x < 256 := fun p x hp hx => by
  have h := prod_o g g' p x hp hx
  have : (prodT m k l s s').L = l := rfl
  have := g.l3
  omega
theorem prod_inj (g : Good m l s) (g' : Good k l s') : ∀ p, p < (prodT m k l s s').n → ∀ y x, y < x → x < (prodT m k l s s').L → (prodT m k l s s').ot p y ≠ (prodT m k l s s').ot p x := fun p hp y x hy hx => by
  obtain ⟨h1, h2⟩ := prod_split hp
  have hx' : x < l := hx
  have i := g.inj _ h1 y x hy hx'
  have o1 := g.ot _ y h1 (by omega)
  have o2 := g.ot _ x h1 hx'
  show k.ot _ ≠ k.ot _
  rcases Nat.lt_or_gt_of_ne i with h | h
  · exact g'.inj _ h2 _ _ h o2
  · exact (g'.inj _ h2 _ _ h o1).symm
theorem prod_n (g : Good m l s) (g' : Good k l s') : (prodT m k l s s').n ≤ 256 := by
  show s * s' ≤ 256
  exact Nat.mul_le_mul g.s16 g'.s16
end

end Go.Proofs.Ytgpjcekpmhfljaa

/- The trivial machine, and powers: the program's and the reference's. -/
namespace Go.Proofs.Ytgpjcekpmhfljaa
open Go.RowKit
set_option linter.unusedVariables false
set_option linter.unusedSimpArgs false

/-- The trivial machine, as far as it is written. -/
def trivP (l x : Nat) : Mach := ⟨l, 1, fun _ => 0, fun p => if p < x then p else 0⟩
theorem trivP_zero (l : Nat) : trivP l 0 = ⟨l, 1, fun _ => 0, fun _ => 0⟩ := by
  unfold trivP
  congr 1
theorem trivP_step (l x : Nat) : trivP l (x + 1) = { trivP l x with ot := upd (trivP l x).ot x x } := by
  unfold trivP upd
  congr 1
  funext p
  dsimp only
  by_cases h : p = x
  · subst h; simp
  · rw [if_neg h]
    by_cases hp : p < x
    · rw [if_pos hp, if_pos (by omega)]
    · rw [if_neg hp, if_neg (by omega)]
def trivM (l : Nat) : Mach := trivP l l
theorem trivM_ok (l : Nat) (hl : l ≤ 3) : (trivM l).Ok := fun i => ⟨by show 0 < 256; omega, by show (if i < l then i else 0) < 256; split <;> omega⟩
theorem trivM_good (l : Nat) (l2 : 2 ≤ l) (l3 : l ≤ 3) : Good (trivM l) l 1 := by
  refine ⟨rfl, rfl, l2, l3, by omega, by omega, ?_, ?_, ?_, ?_⟩
  · intro q x _ _; show 0 < 1; omega
  · intro q x hq hx
    show (if q * 3 + x < l then q * 3 + x else 0) < l
    rw [if_pos (by omega)]; omega
  · intro q hq y x hy hx
    show (if q * 3 + y < l then q * 3 + y else 0) ≠ (if q * 3 + x < l then q * 3 + x else 0)
    rw [if_pos (by omega), if_pos (by omega)]; omega
  · intro q x hq hx hn
    refine ⟨rfl, ?_⟩
    show (if q * 3 + x < l then q * 3 + x else 0) = 0
    by_cases h : q * 3 + x < l
    · exfalso; apply hn; omega
    · rw [if_neg h]



end Go.Proofs.Ytgpjcekpmhfljaa

/- Slices of elements of several cells that a function made itself. -/
namespace Go.Proofs.Ytgpjcekpmhfljaa
open Go.RowKit
set_option linter.unusedVariables false
set_option linter.unusedSimpArgs false

/-- The slice value v holds n elements of sz cells each: just the cells cs, in a block of its own from 'base' on. -/
def OwnN (w : World) (base e sz : Nat) (v : Value) (n : Nat) (cs : List Value) : Prop := w.ownsRow base e sz v n cs
section
variable {w w' : World} {base e sz n : Nat} {v : Value} {cs : List Value}
theorem OwnN.len (h : OwnN w base e sz v n cs) : cs.length = n * sz := h.1
theorem OwnN.nil (w : World) (base e sz : Nat) : OwnN w base e sz (.slice none 0 0) 0 [] := World.ownsRow_nil w base e sz
theorem OwnN.new (w : World) (base e sz : Nat) (hb : base ≤ w.heap.size) : OwnN (w.alloc (.cells #[] e)) base e sz (.slice (some ⟨w.heap.size, 0, none⟩) 0 0) 0 [] := by
  have := World.ownsRow_lit (base := base) (e := e) (size := sz) w #[] 0 hb (by simp [maxLen]) (by simp)
  exact this
theorem OwnN.keep (h : OwnN w base e sz v n cs) (hk : ∀ k, v.ownBlock = some k → w'.heap[k]? = w.heap[k]?) : OwnN w' base e sz v n cs := by
  refine ⟨h.1, ?_⟩
  rcases h.2 with hn | ⟨g, cap, cur, rfl, hb, hg, rest⟩
  · exact .inl hn
  · exact .inr ⟨g, cap, cur, rfl, hb, (hk g rfl).trans hg, rest⟩
theorem OwnN.lt (h : OwnN w base e sz v n cs) : ∀ k, v.ownBlock = some k → base ≤ k ∧ k < w.heap.size := World.ownsRow.lt h
theorem OwnN.mono {b' : Nat} (h : OwnN w base e sz v n cs) (hb : b' ≤ base) : OwnN w b' e sz v n cs := by
  refine ⟨h.1, ?_⟩
  rcases h.2 with hn | ⟨g, cap, cur, rfl, hg0, rest⟩
  · exact .inl hn
  · exact .inr ⟨g, cap, cur, rfl, Nat.le_trans hb hg0, rest⟩
theorem OwnN.form (h : OwnN w base e sz v n cs) : (v = .slice none 0 0 ∧ n = 0) ∨ ∃ g cap, v = .slice (some ⟨g, 0, none⟩) n cap := by
  rcases h.2 with h | ⟨g, cap, cur, rfl, _⟩
  · exact .inl h
  · exact .inr ⟨g, cap, rfl⟩
theorem OwnN.blk (h : OwnN w base e sz v n cs) (hn : 0 < n) : ∃ g cap, v = .slice (some ⟨g, 0, none⟩) n cap := by
  rcases h.form with ⟨_, h0⟩ | h
  · omega
  · exact h
theorem OwnN.cellAt {g cap : Nat} (h : OwnN w base e sz (.slice (some ⟨g, 0, none⟩) n cap) n cs) (j : Nat) (u : Value) (hu : cs[j]? = some u) : w.cell? ⟨g, j, none⟩ = some u := by
  have hj : j < n * sz := by rw [← h.len]; exact (List.getElem?_eq_some_iff.1 hu).1
  rw [World.ownsRow.cellAt h j hj]; exact hu
theorem OwnN.frozenAt {g cap : Nat} (h : OwnN w base e sz (.slice (some ⟨g, 0, none⟩) n cap) n cs) (j : Nat) : w.frozen? ⟨g, j, none⟩ = false := World.ownsRow.frozenAt h j
theorem OwnN.set {g cap : Nat} (h : OwnN w base e sz (.slice (some ⟨g, 0, none⟩) n cap) n cs) (j : Nat) (u : Value) : OwnN (w.setCell ⟨g, j, none⟩ u) base e sz (.slice (some ⟨g, 0, none⟩) n cap) n (cs.set j u) := (World.ownsRow.stored h j u).1
/-- One element's cells, as a load of it wants them. -/
theorem OwnN.range {g cap : Nat} (h : OwnN w base e sz (.slice (some ⟨g, 0, none⟩) n cap) n cs) (o : Nat) (l : List Value) (hl : ∀ j, j < l.length → cs[o + j]? = l[j]?) : w.rangeAt g o l := fun j u hu => by
  have hj := (List.getElem?_eq_some_iff.1 hu).1
  exact h.cellAt (o + j) u ((hl j hj).trans hu)
end
def Asn.ownN (base e sz : Nat) (v : Value) (n : Nat) (cs : List Value) : Asn := ⟨fun k => v.ownBlock = some k, fun w => OwnN w base e sz v n cs, fun h hk => h.keep hk, fun h k hk => (h.lt k hk).2⟩

/-- One element appended, as the walk meets it: behind its box. -/
theorem appN {P : Program} {ops : Array Oper} {rest : List Oper} {o : Oper} {a : Act} {W : World} {Q : Exit → Act → World → Prop} (t e : TypeId) (z : Value) (sz bytes : Nat)
    (ht : P.underlying t = some (.slice e)) (hinfo : (P.info? e).map (fun i => (i.zero, i.size, i.bytes)) = some (some z, sz, bytes)) (hz : z.cells.size = sz) (hsz : 0 < sz) (hb : bytes ≤ 64)
    (hgd : o.guard = none) (s x : Operand) (ho : o.op = .call { callee := .builtin .append, args := #[s, x], argTypes := #[t, t] })
    (base : Nat) (v : Value) (n : Nat) (cs : List Value) (hs : a.eval s = v) (hown : OwnN W base e sz v n cs) (hbase : base ≤ W.heap.size) (news : List Value) (hnl : news.length = sz) (hc1 : ∀ u ∈ news, u.oneCell' = true)
    (hx : a.eval x = .slice (some ⟨W.heap.size, 0, none⟩) 1 1) (hlen : n ≤ 1000000000)
    (h : ∀ g cap w', OwnN w' base e sz (.slice (some ⟨g, 0, none⟩) (n + 1) cap) (n + 1) (cs ++ news) → Below base W w' → (∀ k, k < W.heap.size → v.ownBlock ≠ some k → w'.heap[k]? = W.heap[k]?) → W.heap.size < w'.heap.size → (v.ownBlock = some g ∨ W.heap.size < g) →
      wpList P ops Q rest (a.put o.dst (.slice (some ⟨g, 0, none⟩) (n + 1) cap)) w') :
    wpList P ops Q (o :: rest) a (W.alloc (.cells news.toArray e)) := by
  obtain ⟨i, hi, hz0, hz1, hz2⟩ := info_parts hinfo
  refine wpList_plain hgd fun K hK => ?_
  refine wp_append_lies (W.alloc (.cells news.toArray e)) s x t ho base e i z sz bytes ht hi hz0 hz1 hz2 hz hsz v n cs hs (World.ownsRow.alloc hown _) ⟨W.heap.size, 0, none⟩ 1 1 news hx (by rw [hnl, Nat.one_mul])
    (fun j u hu => ?_) hc1 (by omega) (by simp only [maxLen]; omega) (Nat.le_trans (Nat.mul_le_mul_left _ hb) (by omega)) (by simp; omega) (W.heap.size + 1) (by simp) ?_
  · rw [Addr.add_mid, Nat.zero_add, cell_of_row _ W.heap.size j _ _ _ (heap_alloc_new W _)]
    simpa using hu
  · intro g cap w' h1 h2 h3 h4
    have hsz' : W.heap.size < w'.heap.size := by have := h2.size; simp at this; omega
    have hold : ∀ k, k < W.heap.size → v.ownBlock ≠ some k → w'.heap[k]? = W.heap[k]? := fun k hk hne => by
      rw [h2.block k (by simp; omega) (fun e => hne e.symm)]
      exact Below.heap_alloc W _ k hk
    exact hK _ _ (h g cap w' h1 ⟨h2.os, h2.tape, h2.output, by omega, fun k hk => hold k (by omega) (fun e => by have := (hown.lt k e).1; omega)⟩ hold hsz' (h3.imp id (fun e => by omega)))

section
variable {w w' W w0 : World} {L : List Asn} {base : Nat} {a b c d e f : Asn}
theorem St.n0 {bs t sz n : Nat} {v : Value} {cs : List Value} (h : St base w0 (Asn.ownN bs t sz v n cs :: L) w) : OwnN w bs t sz v n cs := h.g0
theorem St.n1 {bs t sz n : Nat} {v : Value} {cs : List Value} (h : St base w0 (a :: Asn.ownN bs t sz v n cs :: L) w) : OwnN w bs t sz v n cs := h.g1
theorem St.n2 {bs t sz n : Nat} {v : Value} {cs : List Value} (h : St base w0 (a :: b :: Asn.ownN bs t sz v n cs :: L) w) : OwnN w bs t sz v n cs := h.g2
theorem St.n3 {bs t sz n : Nat} {v : Value} {cs : List Value} (h : St base w0 (a :: b :: c :: Asn.ownN bs t sz v n cs :: L) w) : OwnN w bs t sz v n cs := h.g3
theorem St.n4 {bs t sz n : Nat} {v : Value} {cs : List Value} (h : St base w0 (a :: b :: c :: d :: Asn.ownN bs t sz v n cs :: L) w) : OwnN w bs t sz v n cs := h.g4
theorem St.n5 {bs t sz n : Nat} {v : Value} {cs : List Value} (h : St base w0 (a :: b :: c :: d :: e :: Asn.ownN bs t sz v n cs :: L) w) : OwnN w bs t sz v n cs := h.g5
theorem St.nilN (h : St base w0 L w) (t sz : Nat) : St base w0 (Asn.ownN base t sz (.slice none 0 0) 0 [] :: L) w := h.push (a := Asn.ownN base t sz _ 0 []) (OwnN.nil _ _ _ _) fun k hk => by cases hk
theorem St.newN (h : St base w0 L w) (t sz : Nat) : St base w0 (Asn.ownN base t sz (.slice (some ⟨w.heap.size, 0, none⟩) 0 0) 0 [] :: L) (w.alloc (.cells #[] t)) :=
  h.allocPush (a := Asn.ownN base t sz _ 0 []) _ (OwnN.new w base t sz h.le) fun k hk => by
    have : w.heap.size = k := by simpa [Asn.ownN, Value.ownBlock] using hk
    exact this.symm
theorem St.appdN {t sz n n' gn m cap : Nat} {v : Value} {cs cs' : List Value} (h : St base w0 (Asn.ownN base t sz v n cs :: L) w) (hO : OwnN w' base t sz (.slice (some ⟨gn, 0, none⟩) m cap) n' cs') (hb : Below base w w') (hold : ∀ k, k < w.heap.size → v.ownBlock ≠ some k → w'.heap[k]? = w.heap[k]?)
    (hg : v.ownBlock = some gn ∨ w.heap.size ≤ gn) : St base w0 (Asn.ownN base t sz (.slice (some ⟨gn, 0, none⟩) m cap) n' cs' :: L) w' :=
  h.turn (a' := Asn.ownN base t sz _ n' cs') hO (fun k hk => by
    have e : gn = k := by simpa [Asn.ownN, Value.ownBlock] using hk
    subst e
    exact hg) (fun k hk => ((show OwnN w base t sz v n cs from h.star.1).lt k hk).1) hb fun k hk hne => hold k hk hne
theorem St.setN {t sz gn n cap : Nat} {cs : List Value} (h : St base w0 (Asn.ownN base t sz (.slice (some ⟨gn, 0, none⟩) n cap) n cs :: L) w) (i : Nat) (u : Value) : St base w0 (Asn.ownN base t sz (.slice (some ⟨gn, 0, none⟩) n cap) n (cs.set i u) :: L) (w.setCell ⟨gn, i, none⟩ u) :=
  have hb : base ≤ gn := ((show OwnN w base t sz _ n cs from h.star.1).lt gn rfl).1
  h.turn (a' := Asn.ownN base t sz _ n (cs.set i u)) (OwnN.set h.star.1 i u) (fun k hk => .inl hk) (fun k hk => ((show OwnN w base t sz _ n cs from h.star.1).lt k hk).1) ((Below.refl _ _).setCell hb u)
    fun k _ hk => heap_setCell_other w ⟨gn, i, none⟩ k u fun e => hk (show Value.ownBlock _ = some k by rw [e]; rfl)
theorem St.callN {t sz n : Nat} {v : Value} {cs : List Value} (h : St base w0 L w) (hb : Below w.heap.size w w') (ha : OwnN w' w.heap.size t sz v n cs) : St base w0 (Asn.ownN base t sz v n cs :: L) w' :=
  h.callPush (a := Asn.ownN base t sz v n cs) hb (ha.mono h.le) fun k hk => (ha.lt k hk).1
theorem St.appNw {ops : Array Oper} {rest : List Oper} {o : Oper} {act : Act} {Q : Exit → Act → World → Prop} (t e : TypeId) (z : Value) (sz bytes : Nat)
    (ht : Try.prog.underlying t = some (.slice e)) (hinfo : (Try.prog.info? e).map (fun i => (i.zero, i.size, i.bytes)) = some (some z, sz, bytes)) (hz : z.cells.size = sz) (hsz : 0 < sz) (hb : bytes ≤ 64)
    (hgd : o.guard = none) (s x : Operand) (ho : o.op = .call { callee := .builtin .append, args := #[s, x], argTypes := #[t, t] })
    (v : Value) (n : Nat) (cs : List Value) (hs : act.eval s = v) (hS : St base w0 (Asn.ownN base e sz v n cs :: L) W) (news : List Value) (hnl : news.length = sz) (hc1 : ∀ u ∈ news, u.oneCell' = true)
    (hx : act.eval x = .slice (some ⟨W.heap.size, 0, none⟩) 1 1) (hlen : n ≤ 1000000000)
    (h : ∀ g cap w', St base w0 (Asn.ownN base e sz (.slice (some ⟨g, 0, none⟩) (n + 1) cap) (n + 1) (cs ++ news) :: L) w' → wpList Try.prog ops Q rest (act.put o.dst (.slice (some ⟨g, 0, none⟩) (n + 1) cap)) w') :
    wpList Try.prog ops Q (o :: rest) act (W.alloc (.cells news.toArray e)) := by
  refine appN t e z sz bytes ht hinfo hz hsz hb hgd s x ho base v n cs hs hS.star.1 hS.le news hnl hc1 hx hlen ?_
  intro g cap w' h1 h2 h3 h4 h5
  exact h g cap w' (hS.appdN h1 h2 h3 (h5.imp id Nat.le_of_lt))
end
end Go.Proofs.Ytgpjcekpmhfljaa

/- The reference's machines with any number of states. -/
namespace Go.Proofs.Ytgpjcekpmhfljaa
open Go.RowKit
set_option linter.unusedVariables false
set_option linter.unusedSimpArgs false

/-- An element of several cells appended, at a step of a region that draws: it lies in a box. -/
theorem St.stepN {ops : Array Oper} {o : Oper} {act : Act} {W w0 : World} {K : Act → World → Prop} {Q : Exit → Act → World → Prop} {E : Prop} {L : List Asn} {base : Nat} (t e tb : TypeId) (z : Value) (sz bytes : Nat)
    (ht : Try.prog.underlying t = some (.slice e)) (hinfo : (Try.prog.info? e).map (fun i => (i.zero, i.size, i.bytes)) = some (some z, sz, bytes)) (hz : z.cells.size = sz) (hsz : 0 < sz) (hb : bytes ≤ 64)
    (hgd : o.guard = none) (s x : Operand) (ho : o.op = .call { callee := .builtin .append, args := #[s, x], argTypes := #[t, t] })
    (v : Value) (n : Nat) (cs : List Value) (hs : act.eval s = v) {B : Nat} {news : List Value} (hS : St base w0 (Asn.ownN base e sz v n cs :: Asn.blk B news.toArray tb :: L) W) (hnl : news.length = sz) (hc1 : ∀ u ∈ news, u.oneCell' = true)
    (hx : act.eval x = .slice (some ⟨B, 0, none⟩) 1 1) (hlen : n ≤ 1000000)
    (h : ∀ g cap w', St base w0 (Asn.ownN base e sz (.slice (some ⟨g, 0, none⟩) (n + 1) cap) (n + 1) (cs ++ news) :: Asn.blk B news.toArray tb :: L) w' → K (act.put o.dst (.slice (some ⟨g, 0, none⟩) (n + 1) cap)) w') :
    if Region.wanted o (yielded ops act.tmps) = true then Oper.wp Try.prog o act W K Q else E := by
  obtain ⟨i, hi, hz0, hz1, hz2⟩ := info_parts hinfo
  have hw : Region.wanted o (yielded ops act.tmps) = true := by simp [Region.wanted, hgd]
  rw [if_pos hw]
  have hown : OwnN W base e sz v n cs := hS.star.1
  refine wp_append_lies W s x t ho base e i z sz bytes ht hi hz0 hz1 hz2 hz hsz v n cs hs hown ⟨B, 0, none⟩ 1 1 news hx (by rw [hnl, Nat.one_mul])
    (fun j u hu => ?_) hc1 (by omega) (by simp only [maxLen]; omega) (Nat.le_trans (Nat.mul_le_mul_left _ hb) (by omega)) hS.le _ rfl ?_
  · rw [Addr.add_mid, Nat.zero_add, cell_of_row W B j _ _ _ hS.star.2.2.1]
    simpa using hu
  · intro g cap w' h1 h2 h3 h4
    have hold : ∀ k, k < W.heap.size → v.ownBlock ≠ some k → w'.heap[k]? = W.heap[k]? := fun k hk hne => h2.block k hk (fun e => hne e.symm)
    exact h g cap w' (hS.appdN h1 ⟨h2.os, h2.tape, h2.output, h2.size, fun k hk => hold k (by have := hS.le; omega) (fun e => by have := (hown.lt k e).1; omega)⟩ hold (h3.imp id (fun e => Nat.le_of_eq e.symm)))

theorem OwnN.oneCell {w : World} {b e sz n : Nat} {v : Value} {cs : List Value} (h : OwnN w b e sz v n cs) : v.oneCell' = true := by
  rcases h.2 with ⟨rfl, _⟩ | ⟨g, cap, cur, rfl, _⟩ <;> rfl
/-- A struct or an array in a block of its own is handed back. -/
theorem ret_blk {P : Program} {fn : Func} {R : Ending → World → Prop} {a : Act} {w : World} {p ty : Nat} (h : fn.results = #[.cell p ty]) {g t : Nat} {cs : Array Value} {d : TypeDesc}
    (hp : a.tmps.getD p undef = .pointer (some ⟨g, 0, none⟩)) (hb : w.heap[g]? = some (.cells cs t (0, 0))) (hu : P.underlying ty = some d) (hd : (match d with | .struct _ | .array _ _ => true | _ => false) = true)
    (hi : (P.info? ty).map (·.size) = some cs.size) (hdf : a.defers = []) (hR : R (.returned (.agg cs)) w) : bodyPost P fn R .ret a w :=
  bodyPost_ret (results_cell_row h a.tmps w g t _ _ d hp hb hu hd hi) hdf hR

/-- The rows of a function as cells, three a row. -/
def rcs (k : IntKind) (f : Nat → Nat → Nat) (L n : Nat) : List Value := (List.range (n * 3)).map fun p => .int k ((if p % 3 < L then f (p / 3) (p % 3) else 0 : Nat) : Int)
def rc1 (k : IntKind) (f : Nat → Nat → Nat) (L q : Nat) : List Value := (List.range 3).map fun x => .int k ((if x < L then f q x else 0 : Nat) : Int)
theorem rcs_length (k : IntKind) (f : Nat → Nat → Nat) (L n : Nat) : (rcs k f L n).length = n * 3 := by simp [rcs]
theorem rc1_one (k : IntKind) (f : Nat → Nat → Nat) (L q : Nat) : ∀ u ∈ rc1 k f L q, u.oneCell' = true := by
  intro u hu
  obtain ⟨x, _, rfl⟩ := List.mem_map.1 hu
  rfl
theorem rc1_lit (k : IntKind) (f : Nat → Nat → Nat) (L q : Nat) : ∃ a b c : Nat, rc1 k f L q = [.int k (a : Int), .int k (b : Int), .int k (c : Int)] := ⟨_, _, _, rfl⟩
theorem rc1_get (k : IntKind) (f : Nat → Nat → Nat) (L q x : Nat) (hx : x < 3) : (rc1 k f L q)[x]? = some (.int k ((if x < L then f q x else 0 : Nat) : Int)) := by simp [rc1, hx]
theorem rcs_snoc (k : IntKind) (f : Nat → Nat → Nat) (L n : Nat) : rcs k f L (n + 1) = rcs k f L n ++ rc1 k f L n := by
  unfold rcs rc1
  rw [show (n + 1) * 3 = n * 3 + 3 by omega, List.range_add, List.map_append, List.map_map]
  congr 1
  apply List.map_congr_left
  intro x hx
  have hx3 := List.mem_range.1 hx
  simp only [Function.comp]
  rw [show (n * 3 + x) % 3 = x by omega, show (n * 3 + x) / 3 = n by omega]
theorem rcs_get (k : IntKind) (f : Nat → Nat → Nat) (L n q x : Nat) (hq : q < n) (hx : x < 3) : (rcs k f L n)[q * 3 + x]? = some (.int k ((if x < L then f q x else 0 : Nat) : Int)) := by
  unfold rcs
  rw [List.getElem?_map, List.getElem?_range (by omega), Option.map_some, show (q * 3 + x) % 3 = x by omega, show (q * 3 + x) / 3 = q by omega]
theorem rcs_row (k : IntKind) (f : Nat → Nat → Nat) (L n q : Nat) (hq : q < n) : ∀ j, j < (rc1 k f L q).length → (rcs k f L n)[q * 3 + j]? = (rc1 k f L q)[j]? := fun j hj => by
  have hj3 : j < 3 := by simpa [rc1] using hj
  rw [rcs_get k f L n q j hq hj3, rc1_get k f L q j hj3]
theorem rcs_in (k : IntKind) (f : Nat → Nat → Nat) (L n q x : Nat) (hq : q < n) (hx : x < L) (hL : L ≤ 3) : (rcs k f L n)[q * 3 + x]? = some (.int k (f q x : Nat)) := by
  rw [rcs_get k f L n q x hq (by omega), if_pos hx]


/-- A row that is filled. -/
def fil3 (f : Nat → Nat → Nat) (q x : Nat) : Array Value := #[.int .i64 ((if 0 < x then f q 0 else 0 : Nat) : Int), .int .i64 ((if 1 < x then f q 1 else 0 : Nat) : Int), .int .i64 ((if 2 < x then f q 2 else 0 : Nat) : Int)]
theorem fil3_set (f : Nat → Nat → Nat) (q x : Nat) (hx : x < 3) : (fil3 f q x).setIfInBounds x (.int .i64 (f q x : Nat)) = fil3 f q (x + 1) := by
  have : x = 0 ∨ x = 1 ∨ x = 2 := by omega
  rcases this with rfl | rfl | rfl <;> simp [fil3, Array.setIfInBounds]
theorem fil3_all (f : Nat → Nat → Nat) (q L : Nat) : fil3 f q L = (rc1 .i64 f L q).toArray := rfl
theorem fil3_get (f : Nat → Nat → Nat) (q x j : Nat) (hj : j < 3) : ∃ u, (fil3 f q x)[j]? = some u := ⟨_, Array.getElem?_eq_getElem (by simpa [fil3] using hj)⟩

theorem mf_row {m : Mach} {l s : Nat} (g : Good m l s) (q : Nat) (hq : q < s) : ∀ j, j < 3 → mf m (50 + q * 3 + j) = .int .u8 ((if j < l then (tabOf m l s).ot q j else 0 : Nat) : Int) := fun j hj => by
  rw [mf_ot]
  by_cases h : j < l
  · rw [if_pos h]; rfl
  · rw [if_neg h, (g.z q j (by have := g.s16; omega) hj (fun hh => h hh.2)).2]

end Go.Proofs.Ytgpjcekpmhfljaa

/- The reference's least equal states of a large machine. -/
namespace Go.Proofs.Ytgpjcekpmhfljaa
open Go.RowKit
set_option linter.unusedVariables false
set_option linter.unusedSimpArgs false

/-- Equal rows of bytes. -/
theorem rc1_iff (f : Nat → Nat → Nat) (L a b : Nat) (hL : L ≤ 3) : rc1 .u8 f L a = rc1 .u8 f L b ↔ (alls L fun x => f a x == f b x) = true := by
  rw [alls_iff]
  constructor
  · intro h x hx
    have h1 := rc1_get .u8 f L a x (by omega)
    rw [h, rc1_get .u8 f L b x (by omega), if_pos hx, if_pos hx] at h1
    simp at h1; simp; omega
  · intro h
    unfold rc1
    apply List.map_congr_left
    intro x _
    by_cases hx : x < L
    · have := h x hx
      simp at this
      rw [if_pos hx, if_pos hx, this]
    · rw [if_neg hx, if_neg hx]
theorem lit3_iff {a b c a' b' c' : Nat} : ([Value.int .u8 (a : Int), .int .u8 (b : Int), .int .u8 (c : Int)] = [.int .u8 (a' : Int), .int .u8 (b' : Int), .int .u8 (c' : Int)]) ↔ a = a' ∧ b = b' ∧ c = c' := by
  constructor
  · intro h; simp at h; omega
  · rintro ⟨rfl, rfl, rfl⟩; rfl
theorem rc1_lit256 (f : Nat → Nat → Nat) (L q : Nat) (h : ∀ x, x < L → f q x < 256) : ∃ a b c : Nat, rc1 .u8 f L q = [.int .u8 (a : Int), .int .u8 (b : Int), .int .u8 (c : Int)] ∧ a < 256 ∧ b < 256 ∧ c < 256 := by
  have hx : ∀ x, (if x < L then f q x else 0) < 256 := fun x => by
    by_cases hx : x < L
    · rw [if_pos hx]; exact h x hx
    · rw [if_neg hx]; omega
  exact ⟨_, _, _, rfl, hx 0, hx 1, hx 2⟩
theorem clsL_stable {T : Tab} {k : Nat} (h : Stable T k) : clsL T (k + 1) T.n = clsL T k T.n := by
  unfold clsL
  apply List.map_congr_left
  intro q hq
  exact h q (List.mem_range.1 hq)
/-- A list filled up to q, with x at q. -/
theorem filL_at (f : Nat → Nat) (q n x : Nat) (hq : q < n) : ∀ j, j < n → ((nats (filL f q n)).set q (.int .i64 (x : Int)))[j]? = some (.int .i64 ((if j = q then x else if j < q then f j else 0 : Nat) : Int)) := fun j hj => by
  rw [List.getElem?_set]
  by_cases e : q = j
  · subst e; rw [if_pos rfl, if_pos (by rw [nats_length, filL_length]; exact hj), if_pos rfl]
  · rw [if_neg e, if_neg (Ne.symm e)]
    simp [nats, filL, hj]
theorem filL_done (f : Nat → Nat) (q n x : Nat) (h : x = f q) : (nats (filL f q n)).set q (.int .i64 (x : Int)) = nats (filL f (q + 1) n) := by subst h; exact filL_set f q n

end Go.Proofs.Ytgpjcekpmhfljaa

/- The machine of a state of a large machine: the reference's search. -/
namespace Go.Proofs.Ytgpjcekpmhfljaa
open Go.RowKit
set_option linter.unusedVariables false
set_option linter.unusedSimpArgs false

/-- The numbers of what has been met. -/
def nmL (st : List Nat) (n : Nat) : List Int := (List.range n).map fun c => if c ∈ st then ((st.idxOf c : Nat) : Int) else -1
theorem nmL_length (st : List Nat) (n : Nat) : (nmL st n).length = n := by simp [nmL]
theorem nmL_get (st : List Nat) (n c : Nat) (h : c < n) : (ints (nmL st n))[c]? = some (.int .i64 (if c ∈ st then ((st.idxOf c : Nat) : Int) else -1)) := by simp [ints, nmL, h]
theorem nmL_add (st : List Nat) (n c : Nat) (hc : c ∉ st) : (ints (nmL st n)).set c (.int .i64 (st.length : Nat)) = ints (nmL (st ++ [c]) n) := by
  apply List.ext_getElem?
  intro i
  rw [List.getElem?_set]
  by_cases h : i < n
  · rw [nmL_get _ _ _ h, nmL_get _ _ _ h]
    by_cases e : c = i
    · subst e
      rw [if_pos rfl, if_pos (by rw [ints_length, nmL_length]; exact h), if_pos (by simp), List.idxOf_append, if_neg hc]
      simp
    · rw [if_neg e]
      by_cases hm : i ∈ st
      · rw [if_pos hm, if_pos (by simp [hm]), List.idxOf_append, if_pos hm]
      · rw [if_neg hm, if_neg (by simp [hm]; exact fun e' => e e'.symm)]
  · have h1 : ∀ l, (ints (nmL l n))[i]? = none := fun l => List.getElem?_eq_none (by rw [ints_length, nmL_length]; omega)
    rw [h1, h1]
    by_cases e : c = i
    · rw [if_pos e, if_neg (by rw [ints_length, nmL_length]; omega)]
    · rw [if_neg e]
/-- A list that is filled with -1. -/
def filM (q n : Nat) : List Int := (List.range n).map fun j => if j < q then -1 else 0
theorem filM_length (q n : Nat) : (filM q n).length = n := by simp [filM]
theorem filM_zero (n : Nat) : List.replicate n (Value.int .i64 0) = ints (filM 0 n) := by
  apply List.ext_getElem?
  intro i
  by_cases h : i < n
  · simp [ints, filM, h]
  · simp [ints, filM, h]
theorem filM_set (q n : Nat) : (ints (filM q n)).set q (.int .i64 (-1)) = ints (filM (q + 1) n) := by
  apply List.ext_getElem?
  intro i
  rw [List.getElem?_set]
  by_cases hi : q = i
  · subst hi
    by_cases h : q < n
    · rw [if_pos rfl, if_pos (by simp [ints, filM]; exact h)]
      simp [ints, filM, h]
    · rw [if_pos rfl, if_neg (by simp [ints, filM]; omega)]
      simp [ints, filM, h]
  · rw [if_neg hi]
    by_cases h : i < n
    · simp only [ints, filM, List.getElem?_map, List.getElem?_range h, Option.map_some]
      by_cases hl : i < q
      · rw [if_pos hl, if_pos (by omega)]
      · rw [if_neg hl, if_neg (by omega)]
    · simp [ints, filM, h]
theorem filM_all (n : Nat) : filM n n = nmL [] n := by
  unfold filM nmL
  apply List.map_congr_left
  intro j hj
  rw [if_pos (List.mem_range.1 hj)]
  simp

/-- The reference's machine as far as it is written: the row i has its outputs already. -/
def gthS (T : Tab) (c : Nat → Nat) (st : List Nat) (i x : Nat) : Mach := ⟨T.L, st.length, (gthP T c st i x).nx, (gthP T c st (i + 1) 0).ot⟩
theorem gthS_row (T : Tab) (c : Nat → Nat) (st : List Nat) (i : Nat) (hL : T.L ≤ 3) : gthS T c st i T.L = gthP T c st (i + 1) 0 := by
  have h := gthP_row T c st i hL
  unfold gthS
  rw [h]
  rfl
theorem gthS_step (T : Tab) (c : Nat → Nat) (st : List Nat) (i x s : Nat) (hx : x < T.L) (hL : T.L ≤ 3) (hs : st[i]? = some s) :
    gthS T c st i (x + 1) = { (gthS T c st i x) with nx := upd (gthS T c st i x).nx (i * 3 + x) (st.idxOf (c (T.nx s x))) } := by
  have h := gthP_step T c st i x s hx hL hs
  unfold gthS
  rw [h]
theorem gthS_out (T : Tab) (c : Nat → Nat) (st : List Nat) (i s a0 a1 a2 : Nat) (hs : st[i]? = some s) (h0 : a0 = if 0 < T.L then T.ot s 0 else 0) (h1 : a1 = if 1 < T.L then T.ot s 1 else 0) (h2 : a2 = if 2 < T.L then T.ot s 2 else 0) :
    gthS T c st i 0 = { (gthP T c st i 0) with ot := upd (upd (upd (gthP T c st i 0).ot (i * 3 + 0) a0) (i * 3 + 1) a1) (i * 3 + 2) a2 } := by
  have hg : st.getD i 0 = s := by rw [List.getD_eq_getElem?_getD, hs]; rfl
  unfold gthS gthP upd
  dsimp only
  congr 1
  funext p
  by_cases e : p / 3 = i
  · have hp : p = i * 3 + 0 ∨ p = i * 3 + 1 ∨ p = i * 3 + 2 := by omega
    rcases hp with rfl | rfl | rfl
    · rw [if_neg (show ¬ i * 3 + 0 = i * 3 + 2 by omega), if_neg (show ¬ i * 3 + 0 = i * 3 + 1 by omega), if_pos rfl, h0, show (i * 3 + 0) / 3 = i by omega, show (i * 3 + 0) % 3 = 0 by omega, hg]
      by_cases hl : 0 < T.L
      · rw [if_pos hl, if_pos ⟨.inl (by omega), hl⟩]
      · rw [if_neg hl, if_neg (fun h => hl h.2)]
    · rw [if_neg (show ¬ i * 3 + 1 = i * 3 + 2 by omega), if_pos rfl, h1, show (i * 3 + 1) / 3 = i by omega, show (i * 3 + 1) % 3 = 1 by omega, hg]
      by_cases hl : 1 < T.L
      · rw [if_pos hl, if_pos ⟨.inl (by omega), hl⟩]
      · rw [if_neg hl, if_neg (fun h => hl h.2)]
    · rw [if_pos rfl, h2, show (i * 3 + 2) / 3 = i by omega, show (i * 3 + 2) % 3 = 2 by omega, hg]
      by_cases hl : 2 < T.L
      · rw [if_pos hl, if_pos ⟨.inl (by omega), hl⟩]
      · rw [if_neg hl, if_neg (fun h => hl h.2)]
  · rw [if_neg (show ¬ p = i * 3 + 2 by omega), if_neg (show ¬ p = i * 3 + 1 by omega), if_neg (show ¬ p = i * 3 + 0 by omega)]
    by_cases h : (p / 3 < i + 1 ∨ p / 3 = i + 1 ∧ p % 3 < 0) ∧ p % 3 < T.L
    · rw [if_pos h, if_pos ⟨by omega, h.2⟩]
    · rw [if_neg h, if_neg (fun h' => h ⟨by omega, h'.2⟩)]
def fromB (T : Tab) (q : Nat) : Bool := decide ((fin T (fix T) q).length ≤ 16)
theorem ret_mach_v {fn : Func} {R : Ending → World → Prop} {a : Act} {w : World} {p q : Nat} (h : fn.results = #[.cell p 29, .tmp q]) {g t : Nat} {m : Mach} {v : Value}
    (hp : a.tmps.getD p undef = .pointer (some ⟨g, 0, none⟩)) (hq : a.tmps.getD q undef = v) (hm : MB w t g m) (hdf : a.defers = []) (hR : R (.returned (.tuple #[.agg (mcells m), v])) w) : bodyPost Try.prog fn R .ret a w := by
  refine bodyPost_ret (v := .tuple #[.agg (mcells m), v]) ?_ hdf hR
  have hp' : a.tmps[p]?.getD undef = .pointer (some ⟨g, 0, none⟩) := by simpa using hp
  have hq' : a.tmps[q]?.getD undef = v := by simpa using hq
  have := run_loadVar_row (P := Try.prog) w g t 29 (mcells m) (0, 0) _ hm.heap Try.underlying29 rfl (by rw [size_mcells]; exact sz_mach)
  simp [results, h, hp', hq', asAddr, this]

end Go.Proofs.Ytgpjcekpmhfljaa

/- LevelPermutation: the program's and the reference's come to the same; the law's body. -/
namespace Go.Proofs.Ytgpjcekpmhfljaa
open Go.RowKit
set_option linter.unusedVariables false
set_option linter.unusedSimpArgs false

open Classical in
/-- What LevelPermutation answers. -/
noncomputable def levelAns (m : Mach) (q n : Int) : List Int × Int :=
  if IsM m then if (0 ≤ q ∧ q < m.S) ∧ 0 ≤ n ∧ n ≤ 5 then ((perm m m.L.toNat q.toNat n.toNat).map Int.ofNat, 0) else ([], 2) else ([], 1)
theorem levelAns_1 {m : Mach} {q n : Int} (h : ¬ IsM m) : levelAns m q n = ([], 1) := by unfold levelAns; rw [if_neg h]
theorem levelAns_2 {m : Mach} {q n : Int} {l s : Nat} (g : Good m l s) (h : ¬ ((0 ≤ q ∧ q < (s : Int)) ∧ 0 ≤ n ∧ n ≤ 5)) : levelAns m q n = ([], 2) := by unfold levelAns; rw [if_pos g.isM, g.S, if_neg h]
theorem levelAns_0 {m : Mach} {l s : Nat} (g : Good m l s) (q n : Nat) (hq : q < s) (hn : n ≤ 5) : levelAns m q n = ((perm m l q n).map Int.ofNat, 0) := by
  unfold levelAns
  rw [if_pos g.isM, g.S, g.L, if_pos (by omega)]
  rfl

theorem levelAns_len (m : Mach) (q n : Int) : (levelAns m q n).1.length < 999999 := by
  by_cases hm : IsM m
  · obtain ⟨l, s, g⟩ := hm.good
    by_cases h : (0 ≤ q ∧ q < (s : Int)) ∧ 0 ≤ n ∧ n ≤ 5
    · obtain ⟨q, rfl⟩ := Int.eq_ofNat_of_zero_le h.1.1
      obtain ⟨n, rfl⟩ := Int.eq_ofNat_of_zero_le h.2.1
      rw [levelAns_0 g q n (by omega) (by omega)]
      have := pw_small l n g.l3 (by omega)
      rw [List.length_map, perm_length]; omega
    · rw [levelAns_2 g h]; simp
  · rw [levelAns_1 hm]; simp
/-- Two that answer alike. -/
def AnsL (w : World) (A : List Int × Int) (e : Ending) (w' : World) : Prop := ∃ v, e = .returned (.tuple #[v, .int .i64 A.2]) ∧ Own w' w.heap.size 2 v (ints A.1) ∧ Below w.heap.size w w'


theorem codeI_one {m : Mach} {l s : Nat} {q : Int} (g : Good m l s) (hq : 0 ≤ q ∧ q < (s : Int)) : codeI m { data := #[] } [q] = 0 := codeI_0 g (isWd_nil _) (fun x hx => by simp at hx; subst hx; exact hq)
theorem codeI_bad {m : Mach} {l s : Nat} {q : Int} (g : Good m l s) (hq : ¬ (0 ≤ q ∧ q < (s : Int))) : codeI m { data := #[] } [q] = 2 := codeI_2 g (isWd_nil _) (fun h => hq (h q (by simp)))

end Go.Proofs.Ytgpjcekpmhfljaa

/- MachineOfState: what the program and the reference answer. -/
namespace Go.Proofs.Ytgpjcekpmhfljaa
open Go.RowKit
set_option linter.unusedVariables false
set_option linter.unusedSimpArgs false


open Classical in
/-- What MachineOfState answers. -/
noncomputable def mosAns (m : Mach) (q : Int) : Mach × Int := if codeI m { data := #[] } [q] = 0 then (fromM (tabOf m m.L.toNat m.S.toNat) q.toNat, 0) else (⟨0, 0, fun _ => 0, fun _ => 0⟩, codeI m { data := #[] } [q])
theorem mosAns_0 {m : Mach} {l s q : Nat} (g : Good m l s) (hq : q < s) : mosAns m q = (fromM (tabOf m l s) q, 0) := by
  unfold mosAns; rw [if_pos (codeI_one g ⟨by omega, by omega⟩), g.L, g.S]; rfl
theorem mosAns_2 {m : Mach} {l s : Nat} {q : Int} (g : Good m l s) (hq : ¬ (0 ≤ q ∧ q < (s : Int))) : mosAns m q = (⟨0, 0, fun _ => 0, fun _ => 0⟩, 2) := by
  unfold mosAns; rw [codeI_bad g hq, if_neg (by decide)]
theorem mosAns_1 {m : Mach} {q : Int} (hm : ¬ IsM m) : mosAns m q = (⟨0, 0, fun _ => 0, fun _ => 0⟩, 1) := by
  unfold mosAns; rw [codeI_1 hm, if_neg (by decide)]

theorem codeI_cases (m : Mach) (q : Int) : codeI m { data := #[] } [q] = 1 ∨ codeI m { data := #[] } [q] = 2 ∨ ∃ l s q', Good m l s ∧ q = ((q' : Nat) : Int) ∧ q' < s ∧ codeI m { data := #[] } [q] = 0 := by
  by_cases hm : IsM m
  · obtain ⟨l, s, g⟩ := hm.good
    by_cases hq : 0 ≤ q ∧ q < (s : Int)
    · obtain ⟨q', rfl⟩ := Int.eq_ofNat_of_zero_le hq.1
      exact .inr (.inr ⟨l, s, q', g, rfl, by omega, codeI_one g hq⟩)
    · exact .inr (.inl (codeI_bad g hq))
  · exact .inl (codeI_1 hm)


end Go.Proofs.Ytgpjcekpmhfljaa
