/- What the proof of FnLevels leans on, part 23 of 28. -/
import Derived.Test.YthmcdfjijkecfaaGreatZFnLevelsV
/- The tree of a word: the reference's function. -/
namespace Go.Proofs.YthmcdfjijkecfaaGreat
open Go.RowKit
set_option linter.unusedVariables false
set_option linter.unusedSimpArgs false
-- @LONG

/-- A struct stored whole, at a step of a region that draws. -/
theorem step_store_row {P : Program} {ops : Array Oper} {o : Oper} {a : Act} {w : World} {K : Act → World → Prop} {Q : Exit → Act → World → Prop} {E : Prop} (hgd : o.guard = none) (ty : TypeId) (x y : Operand) (ho : o.op = .store ty x y)
    (g : Nat) (cells : Array Value) (hx : a.eval x = .pointer (some ⟨g, 0, none⟩)) (hy : a.eval y = .agg cells)
    (t : TypeId) (old : Array Value) (hg : w.heap[g]? = some (.cells old t (0, 0))) (hi : (P.info? ty).map (·.size) = some cells.size)
    (hold : old.size = cells.size) (h1 : cells.all (·.oneCell') = true)
    (h : K (a.put o.dst undef) (w.setRow g cells)) : if Region.wanted o (yielded ops a.tmps) = true then Oper.wp P o a w K Q else E := by
  have hw : Region.wanted o (yielded ops a.tmps) = true := by simp [Region.wanted, hgd]
  rw [if_pos hw]
  exact wp_store_row ty x y ho g cells hx hy t old hg hi hold h1 h
theorem rep_step (n i : Nat) (a b : Value) (h : i < n) : (List.replicate i a ++ List.replicate (n - i) b).set i a = List.replicate (i + 1) a ++ List.replicate (n - (i + 1)) b := by
  obtain ⟨r, rfl⟩ : ∃ r, n = i + 1 + r := ⟨n - (i + 1), by omega⟩
  rw [show i + 1 + r - i = r + 1 by omega, show i + 1 + r - (i + 1) = r by omega, List.set_append_right _ _ (by simp), List.replicate_succ, List.replicate_succ']
  simp
theorem sz_tree4 : (Tryz.prog.info? 134).map (·.size) = some 4 := by kernel_rfl
set_option maxHeartbeats 20000000 in
set_option maxRecDepth 100000 in
theorem grow_any (w : World) (m : Mach) (l s : Nat) (gd : Good m l s) (b0 : Nat) (v : Value) (M : List (List Int)) (hM : Mat w b0 v M) (hMl : M.length = 2 * s) (n k : Nat) (hn : n ≤ 243) (hk : k < n) (T : Nat → Nat → Nat)
    (hTM : ∀ p, p < 2 * s → ∃ row, M[p]? = some row ∧ row.length = n ∧ ∀ i, i < n → row[i]? = some ((T p i : Nat) : Int)) (hT : ∀ j fr, j < 2 * s → fr < n → T j fr < n) :
    Calls Tryz.prog 113 #[.agg (mcells m), v, .int .i64 k] w fun e w' => ∃ g1 c1 g2 g3 g4 X, e = .returned (.agg #[.slice (some ⟨g1, 0, none⟩) (treeT T s n k).q.length c1, .slice (some ⟨g2, 0, none⟩) n n, .slice (some ⟨g3, 0, none⟩) n n, .slice (some ⟨g4, 0, none⟩) n n]) ∧ Lk n k (treeT T s n k) X ∧
      St w.heap.size w [Asn.own w.heap.size 2 (.slice (some ⟨g1, 0, none⟩) (treeT T s n k).q.length c1) (nats (treeT T s n k).q), Asn.own w.heap.size 2 (.slice (some ⟨g2, 0, none⟩) n n) (ints X.1), Asn.own w.heap.size 2 (.slice (some ⟨g3, 0, none⟩) n n) (ints X.2), Asn.own w.heap.size 2 (.slice (some ⟨g4, 0, none⟩) n n) (ints (treeT T s n k).far)] w' := by
  have gS := hid gd.S
  have s1 := gd.s1
  have s16 := gd.s16
  obtain ⟨gM, cM, rfl, _, _⟩ := hM.blk (fun e => by rw [e] at hMl; simp at hMl; omega)
  rw [hMl] at hM ⊢
  have hrM := hid (fun p (hp : p < 2 * s) W (hb : Below w.heap.size w W) => (show ∃ g c, W.cell? ⟨gM, p, none⟩ = some (.slice (some ⟨g, 0, none⟩) n c) ∧ ∀ i, i < n → ∀ W', Below W.heap.size W W' → W'.cell? ⟨g, i, none⟩ = some (.int .i64 ((T p i : Nat) : Int)) from by
    obtain ⟨row, h1, h2, h3⟩ := hTM p hp
    obtain ⟨r, hc, hO⟩ := (hM.below hb).row p row h1
    obtain ⟨g, c, rfl, _⟩ := hO.blk (fun e => by have h4 := congrArg List.length e; rw [ints_length, h2] at h4; simp at h4; omega)
    rw [ints_length, h2] at hc hO
    exact ⟨g, c, hc, fun i hi W' hb' => (hO.below hb').cellAt i _ (by simp [ints, h3 i hi])⟩))
  clear hTM hM hMl
  have hmk := fun W : World => run_make_row' (P := Tryz.prog) 32 2 (.int .i64 0) 8 Tryz.underlying32 info_i64 rfl .i64 .i64 n (by omega) (by omega) W
  have hmc := hid (toList_madeCells_one (.int .i64 0) n)
  generalize madeCells #[.int .i64 0] n = mc at *
  have hmcs := hid (show mc.size = n by rw [← Array.length_toList, hmc.out, List.length_replicate])
  have hS := hid (((St.start w).newMB m 27).newBlk #[.slice none 0 0, .slice none 0 0, .slice none 0 0, .slice none 0 0] 134)
  simp only [heap_alloc_size] at hS
  obtain ⟨g0, c0, hr0, _⟩ := hrM.out 0 (by omega) _ hS.out.bel
  replace hT := hid hT
  replace gd := hid gd
  have hM1 : (1 : Int) ≤ ((2 * s : Nat) : Int) := by omega
  have hM0 : (0 : Int) < ((2 * s : Nat) : Int) := by omega
  generalize h2s : 2 * s = s2 at *
  replace h2s := hid h2s
  generalize mcells m = mcl at *
  go_enter Tryz.func113, Tryz.ntmps113
  go_upto_region 2 with (fail)
  clear hr0 hM0 hM1
  generalize (w.alloc (.cells mcl 27)).alloc (.cells #[.slice none 0 0, .slice none 0 0, .slice none 0 0, .slice none 0 0] 134) = wz at *
  go_cut [8] from 18 to 26 (fun b wr => ∃ bt gq gf gs gd, b = .pointer (some ⟨bt, 0, none⟩) ∧ w.heap.size ≤ bt ∧ St w.heap.size w [Asn.blk bt #[.slice (some ⟨gq, 0, none⟩) 1 1, .slice (some ⟨gf, 0, none⟩) n n, .slice (some ⟨gs, 0, none⟩) n n, .slice (some ⟨gd, 0, none⟩) n n] 134, Asn.own w.heap.size 2 (.slice (some ⟨gq, 0, none⟩) 1 1) (nats [k]), Asn.own w.heap.size 2 (.slice (some ⟨gf, 0, none⟩) n n) (List.replicate n (.int .i64 0)), Asn.own w.heap.size 2 (.slice (some ⟨gs, 0, none⟩) n n) (List.replicate n (.int .i64 0)), Asn.own w.heap.size 2 (.slice (some ⟨gd, 0, none⟩) n n) (List.replicate n (.int .i64 0)), Asn.blk (w.heap.size + 1) #[.slice none 0 0, .slice none 0 0, .slice none 0 0, .slice none 0 0] 134, Asn.mb 27 w.heap.size m] wr)
  case first =>
    replace hS := hid hS.out.drew
    refine wp_region_heldL (L := []) (by kernel_rfl) HeldL.nil (fun hHeld => ?_)
    generalize wz.drew = wa at *
    refine wpAnyL_take0 (i := 0) (v := ?_) rfl (by kernel_rfl) (by kernel_rfl) (by kernel_rfl) (by rfl) (fun _ _ _ h => h) (Or.inl ⟨by rfl, ?_⟩) (by assumption) ?_
    rotate_left
    · (intro W _; go_simp; (with_reducible rfl))
    intro hHeld'
    clear hHeld; have hHeld := hHeld'; clear hHeld'
    try simp only [Act.put, List.getElem_toArray, List.getElem_cons_succ, List.getElem_cons_zero, List.setIfInBounds_toArray, List.set_cons_zero, List.set_cons_succ]
    refine wpAnyL_take0 (i := 2) (v := ?_) rfl (by kernel_rfl) (by kernel_rfl) (by kernel_rfl) (by rfl) (fun _ _ _ h => h) (Or.inl ⟨by rfl, ?_⟩) (by assumption) ?_
    rotate_left
    · (intro W _; go_simp; (with_reducible rfl))
    intro hHeld'
    clear hHeld; have hHeld := hHeld'; clear hHeld'
    try simp only [Act.put, List.getElem_toArray, List.getElem_cons_succ, List.getElem_cons_zero, List.setIfInBounds_toArray, List.set_cons_zero, List.set_cons_succ]
    refine wpAnyL_take0 (i := 4) (v := ?_) rfl (by kernel_rfl) (by kernel_rfl) (by kernel_rfl) (by rfl) (fun _ _ _ h => h) (Or.inl ⟨by rfl, ?_⟩) (by assumption) ?_
    rotate_left
    · (intro W _; go_simp; (with_reducible rfl))
    intro hHeld'
    clear hHeld; have hHeld := hHeld'; clear hHeld'
    try simp only [Act.put, List.getElem_toArray, List.getElem_cons_succ, List.getElem_cons_zero, List.setIfInBounds_toArray, List.set_cons_zero, List.set_cons_succ]
    refine wpAnyL_take0 (i := 6) (v := ?_) rfl (by kernel_rfl) (by kernel_rfl) (by kernel_rfl) (by rfl) (fun _ _ _ h => h) (Or.inl ⟨by rfl, ?_⟩) (by assumption) ?_
    rotate_left
    · (intro W _; go_simp; (with_reducible rfl))
    intro hHeld'
    clear hHeld; have hHeld := hHeld'; clear hHeld'
    try simp only [Act.put, List.getElem_toArray, List.getElem_cons_succ, List.getElem_cons_zero, List.setIfInBounds_toArray, List.set_cons_zero, List.set_cons_succ]
    refine wpAnyL_ready (rs := [1, 3, 5, 7, 9]) (by kernel_rfl) (by simp) ?_
    refine AllReadyL.cons rfl (fun K hK => ?_) ?_
    go_simp
    replace hS := hid (show St w.heap.size w (Asn.own w.heap.size 2 (.slice (some ⟨wa.heap.size, 0, none⟩) 1 1) (nats [k]) :: _) _ from hS.out.newOwn [.int .i64 (k : Nat)] 2 (by simp))
    generalize wa.heap.size = gA at *
    generalize wa.alloc (.cells #[.int .i64 (k : Nat)] 2) = W2 at *
    refine hK.out _ _ (HeldL.nil) (fun hHeld' => ?_)
    clear hK K hHeld; have hHeld := hHeld'; clear hHeld'
    try simp only [Act.put, List.getElem_toArray, List.getElem_cons_succ, List.getElem_cons_zero, List.setIfInBounds_toArray, List.set_cons_zero, List.set_cons_succ]
    change wpAnyL _ _ _ _ _ _ #[true, true, true, false, true, false, true, false, false, false, false] _ _
    revert hHeld
    revert hS
    revert gA
    revert W2
    clear wa
    refine ?nA
    rotate_left
    refine AllReadyL.cons rfl (fun K hK => ?_) ?_
    go_simp
    replace hS := hid (hS.out.newArr mc n hmcs.out 2 (by omega))
    rw [hmc.out] at hS
    generalize wa.heap.size = gB at *
    generalize wa.alloc (.cells mc 2) = W2 at *
    refine hK.out _ _ (HeldL.nil) (fun hHeld' => ?_)
    clear hK K hHeld; have hHeld := hHeld'; clear hHeld'
    try simp only [Act.put, List.getElem_toArray, List.getElem_cons_succ, List.getElem_cons_zero, List.setIfInBounds_toArray, List.set_cons_zero, List.set_cons_succ]
    change wpAnyL _ _ _ _ _ _ #[true, false, true, true, true, false, true, false, false, false, false] _ _
    revert hHeld
    revert hS
    revert gB
    revert W2
    clear wa
    refine ?nB
    rotate_left
    refine AllReadyL.cons rfl (fun K hK => ?_) ?_
    go_simp
    replace hS := hid (hS.out.newArr mc n hmcs.out 2 (by omega))
    rw [hmc.out] at hS
    generalize wa.heap.size = gC at *
    generalize wa.alloc (.cells mc 2) = W2 at *
    refine hK.out _ _ (HeldL.nil) (fun hHeld' => ?_)
    clear hK K hHeld; have hHeld := hHeld'; clear hHeld'
    try simp only [Act.put, List.getElem_toArray, List.getElem_cons_succ, List.getElem_cons_zero, List.setIfInBounds_toArray, List.set_cons_zero, List.set_cons_succ]
    change wpAnyL _ _ _ _ _ _ #[true, false, true, false, true, true, true, false, false, false, false] _ _
    revert hHeld
    revert hS
    revert gC
    revert W2
    clear wa
    refine ?nC
    rotate_left
    refine AllReadyL.cons rfl (fun K hK => ?_) ?_
    go_simp
    replace hS := hid (hS.out.newArr mc n hmcs.out 2 (by omega))
    rw [hmc.out] at hS
    generalize wa.heap.size = gD at *
    generalize wa.alloc (.cells mc 2) = W2 at *
    refine hK.out _ _ (HeldL.nil) (fun hHeld' => ?_)
    clear hK K hHeld; have hHeld := hHeld'; clear hHeld'
    try simp only [Act.put, List.getElem_toArray, List.getElem_cons_succ, List.getElem_cons_zero, List.setIfInBounds_toArray, List.set_cons_zero, List.set_cons_succ]
    change wpAnyL _ _ _ _ _ _ #[true, false, true, false, true, false, true, true, false, false, false] _ _
    revert hHeld
    revert hS
    revert gD
    revert W2
    clear wa
    refine ?nD
    rotate_left
    refine AllReadyL.cons rfl (fun K hK => ?_) AllReadyL.nil
    go_simp
    have hsz := hS.out.le
    replace hS := hid (hS.out.newBlk #[.slice none 0 0, .slice none 0 0, .slice none 0 0, .slice none 0 0] 134)
    generalize wa.heap.size = gF at *
    generalize wa.alloc (.cells #[.slice none 0 0, .slice none 0 0, .slice none 0 0, .slice none 0 0] 134) = W2 at *
    have hF := hid hsz; clear hsz
    refine hK.out _ _ (HeldL.nil) (fun hHeld' => ?_)
    clear hK K hHeld; have hHeld := hHeld'; clear hHeld'
    try simp only [Act.put, List.getElem_toArray, List.getElem_cons_succ, List.getElem_cons_zero, List.setIfInBounds_toArray, List.set_cons_zero, List.set_cons_succ]
    change wpAnyL _ _ _ _ _ _ #[true, false, true, false, true, false, true, false, false, true, false] _ _
    revert hHeld
    revert hF
    revert hS
    revert gF
    revert W2
    clear wa
    refine ?nF
    rotate_left
    intro W gA hS hHeld
    refine wpAnyL_ready (rs := [3, 5, 7, 9]) (by kernel_rfl) (by simp) ?_
    refine AllReadyL.cons rfl (fun K hK => ?_) ?_
    go_simp
    replace hS := hid (hS.out.newArr mc n hmcs.out 2 (by omega))
    rw [hmc.out] at hS
    generalize W.heap.size = gB at *
    generalize W.alloc (.cells mc 2) = W2 at *
    replace hS := hid hS.out.f1
    refine hK.out _ _ (HeldL.nil) (fun hHeld' => ?_)
    clear hK K hHeld; have hHeld := hHeld'; clear hHeld'
    try simp only [Act.put, List.getElem_toArray, List.getElem_cons_succ, List.getElem_cons_zero, List.setIfInBounds_toArray, List.set_cons_zero, List.set_cons_succ]
    change wpAnyL _ _ _ _ _ _ #[true, true, true, true, true, false, true, false, false, false, false] _ _
    revert hHeld
    revert hS
    revert gB
    revert gA
    revert W2
    clear W
    refine ?nAB
    rotate_left
    refine AllReadyL.cons rfl (fun K hK => ?_) ?_
    go_simp
    replace hS := hid (hS.out.newArr mc n hmcs.out 2 (by omega))
    rw [hmc.out] at hS
    generalize W.heap.size = gC at *
    generalize W.alloc (.cells mc 2) = W2 at *
    replace hS := hid hS.out.f1
    refine hK.out _ _ (HeldL.nil) (fun hHeld' => ?_)
    clear hK K hHeld; have hHeld := hHeld'; clear hHeld'
    try simp only [Act.put, List.getElem_toArray, List.getElem_cons_succ, List.getElem_cons_zero, List.setIfInBounds_toArray, List.set_cons_zero, List.set_cons_succ]
    change wpAnyL _ _ _ _ _ _ #[true, true, true, false, true, true, true, false, false, false, false] _ _
    revert hHeld
    revert hS
    revert gC
    revert gA
    revert W2
    clear W
    refine ?nAC
    rotate_left
    refine AllReadyL.cons rfl (fun K hK => ?_) ?_
    go_simp
    replace hS := hid (hS.out.newArr mc n hmcs.out 2 (by omega))
    rw [hmc.out] at hS
    generalize W.heap.size = gD at *
    generalize W.alloc (.cells mc 2) = W2 at *
    replace hS := hid hS.out.f1
    refine hK.out _ _ (HeldL.nil) (fun hHeld' => ?_)
    clear hK K hHeld; have hHeld := hHeld'; clear hHeld'
    try simp only [Act.put, List.getElem_toArray, List.getElem_cons_succ, List.getElem_cons_zero, List.setIfInBounds_toArray, List.set_cons_zero, List.set_cons_succ]
    change wpAnyL _ _ _ _ _ _ #[true, true, true, false, true, false, true, true, false, false, false] _ _
    revert hHeld
    revert hS
    revert gD
    revert gA
    revert W2
    clear W
    refine ?nAD
    rotate_left
    refine AllReadyL.cons rfl (fun K hK => ?_) AllReadyL.nil
    go_simp
    have hsz := hS.out.le
    replace hS := hid (hS.out.newBlk #[.slice none 0 0, .slice none 0 0, .slice none 0 0, .slice none 0 0] 134)
    generalize W.heap.size = gF at *
    generalize W.alloc (.cells #[.slice none 0 0, .slice none 0 0, .slice none 0 0, .slice none 0 0] 134) = W2 at *
    have hF := hid hsz; clear hsz
    refine hK.out _ _ (HeldL.nil) (fun hHeld' => ?_)
    clear hK K hHeld; have hHeld := hHeld'; clear hHeld'
    try simp only [Act.put, List.getElem_toArray, List.getElem_cons_succ, List.getElem_cons_zero, List.setIfInBounds_toArray, List.set_cons_zero, List.set_cons_succ]
    change wpAnyL _ _ _ _ _ _ #[true, true, true, false, true, false, true, false, false, true, false] _ _
    revert hHeld
    revert hF
    revert hS
    revert gF
    revert gA
    revert W2
    clear W
    refine ?nAF
    rotate_left
    intro W gB hS hHeld
    refine wpAnyL_ready (rs := [1, 5, 7, 9]) (by kernel_rfl) (by simp) ?_
    refine AllReadyL.cons rfl (fun K hK => ?_) ?_
    go_simp
    replace hS := hid (show St w.heap.size w (Asn.own w.heap.size 2 (.slice (some ⟨W.heap.size, 0, none⟩) 1 1) (nats [k]) :: _) _ from hS.out.newOwn [.int .i64 (k : Nat)] 2 (by simp))
    generalize W.heap.size = gA at *
    generalize W.alloc (.cells #[.int .i64 (k : Nat)] 2) = W2 at *
    refine hK.out _ _ (HeldL.nil) (fun hHeld' => ?_)
    clear hK K hHeld; have hHeld := hHeld'; clear hHeld'
    try simp only [Act.put, List.getElem_toArray, List.getElem_cons_succ, List.getElem_cons_zero, List.setIfInBounds_toArray, List.set_cons_zero, List.set_cons_succ]
    change wpAnyL _ _ _ _ _ _ #[true, true, true, true, true, false, true, false, false, false, false] _ _
    revert hHeld
    revert hS
    revert gB
    revert gA
    revert W2
    clear W
    exact ?nAB
    refine AllReadyL.cons rfl (fun K hK => ?_) ?_
    go_simp
    replace hS := hid (hS.out.newArr mc n hmcs.out 2 (by omega))
    rw [hmc.out] at hS
    generalize W.heap.size = gC at *
    generalize W.alloc (.cells mc 2) = W2 at *
    replace hS := hid hS.out.f1
    refine hK.out _ _ (HeldL.nil) (fun hHeld' => ?_)
    clear hK K hHeld; have hHeld := hHeld'; clear hHeld'
    try simp only [Act.put, List.getElem_toArray, List.getElem_cons_succ, List.getElem_cons_zero, List.setIfInBounds_toArray, List.set_cons_zero, List.set_cons_succ]
    change wpAnyL _ _ _ _ _ _ #[true, false, true, true, true, true, true, false, false, false, false] _ _
    revert hHeld
    revert hS
    revert gC
    revert gB
    revert W2
    clear W
    refine ?nBC
    rotate_left
    refine AllReadyL.cons rfl (fun K hK => ?_) ?_
    go_simp
    replace hS := hid (hS.out.newArr mc n hmcs.out 2 (by omega))
    rw [hmc.out] at hS
    generalize W.heap.size = gD at *
    generalize W.alloc (.cells mc 2) = W2 at *
    replace hS := hid hS.out.f1
    refine hK.out _ _ (HeldL.nil) (fun hHeld' => ?_)
    clear hK K hHeld; have hHeld := hHeld'; clear hHeld'
    try simp only [Act.put, List.getElem_toArray, List.getElem_cons_succ, List.getElem_cons_zero, List.setIfInBounds_toArray, List.set_cons_zero, List.set_cons_succ]
    change wpAnyL _ _ _ _ _ _ #[true, false, true, true, true, false, true, true, false, false, false] _ _
    revert hHeld
    revert hS
    revert gD
    revert gB
    revert W2
    clear W
    refine ?nBD
    rotate_left
    refine AllReadyL.cons rfl (fun K hK => ?_) AllReadyL.nil
    go_simp
    have hsz := hS.out.le
    replace hS := hid (hS.out.newBlk #[.slice none 0 0, .slice none 0 0, .slice none 0 0, .slice none 0 0] 134)
    generalize W.heap.size = gF at *
    generalize W.alloc (.cells #[.slice none 0 0, .slice none 0 0, .slice none 0 0, .slice none 0 0] 134) = W2 at *
    have hF := hid hsz; clear hsz
    refine hK.out _ _ (HeldL.nil) (fun hHeld' => ?_)
    clear hK K hHeld; have hHeld := hHeld'; clear hHeld'
    try simp only [Act.put, List.getElem_toArray, List.getElem_cons_succ, List.getElem_cons_zero, List.setIfInBounds_toArray, List.set_cons_zero, List.set_cons_succ]
    change wpAnyL _ _ _ _ _ _ #[true, false, true, true, true, false, true, false, false, true, false] _ _
    revert hHeld
    revert hF
    revert hS
    revert gF
    revert gB
    revert W2
    clear W
    refine ?nBF
    rotate_left
    intro W gC hS hHeld
    refine wpAnyL_ready (rs := [1, 3, 7, 9]) (by kernel_rfl) (by simp) ?_
    refine AllReadyL.cons rfl (fun K hK => ?_) ?_
    go_simp
    replace hS := hid (show St w.heap.size w (Asn.own w.heap.size 2 (.slice (some ⟨W.heap.size, 0, none⟩) 1 1) (nats [k]) :: _) _ from hS.out.newOwn [.int .i64 (k : Nat)] 2 (by simp))
    generalize W.heap.size = gA at *
    generalize W.alloc (.cells #[.int .i64 (k : Nat)] 2) = W2 at *
    refine hK.out _ _ (HeldL.nil) (fun hHeld' => ?_)
    clear hK K hHeld; have hHeld := hHeld'; clear hHeld'
    try simp only [Act.put, List.getElem_toArray, List.getElem_cons_succ, List.getElem_cons_zero, List.setIfInBounds_toArray, List.set_cons_zero, List.set_cons_succ]
    change wpAnyL _ _ _ _ _ _ #[true, true, true, false, true, true, true, false, false, false, false] _ _
    revert hHeld
    revert hS
    revert gC
    revert gA
    revert W2
    clear W
    exact ?nAC
    refine AllReadyL.cons rfl (fun K hK => ?_) ?_
    go_simp
    replace hS := hid (hS.out.newArr mc n hmcs.out 2 (by omega))
    rw [hmc.out] at hS
    generalize W.heap.size = gB at *
    generalize W.alloc (.cells mc 2) = W2 at *
    refine hK.out _ _ (HeldL.nil) (fun hHeld' => ?_)
    clear hK K hHeld; have hHeld := hHeld'; clear hHeld'
    try simp only [Act.put, List.getElem_toArray, List.getElem_cons_succ, List.getElem_cons_zero, List.setIfInBounds_toArray, List.set_cons_zero, List.set_cons_succ]
    change wpAnyL _ _ _ _ _ _ #[true, false, true, true, true, true, true, false, false, false, false] _ _
    revert hHeld
    revert hS
    revert gC
    revert gB
    revert W2
    clear W
    exact ?nBC
    refine AllReadyL.cons rfl (fun K hK => ?_) ?_
    go_simp
    replace hS := hid (hS.out.newArr mc n hmcs.out 2 (by omega))
    rw [hmc.out] at hS
    generalize W.heap.size = gD at *
    generalize W.alloc (.cells mc 2) = W2 at *
    replace hS := hid hS.out.f1
    refine hK.out _ _ (HeldL.nil) (fun hHeld' => ?_)
    clear hK K hHeld; have hHeld := hHeld'; clear hHeld'
    try simp only [Act.put, List.getElem_toArray, List.getElem_cons_succ, List.getElem_cons_zero, List.setIfInBounds_toArray, List.set_cons_zero, List.set_cons_succ]
    change wpAnyL _ _ _ _ _ _ #[true, false, true, false, true, true, true, true, false, false, false] _ _
    revert hHeld
    revert hS
    revert gD
    revert gC
    revert W2
    clear W
    refine ?nCD
    rotate_left
    refine AllReadyL.cons rfl (fun K hK => ?_) AllReadyL.nil
    go_simp
    have hsz := hS.out.le
    replace hS := hid (hS.out.newBlk #[.slice none 0 0, .slice none 0 0, .slice none 0 0, .slice none 0 0] 134)
    generalize W.heap.size = gF at *
    generalize W.alloc (.cells #[.slice none 0 0, .slice none 0 0, .slice none 0 0, .slice none 0 0] 134) = W2 at *
    have hF := hid hsz; clear hsz
    refine hK.out _ _ (HeldL.nil) (fun hHeld' => ?_)
    clear hK K hHeld; have hHeld := hHeld'; clear hHeld'
    try simp only [Act.put, List.getElem_toArray, List.getElem_cons_succ, List.getElem_cons_zero, List.setIfInBounds_toArray, List.set_cons_zero, List.set_cons_succ]
    change wpAnyL _ _ _ _ _ _ #[true, false, true, false, true, true, true, false, false, true, false] _ _
    revert hHeld
    revert hF
    revert hS
    revert gF
    revert gC
    revert W2
    clear W
    refine ?nCF
    rotate_left
    intro W gD hS hHeld
    refine wpAnyL_ready (rs := [1, 3, 5, 9]) (by kernel_rfl) (by simp) ?_
    refine AllReadyL.cons rfl (fun K hK => ?_) ?_
    go_simp
    replace hS := hid (show St w.heap.size w (Asn.own w.heap.size 2 (.slice (some ⟨W.heap.size, 0, none⟩) 1 1) (nats [k]) :: _) _ from hS.out.newOwn [.int .i64 (k : Nat)] 2 (by simp))
    generalize W.heap.size = gA at *
    generalize W.alloc (.cells #[.int .i64 (k : Nat)] 2) = W2 at *
    refine hK.out _ _ (HeldL.nil) (fun hHeld' => ?_)
    clear hK K hHeld; have hHeld := hHeld'; clear hHeld'
    try simp only [Act.put, List.getElem_toArray, List.getElem_cons_succ, List.getElem_cons_zero, List.setIfInBounds_toArray, List.set_cons_zero, List.set_cons_succ]
    change wpAnyL _ _ _ _ _ _ #[true, true, true, false, true, false, true, true, false, false, false] _ _
    revert hHeld
    revert hS
    revert gD
    revert gA
    revert W2
    clear W
    exact ?nAD
    refine AllReadyL.cons rfl (fun K hK => ?_) ?_
    go_simp
    replace hS := hid (hS.out.newArr mc n hmcs.out 2 (by omega))
    rw [hmc.out] at hS
    generalize W.heap.size = gB at *
    generalize W.alloc (.cells mc 2) = W2 at *
    refine hK.out _ _ (HeldL.nil) (fun hHeld' => ?_)
    clear hK K hHeld; have hHeld := hHeld'; clear hHeld'
    try simp only [Act.put, List.getElem_toArray, List.getElem_cons_succ, List.getElem_cons_zero, List.setIfInBounds_toArray, List.set_cons_zero, List.set_cons_succ]
    change wpAnyL _ _ _ _ _ _ #[true, false, true, true, true, false, true, true, false, false, false] _ _
    revert hHeld
    revert hS
    revert gD
    revert gB
    revert W2
    clear W
    exact ?nBD
    refine AllReadyL.cons rfl (fun K hK => ?_) ?_
    go_simp
    replace hS := hid (hS.out.newArr mc n hmcs.out 2 (by omega))
    rw [hmc.out] at hS
    generalize W.heap.size = gC at *
    generalize W.alloc (.cells mc 2) = W2 at *
    refine hK.out _ _ (HeldL.nil) (fun hHeld' => ?_)
    clear hK K hHeld; have hHeld := hHeld'; clear hHeld'
    try simp only [Act.put, List.getElem_toArray, List.getElem_cons_succ, List.getElem_cons_zero, List.setIfInBounds_toArray, List.set_cons_zero, List.set_cons_succ]
    change wpAnyL _ _ _ _ _ _ #[true, false, true, false, true, true, true, true, false, false, false] _ _
    revert hHeld
    revert hS
    revert gD
    revert gC
    revert W2
    clear W
    exact ?nCD
    refine AllReadyL.cons rfl (fun K hK => ?_) AllReadyL.nil
    go_simp
    have hsz := hS.out.le
    replace hS := hid (hS.out.newBlk #[.slice none 0 0, .slice none 0 0, .slice none 0 0, .slice none 0 0] 134)
    generalize W.heap.size = gF at *
    generalize W.alloc (.cells #[.slice none 0 0, .slice none 0 0, .slice none 0 0, .slice none 0 0] 134) = W2 at *
    have hF := hid hsz; clear hsz
    refine hK.out _ _ (HeldL.nil) (fun hHeld' => ?_)
    clear hK K hHeld; have hHeld := hHeld'; clear hHeld'
    try simp only [Act.put, List.getElem_toArray, List.getElem_cons_succ, List.getElem_cons_zero, List.setIfInBounds_toArray, List.set_cons_zero, List.set_cons_succ]
    change wpAnyL _ _ _ _ _ _ #[true, false, true, false, true, false, true, true, false, true, false] _ _
    revert hHeld
    revert hF
    revert hS
    revert gF
    revert gD
    revert W2
    clear W
    refine ?nDF
    rotate_left
    intro W gF hS hF hHeld
    refine wpAnyL_ready (rs := [1, 3, 5, 7]) (by kernel_rfl) (by simp) ?_
    refine AllReadyL.cons rfl (fun K hK => ?_) ?_
    go_simp
    replace hS := hid (show St w.heap.size w (Asn.own w.heap.size 2 (.slice (some ⟨W.heap.size, 0, none⟩) 1 1) (nats [k]) :: _) _ from hS.out.newOwn [.int .i64 (k : Nat)] 2 (by simp))
    generalize W.heap.size = gA at *
    generalize W.alloc (.cells #[.int .i64 (k : Nat)] 2) = W2 at *
    replace hS := hid hS.out.f1
    refine hK.out _ _ (HeldL.nil) (fun hHeld' => ?_)
    clear hK K hHeld; have hHeld := hHeld'; clear hHeld'
    try simp only [Act.put, List.getElem_toArray, List.getElem_cons_succ, List.getElem_cons_zero, List.setIfInBounds_toArray, List.set_cons_zero, List.set_cons_succ]
    change wpAnyL _ _ _ _ _ _ #[true, true, true, false, true, false, true, false, false, true, false] _ _
    revert hHeld
    revert hF
    revert hS
    revert gF
    revert gA
    revert W2
    clear W
    exact ?nAF
    refine AllReadyL.cons rfl (fun K hK => ?_) ?_
    go_simp
    replace hS := hid (hS.out.newArr mc n hmcs.out 2 (by omega))
    rw [hmc.out] at hS
    generalize W.heap.size = gB at *
    generalize W.alloc (.cells mc 2) = W2 at *
    replace hS := hid hS.out.f1
    refine hK.out _ _ (HeldL.nil) (fun hHeld' => ?_)
    clear hK K hHeld; have hHeld := hHeld'; clear hHeld'
    try simp only [Act.put, List.getElem_toArray, List.getElem_cons_succ, List.getElem_cons_zero, List.setIfInBounds_toArray, List.set_cons_zero, List.set_cons_succ]
    change wpAnyL _ _ _ _ _ _ #[true, false, true, true, true, false, true, false, false, true, false] _ _
    revert hHeld
    revert hF
    revert hS
    revert gF
    revert gB
    revert W2
    clear W
    exact ?nBF
    refine AllReadyL.cons rfl (fun K hK => ?_) ?_
    go_simp
    replace hS := hid (hS.out.newArr mc n hmcs.out 2 (by omega))
    rw [hmc.out] at hS
    generalize W.heap.size = gC at *
    generalize W.alloc (.cells mc 2) = W2 at *
    replace hS := hid hS.out.f1
    refine hK.out _ _ (HeldL.nil) (fun hHeld' => ?_)
    clear hK K hHeld; have hHeld := hHeld'; clear hHeld'
    try simp only [Act.put, List.getElem_toArray, List.getElem_cons_succ, List.getElem_cons_zero, List.setIfInBounds_toArray, List.set_cons_zero, List.set_cons_succ]
    change wpAnyL _ _ _ _ _ _ #[true, false, true, false, true, true, true, false, false, true, false] _ _
    revert hHeld
    revert hF
    revert hS
    revert gF
    revert gC
    revert W2
    clear W
    exact ?nCF
    refine AllReadyL.cons rfl (fun K hK => ?_) AllReadyL.nil
    go_simp
    replace hS := hid (hS.out.newArr mc n hmcs.out 2 (by omega))
    rw [hmc.out] at hS
    generalize W.heap.size = gD at *
    generalize W.alloc (.cells mc 2) = W2 at *
    replace hS := hid hS.out.f1
    refine hK.out _ _ (HeldL.nil) (fun hHeld' => ?_)
    clear hK K hHeld; have hHeld := hHeld'; clear hHeld'
    try simp only [Act.put, List.getElem_toArray, List.getElem_cons_succ, List.getElem_cons_zero, List.setIfInBounds_toArray, List.set_cons_zero, List.set_cons_succ]
    change wpAnyL _ _ _ _ _ _ #[true, false, true, false, true, false, true, true, false, true, false] _ _
    revert hHeld
    revert hF
    revert hS
    revert gF
    revert gD
    revert W2
    clear W
    exact ?nDF
    intro W gA gB hS hHeld
    refine wpAnyL_ready (rs := [5, 7, 9]) (by kernel_rfl) (by simp) ?_
    refine AllReadyL.cons rfl (fun K hK => ?_) ?_
    go_simp
    replace hS := hid (hS.out.newArr mc n hmcs.out 2 (by omega))
    rw [hmc.out] at hS
    generalize W.heap.size = gC at *
    generalize W.alloc (.cells mc 2) = W2 at *
    replace hS := hid hS.out.b2
    refine hK.out _ _ (HeldL.nil) (fun hHeld' => ?_)
    clear hK K hHeld; have hHeld := hHeld'; clear hHeld'
    try simp only [Act.put, List.getElem_toArray, List.getElem_cons_succ, List.getElem_cons_zero, List.setIfInBounds_toArray, List.set_cons_zero, List.set_cons_succ]
    change wpAnyL _ _ _ _ _ _ #[true, true, true, true, true, true, true, false, false, false, false] _ _
    revert hHeld
    revert hS
    revert gC
    revert gB
    revert gA
    revert W2
    clear W
    refine ?nABC
    rotate_left
    refine AllReadyL.cons rfl (fun K hK => ?_) ?_
    go_simp
    replace hS := hid (hS.out.newArr mc n hmcs.out 2 (by omega))
    rw [hmc.out] at hS
    generalize W.heap.size = gD at *
    generalize W.alloc (.cells mc 2) = W2 at *
    replace hS := hid hS.out.b2
    refine hK.out _ _ (HeldL.nil) (fun hHeld' => ?_)
    clear hK K hHeld; have hHeld := hHeld'; clear hHeld'
    try simp only [Act.put, List.getElem_toArray, List.getElem_cons_succ, List.getElem_cons_zero, List.setIfInBounds_toArray, List.set_cons_zero, List.set_cons_succ]
    change wpAnyL _ _ _ _ _ _ #[true, true, true, true, true, false, true, true, false, false, false] _ _
    revert hHeld
    revert hS
    revert gD
    revert gB
    revert gA
    revert W2
    clear W
    refine ?nABD
    rotate_left
    refine AllReadyL.cons rfl (fun K hK => ?_) AllReadyL.nil
    go_simp
    have hsz := hS.out.le
    replace hS := hid (hS.out.newBlk #[.slice none 0 0, .slice none 0 0, .slice none 0 0, .slice none 0 0] 134)
    generalize W.heap.size = gF at *
    generalize W.alloc (.cells #[.slice none 0 0, .slice none 0 0, .slice none 0 0, .slice none 0 0] 134) = W2 at *
    have hF := hid hsz; clear hsz
    refine hK.out _ _ (HeldL.nil) (fun hHeld' => ?_)
    clear hK K hHeld; have hHeld := hHeld'; clear hHeld'
    try simp only [Act.put, List.getElem_toArray, List.getElem_cons_succ, List.getElem_cons_zero, List.setIfInBounds_toArray, List.set_cons_zero, List.set_cons_succ]
    change wpAnyL _ _ _ _ _ _ #[true, true, true, true, true, false, true, false, false, true, false] _ _
    revert hHeld
    revert hF
    revert hS
    revert gF
    revert gB
    revert gA
    revert W2
    clear W
    refine ?nABF
    rotate_left
    intro W gA gC hS hHeld
    refine wpAnyL_ready (rs := [3, 7, 9]) (by kernel_rfl) (by simp) ?_
    refine AllReadyL.cons rfl (fun K hK => ?_) ?_
    go_simp
    replace hS := hid (hS.out.newArr mc n hmcs.out 2 (by omega))
    rw [hmc.out] at hS
    generalize W.heap.size = gB at *
    generalize W.alloc (.cells mc 2) = W2 at *
    replace hS := hid hS.out.f1
    refine hK.out _ _ (HeldL.nil) (fun hHeld' => ?_)
    clear hK K hHeld; have hHeld := hHeld'; clear hHeld'
    try simp only [Act.put, List.getElem_toArray, List.getElem_cons_succ, List.getElem_cons_zero, List.setIfInBounds_toArray, List.set_cons_zero, List.set_cons_succ]
    change wpAnyL _ _ _ _ _ _ #[true, true, true, true, true, true, true, false, false, false, false] _ _
    revert hHeld
    revert hS
    revert gC
    revert gB
    revert gA
    revert W2
    clear W
    exact ?nABC
    refine AllReadyL.cons rfl (fun K hK => ?_) ?_
    go_simp
    replace hS := hid (hS.out.newArr mc n hmcs.out 2 (by omega))
    rw [hmc.out] at hS
    generalize W.heap.size = gD at *
    generalize W.alloc (.cells mc 2) = W2 at *
    replace hS := hid hS.out.b2
    refine hK.out _ _ (HeldL.nil) (fun hHeld' => ?_)
    clear hK K hHeld; have hHeld := hHeld'; clear hHeld'
    try simp only [Act.put, List.getElem_toArray, List.getElem_cons_succ, List.getElem_cons_zero, List.setIfInBounds_toArray, List.set_cons_zero, List.set_cons_succ]
    change wpAnyL _ _ _ _ _ _ #[true, true, true, false, true, true, true, true, false, false, false] _ _
    revert hHeld
    revert hS
    revert gD
    revert gC
    revert gA
    revert W2
    clear W
    refine ?nACD
    rotate_left
    refine AllReadyL.cons rfl (fun K hK => ?_) AllReadyL.nil
    go_simp
    have hsz := hS.out.le
    replace hS := hid (hS.out.newBlk #[.slice none 0 0, .slice none 0 0, .slice none 0 0, .slice none 0 0] 134)
    generalize W.heap.size = gF at *
    generalize W.alloc (.cells #[.slice none 0 0, .slice none 0 0, .slice none 0 0, .slice none 0 0] 134) = W2 at *
    have hF := hid hsz; clear hsz
    refine hK.out _ _ (HeldL.nil) (fun hHeld' => ?_)
    clear hK K hHeld; have hHeld := hHeld'; clear hHeld'
    try simp only [Act.put, List.getElem_toArray, List.getElem_cons_succ, List.getElem_cons_zero, List.setIfInBounds_toArray, List.set_cons_zero, List.set_cons_succ]
    change wpAnyL _ _ _ _ _ _ #[true, true, true, false, true, true, true, false, false, true, false] _ _
    revert hHeld
    revert hF
    revert hS
    revert gF
    revert gC
    revert gA
    revert W2
    clear W
    refine ?nACF
    rotate_left
    intro W gA gD hS hHeld
    refine wpAnyL_ready (rs := [3, 5, 9]) (by kernel_rfl) (by simp) ?_
    refine AllReadyL.cons rfl (fun K hK => ?_) ?_
    go_simp
    replace hS := hid (hS.out.newArr mc n hmcs.out 2 (by omega))
    rw [hmc.out] at hS
    generalize W.heap.size = gB at *
    generalize W.alloc (.cells mc 2) = W2 at *
    replace hS := hid hS.out.f1
    refine hK.out _ _ (HeldL.nil) (fun hHeld' => ?_)
    clear hK K hHeld; have hHeld := hHeld'; clear hHeld'
    try simp only [Act.put, List.getElem_toArray, List.getElem_cons_succ, List.getElem_cons_zero, List.setIfInBounds_toArray, List.set_cons_zero, List.set_cons_succ]
    change wpAnyL _ _ _ _ _ _ #[true, true, true, true, true, false, true, true, false, false, false] _ _
    revert hHeld
    revert hS
    revert gD
    revert gB
    revert gA
    revert W2
    clear W
    exact ?nABD
    refine AllReadyL.cons rfl (fun K hK => ?_) ?_
    go_simp
    replace hS := hid (hS.out.newArr mc n hmcs.out 2 (by omega))
    rw [hmc.out] at hS
    generalize W.heap.size = gC at *
    generalize W.alloc (.cells mc 2) = W2 at *
    replace hS := hid hS.out.f1
    refine hK.out _ _ (HeldL.nil) (fun hHeld' => ?_)
    clear hK K hHeld; have hHeld := hHeld'; clear hHeld'
    try simp only [Act.put, List.getElem_toArray, List.getElem_cons_succ, List.getElem_cons_zero, List.setIfInBounds_toArray, List.set_cons_zero, List.set_cons_succ]
    change wpAnyL _ _ _ _ _ _ #[true, true, true, false, true, true, true, true, false, false, false] _ _
    revert hHeld
    revert hS
    revert gD
    revert gC
    revert gA
    revert W2
    clear W
    exact ?nACD
    refine AllReadyL.cons rfl (fun K hK => ?_) AllReadyL.nil
    go_simp
    have hsz := hS.out.le
    replace hS := hid (hS.out.newBlk #[.slice none 0 0, .slice none 0 0, .slice none 0 0, .slice none 0 0] 134)
    generalize W.heap.size = gF at *
    generalize W.alloc (.cells #[.slice none 0 0, .slice none 0 0, .slice none 0 0, .slice none 0 0] 134) = W2 at *
    have hF := hid hsz; clear hsz
    refine hK.out _ _ (HeldL.nil) (fun hHeld' => ?_)
    clear hK K hHeld; have hHeld := hHeld'; clear hHeld'
    try simp only [Act.put, List.getElem_toArray, List.getElem_cons_succ, List.getElem_cons_zero, List.setIfInBounds_toArray, List.set_cons_zero, List.set_cons_succ]
    change wpAnyL _ _ _ _ _ _ #[true, true, true, false, true, false, true, true, false, true, false] _ _
    revert hHeld
    revert hF
    revert hS
    revert gF
    revert gD
    revert gA
    revert W2
    clear W
    refine ?nADF
    rotate_left
    intro W gA gF hS hF hHeld
    refine wpAnyL_ready (rs := [3, 5, 7]) (by kernel_rfl) (by simp) ?_
    refine AllReadyL.cons rfl (fun K hK => ?_) ?_
    go_simp
    replace hS := hid (hS.out.newArr mc n hmcs.out 2 (by omega))
    rw [hmc.out] at hS
    generalize W.heap.size = gB at *
    generalize W.alloc (.cells mc 2) = W2 at *
    replace hS := hid hS.out.b2
    refine hK.out _ _ (HeldL.nil) (fun hHeld' => ?_)
    clear hK K hHeld; have hHeld := hHeld'; clear hHeld'
    try simp only [Act.put, List.getElem_toArray, List.getElem_cons_succ, List.getElem_cons_zero, List.setIfInBounds_toArray, List.set_cons_zero, List.set_cons_succ]
    change wpAnyL _ _ _ _ _ _ #[true, true, true, true, true, false, true, false, false, true, false] _ _
    revert hHeld
    revert hF
    revert hS
    revert gF
    revert gB
    revert gA
    revert W2
    clear W
    exact ?nABF
    refine AllReadyL.cons rfl (fun K hK => ?_) ?_
    go_simp
    replace hS := hid (hS.out.newArr mc n hmcs.out 2 (by omega))
    rw [hmc.out] at hS
    generalize W.heap.size = gC at *
    generalize W.alloc (.cells mc 2) = W2 at *
    replace hS := hid hS.out.b2
    refine hK.out _ _ (HeldL.nil) (fun hHeld' => ?_)
    clear hK K hHeld; have hHeld := hHeld'; clear hHeld'
    try simp only [Act.put, List.getElem_toArray, List.getElem_cons_succ, List.getElem_cons_zero, List.setIfInBounds_toArray, List.set_cons_zero, List.set_cons_succ]
    change wpAnyL _ _ _ _ _ _ #[true, true, true, false, true, true, true, false, false, true, false] _ _
    revert hHeld
    revert hF
    revert hS
    revert gF
    revert gC
    revert gA
    revert W2
    clear W
    exact ?nACF
    refine AllReadyL.cons rfl (fun K hK => ?_) AllReadyL.nil
    go_simp
    replace hS := hid (hS.out.newArr mc n hmcs.out 2 (by omega))
    rw [hmc.out] at hS
    generalize W.heap.size = gD at *
    generalize W.alloc (.cells mc 2) = W2 at *
    replace hS := hid hS.out.b2
    refine hK.out _ _ (HeldL.nil) (fun hHeld' => ?_)
    clear hK K hHeld; have hHeld := hHeld'; clear hHeld'
    try simp only [Act.put, List.getElem_toArray, List.getElem_cons_succ, List.getElem_cons_zero, List.setIfInBounds_toArray, List.set_cons_zero, List.set_cons_succ]
    change wpAnyL _ _ _ _ _ _ #[true, true, true, false, true, false, true, true, false, true, false] _ _
    revert hHeld
    revert hF
    revert hS
    revert gF
    revert gD
    revert gA
    revert W2
    clear W
    exact ?nADF
    intro W gB gC hS hHeld
    refine wpAnyL_ready (rs := [1, 7, 9]) (by kernel_rfl) (by simp) ?_
    refine AllReadyL.cons rfl (fun K hK => ?_) ?_
    go_simp
    replace hS := hid (show St w.heap.size w (Asn.own w.heap.size 2 (.slice (some ⟨W.heap.size, 0, none⟩) 1 1) (nats [k]) :: _) _ from hS.out.newOwn [.int .i64 (k : Nat)] 2 (by simp))
    generalize W.heap.size = gA at *
    generalize W.alloc (.cells #[.int .i64 (k : Nat)] 2) = W2 at *
    refine hK.out _ _ (HeldL.nil) (fun hHeld' => ?_)
    clear hK K hHeld; have hHeld := hHeld'; clear hHeld'
    try simp only [Act.put, List.getElem_toArray, List.getElem_cons_succ, List.getElem_cons_zero, List.setIfInBounds_toArray, List.set_cons_zero, List.set_cons_succ]
    change wpAnyL _ _ _ _ _ _ #[true, true, true, true, true, true, true, false, false, false, false] _ _
    revert hHeld
    revert hS
    revert gC
    revert gB
    revert gA
    revert W2
    clear W
    exact ?nABC
    refine AllReadyL.cons rfl (fun K hK => ?_) ?_
    go_simp
    replace hS := hid (hS.out.newArr mc n hmcs.out 2 (by omega))
    rw [hmc.out] at hS
    generalize W.heap.size = gD at *
    generalize W.alloc (.cells mc 2) = W2 at *
    replace hS := hid hS.out.b2
    refine hK.out _ _ (HeldL.nil) (fun hHeld' => ?_)
    clear hK K hHeld; have hHeld := hHeld'; clear hHeld'
    try simp only [Act.put, List.getElem_toArray, List.getElem_cons_succ, List.getElem_cons_zero, List.setIfInBounds_toArray, List.set_cons_zero, List.set_cons_succ]
    change wpAnyL _ _ _ _ _ _ #[true, false, true, true, true, true, true, true, false, false, false] _ _
    revert hHeld
    revert hS
    revert gD
    revert gC
    revert gB
    revert W2
    clear W
    refine ?nBCD
    rotate_left
    refine AllReadyL.cons rfl (fun K hK => ?_) AllReadyL.nil
    go_simp
    have hsz := hS.out.le
    replace hS := hid (hS.out.newBlk #[.slice none 0 0, .slice none 0 0, .slice none 0 0, .slice none 0 0] 134)
    generalize W.heap.size = gF at *
    generalize W.alloc (.cells #[.slice none 0 0, .slice none 0 0, .slice none 0 0, .slice none 0 0] 134) = W2 at *
    have hF := hid hsz; clear hsz
    refine hK.out _ _ (HeldL.nil) (fun hHeld' => ?_)
    clear hK K hHeld; have hHeld := hHeld'; clear hHeld'
    try simp only [Act.put, List.getElem_toArray, List.getElem_cons_succ, List.getElem_cons_zero, List.setIfInBounds_toArray, List.set_cons_zero, List.set_cons_succ]
    change wpAnyL _ _ _ _ _ _ #[true, false, true, true, true, true, true, false, false, true, false] _ _
    revert hHeld
    revert hF
    revert hS
    revert gF
    revert gC
    revert gB
    revert W2
    clear W
    refine ?nBCF
    rotate_left
    intro W gB gD hS hHeld
    refine wpAnyL_ready (rs := [1, 5, 9]) (by kernel_rfl) (by simp) ?_
    refine AllReadyL.cons rfl (fun K hK => ?_) ?_
    go_simp
    replace hS := hid (show St w.heap.size w (Asn.own w.heap.size 2 (.slice (some ⟨W.heap.size, 0, none⟩) 1 1) (nats [k]) :: _) _ from hS.out.newOwn [.int .i64 (k : Nat)] 2 (by simp))
    generalize W.heap.size = gA at *
    generalize W.alloc (.cells #[.int .i64 (k : Nat)] 2) = W2 at *
    refine hK.out _ _ (HeldL.nil) (fun hHeld' => ?_)
    clear hK K hHeld; have hHeld := hHeld'; clear hHeld'
    try simp only [Act.put, List.getElem_toArray, List.getElem_cons_succ, List.getElem_cons_zero, List.setIfInBounds_toArray, List.set_cons_zero, List.set_cons_succ]
    change wpAnyL _ _ _ _ _ _ #[true, true, true, true, true, false, true, true, false, false, false] _ _
    revert hHeld
    revert hS
    revert gD
    revert gB
    revert gA
    revert W2
    clear W
    exact ?nABD
    refine AllReadyL.cons rfl (fun K hK => ?_) ?_
    go_simp
    replace hS := hid (hS.out.newArr mc n hmcs.out 2 (by omega))
    rw [hmc.out] at hS
    generalize W.heap.size = gC at *
    generalize W.alloc (.cells mc 2) = W2 at *
    replace hS := hid hS.out.f1
    refine hK.out _ _ (HeldL.nil) (fun hHeld' => ?_)
    clear hK K hHeld; have hHeld := hHeld'; clear hHeld'
    try simp only [Act.put, List.getElem_toArray, List.getElem_cons_succ, List.getElem_cons_zero, List.setIfInBounds_toArray, List.set_cons_zero, List.set_cons_succ]
    change wpAnyL _ _ _ _ _ _ #[true, false, true, true, true, true, true, true, false, false, false] _ _
    revert hHeld
    revert hS
    revert gD
    revert gC
    revert gB
    revert W2
    clear W
    exact ?nBCD
    refine AllReadyL.cons rfl (fun K hK => ?_) AllReadyL.nil
    go_simp
    have hsz := hS.out.le
    replace hS := hid (hS.out.newBlk #[.slice none 0 0, .slice none 0 0, .slice none 0 0, .slice none 0 0] 134)
    generalize W.heap.size = gF at *
    generalize W.alloc (.cells #[.slice none 0 0, .slice none 0 0, .slice none 0 0, .slice none 0 0] 134) = W2 at *
    have hF := hid hsz; clear hsz
    refine hK.out _ _ (HeldL.nil) (fun hHeld' => ?_)
    clear hK K hHeld; have hHeld := hHeld'; clear hHeld'
    try simp only [Act.put, List.getElem_toArray, List.getElem_cons_succ, List.getElem_cons_zero, List.setIfInBounds_toArray, List.set_cons_zero, List.set_cons_succ]
    change wpAnyL _ _ _ _ _ _ #[true, false, true, true, true, false, true, true, false, true, false] _ _
    revert hHeld
    revert hF
    revert hS
    revert gF
    revert gD
    revert gB
    revert W2
    clear W
    refine ?nBDF
    rotate_left
    intro W gB gF hS hF hHeld
    refine wpAnyL_ready (rs := [1, 5, 7]) (by kernel_rfl) (by simp) ?_
    refine AllReadyL.cons rfl (fun K hK => ?_) ?_
    go_simp
    replace hS := hid (show St w.heap.size w (Asn.own w.heap.size 2 (.slice (some ⟨W.heap.size, 0, none⟩) 1 1) (nats [k]) :: _) _ from hS.out.newOwn [.int .i64 (k : Nat)] 2 (by simp))
    generalize W.heap.size = gA at *
    generalize W.alloc (.cells #[.int .i64 (k : Nat)] 2) = W2 at *
    replace hS := hid hS.out.f1
    refine hK.out _ _ (HeldL.nil) (fun hHeld' => ?_)
    clear hK K hHeld; have hHeld := hHeld'; clear hHeld'
    try simp only [Act.put, List.getElem_toArray, List.getElem_cons_succ, List.getElem_cons_zero, List.setIfInBounds_toArray, List.set_cons_zero, List.set_cons_succ]
    change wpAnyL _ _ _ _ _ _ #[true, true, true, true, true, false, true, false, false, true, false] _ _
    revert hHeld
    revert hF
    revert hS
    revert gF
    revert gB
    revert gA
    revert W2
    clear W
    exact ?nABF
    refine AllReadyL.cons rfl (fun K hK => ?_) ?_
    go_simp
    replace hS := hid (hS.out.newArr mc n hmcs.out 2 (by omega))
    rw [hmc.out] at hS
    generalize W.heap.size = gC at *
    generalize W.alloc (.cells mc 2) = W2 at *
    replace hS := hid hS.out.b2
    refine hK.out _ _ (HeldL.nil) (fun hHeld' => ?_)
    clear hK K hHeld; have hHeld := hHeld'; clear hHeld'
    try simp only [Act.put, List.getElem_toArray, List.getElem_cons_succ, List.getElem_cons_zero, List.setIfInBounds_toArray, List.set_cons_zero, List.set_cons_succ]
    change wpAnyL _ _ _ _ _ _ #[true, false, true, true, true, true, true, false, false, true, false] _ _
    revert hHeld
    revert hF
    revert hS
    revert gF
    revert gC
    revert gB
    revert W2
    clear W
    exact ?nBCF
    refine AllReadyL.cons rfl (fun K hK => ?_) AllReadyL.nil
    go_simp
    replace hS := hid (hS.out.newArr mc n hmcs.out 2 (by omega))
    rw [hmc.out] at hS
    generalize W.heap.size = gD at *
    generalize W.alloc (.cells mc 2) = W2 at *
    replace hS := hid hS.out.b2
    refine hK.out _ _ (HeldL.nil) (fun hHeld' => ?_)
    clear hK K hHeld; have hHeld := hHeld'; clear hHeld'
    try simp only [Act.put, List.getElem_toArray, List.getElem_cons_succ, List.getElem_cons_zero, List.setIfInBounds_toArray, List.set_cons_zero, List.set_cons_succ]
    change wpAnyL _ _ _ _ _ _ #[true, false, true, true, true, false, true, true, false, true, false] _ _
    revert hHeld
    revert hF
    revert hS
    revert gF
    revert gD
    revert gB
    revert W2
    clear W
    exact ?nBDF
    intro W gC gD hS hHeld
    refine wpAnyL_ready (rs := [1, 3, 9]) (by kernel_rfl) (by simp) ?_
    refine AllReadyL.cons rfl (fun K hK => ?_) ?_
    go_simp
    replace hS := hid (show St w.heap.size w (Asn.own w.heap.size 2 (.slice (some ⟨W.heap.size, 0, none⟩) 1 1) (nats [k]) :: _) _ from hS.out.newOwn [.int .i64 (k : Nat)] 2 (by simp))
    generalize W.heap.size = gA at *
    generalize W.alloc (.cells #[.int .i64 (k : Nat)] 2) = W2 at *
    refine hK.out _ _ (HeldL.nil) (fun hHeld' => ?_)
    clear hK K hHeld; have hHeld := hHeld'; clear hHeld'
    try simp only [Act.put, List.getElem_toArray, List.getElem_cons_succ, List.getElem_cons_zero, List.setIfInBounds_toArray, List.set_cons_zero, List.set_cons_succ]
    change wpAnyL _ _ _ _ _ _ #[true, true, true, false, true, true, true, true, false, false, false] _ _
    revert hHeld
    revert hS
    revert gD
    revert gC
    revert gA
    revert W2
    clear W
    exact ?nACD
    refine AllReadyL.cons rfl (fun K hK => ?_) ?_
    go_simp
    replace hS := hid (hS.out.newArr mc n hmcs.out 2 (by omega))
    rw [hmc.out] at hS
    generalize W.heap.size = gB at *
    generalize W.alloc (.cells mc 2) = W2 at *
    refine hK.out _ _ (HeldL.nil) (fun hHeld' => ?_)
    clear hK K hHeld; have hHeld := hHeld'; clear hHeld'
    try simp only [Act.put, List.getElem_toArray, List.getElem_cons_succ, List.getElem_cons_zero, List.setIfInBounds_toArray, List.set_cons_zero, List.set_cons_succ]
    change wpAnyL _ _ _ _ _ _ #[true, false, true, true, true, true, true, true, false, false, false] _ _
    revert hHeld
    revert hS
    revert gD
    revert gC
    revert gB
    revert W2
    clear W
    exact ?nBCD
    refine AllReadyL.cons rfl (fun K hK => ?_) AllReadyL.nil
    go_simp
    have hsz := hS.out.le
    replace hS := hid (hS.out.newBlk #[.slice none 0 0, .slice none 0 0, .slice none 0 0, .slice none 0 0] 134)
    generalize W.heap.size = gF at *
    generalize W.alloc (.cells #[.slice none 0 0, .slice none 0 0, .slice none 0 0, .slice none 0 0] 134) = W2 at *
    have hF := hid hsz; clear hsz
    refine hK.out _ _ (HeldL.nil) (fun hHeld' => ?_)
    clear hK K hHeld; have hHeld := hHeld'; clear hHeld'
    try simp only [Act.put, List.getElem_toArray, List.getElem_cons_succ, List.getElem_cons_zero, List.setIfInBounds_toArray, List.set_cons_zero, List.set_cons_succ]
    change wpAnyL _ _ _ _ _ _ #[true, false, true, false, true, true, true, true, false, true, false] _ _
    revert hHeld
    revert hF
    revert hS
    revert gF
    revert gD
    revert gC
    revert W2
    clear W
    refine ?nCDF
    rotate_left
    intro W gC gF hS hF hHeld
    refine wpAnyL_ready (rs := [1, 3, 7]) (by kernel_rfl) (by simp) ?_
    refine AllReadyL.cons rfl (fun K hK => ?_) ?_
    go_simp
    replace hS := hid (show St w.heap.size w (Asn.own w.heap.size 2 (.slice (some ⟨W.heap.size, 0, none⟩) 1 1) (nats [k]) :: _) _ from hS.out.newOwn [.int .i64 (k : Nat)] 2 (by simp))
    generalize W.heap.size = gA at *
    generalize W.alloc (.cells #[.int .i64 (k : Nat)] 2) = W2 at *
    replace hS := hid hS.out.f1
    refine hK.out _ _ (HeldL.nil) (fun hHeld' => ?_)
    clear hK K hHeld; have hHeld := hHeld'; clear hHeld'
    try simp only [Act.put, List.getElem_toArray, List.getElem_cons_succ, List.getElem_cons_zero, List.setIfInBounds_toArray, List.set_cons_zero, List.set_cons_succ]
    change wpAnyL _ _ _ _ _ _ #[true, true, true, false, true, true, true, false, false, true, false] _ _
    revert hHeld
    revert hF
    revert hS
    revert gF
    revert gC
    revert gA
    revert W2
    clear W
    exact ?nACF
    refine AllReadyL.cons rfl (fun K hK => ?_) ?_
    go_simp
    replace hS := hid (hS.out.newArr mc n hmcs.out 2 (by omega))
    rw [hmc.out] at hS
    generalize W.heap.size = gB at *
    generalize W.alloc (.cells mc 2) = W2 at *
    replace hS := hid hS.out.f1
    refine hK.out _ _ (HeldL.nil) (fun hHeld' => ?_)
    clear hK K hHeld; have hHeld := hHeld'; clear hHeld'
    try simp only [Act.put, List.getElem_toArray, List.getElem_cons_succ, List.getElem_cons_zero, List.setIfInBounds_toArray, List.set_cons_zero, List.set_cons_succ]
    change wpAnyL _ _ _ _ _ _ #[true, false, true, true, true, true, true, false, false, true, false] _ _
    revert hHeld
    revert hF
    revert hS
    revert gF
    revert gC
    revert gB
    revert W2
    clear W
    exact ?nBCF
    refine AllReadyL.cons rfl (fun K hK => ?_) AllReadyL.nil
    go_simp
    replace hS := hid (hS.out.newArr mc n hmcs.out 2 (by omega))
    rw [hmc.out] at hS
    generalize W.heap.size = gD at *
    generalize W.alloc (.cells mc 2) = W2 at *
    replace hS := hid hS.out.b2
    refine hK.out _ _ (HeldL.nil) (fun hHeld' => ?_)
    clear hK K hHeld; have hHeld := hHeld'; clear hHeld'
    try simp only [Act.put, List.getElem_toArray, List.getElem_cons_succ, List.getElem_cons_zero, List.setIfInBounds_toArray, List.set_cons_zero, List.set_cons_succ]
    change wpAnyL _ _ _ _ _ _ #[true, false, true, false, true, true, true, true, false, true, false] _ _
    revert hHeld
    revert hF
    revert hS
    revert gF
    revert gD
    revert gC
    revert W2
    clear W
    exact ?nCDF
    intro W gD gF hS hF hHeld
    refine wpAnyL_ready (rs := [1, 3, 5]) (by kernel_rfl) (by simp) ?_
    refine AllReadyL.cons rfl (fun K hK => ?_) ?_
    go_simp
    replace hS := hid (show St w.heap.size w (Asn.own w.heap.size 2 (.slice (some ⟨W.heap.size, 0, none⟩) 1 1) (nats [k]) :: _) _ from hS.out.newOwn [.int .i64 (k : Nat)] 2 (by simp))
    generalize W.heap.size = gA at *
    generalize W.alloc (.cells #[.int .i64 (k : Nat)] 2) = W2 at *
    replace hS := hid hS.out.f1
    refine hK.out _ _ (HeldL.nil) (fun hHeld' => ?_)
    clear hK K hHeld; have hHeld := hHeld'; clear hHeld'
    try simp only [Act.put, List.getElem_toArray, List.getElem_cons_succ, List.getElem_cons_zero, List.setIfInBounds_toArray, List.set_cons_zero, List.set_cons_succ]
    change wpAnyL _ _ _ _ _ _ #[true, true, true, false, true, false, true, true, false, true, false] _ _
    revert hHeld
    revert hF
    revert hS
    revert gF
    revert gD
    revert gA
    revert W2
    clear W
    exact ?nADF
    refine AllReadyL.cons rfl (fun K hK => ?_) ?_
    go_simp
    replace hS := hid (hS.out.newArr mc n hmcs.out 2 (by omega))
    rw [hmc.out] at hS
    generalize W.heap.size = gB at *
    generalize W.alloc (.cells mc 2) = W2 at *
    replace hS := hid hS.out.f1
    refine hK.out _ _ (HeldL.nil) (fun hHeld' => ?_)
    clear hK K hHeld; have hHeld := hHeld'; clear hHeld'
    try simp only [Act.put, List.getElem_toArray, List.getElem_cons_succ, List.getElem_cons_zero, List.setIfInBounds_toArray, List.set_cons_zero, List.set_cons_succ]
    change wpAnyL _ _ _ _ _ _ #[true, false, true, true, true, false, true, true, false, true, false] _ _
    revert hHeld
    revert hF
    revert hS
    revert gF
    revert gD
    revert gB
    revert W2
    clear W
    exact ?nBDF
    refine AllReadyL.cons rfl (fun K hK => ?_) AllReadyL.nil
    go_simp
    replace hS := hid (hS.out.newArr mc n hmcs.out 2 (by omega))
    rw [hmc.out] at hS
    generalize W.heap.size = gC at *
    generalize W.alloc (.cells mc 2) = W2 at *
    replace hS := hid hS.out.f1
    refine hK.out _ _ (HeldL.nil) (fun hHeld' => ?_)
    clear hK K hHeld; have hHeld := hHeld'; clear hHeld'
    try simp only [Act.put, List.getElem_toArray, List.getElem_cons_succ, List.getElem_cons_zero, List.setIfInBounds_toArray, List.set_cons_zero, List.set_cons_succ]
    change wpAnyL _ _ _ _ _ _ #[true, false, true, false, true, true, true, true, false, true, false] _ _
    revert hHeld
    revert hF
    revert hS
    revert gF
    revert gD
    revert gC
    revert W2
    clear W
    exact ?nCDF
    intro W gA gB gC hS hHeld
    refine wpAnyL_ready (rs := [7, 9]) (by kernel_rfl) (by simp) ?_
    refine AllReadyL.cons rfl (fun K hK => ?_) ?_
    go_simp
    replace hS := hid (hS.out.newArr mc n hmcs.out 2 (by omega))
    rw [hmc.out] at hS
    generalize W.heap.size = gD at *
    generalize W.alloc (.cells mc 2) = W2 at *
    replace hS := hid hS.out.b3
    refine hK.out _ _ (HeldL.nil) (fun hHeld' => ?_)
    clear hK K hHeld; have hHeld := hHeld'; clear hHeld'
    try simp only [Act.put, List.getElem_toArray, List.getElem_cons_succ, List.getElem_cons_zero, List.setIfInBounds_toArray, List.set_cons_zero, List.set_cons_succ]
    change wpAnyL _ _ _ _ _ _ #[true, true, true, true, true, true, true, true, false, false, false] _ _
    revert hHeld
    revert hS
    revert gD
    revert gC
    revert gB
    revert gA
    revert W2
    clear W
    refine ?nABCD
    rotate_left
    refine AllReadyL.cons rfl (fun K hK => ?_) AllReadyL.nil
    go_simp
    have hsz := hS.out.le
    replace hS := hid (hS.out.newBlk #[.slice none 0 0, .slice none 0 0, .slice none 0 0, .slice none 0 0] 134)
    generalize W.heap.size = gF at *
    generalize W.alloc (.cells #[.slice none 0 0, .slice none 0 0, .slice none 0 0, .slice none 0 0] 134) = W2 at *
    have hF := hid hsz; clear hsz
    refine hK.out _ _ (HeldL.nil) (fun hHeld' => ?_)
    clear hK K hHeld; have hHeld := hHeld'; clear hHeld'
    try simp only [Act.put, List.getElem_toArray, List.getElem_cons_succ, List.getElem_cons_zero, List.setIfInBounds_toArray, List.set_cons_zero, List.set_cons_succ]
    change wpAnyL _ _ _ _ _ _ #[true, true, true, true, true, true, true, false, false, true, false] _ _
    revert hHeld
    revert hF
    revert hS
    revert gF
    revert gC
    revert gB
    revert gA
    revert W2
    clear W
    refine ?nABCF
    rotate_left
    intro W gA gB gD hS hHeld
    refine wpAnyL_ready (rs := [5, 9]) (by kernel_rfl) (by simp) ?_
    refine AllReadyL.cons rfl (fun K hK => ?_) ?_
    go_simp
    replace hS := hid (hS.out.newArr mc n hmcs.out 2 (by omega))
    rw [hmc.out] at hS
    generalize W.heap.size = gC at *
    generalize W.alloc (.cells mc 2) = W2 at *
    replace hS := hid hS.out.b2
    refine hK.out _ _ (HeldL.nil) (fun hHeld' => ?_)
    clear hK K hHeld; have hHeld := hHeld'; clear hHeld'
    try simp only [Act.put, List.getElem_toArray, List.getElem_cons_succ, List.getElem_cons_zero, List.setIfInBounds_toArray, List.set_cons_zero, List.set_cons_succ]
    change wpAnyL _ _ _ _ _ _ #[true, true, true, true, true, true, true, true, false, false, false] _ _
    revert hHeld
    revert hS
    revert gD
    revert gC
    revert gB
    revert gA
    revert W2
    clear W
    exact ?nABCD
    refine AllReadyL.cons rfl (fun K hK => ?_) AllReadyL.nil
    go_simp
    have hsz := hS.out.le
    replace hS := hid (hS.out.newBlk #[.slice none 0 0, .slice none 0 0, .slice none 0 0, .slice none 0 0] 134)
    generalize W.heap.size = gF at *
    generalize W.alloc (.cells #[.slice none 0 0, .slice none 0 0, .slice none 0 0, .slice none 0 0] 134) = W2 at *
    have hF := hid hsz; clear hsz
    refine hK.out _ _ (HeldL.nil) (fun hHeld' => ?_)
    clear hK K hHeld; have hHeld := hHeld'; clear hHeld'
    try simp only [Act.put, List.getElem_toArray, List.getElem_cons_succ, List.getElem_cons_zero, List.setIfInBounds_toArray, List.set_cons_zero, List.set_cons_succ]
    change wpAnyL _ _ _ _ _ _ #[true, true, true, true, true, false, true, true, false, true, false] _ _
    revert hHeld
    revert hF
    revert hS
    revert gF
    revert gD
    revert gB
    revert gA
    revert W2
    clear W
    refine ?nABDF
    rotate_left
    intro W gA gB gF hS hF hHeld
    refine wpAnyL_ready (rs := [5, 7]) (by kernel_rfl) (by simp) ?_
    refine AllReadyL.cons rfl (fun K hK => ?_) ?_
    go_simp
    replace hS := hid (hS.out.newArr mc n hmcs.out 2 (by omega))
    rw [hmc.out] at hS
    generalize W.heap.size = gC at *
    generalize W.alloc (.cells mc 2) = W2 at *
    replace hS := hid hS.out.b3
    refine hK.out _ _ (HeldL.nil) (fun hHeld' => ?_)
    clear hK K hHeld; have hHeld := hHeld'; clear hHeld'
    try simp only [Act.put, List.getElem_toArray, List.getElem_cons_succ, List.getElem_cons_zero, List.setIfInBounds_toArray, List.set_cons_zero, List.set_cons_succ]
    change wpAnyL _ _ _ _ _ _ #[true, true, true, true, true, true, true, false, false, true, false] _ _
    revert hHeld
    revert hF
    revert hS
    revert gF
    revert gC
    revert gB
    revert gA
    revert W2
    clear W
    exact ?nABCF
    refine AllReadyL.cons rfl (fun K hK => ?_) AllReadyL.nil
    go_simp
    replace hS := hid (hS.out.newArr mc n hmcs.out 2 (by omega))
    rw [hmc.out] at hS
    generalize W.heap.size = gD at *
    generalize W.alloc (.cells mc 2) = W2 at *
    replace hS := hid hS.out.b3
    refine hK.out _ _ (HeldL.nil) (fun hHeld' => ?_)
    clear hK K hHeld; have hHeld := hHeld'; clear hHeld'
    try simp only [Act.put, List.getElem_toArray, List.getElem_cons_succ, List.getElem_cons_zero, List.setIfInBounds_toArray, List.set_cons_zero, List.set_cons_succ]
    change wpAnyL _ _ _ _ _ _ #[true, true, true, true, true, false, true, true, false, true, false] _ _
    revert hHeld
    revert hF
    revert hS
    revert gF
    revert gD
    revert gB
    revert gA
    revert W2
    clear W
    exact ?nABDF
    intro W gA gC gD hS hHeld
    refine wpAnyL_ready (rs := [3, 9]) (by kernel_rfl) (by simp) ?_
    refine AllReadyL.cons rfl (fun K hK => ?_) ?_
    go_simp
    replace hS := hid (hS.out.newArr mc n hmcs.out 2 (by omega))
    rw [hmc.out] at hS
    generalize W.heap.size = gB at *
    generalize W.alloc (.cells mc 2) = W2 at *
    replace hS := hid hS.out.f1
    refine hK.out _ _ (HeldL.nil) (fun hHeld' => ?_)
    clear hK K hHeld; have hHeld := hHeld'; clear hHeld'
    try simp only [Act.put, List.getElem_toArray, List.getElem_cons_succ, List.getElem_cons_zero, List.setIfInBounds_toArray, List.set_cons_zero, List.set_cons_succ]
    change wpAnyL _ _ _ _ _ _ #[true, true, true, true, true, true, true, true, false, false, false] _ _
    revert hHeld
    revert hS
    revert gD
    revert gC
    revert gB
    revert gA
    revert W2
    clear W
    exact ?nABCD
    refine AllReadyL.cons rfl (fun K hK => ?_) AllReadyL.nil
    go_simp
    have hsz := hS.out.le
    replace hS := hid (hS.out.newBlk #[.slice none 0 0, .slice none 0 0, .slice none 0 0, .slice none 0 0] 134)
    generalize W.heap.size = gF at *
    generalize W.alloc (.cells #[.slice none 0 0, .slice none 0 0, .slice none 0 0, .slice none 0 0] 134) = W2 at *
    have hF := hid hsz; clear hsz
    refine hK.out _ _ (HeldL.nil) (fun hHeld' => ?_)
    clear hK K hHeld; have hHeld := hHeld'; clear hHeld'
    try simp only [Act.put, List.getElem_toArray, List.getElem_cons_succ, List.getElem_cons_zero, List.setIfInBounds_toArray, List.set_cons_zero, List.set_cons_succ]
    change wpAnyL _ _ _ _ _ _ #[true, true, true, false, true, true, true, true, false, true, false] _ _
    revert hHeld
    revert hF
    revert hS
    revert gF
    revert gD
    revert gC
    revert gA
    revert W2
    clear W
    refine ?nACDF
    rotate_left
    intro W gA gC gF hS hF hHeld
    refine wpAnyL_ready (rs := [3, 7]) (by kernel_rfl) (by simp) ?_
    refine AllReadyL.cons rfl (fun K hK => ?_) ?_
    go_simp
    replace hS := hid (hS.out.newArr mc n hmcs.out 2 (by omega))
    rw [hmc.out] at hS
    generalize W.heap.size = gB at *
    generalize W.alloc (.cells mc 2) = W2 at *
    replace hS := hid hS.out.b2
    refine hK.out _ _ (HeldL.nil) (fun hHeld' => ?_)
    clear hK K hHeld; have hHeld := hHeld'; clear hHeld'
    try simp only [Act.put, List.getElem_toArray, List.getElem_cons_succ, List.getElem_cons_zero, List.setIfInBounds_toArray, List.set_cons_zero, List.set_cons_succ]
    change wpAnyL _ _ _ _ _ _ #[true, true, true, true, true, true, true, false, false, true, false] _ _
    revert hHeld
    revert hF
    revert hS
    revert gF
    revert gC
    revert gB
    revert gA
    revert W2
    clear W
    exact ?nABCF
    refine AllReadyL.cons rfl (fun K hK => ?_) AllReadyL.nil
    go_simp
    replace hS := hid (hS.out.newArr mc n hmcs.out 2 (by omega))
    rw [hmc.out] at hS
    generalize W.heap.size = gD at *
    generalize W.alloc (.cells mc 2) = W2 at *
    replace hS := hid hS.out.b3
    refine hK.out _ _ (HeldL.nil) (fun hHeld' => ?_)
    clear hK K hHeld; have hHeld := hHeld'; clear hHeld'
    try simp only [Act.put, List.getElem_toArray, List.getElem_cons_succ, List.getElem_cons_zero, List.setIfInBounds_toArray, List.set_cons_zero, List.set_cons_succ]
    change wpAnyL _ _ _ _ _ _ #[true, true, true, false, true, true, true, true, false, true, false] _ _
    revert hHeld
    revert hF
    revert hS
    revert gF
    revert gD
    revert gC
    revert gA
    revert W2
    clear W
    exact ?nACDF
    intro W gA gD gF hS hF hHeld
    refine wpAnyL_ready (rs := [3, 5]) (by kernel_rfl) (by simp) ?_
    refine AllReadyL.cons rfl (fun K hK => ?_) ?_
    go_simp
    replace hS := hid (hS.out.newArr mc n hmcs.out 2 (by omega))
    rw [hmc.out] at hS
    generalize W.heap.size = gB at *
    generalize W.alloc (.cells mc 2) = W2 at *
    replace hS := hid hS.out.b2
    refine hK.out _ _ (HeldL.nil) (fun hHeld' => ?_)
    clear hK K hHeld; have hHeld := hHeld'; clear hHeld'
    try simp only [Act.put, List.getElem_toArray, List.getElem_cons_succ, List.getElem_cons_zero, List.setIfInBounds_toArray, List.set_cons_zero, List.set_cons_succ]
    change wpAnyL _ _ _ _ _ _ #[true, true, true, true, true, false, true, true, false, true, false] _ _
    revert hHeld
    revert hF
    revert hS
    revert gF
    revert gD
    revert gB
    revert gA
    revert W2
    clear W
    exact ?nABDF
    refine AllReadyL.cons rfl (fun K hK => ?_) AllReadyL.nil
    go_simp
    replace hS := hid (hS.out.newArr mc n hmcs.out 2 (by omega))
    rw [hmc.out] at hS
    generalize W.heap.size = gC at *
    generalize W.alloc (.cells mc 2) = W2 at *
    replace hS := hid hS.out.b2
    refine hK.out _ _ (HeldL.nil) (fun hHeld' => ?_)
    clear hK K hHeld; have hHeld := hHeld'; clear hHeld'
    try simp only [Act.put, List.getElem_toArray, List.getElem_cons_succ, List.getElem_cons_zero, List.setIfInBounds_toArray, List.set_cons_zero, List.set_cons_succ]
    change wpAnyL _ _ _ _ _ _ #[true, true, true, false, true, true, true, true, false, true, false] _ _
    revert hHeld
    revert hF
    revert hS
    revert gF
    revert gD
    revert gC
    revert gA
    revert W2
    clear W
    exact ?nACDF
    intro W gB gC gD hS hHeld
    refine wpAnyL_ready (rs := [1, 9]) (by kernel_rfl) (by simp) ?_
    refine AllReadyL.cons rfl (fun K hK => ?_) ?_
    go_simp
    replace hS := hid (show St w.heap.size w (Asn.own w.heap.size 2 (.slice (some ⟨W.heap.size, 0, none⟩) 1 1) (nats [k]) :: _) _ from hS.out.newOwn [.int .i64 (k : Nat)] 2 (by simp))
    generalize W.heap.size = gA at *
    generalize W.alloc (.cells #[.int .i64 (k : Nat)] 2) = W2 at *
    refine hK.out _ _ (HeldL.nil) (fun hHeld' => ?_)
    clear hK K hHeld; have hHeld := hHeld'; clear hHeld'
    try simp only [Act.put, List.getElem_toArray, List.getElem_cons_succ, List.getElem_cons_zero, List.setIfInBounds_toArray, List.set_cons_zero, List.set_cons_succ]
    change wpAnyL _ _ _ _ _ _ #[true, true, true, true, true, true, true, true, false, false, false] _ _
    revert hHeld
    revert hS
    revert gD
    revert gC
    revert gB
    revert gA
    revert W2
    clear W
    exact ?nABCD
    refine AllReadyL.cons rfl (fun K hK => ?_) AllReadyL.nil
    go_simp
    have hsz := hS.out.le
    replace hS := hid (hS.out.newBlk #[.slice none 0 0, .slice none 0 0, .slice none 0 0, .slice none 0 0] 134)
    generalize W.heap.size = gF at *
    generalize W.alloc (.cells #[.slice none 0 0, .slice none 0 0, .slice none 0 0, .slice none 0 0] 134) = W2 at *
    have hF := hid hsz; clear hsz
    refine hK.out _ _ (HeldL.nil) (fun hHeld' => ?_)
    clear hK K hHeld; have hHeld := hHeld'; clear hHeld'
    try simp only [Act.put, List.getElem_toArray, List.getElem_cons_succ, List.getElem_cons_zero, List.setIfInBounds_toArray, List.set_cons_zero, List.set_cons_succ]
    change wpAnyL _ _ _ _ _ _ #[true, false, true, true, true, true, true, true, false, true, false] _ _
    revert hHeld
    revert hF
    revert hS
    revert gF
    revert gD
    revert gC
    revert gB
    revert W2
    clear W
    refine ?nBCDF
    rotate_left
    intro W gB gC gF hS hF hHeld
    refine wpAnyL_ready (rs := [1, 7]) (by kernel_rfl) (by simp) ?_
    refine AllReadyL.cons rfl (fun K hK => ?_) ?_
    go_simp
    replace hS := hid (show St w.heap.size w (Asn.own w.heap.size 2 (.slice (some ⟨W.heap.size, 0, none⟩) 1 1) (nats [k]) :: _) _ from hS.out.newOwn [.int .i64 (k : Nat)] 2 (by simp))
    generalize W.heap.size = gA at *
    generalize W.alloc (.cells #[.int .i64 (k : Nat)] 2) = W2 at *
    replace hS := hid hS.out.f1
    refine hK.out _ _ (HeldL.nil) (fun hHeld' => ?_)
    clear hK K hHeld; have hHeld := hHeld'; clear hHeld'
    try simp only [Act.put, List.getElem_toArray, List.getElem_cons_succ, List.getElem_cons_zero, List.setIfInBounds_toArray, List.set_cons_zero, List.set_cons_succ]
    change wpAnyL _ _ _ _ _ _ #[true, true, true, true, true, true, true, false, false, true, false] _ _
    revert hHeld
    revert hF
    revert hS
    revert gF
    revert gC
    revert gB
    revert gA
    revert W2
    clear W
    exact ?nABCF
    refine AllReadyL.cons rfl (fun K hK => ?_) AllReadyL.nil
    go_simp
    replace hS := hid (hS.out.newArr mc n hmcs.out 2 (by omega))
    rw [hmc.out] at hS
    generalize W.heap.size = gD at *
    generalize W.alloc (.cells mc 2) = W2 at *
    replace hS := hid hS.out.b3
    refine hK.out _ _ (HeldL.nil) (fun hHeld' => ?_)
    clear hK K hHeld; have hHeld := hHeld'; clear hHeld'
    try simp only [Act.put, List.getElem_toArray, List.getElem_cons_succ, List.getElem_cons_zero, List.setIfInBounds_toArray, List.set_cons_zero, List.set_cons_succ]
    change wpAnyL _ _ _ _ _ _ #[true, false, true, true, true, true, true, true, false, true, false] _ _
    revert hHeld
    revert hF
    revert hS
    revert gF
    revert gD
    revert gC
    revert gB
    revert W2
    clear W
    exact ?nBCDF
    intro W gB gD gF hS hF hHeld
    refine wpAnyL_ready (rs := [1, 5]) (by kernel_rfl) (by simp) ?_
    refine AllReadyL.cons rfl (fun K hK => ?_) ?_
    go_simp
    replace hS := hid (show St w.heap.size w (Asn.own w.heap.size 2 (.slice (some ⟨W.heap.size, 0, none⟩) 1 1) (nats [k]) :: _) _ from hS.out.newOwn [.int .i64 (k : Nat)] 2 (by simp))
    generalize W.heap.size = gA at *
    generalize W.alloc (.cells #[.int .i64 (k : Nat)] 2) = W2 at *
    replace hS := hid hS.out.f1
    refine hK.out _ _ (HeldL.nil) (fun hHeld' => ?_)
    clear hK K hHeld; have hHeld := hHeld'; clear hHeld'
    try simp only [Act.put, List.getElem_toArray, List.getElem_cons_succ, List.getElem_cons_zero, List.setIfInBounds_toArray, List.set_cons_zero, List.set_cons_succ]
    change wpAnyL _ _ _ _ _ _ #[true, true, true, true, true, false, true, true, false, true, false] _ _
    revert hHeld
    revert hF
    revert hS
    revert gF
    revert gD
    revert gB
    revert gA
    revert W2
    clear W
    exact ?nABDF
    refine AllReadyL.cons rfl (fun K hK => ?_) AllReadyL.nil
    go_simp
    replace hS := hid (hS.out.newArr mc n hmcs.out 2 (by omega))
    rw [hmc.out] at hS
    generalize W.heap.size = gC at *
    generalize W.alloc (.cells mc 2) = W2 at *
    replace hS := hid hS.out.b2
    refine hK.out _ _ (HeldL.nil) (fun hHeld' => ?_)
    clear hK K hHeld; have hHeld := hHeld'; clear hHeld'
    try simp only [Act.put, List.getElem_toArray, List.getElem_cons_succ, List.getElem_cons_zero, List.setIfInBounds_toArray, List.set_cons_zero, List.set_cons_succ]
    change wpAnyL _ _ _ _ _ _ #[true, false, true, true, true, true, true, true, false, true, false] _ _
    revert hHeld
    revert hF
    revert hS
    revert gF
    revert gD
    revert gC
    revert gB
    revert W2
    clear W
    exact ?nBCDF
    intro W gC gD gF hS hF hHeld
    refine wpAnyL_ready (rs := [1, 3]) (by kernel_rfl) (by simp) ?_
    refine AllReadyL.cons rfl (fun K hK => ?_) ?_
    go_simp
    replace hS := hid (show St w.heap.size w (Asn.own w.heap.size 2 (.slice (some ⟨W.heap.size, 0, none⟩) 1 1) (nats [k]) :: _) _ from hS.out.newOwn [.int .i64 (k : Nat)] 2 (by simp))
    generalize W.heap.size = gA at *
    generalize W.alloc (.cells #[.int .i64 (k : Nat)] 2) = W2 at *
    replace hS := hid hS.out.f1
    refine hK.out _ _ (HeldL.nil) (fun hHeld' => ?_)
    clear hK K hHeld; have hHeld := hHeld'; clear hHeld'
    try simp only [Act.put, List.getElem_toArray, List.getElem_cons_succ, List.getElem_cons_zero, List.setIfInBounds_toArray, List.set_cons_zero, List.set_cons_succ]
    change wpAnyL _ _ _ _ _ _ #[true, true, true, false, true, true, true, true, false, true, false] _ _
    revert hHeld
    revert hF
    revert hS
    revert gF
    revert gD
    revert gC
    revert gA
    revert W2
    clear W
    exact ?nACDF
    refine AllReadyL.cons rfl (fun K hK => ?_) AllReadyL.nil
    go_simp
    replace hS := hid (hS.out.newArr mc n hmcs.out 2 (by omega))
    rw [hmc.out] at hS
    generalize W.heap.size = gB at *
    generalize W.alloc (.cells mc 2) = W2 at *
    replace hS := hid hS.out.f1
    refine hK.out _ _ (HeldL.nil) (fun hHeld' => ?_)
    clear hK K hHeld; have hHeld := hHeld'; clear hHeld'
    try simp only [Act.put, List.getElem_toArray, List.getElem_cons_succ, List.getElem_cons_zero, List.setIfInBounds_toArray, List.set_cons_zero, List.set_cons_succ]
    change wpAnyL _ _ _ _ _ _ #[true, false, true, true, true, true, true, true, false, true, false] _ _
    revert hHeld
    revert hF
    revert hS
    revert gF
    revert gD
    revert gC
    revert gB
    revert W2
    clear W
    exact ?nBCDF
    intro W gA gB gC gD hS hHeld
    refine wpAnyL_take0 (i := 8) (v := ?_) rfl (by kernel_rfl) (by kernel_rfl) (by kernel_rfl) (by rfl) (fun _ _ _ h => h) (Or.inl ⟨by rfl, ?_⟩) (by assumption) ?_
    rotate_left
    · (intro W _; go_simp; (with_reducible rfl))
    intro hHeld'
    clear hHeld; have hHeld := hHeld'; clear hHeld'
    try simp only [Act.put, List.getElem_toArray, List.getElem_cons_succ, List.getElem_cons_zero, List.setIfInBounds_toArray, List.set_cons_zero, List.set_cons_succ]
    refine wpAnyL_ready (rs := [9]) (by kernel_rfl) (by simp) ?_
    refine AllReadyL.cons rfl (fun K hK => ?_) AllReadyL.nil
    go_simp
    have hsz := hS.out.le
    replace hS := hid (hS.out.newBlk #[.slice none 0 0, .slice none 0 0, .slice none 0 0, .slice none 0 0] 134)
    generalize W.heap.size = gF at *
    generalize W.alloc (.cells #[.slice none 0 0, .slice none 0 0, .slice none 0 0, .slice none 0 0] 134) = W2 at *
    have hF := hid hsz; clear hsz
    refine hK.out _ _ (HeldL.nil) (fun hHeld' => ?_)
    clear hK K hHeld; have hHeld := hHeld'; clear hHeld'
    try simp only [Act.put, List.getElem_toArray, List.getElem_cons_succ, List.getElem_cons_zero, List.setIfInBounds_toArray, List.set_cons_zero, List.set_cons_succ]
    change wpAnyL _ _ _ _ _ _ #[true, true, true, true, true, true, true, true, true, true, false] _ _
    revert hHeld
    revert hF
    revert hS
    revert gF
    revert gD
    revert gC
    revert gB
    revert gA
    revert W2
    clear W
    refine ?nABCDFx
    rotate_left
    intro W gA gB gC gF hS hF hHeld
    refine wpAnyL_ready (rs := [7]) (by kernel_rfl) (by simp) ?_
    refine AllReadyL.cons rfl (fun K hK => ?_) AllReadyL.nil
    go_simp
    replace hS := hid (hS.out.newArr mc n hmcs.out 2 (by omega))
    rw [hmc.out] at hS
    generalize W.heap.size = gD at *
    generalize W.alloc (.cells mc 2) = W2 at *
    replace hS := hid hS.out.b4
    refine hK.out _ _ (HeldL.nil) (fun hHeld' => ?_)
    clear hK K hHeld; have hHeld := hHeld'; clear hHeld'
    try simp only [Act.put, List.getElem_toArray, List.getElem_cons_succ, List.getElem_cons_zero, List.setIfInBounds_toArray, List.set_cons_zero, List.set_cons_succ]
    change wpAnyL _ _ _ _ _ _ #[true, true, true, true, true, true, true, true, false, true, false] _ _
    revert hHeld
    revert hF
    revert hS
    revert gF
    revert gD
    revert gC
    revert gB
    revert gA
    revert W2
    clear W
    refine ?nABCDF
    rotate_left
    intro W gA gB gD gF hS hF hHeld
    refine wpAnyL_ready (rs := [5]) (by kernel_rfl) (by simp) ?_
    refine AllReadyL.cons rfl (fun K hK => ?_) AllReadyL.nil
    go_simp
    replace hS := hid (hS.out.newArr mc n hmcs.out 2 (by omega))
    rw [hmc.out] at hS
    generalize W.heap.size = gC at *
    generalize W.alloc (.cells mc 2) = W2 at *
    replace hS := hid hS.out.b3
    refine hK.out _ _ (HeldL.nil) (fun hHeld' => ?_)
    clear hK K hHeld; have hHeld := hHeld'; clear hHeld'
    try simp only [Act.put, List.getElem_toArray, List.getElem_cons_succ, List.getElem_cons_zero, List.setIfInBounds_toArray, List.set_cons_zero, List.set_cons_succ]
    change wpAnyL _ _ _ _ _ _ #[true, true, true, true, true, true, true, true, false, true, false] _ _
    revert hHeld
    revert hF
    revert hS
    revert gF
    revert gD
    revert gC
    revert gB
    revert gA
    revert W2
    clear W
    exact ?nABCDF
    intro W gA gC gD gF hS hF hHeld
    refine wpAnyL_ready (rs := [3]) (by kernel_rfl) (by simp) ?_
    refine AllReadyL.cons rfl (fun K hK => ?_) AllReadyL.nil
    go_simp
    replace hS := hid (hS.out.newArr mc n hmcs.out 2 (by omega))
    rw [hmc.out] at hS
    generalize W.heap.size = gB at *
    generalize W.alloc (.cells mc 2) = W2 at *
    replace hS := hid hS.out.b2
    refine hK.out _ _ (HeldL.nil) (fun hHeld' => ?_)
    clear hK K hHeld; have hHeld := hHeld'; clear hHeld'
    try simp only [Act.put, List.getElem_toArray, List.getElem_cons_succ, List.getElem_cons_zero, List.setIfInBounds_toArray, List.set_cons_zero, List.set_cons_succ]
    change wpAnyL _ _ _ _ _ _ #[true, true, true, true, true, true, true, true, false, true, false] _ _
    revert hHeld
    revert hF
    revert hS
    revert gF
    revert gD
    revert gC
    revert gB
    revert gA
    revert W2
    clear W
    exact ?nABCDF
    intro W gB gC gD gF hS hF hHeld
    refine wpAnyL_ready (rs := [1]) (by kernel_rfl) (by simp) ?_
    refine AllReadyL.cons rfl (fun K hK => ?_) AllReadyL.nil
    go_simp
    replace hS := hid (show St w.heap.size w (Asn.own w.heap.size 2 (.slice (some ⟨W.heap.size, 0, none⟩) 1 1) (nats [k]) :: _) _ from hS.out.newOwn [.int .i64 (k : Nat)] 2 (by simp))
    generalize W.heap.size = gA at *
    generalize W.alloc (.cells #[.int .i64 (k : Nat)] 2) = W2 at *
    replace hS := hid hS.out.f1
    refine hK.out _ _ (HeldL.nil) (fun hHeld' => ?_)
    clear hK K hHeld; have hHeld := hHeld'; clear hHeld'
    try simp only [Act.put, List.getElem_toArray, List.getElem_cons_succ, List.getElem_cons_zero, List.setIfInBounds_toArray, List.set_cons_zero, List.set_cons_succ]
    change wpAnyL _ _ _ _ _ _ #[true, true, true, true, true, true, true, true, false, true, false] _ _
    revert hHeld
    revert hF
    revert hS
    revert gF
    revert gD
    revert gC
    revert gB
    revert gA
    revert W2
    clear W
    exact ?nABCDF
    intro W gA gB gC gD gF hS hF hHeld
    refine wpAnyL_ready (rs := [10]) (by kernel_rfl) (by simp) ?_
    refine AllReadyL.cons rfl (fun K hK => ?_) AllReadyL.nil
    refine step_store_row rfl _ _ _ rfl gF #[.slice (some ⟨gA, 0, none⟩) 1 1, .slice (some ⟨gB, 0, none⟩) n n, .slice (some ⟨gC, 0, none⟩) n n, .slice (some ⟨gD, 0, none⟩) n n] rfl rfl _ _ hS.out.k0 sz_tree4 rfl (by simp [Value.oneCell']) ?_
    replace hS := hid (hS.out.setRow hF.out #[.slice (some ⟨gA, 0, none⟩) 1 1, .slice (some ⟨gB, 0, none⟩) n n, .slice (some ⟨gC, 0, none⟩) n n, .slice (some ⟨gD, 0, none⟩) n n])
    refine hK.out _ _ (HeldL.nil) (fun hHeld' => ?_)
    clear hK K hHeld; have hHeld := hHeld'; clear hHeld'
    try simp only [Act.put, List.getElem_toArray, List.getElem_cons_succ, List.getElem_cons_zero, List.setIfInBounds_toArray, List.set_cons_zero, List.set_cons_succ]
    refine wpAnyL_done (by kernel_rfl) ?_ _
    go_wp2
    go_meet
    case rel => exact ⟨gF, gA, gB, gC, gD, rfl, hF.out, hS.out⟩
    intro W gA gB gC gD gF hS hF hHeld
    refine wpAnyL_take0 (i := 8) (v := ?_) rfl (by kernel_rfl) (by kernel_rfl) (by kernel_rfl) (by rfl) (fun _ _ _ h => h) (Or.inl ⟨by rfl, ?_⟩) (by assumption) ?_
    rotate_left
    · (intro W _; go_simp; (with_reducible rfl))
    intro hHeld'
    clear hHeld; have hHeld := hHeld'; clear hHeld'
    try simp only [Act.put, List.getElem_toArray, List.getElem_cons_succ, List.getElem_cons_zero, List.setIfInBounds_toArray, List.set_cons_zero, List.set_cons_succ]
    refine wpAnyL_ready (rs := [10]) (by kernel_rfl) (by simp) ?_
    refine AllReadyL.cons rfl (fun K hK => ?_) AllReadyL.nil
    refine step_store_row rfl _ _ _ rfl gF #[.slice (some ⟨gA, 0, none⟩) 1 1, .slice (some ⟨gB, 0, none⟩) n n, .slice (some ⟨gC, 0, none⟩) n n, .slice (some ⟨gD, 0, none⟩) n n] rfl rfl _ _ hS.out.k0 sz_tree4 rfl (by simp [Value.oneCell']) ?_
    replace hS := hid (hS.out.setRow hF.out #[.slice (some ⟨gA, 0, none⟩) 1 1, .slice (some ⟨gB, 0, none⟩) n n, .slice (some ⟨gC, 0, none⟩) n n, .slice (some ⟨gD, 0, none⟩) n n])
    refine hK.out _ _ (HeldL.nil) (fun hHeld' => ?_)
    clear hK K hHeld; have hHeld := hHeld'; clear hHeld'
    try simp only [Act.put, List.getElem_toArray, List.getElem_cons_succ, List.getElem_cons_zero, List.setIfInBounds_toArray, List.set_cons_zero, List.set_cons_succ]
    refine wpAnyL_done (by kernel_rfl) ?_ _
    go_wp2
    go_meet
    case rel => exact ⟨gF, gA, gB, gC, gD, rfl, hF.out, hS.out⟩
  case rest =>
    obtain ⟨bt, gq, gf, gs, gx, rfl, hbt, rS⟩ := hcut
    clear hmk hmc hmcs hS
    replace rS := hid rS
    go_wp2
    go_loopw [9] (fun i wr => ∃ j : Nat, j ≤ n ∧ i = .int .i64 j ∧ St w.heap.size w [Asn.blk bt #[.slice (some ⟨gq, 0, none⟩) 1 1, .slice (some ⟨gf, 0, none⟩) n n, .slice (some ⟨gs, 0, none⟩) n n, .slice (some ⟨gx, 0, none⟩) n n] 134, Asn.own w.heap.size 2 (.slice (some ⟨gq, 0, none⟩) 1 1) (nats [k]), Asn.own w.heap.size 2 (.slice (some ⟨gf, 0, none⟩) n n) (List.replicate n (.int .i64 0)), Asn.own w.heap.size 2 (.slice (some ⟨gs, 0, none⟩) n n) (List.replicate n (.int .i64 0)), Asn.own w.heap.size 2 (.slice (some ⟨gx, 0, none⟩) n n) (List.replicate j (Value.int .i64 (-1)) ++ List.replicate (n - j) (Value.int .i64 0)), Asn.blk (w.heap.size + 1) #[.slice none 0 0, .slice none 0 0, .slice none 0 0, .slice none 0 0] 134, Asn.mb 27 w.heap.size m] wr) (fun i _ => n - (intOf i).toNat)
    case atStart => exact ⟨0, Nat.zero_le _, rfl, rS.out⟩
    case round =>
      clear rS
      obtain ⟨j, hj, rfl, rS⟩ := hrel
      have hlen : (List.replicate j (Value.int .i64 (-1)) ++ List.replicate (n - j) (Value.int .i64 0)).length = n := by simp; omega
      have q2 : wr.cell? ⟨bt, 3, none⟩ = some (.slice (some ⟨gx, 0, none⟩) n n) := cell_of_row _ _ 3 _ _ _ rS.k0
      by_cases hlt : j < n
      · obtain ⟨u, hu⟩ : ∃ u, (List.replicate j (Value.int .i64 (-1)) ++ List.replicate (n - j) (.int .i64 0))[j]? = some u := ⟨_, List.getElem?_eq_getElem (by omega)⟩
        have co := rS.o4.cellAt j u hu
        have fo := rS.o4.frozenAt hlen j
        have y1 := (rS.f4.setOwn hlen j (.int .i64 (-1)) hlt).b4
        rw [rep_step n j _ _ hlt] at y1
        replace y1 := hid y1
        clear rS hu hlen
        go_wp2
        go_roundw
        case rel => exact ⟨j + 1, by omega, by go_num, y1.out⟩
        case measure => simp [intOf]; omega
      · obtain rfl : n = j := by omega
        rw [Nat.sub_self, List.replicate_zero, List.append_nil] at rS hlen
        have q3 := rS.o4.cellAt k (.int .i64 (-1)) (by simp [hk])
        have q4 := rS.o4.frozenAt (by simp) k
        have y1 := (rS.f4.setOwn (by simp) k (.int .i64 0) hk).b4
        rw [show (List.replicate n (Value.int .i64 (-1))).set k (.int .i64 0) = ints ((List.replicate n (-1)).set k 0) by simp [ints, List.map_set], show List.replicate n (Value.int .i64 0) = ints (List.replicate n 0) by simp [ints]] at y1
        replace y1 := hid y1
        clear rS hlen
        have k0 : (0 : Int) ≤ (k : Int) := Int.natCast_nonneg _
        have k1 : (k : Int) < (n : Int) := by omega
        go_wp2
        go_loopw [10] (fun i wr => ∃ (j : Nat) (gq cq : Nat) (X : List Int × List Int), j ≤ (growT T s n k j).q.length ∧ i = .int .i64 j ∧ Lk n k (growT T s n k j) X ∧ St w.heap.size w [Asn.blk bt #[.slice (some ⟨gq, 0, none⟩) (growT T s n k j).q.length cq, .slice (some ⟨gf, 0, none⟩) n n, .slice (some ⟨gs, 0, none⟩) n n, .slice (some ⟨gx, 0, none⟩) n n] 134, Asn.own w.heap.size 2 (.slice (some ⟨gq, 0, none⟩) (growT T s n k j).q.length cq) (nats (growT T s n k j).q), Asn.own w.heap.size 2 (.slice (some ⟨gf, 0, none⟩) n n) (ints X.1), Asn.own w.heap.size 2 (.slice (some ⟨gs, 0, none⟩) n n) (ints X.2), Asn.own w.heap.size 2 (.slice (some ⟨gx, 0, none⟩) n n) (ints (growT T s n k j).far), Asn.blk (w.heap.size + 1) #[.slice none 0 0, .slice none 0 0, .slice none 0 0, .slice none 0 0] 134, Asn.mb 27 w.heap.size m] wr) (fun i _ => n - (intOf i).toNat)
        case atStart => exact ⟨0, _, _, _, Nat.zero_le _, rfl, Lk.zero hk, y1.out⟩
        case round =>
          clear y1 q2 q3 q4 k0 k1
          obtain ⟨j, gq, cq, X, hj, rfl, hlk, rS⟩ := hrel
          have ok := growT_ok (T := T) (s := s) hk (fun j fr hj hf => hT.out j fr (by rw [← h2s.out]; exact hj) hf) j
          have hql := ok.ql
          have hstep := hid (fun fr (h : (growT T s n k j).q[j]? = some fr) => growT_step h)
          have hend := hid (fun (h : (growT T s n k j).q.length ≤ j) => growT_end (T := T) (s := s) (k := k) (Nat.le_trans hj hql) h)
          generalize growT T s n k j = t at *
          have q2 : wr.cell? ⟨bt, 0, none⟩ = some (.slice (some ⟨gq, 0, none⟩) t.q.length cq) := cell_of_row _ _ 0 _ _ _ rS.k0
          by_cases hlt : j < t.q.length
          · obtain ⟨fr, hfr⟩ : ∃ fr, t.q[j]? = some fr := ⟨_, List.getElem?_eq_getElem hlt⟩
            have q3 : wr.cell? ⟨gq, j, none⟩ = some (.int .i64 (fr : Nat)) := rS.o1.cellAt j _ (by simp [nats, hfr])
            have hs2 := hid (hstep.out fr hfr)
            have hfm := List.mem_of_getElem? hfr
            have hfn := ok.qb fr hfm
            have hrok := hid (fun p (hp : p ≤ s2) => rndT_ok (T := T) (s := s) ok hfm (fun j hj => hT.out j fr (by rw [← h2s.out]; exact hj) hfn) p (by rw [h2s.out]; exact hp))
            have hrl := hid (rndT_len (T := T) (s := s) (t := t) (fr := fr) s2)
            rw [h2s.out] at hs2
            replace hlk := hid hlk
            replace rS := hid rS
            replace hfr := hid hfr
            clear hstep hend
            go_wp2
            go_loopw [12] (fun i wz => ∃ (p : Nat) (gq cq : Nat) (X : List Int × List Int), p ≤ s2 ∧ i = .int .i64 p ∧ Lk n k (rndT T s t fr p) X ∧ St w.heap.size w [Asn.blk bt #[.slice (some ⟨gq, 0, none⟩) (rndT T s t fr p).q.length cq, .slice (some ⟨gf, 0, none⟩) n n, .slice (some ⟨gs, 0, none⟩) n n, .slice (some ⟨gx, 0, none⟩) n n] 134, Asn.own w.heap.size 2 (.slice (some ⟨gq, 0, none⟩) (rndT T s t fr p).q.length cq) (nats (rndT T s t fr p).q), Asn.own w.heap.size 2 (.slice (some ⟨gf, 0, none⟩) n n) (ints X.1), Asn.own w.heap.size 2 (.slice (some ⟨gs, 0, none⟩) n n) (ints X.2), Asn.own w.heap.size 2 (.slice (some ⟨gx, 0, none⟩) n n) (ints (rndT T s t fr p).far), Asn.blk (w.heap.size + 1) #[.slice none 0 0, .slice none 0 0, .slice none 0 0, .slice none 0 0] 134, Asn.mb 27 w.heap.size m] wz) (fun i _ => s2 - (intOf i).toNat)
            case atStart => exact ⟨0, _, _, _, Nat.zero_le _, rfl, hlk.out, rS.out⟩
            case round =>
              clear rS hlk q2 q3
              obtain ⟨p, gq, cq, X, hp, rfl, hlk, zS⟩ := hrel
              have hokp := hrok.out p hp
              have cS := zS.f6.m0.cS
              rw [gS.out] at cS
              have hs32 : s2 = 2 * s := h2s.out.symm
              have hs33 : s2 ≤ 32 := by omega
              have ew : IntKind.i64.wrap (2 * (s : Int)) = ((s2 : Nat) : Int) := by rw [IntWalk.i64_in _ (by omega)]; omega
              by_cases hlt2 : p < s2
              · have dc : decide ((p : Int) < ((s2 : Nat) : Int)) = true := decide_eq_true (by omega)
                have hnx := hid (show meetT (rndT T s t fr p) fr (T p fr) (stpT s p) = rndT T s t fr (p + 1) from rfl)
                obtain ⟨gr, cr, hc1, hc2⟩ := hrM.out p hlt2 _ zS.bel
                have r2 := hc2 fr hfn _ (Below.refl _ _)
                have hTp := hT.out p fr hlt2 hfn
                clear hc2
                generalize T p fr = tx at *
                generalize rndT T s t fr p = tp at *
                have ok := hokp.1
                have e1 : tp.far[tx]? = some (tp.far.getD tx 0) := by rw [List.getD_eq_getElem?_getD, List.getElem?_eq_getElem (by rw [ok.fl]; exact hTp)]; rfl
                have e2 : tp.far[fr]? = some (tp.far.getD fr 0) := by rw [List.getD_eq_getElem?_getD, List.getElem?_eq_getElem (by rw [ok.fl]; exact hfn)]; rfl
                have hff : 0 ≤ tp.far.getD fr 0 ∧ tp.far.getD fr 0 < 243 := by
                  rcases ok.fb fr _ e2 with h1 | h1
                  · exact absurd hokp.2 h1.2
                  · have h3 := h1.2.2; have h4 := ok.ql; omega
                have hX := hid (hlk.meet ok (stpT s p) hokp.2 hTp)
                have hql2 := ok.ql
                have hfl := ok.fl
                have hl1 := hlk.l1
                have hl2 := hlk.l2
                replace hlk := hid hlk
                have b3 := (show wr.cell? ⟨bt, 3, none⟩ = some (Value.slice (some ⟨gx, 0, none⟩) n n) from cell_of_row _ _ 3 _ _ _ zS.k0)
                have b4 := zS.o4.cellAt tx (.int .i64 (tp.far.getD tx 0)) (by simp only [ints, List.getElem?_map, e1]; rfl)
                have b5 := zS.o4.cellAt fr (.int .i64 (tp.far.getD fr 0)) (by simp only [ints, List.getElem?_map, e2]; rfl)
                have b6 := zS.o4.frozenAt (by rw [ints_length]; exact hfl) tx
                have t0 : (0 : Int) ≤ (tx : Int) := Int.natCast_nonneg _
                have t1 : (tx : Int) < (n : Int) := by omega
                have f0 : (0 : Int) ≤ (fr : Int) := Int.natCast_nonneg _
                have f1 : (fr : Int) < (n : Int) := by omega
                have p0 : (0 : Int) ≤ (p : Int) := Int.natCast_nonneg _
                have p1 : (p : Int) < ((s2 : Nat) : Int) := by omega
                replace hs32 := hid hs32; replace ok := hid ok; replace hokp := hid hokp; replace e1 := hid e1; replace e2 := hid e2; replace zS := hid zS
                by_cases hneg : tp.far.getD tx 0 < 0
                · have hm := hid (show meetT tp fr tx (stpT s p) = ⟨tp.q ++ [tx], tp.far.set tx (tp.far.getD fr 0 + 1), tp.ways.set tx (tp.ways.getD fr [] ++ [stpT s p])⟩ from if_pos hneg)
                  have hF := hid (show meetF tp X fr tx (stpT s p) = (X.1.set tx (fr : Int), X.2.set tx (stpT s p)) from if_pos hneg)
                  have dn : decide (0 ≤ tp.far.getD tx 0) = false := decide_eq_false (by omega)
                  have ef : IntKind.i64.wrap (tp.far.getD fr 0 + 1) = tp.far.getD fr 0 + 1 := IntWalk.i64_in _ (by omega)
                  have hf2 := hid (show (ints tp.far).set tx (.int .i64 (tp.far.getD fr 0 + 1)) = ints (tp.far.set tx (tp.far.getD fr 0 + 1)) by simp [ints, List.map_set])
                  generalize tp.far.getD tx 0 = ft at *
                  generalize tp.far.getD fr 0 = ff at *
                  rw [hm.out] at hnx hX
                  rw [hF.out] at hX
                  go_upto_region 17 with (fail)
                  refine wp_region_still_tail 9 (by kernel_rfl) (by kernel_rfl) ?_
                  simp only [List.take_succ_cons, List.take_zero, List.drop_succ_cons, List.drop_zero]
                  repeat still_step
                  try refine wpStill_nil ?_
                  change wpList _ _ _ _ _ wr.drew
                  replace zS := hid zS.out.drew
                  have b4' : wr.drew.cell? ⟨gx, tx, none⟩ = some (.int .i64 ft) := b4
                  have b6' : wr.drew.frozen? ⟨gx, tx, none⟩ = false := b6
                  have cS' : wr.drew.cell? ⟨w.heap.size, 1, none⟩ = some (.int .i64 (s : Nat)) := cS
                  clear b3 b4 b5 b6 r2 hc1 cS
                  generalize wr.drew = wa at *
                  go_upto_region 18 with (fail)
                  replace zS := hid ((zS.out.f4.setOwn (by rw [ints_length]; exact hfl) tx (.int .i64 (ff + 1)) hTp).b4)
                  rw [hf2.out] at zS
                  clear cS' b4' b6'
                  generalize wa.setCell ⟨gx, tx, none⟩ (.int .i64 (ff + 1)) = wb at *
                  obtain ⟨u1, hu1⟩ : ∃ u, (ints X.1)[tx]? = some u := ⟨_, List.getElem?_eq_getElem (by rw [ints_length, hl1]; exact hTp)⟩
                  have c1 := zS.out.o2.cellAt tx u1 hu1
                  have c2 := zS.out.o2.frozenAt (by rw [ints_length]; exact hl1) tx
                  have c3 : wb.cell? ⟨bt, 1, none⟩ = some (.slice (some ⟨gf, 0, none⟩) n n) := cell_of_row _ _ 1 _ _ _ zS.out.k0
                  clear hu1
                  go_upto_region 19 with (fail)
                  replace zS := hid ((zS.out.f2.setOwn (by rw [ints_length]; exact hl1) tx (.int .i64 (fr : Nat)) hTp).b2)
                  rw [show (ints X.1).set tx (.int .i64 (fr : Nat)) = ints (X.1.set tx (fr : Int)) by simp [ints, List.map_set]] at zS
                  clear c1 c2 c3
                  generalize wb.setCell ⟨gf, tx, none⟩ (.int .i64 (fr : Nat)) = wc at *
                  obtain ⟨u1, hu1⟩ : ∃ u, (ints X.2)[tx]? = some u := ⟨_, List.getElem?_eq_getElem (by rw [ints_length, hl2]; exact hTp)⟩
                  have c1 := zS.out.o3.cellAt tx u1 hu1
                  have c2 := zS.out.o3.frozenAt (by rw [ints_length]; exact hl2) tx
                  have c3 : wc.cell? ⟨bt, 2, none⟩ = some (.slice (some ⟨gs, 0, none⟩) n n) := cell_of_row _ _ 2 _ _ _ zS.out.k0
                  have ew1 : IntKind.i64.wrap ((p : Int) + 1) = p + 1 := IntWalk.i64_in _ (by omega)
                  clear hu1
                  go_upto_region 20 with (fail)
                  replace zS := hid ((zS.out.f3.setOwn (by rw [ints_length]; exact hl2) tx (.int .i64 ((p : Int) + 1)) hTp).b3)
                  rw [show (ints X.2).set tx (.int .i64 ((p : Int) + 1)) = ints (X.2.set tx ((p : Int) + 1)) by simp [ints, List.map_set]] at zS
                  clear c1 c2 c3
                  generalize wc.setCell ⟨gs, tx, none⟩ (.int .i64 ((p : Int) + 1)) = wd at *
                  have cS := zS.out.f6.m0.cS
                  rw [gS.out] at cS
                  by_cases hps : p < s
                  · have hst := hid (show stpT s p = (p : Int) + 1 from if_pos hps)
                    rw [hst.out] at hX
                    have dp : decide ((s : Int) ≤ (p : Int)) = false := decide_eq_false (by omega)
                    go_upto_region 22 with (fail)
                    clear cS dp
                    rw [hst.out] at hnx
                    have hqn := hid (nats_length tp.q)
                    have hq2 := hid (show nats tp.q ++ [.int .i64 (tx : Int)] = nats (tp.q ++ [tx]) by simp [nats])
                    have b0 := (show _ = some (Value.slice (some ⟨gq, 0, none⟩) tp.q.length cq) from cell_of_row _ _ 0 _ _ _ zS.out.k0)
                    go_wp2_with (
                      ((with_reducible refine gate (N := 110) rfl ?_); refine St.app 32 2 (.int .i64 0) 8 Tryz.underlying32 info_i64 rfl (by omega) rfl _ _ rfl _ _ rfl zS.out.f1 _ rfl rfl _ hqn.out (by omega) ?_; intro gn cn wx zS'; replace zS := hid zS'.f1; clear zS' b0; (have c1 := (show _ = some (Value.slice (some ⟨gq, 0, none⟩) tp.q.length cq) from cell_of_row _ _ 0 _ _ _ zS.out.k0)); (have c2 := frozen_of_row _ _ 0 _ _ zS.out.k0)))
                    rw [hq2.out] at zS
                    replace zS := hid (zS.out.setBlk hbt 0 (.slice (some ⟨gn, 0, none⟩) (tp.q.length + 1) cn))
                    have hl := hid (show (tp.q ++ [tx]).length = tp.q.length + 1 by simp)
                    go_roundw
                    case rel => exact ⟨p + 1, gn, cn, _, by omega, by go_num, by rw [← hnx.out]; exact hX.out, by rw [← hnx.out, hl.out]; exact zS.out⟩
                    case measure => simp [intOf]; omega
                  · have hst := hid (show stpT s p = (s : Int) - (p : Int) - 1 from if_neg hps)
                    rw [hst.out] at hX
                    have dp : decide ((s : Int) ≤ (p : Int)) = true := decide_eq_true (by omega)
                    obtain ⟨u1, hu1⟩ : ∃ u, (ints (X.2.set tx ((p : Int) + 1)))[tx]? = some u := ⟨_, List.getElem?_eq_getElem (by rw [ints_length, List.length_set, hl2]; exact hTp)⟩
                    have c1 := zS.out.o3.cellAt tx u1 hu1
                    have c2 := zS.out.o3.frozenAt (by rw [ints_length, List.length_set]; exact hl2) tx
                    have c3 : wd.cell? ⟨bt, 2, none⟩ = some (.slice (some ⟨gs, 0, none⟩) n n) := cell_of_row _ _ 2 _ _ _ zS.out.k0
                    have ew2 : IntKind.i64.wrap ((s : Int) - (p : Int)) = (s : Int) - (p : Int) := IntWalk.i64_in _ (by omega)
                    have ew3 : IntKind.i64.wrap ((s : Int) - (p : Int) - 1) = (s : Int) - (p : Int) - 1 := IntWalk.i64_in _ (by omega)
                    clear hu1
                    go_upto_region 22 with (fail)
                    replace zS := hid ((zS.out.f3.setOwn (by rw [ints_length, List.length_set]; exact hl2) tx (.int .i64 ((s : Int) - (p : Int) - 1)) hTp).b3)
                    rw [show (ints (X.2.set tx ((p : Int) + 1))).set tx (.int .i64 ((s : Int) - (p : Int) - 1)) = ints (X.2.set tx ((s : Int) - (p : Int) - 1)) by simp [ints, List.map_set]] at zS
                    clear c1 c2 c3 cS dp
                    generalize wd.setCell ⟨gs, tx, none⟩ (.int .i64 ((s : Int) - (p : Int) - 1)) = we at *
                    rw [hst.out] at hnx
                    have hqn := hid (nats_length tp.q)
                    have hq2 := hid (show nats tp.q ++ [.int .i64 (tx : Int)] = nats (tp.q ++ [tx]) by simp [nats])
                    have b0 := (show _ = some (Value.slice (some ⟨gq, 0, none⟩) tp.q.length cq) from cell_of_row _ _ 0 _ _ _ zS.out.k0)
                    go_wp2_with (
                      ((with_reducible refine gate (N := 110) rfl ?_); refine St.app 32 2 (.int .i64 0) 8 Tryz.underlying32 info_i64 rfl (by omega) rfl _ _ rfl _ _ rfl zS.out.f1 _ rfl rfl _ hqn.out (by omega) ?_; intro gn cn wx zS'; replace zS := hid zS'.f1; clear zS' b0; (have c1 := (show _ = some (Value.slice (some ⟨gq, 0, none⟩) tp.q.length cq) from cell_of_row _ _ 0 _ _ _ zS.out.k0)); (have c2 := frozen_of_row _ _ 0 _ _ zS.out.k0)))
                    rw [hq2.out] at zS
                    replace zS := hid (zS.out.setBlk hbt 0 (.slice (some ⟨gn, 0, none⟩) (tp.q.length + 1) cn))
                    have hl := hid (show (tp.q ++ [tx]).length = tp.q.length + 1 by simp)
                    go_roundw
                    case rel => exact ⟨p + 1, gn, cn, _, by omega, by go_num, by rw [← hnx.out]; exact hX.out, by rw [← hnx.out, hl.out]; exact zS.out⟩
                    case measure => simp [intOf]; omega
                · have hm := hid (show meetT tp fr tx (stpT s p) = tp from if_neg hneg)
                  have hF := hid (show meetF tp X fr tx (stpT s p) = X from if_neg hneg)
                  have dn : decide (0 ≤ tp.far.getD tx 0) = true := decide_eq_true (by omega)
                  rw [hm.out] at hnx
                  clear hm hF hX
                  generalize tp.far.getD tx 0 = ft at *
                  generalize tp.far.getD fr 0 = ff at *
                  go_wp2
                  go_roundw
                  case rel => exact ⟨p + 1, _, _, X, by omega, by go_num, by rw [← hnx.out]; exact hlk.out, by rw [← hnx.out]; exact zS.out⟩
                  case measure => simp [intOf]; omega
              · obtain rfl : s2 = p := by omega
                have dc : decide (((s2 : Nat) : Int) < ((s2 : Nat) : Int)) = false := decide_eq_false (by omega)
                have hr3 := hrl.out
                have hok2 := hokp.1.ql
                replace zS := hid zS
                replace hlk := hid hlk
                replace hs32 := hid hs32
                clear hokp hrl
                go_wp2
                go_roundw
                case rel => exact ⟨j + 1, _, _, X, by rw [hs2.out]; omega, by go_num, by rw [hs2.out]; exact hlk.out, by rw [hs2.out]; exact zS.out⟩
                case measure => simp [intOf]; omega
          · have hfin := hid (hend.out (by omega))
            have hje : j = t.q.length := by omega
            subst hje
            replace rS := hid rS
            replace hlk := hid hlk
            clear hstep hend hj hlt
            have hle1 : w.heap.size ≤ w.heap.size + 1 := Nat.le_succ _
            replace hle1 := hid hle1
            go_wp2_with (first
              | ((with_reducible refine gate (N := 112) rfl ?_); refine wpList_load_row rfl _ _ rfl bt rfl _ _ _ _ rS.out.k0 Tryz.underlying134 rfl sz_tree4 ?_)
              | ((with_reducible refine gateOp (op := .store 134 (.tmp 6) (.tmp 112)) rfl ?_); (refine wpList_store_row rfl _ _ _ rfl (w.heap.size + 1) _ rfl rfl _ _ rS.out.k5 sz_tree4 rfl (by simp [Value.oneCell']) ?_); replace rS := hid (rS.out.f5.setRow hle1.out #[.slice (some ⟨gq, 0, none⟩) t.q.length cq, .slice (some ⟨gf, 0, none⟩) n n, .slice (some ⟨gs, 0, none⟩) n n, .slice (some ⟨gx, 0, none⟩) n n])))
            exact ret_blk rfl rfl rS.out.k0 Tryz.underlying134 rfl sz_tree4 rfl ⟨gq, cq, gf, gs, gx, X, by rw [hfin.out], by rw [hfin.out]; exact hlk.out, by rw [hfin.out]; exact rS.out.drop.drop.f4.drop⟩
end Go.Proofs.YthmcdfjijkecfaaGreat
