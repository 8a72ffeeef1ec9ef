/- What the proof of FnLevels leans on, part 21 of 28. -/
import Derived.Test.YthmcdfjijkecfaaGreatZFnLevelsT
/- The tree of a word: the program's function. -/
namespace Go.Proofs.YthmcdfjijkecfaaGreat
open Go.RowKit
set_option linter.unusedVariables false
set_option linter.unusedSimpArgs false
-- @LONG

set_option maxHeartbeats 20000000 in
set_option maxRecDepth 100000 in
theorem tree_any (w : World) (G n s k : Nat) (vA vB : Value) (A B : List (List Int)) (hG : GB w G n vA vB A B) (hf : Few n) (hk : k < n) (hA : A.length = s) (hB : B.length = s) (h1 : 1 ≤ s) (h16 : s ≤ 16) (T : Nat → Nat → Nat)
    (hTA : ∀ p, p < s → ∃ row, A[p]? = some row ∧ row.length = n ∧ ∀ i, i < n → row[i]? = some ((T p i : Nat) : Int)) (hTB : ∀ p, p < s → ∃ row, B[p]? = some row ∧ row.length = n ∧ ∀ i, i < n → row[i]? = some ((T (s + p) i : Nat) : Int))
    (hT : ∀ j fr, j < 2 * s → fr < n → T j fr < n) :
    Calls Tryz.prog 111 #[.pointer (some ⟨G, 0, none⟩), .int .i64 k] w fun e w' => ∃ bt gf gw vq rows, e = .returned (.pointer (some ⟨bt, 0, none⟩)) ∧ St w.heap.size w (treeP w.heap.size bt gf n gw n n vq rows (treeT T s n k)) w' := by
  have hn := hf.le
  have hgc := hid (fun W (hb : Below w.heap.size w W) => (hG.below hb).c0)
  have hg1 := hid (fun W (hb : Below w.heap.size w W) => (hG.below hb).c1)
  have hg2 := hid (fun W (hb : Below w.heap.size w W) => (hG.below hb).c2)
  obtain ⟨gA, cA, rfl, _, _⟩ := hG.2.1.blk (fun e => by rw [e] at hA; simp at hA; omega)
  obtain ⟨gB, cB, rfl, _, _⟩ := hG.2.2.blk (fun e => by rw [e] at hB; simp at hB; omega)
  rw [hA] at hg1
  rw [hB] at hg2
  rw [hA, hB] at hG
  have hrA := hid (fun p (hp : p < s) W (hb : Below w.heap.size w W) => (show ∃ g c, W.cell? ⟨gA, p, none⟩ = some (.slice (some ⟨g, 0, none⟩) n c) ∧ ∀ i, i < n → ∀ W', Below W.heap.size W W' → W'.cell? ⟨g, i, none⟩ = some (.int .i64 ((T p i : Nat) : Int)) from by
    obtain ⟨row, h1, h2, h3⟩ := hTA p hp
    obtain ⟨r, hc, hO⟩ := (hG.below hb).2.1.row p row h1
    obtain ⟨g, c, rfl, _⟩ := hO.blk (fun e => by have h4 := congrArg List.length e; rw [ints_length, h2] at h4; simp at h4; omega)
    rw [ints_length, h2] at hc hO
    exact ⟨g, c, hc, fun i hi W' hb' => (hO.below hb').cellAt i _ (by simp [ints, h3 i hi])⟩))
  have hrB := hid (fun p (hp : p < s) W (hb : Below w.heap.size w W) => (show ∃ g c, W.cell? ⟨gB, p, none⟩ = some (.slice (some ⟨g, 0, none⟩) n c) ∧ ∀ i, i < n → ∀ W', Below W.heap.size W W' → W'.cell? ⟨g, i, none⟩ = some (.int .i64 ((T (s + p) i : Nat) : Int)) from by
    obtain ⟨row, h1, h2, h3⟩ := hTB p hp
    obtain ⟨r, hc, hO⟩ := (hG.below hb).2.2.row p row h1
    obtain ⟨g, c, rfl, _⟩ := hO.blk (fun e => by have h4 := congrArg List.length e; rw [ints_length, h2] at h4; simp at h4; omega)
    rw [ints_length, h2] at hc hO
    exact ⟨g, c, hc, fun i hi W' hb' => (hO.below hb').cellAt i _ (by simp [ints, h3 i hi])⟩))
  clear hTA hTB hA hB hG
  have hrep := hid (fun W gs cap (h1 : W.cell? ⟨gs, 0, none⟩ = some (.int .i64 (-1))) h2 => repInt_own W gs cap n (-1) hf h1 h2)
  have hmk := fun W : World => run_make_row' (P := Tryz.prog) 43 32 (.slice none 0 0) 24 Tryz.underlying43 info_ints rfl .i64 .i64 n (by omega) (by omega) W
  have hmc := hid (toList_madeCells_one (.slice none 0 0) n)
  generalize madeCells #[.slice none 0 0] n = mc at *
  have hS := hid (St.start w)
  replace hT := hid hT
  replace hf := hid hf
  go_enter Tryz.func111, Tryz.ntmps111
  go_upto_region 1 with (fail)
  go_cut [5] from 13 to 27 (fun b wr => ∃ bp bt gq gf gw rows, b = .pointer (some ⟨bp, 0, none⟩) ∧ w.heap.size ≤ bt ∧ St w.heap.size w [Asn.blk bt #[.slice (some ⟨gq, 0, none⟩) 1 1, .slice (some ⟨gf, 0, none⟩) n n, .slice (some ⟨gw, 0, none⟩) n n] 129, Asn.own w.heap.size 2 (.slice (some ⟨gq, 0, none⟩) 1 1) (nats [k]), Asn.own w.heap.size 2 (.slice (some ⟨gf, 0, none⟩) n n) (ints (List.replicate n (-1))), Asn.mat w.heap.size (.slice (some ⟨gw, 0, none⟩) n n) rows (List.replicate n []), Asn.blk bp #[.pointer (some ⟨bt, 0, none⟩)] 130] wr)
  case first =>
    replace hS := hid hS.out.drew
    refine wp_region_heldL (L := [(16, (fun w' : World => w'.cell? ⟨G, 0, none⟩ = some (.int .i64 (n : Nat))))]) (by kernel_rfl) (HeldL.cons (fun _ => hgc.out _ hS.out.bel) HeldL.nil) (fun hHeld => ?_)
    generalize w.drew = wa at *
    refine wpAnyL_take0 (i := 0) (v := ?_) rfl (by kernel_rfl) (by kernel_rfl) (by kernel_rfl) (by rfl) (fun _ _ _ h => h) (Or.inl ⟨by rfl, ?_⟩) (by assumption) ?_
    rotate_left
    · (intro W _; go_simp; (with_reducible rfl))
    intro hHeld'
    clear hHeld; have hHeld := hHeld'; clear hHeld'
    try simp only [Act.put, List.getElem_toArray, List.getElem_cons_succ, List.getElem_cons_zero, List.setIfInBounds_toArray, List.set_cons_zero, List.set_cons_succ]
    refine wpAnyL_take0 (i := 3) (v := ?_) rfl (by kernel_rfl) (by kernel_rfl) (by kernel_rfl) (by rfl) (fun _ _ _ h => h) (Or.inl ⟨by rfl, ?_⟩) (by assumption) ?_
    rotate_left
    · (intro W _; go_simp; (with_reducible rfl))
    intro hHeld'
    clear hHeld; have hHeld := hHeld'; clear hHeld'
    try simp only [Act.put, List.getElem_toArray, List.getElem_cons_succ, List.getElem_cons_zero, List.setIfInBounds_toArray, List.set_cons_zero, List.set_cons_succ]
    refine wpAnyL_take0 (i := 4) (v := ?_) rfl (by kernel_rfl) (by kernel_rfl) (by kernel_rfl) (by rfl) (fun _ _ _ h => h) (Or.inl ⟨by rfl, ?_⟩) (by assumption) ?_
    rotate_left
    · (intro W _; go_simp; (with_reducible rfl))
    intro hHeld'
    clear hHeld; have hHeld := hHeld'; clear hHeld'
    try simp only [Act.put, List.getElem_toArray, List.getElem_cons_succ, List.getElem_cons_zero, List.setIfInBounds_toArray, List.set_cons_zero, List.set_cons_succ]
    refine wpAnyL_take0 (i := 5) (v := ?_) rfl (by kernel_rfl) (by kernel_rfl) (by kernel_rfl) (by rfl) (fun _ _ _ h => h) (Or.inl ⟨by rfl, ?_⟩) (by assumption) ?_
    rotate_left
    · (intro W _; go_simp; (with_reducible rfl))
    intro hHeld'
    clear hHeld; have hHeld := hHeld'; clear hHeld'
    try simp only [Act.put, List.getElem_toArray, List.getElem_cons_succ, List.getElem_cons_zero, List.setIfInBounds_toArray, List.set_cons_zero, List.set_cons_succ]
    refine wpAnyL_takeP (i := 6) 16 [] (v := ?_) (fun w' : World => w'.cell? ⟨G, 0, none⟩ = some (.int .i64 (n : Nat))) rfl (by kernel_rfl) (by kernel_rfl) (by kernel_rfl) (by rfl) (by kernel_rfl) (by simp) (fun _ _ _ h => h) (Or.inl ⟨by rfl, ?_⟩) (by assumption) ?_
    rotate_left
    · (intro W hW; go_simp; (with_reducible rfl))
    intro hHeld'
    clear hHeld; have hHeld := hHeld'; clear hHeld'
    try simp only [Act.put, List.getElem_toArray, List.getElem_cons_succ, List.getElem_cons_zero, List.setIfInBounds_toArray, List.set_cons_zero, List.set_cons_succ]
    refine wpAnyL_take0 (i := 8) (v := ?_) rfl (by kernel_rfl) (by kernel_rfl) (by kernel_rfl) (by rfl) (fun _ _ _ h => h) (Or.inl ⟨by rfl, ?_⟩) (by assumption) ?_
    rotate_left
    · (intro W _; go_simp; (with_reducible rfl))
    intro hHeld'
    clear hHeld; have hHeld := hHeld'; clear hHeld'
    try simp only [Act.put, List.getElem_toArray, List.getElem_cons_succ, List.getElem_cons_zero, List.setIfInBounds_toArray, List.set_cons_zero, List.set_cons_succ]
    refine wpAnyL_take0 (i := 9) (v := ?_) rfl (by kernel_rfl) (by kernel_rfl) (by kernel_rfl) (by rfl) (fun _ _ _ h => h) (Or.inl ⟨by rfl, ?_⟩) (by assumption) ?_
    rotate_left
    · (intro W _; go_simp; (with_reducible rfl))
    intro hHeld'
    clear hHeld; have hHeld := hHeld'; clear hHeld'
    try simp only [Act.put, List.getElem_toArray, List.getElem_cons_succ, List.getElem_cons_zero, List.setIfInBounds_toArray, List.set_cons_zero, List.set_cons_succ]
    refine wpAnyL_take0 (i := 10) (v := ?_) rfl (by kernel_rfl) (by kernel_rfl) (by kernel_rfl) (by rfl) (fun _ _ _ h => h) (Or.inl ⟨by rfl, ?_⟩) (by assumption) ?_
    rotate_left
    · (intro W _; go_simp; (with_reducible rfl))
    intro hHeld'
    clear hHeld; have hHeld := hHeld'; clear hHeld'
    try simp only [Act.put, List.getElem_toArray, List.getElem_cons_succ, List.getElem_cons_zero, List.setIfInBounds_toArray, List.set_cons_zero, List.set_cons_succ]
    refine wpAnyL_takeP (i := 11) 16 [] (v := ?_) (fun w' : World => w'.cell? ⟨G, 0, none⟩ = some (.int .i64 (n : Nat))) rfl (by kernel_rfl) (by kernel_rfl) (by kernel_rfl) (by rfl) (by kernel_rfl) (by simp) (fun _ _ _ h => h) (Or.inl ⟨by rfl, ?_⟩) (by assumption) ?_
    rotate_left
    · (intro W hW; go_simp; (with_reducible rfl))
    intro hHeld'
    clear hHeld; have hHeld := hHeld'; clear hHeld'
    try simp only [Act.put, List.getElem_toArray, List.getElem_cons_succ, List.getElem_cons_zero, List.setIfInBounds_toArray, List.set_cons_zero, List.set_cons_succ]
    refine wpAnyL_ready (rs := [1, 2, 12, 15]) (by kernel_rfl) (by simp) ?_
    refine AllReadyL.cons rfl (fun K hK => ?_) ?_
    go_simp
    replace hS := hid (show St w.heap.size w (Asn.own w.heap.size 2 (.slice (some ⟨wa.heap.size, 0, none⟩) 1 1) (nats [k]) :: _) _ from hS.out.newOwn [.int .i64 (k : Nat)] 2 (by simp))
    generalize wa.heap.size = gA at *
    generalize wa.alloc (.cells #[.int .i64 (k : Nat)] 2) = W2 at *
    refine hK.out _ _ (HeldL.cons (fun _ => hgc.out _ hS.out.bel) HeldL.nil) (fun hHeld' => ?_)
    clear hK K hHeld; have hHeld := hHeld'; clear hHeld'
    try simp only [Act.put, List.getElem_toArray, List.getElem_cons_succ, List.getElem_cons_zero, List.setIfInBounds_toArray, List.set_cons_zero, List.set_cons_succ]
    change wpAnyL _ _ _ _ _ _ #[true, true, false, true, true, true, true, false, true, true, true, true, false, false, false, false, false] _ _
    revert hHeld
    revert hS
    revert gA
    revert W2
    clear wa
    refine ?nA
    rotate_left
    refine AllReadyL.cons rfl (fun K hK => ?_) ?_
    go_simp
    replace hS := hid (hS.out.newBlk #[.int .i64 (-1)] 2)
    generalize wa.heap.size = gB at *
    generalize wa.alloc (.cells #[.int .i64 (-1)] 2) = W2 at *
    refine hK.out _ _ (HeldL.cons (fun _ => hgc.out _ hS.out.bel) HeldL.nil) (fun hHeld' => ?_)
    clear hK K hHeld; have hHeld := hHeld'; clear hHeld'
    try simp only [Act.put, List.getElem_toArray, List.getElem_cons_succ, List.getElem_cons_zero, List.setIfInBounds_toArray, List.set_cons_zero, List.set_cons_succ]
    change wpAnyL _ _ _ _ _ _ #[true, false, true, true, true, true, true, false, true, true, true, true, false, false, false, false, false] _ _
    revert hHeld
    revert hS
    revert gB
    revert W2
    clear wa
    refine ?nB
    rotate_left
    refine AllReadyL.cons rfl (fun K hK => ?_) ?_
    go_simp
    replace hS := hid (hS.out.newMat mc n hmc.out (by omega))
    generalize wa.heap.size = gD at *
    generalize wa.alloc (.cells mc 32) = W2 at *
    refine hK.out _ _ (HeldL.cons (fun _ => hgc.out _ hS.out.bel) HeldL.nil) (fun hHeld' => ?_)
    clear hK K hHeld; have hHeld := hHeld'; clear hHeld'
    try simp only [Act.put, List.getElem_toArray, List.getElem_cons_succ, List.getElem_cons_zero, List.setIfInBounds_toArray, List.set_cons_zero, List.set_cons_succ]
    change wpAnyL _ _ _ _ _ _ #[true, false, false, true, true, true, true, false, true, true, true, true, true, false, false, false, false] _ _
    revert hHeld
    revert hS
    revert gD
    revert W2
    clear wa
    refine ?nD
    rotate_left
    refine AllReadyL.cons rfl (fun K hK => ?_) AllReadyL.nil
    go_simp
    have hsz := hS.out.le
    replace hS := hid (hS.out.newBlk #[.pointer none] 130)
    generalize wa.heap.size = gF at *
    generalize wa.alloc (.cells #[.pointer none] 130) = W2 at *
    have hF := hid hsz; clear hsz
    refine hK.out _ _ (HeldL.cons (fun _ => hgc.out _ hS.out.bel) HeldL.nil) (fun hHeld' => ?_)
    clear hK K hHeld; have hHeld := hHeld'; clear hHeld'
    try simp only [Act.put, List.getElem_toArray, List.getElem_cons_succ, List.getElem_cons_zero, List.setIfInBounds_toArray, List.set_cons_zero, List.set_cons_succ]
    change wpAnyL _ _ _ _ _ _ #[true, false, false, true, true, true, true, false, true, true, true, true, false, false, false, true, false] _ _
    revert hHeld
    revert hF
    revert hS
    revert gF
    revert W2
    clear wa
    refine ?nF
    rotate_left
    intro W gA hS hHeld
    refine wpAnyL_ready (rs := [2, 12, 15]) (by kernel_rfl) (by simp) ?_
    refine AllReadyL.cons rfl (fun K hK => ?_) ?_
    go_simp
    replace hS := hid (hS.out.newBlk #[.int .i64 (-1)] 2)
    generalize W.heap.size = gB at *
    generalize W.alloc (.cells #[.int .i64 (-1)] 2) = W2 at *
    replace hS := hid hS.out.f1
    refine hK.out _ _ (HeldL.cons (fun _ => hgc.out _ hS.out.bel) HeldL.nil) (fun hHeld' => ?_)
    clear hK K hHeld; have hHeld := hHeld'; clear hHeld'
    try simp only [Act.put, List.getElem_toArray, List.getElem_cons_succ, List.getElem_cons_zero, List.setIfInBounds_toArray, List.set_cons_zero, List.set_cons_succ]
    change wpAnyL _ _ _ _ _ _ #[true, true, true, true, true, true, true, false, true, true, true, true, false, false, false, false, false] _ _
    revert hHeld
    revert hS
    revert gB
    revert gA
    revert W2
    clear W
    refine ?nAB
    rotate_left
    refine AllReadyL.cons rfl (fun K hK => ?_) ?_
    go_simp
    replace hS := hid (hS.out.newMat mc n hmc.out (by omega))
    generalize W.heap.size = gD at *
    generalize W.alloc (.cells mc 32) = W2 at *
    replace hS := hid hS.out.f1
    refine hK.out _ _ (HeldL.cons (fun _ => hgc.out _ hS.out.bel) HeldL.nil) (fun hHeld' => ?_)
    clear hK K hHeld; have hHeld := hHeld'; clear hHeld'
    try simp only [Act.put, List.getElem_toArray, List.getElem_cons_succ, List.getElem_cons_zero, List.setIfInBounds_toArray, List.set_cons_zero, List.set_cons_succ]
    change wpAnyL _ _ _ _ _ _ #[true, true, false, true, true, true, true, false, true, true, true, true, true, false, false, false, false] _ _
    revert hHeld
    revert hS
    revert gD
    revert gA
    revert W2
    clear W
    refine ?nAD
    rotate_left
    refine AllReadyL.cons rfl (fun K hK => ?_) AllReadyL.nil
    go_simp
    have hsz := hS.out.le
    replace hS := hid (hS.out.newBlk #[.pointer none] 130)
    generalize W.heap.size = gF at *
    generalize W.alloc (.cells #[.pointer none] 130) = W2 at *
    have hF := hid hsz; clear hsz
    replace hS := hid hS.out.f1
    refine hK.out _ _ (HeldL.cons (fun _ => hgc.out _ hS.out.bel) HeldL.nil) (fun hHeld' => ?_)
    clear hK K hHeld; have hHeld := hHeld'; clear hHeld'
    try simp only [Act.put, List.getElem_toArray, List.getElem_cons_succ, List.getElem_cons_zero, List.setIfInBounds_toArray, List.set_cons_zero, List.set_cons_succ]
    change wpAnyL _ _ _ _ _ _ #[true, true, false, true, true, true, true, false, true, true, true, true, false, false, false, true, false] _ _
    revert hHeld
    revert hF
    revert hS
    revert gF
    revert gA
    revert W2
    clear W
    refine ?nAF
    rotate_left
    intro W gB hS hHeld
    refine wpAnyL_ready (rs := [1, 7, 12, 15]) (by kernel_rfl) (by simp) ?_
    refine AllReadyL.cons rfl (fun K hK => ?_) ?_
    go_simp
    replace hS := hid (show St w.heap.size w (Asn.own w.heap.size 2 (.slice (some ⟨W.heap.size, 0, none⟩) 1 1) (nats [k]) :: _) _ from hS.out.newOwn [.int .i64 (k : Nat)] 2 (by simp))
    generalize W.heap.size = gA at *
    generalize W.alloc (.cells #[.int .i64 (k : Nat)] 2) = W2 at *
    refine hK.out _ _ (HeldL.cons (fun _ => hgc.out _ hS.out.bel) HeldL.nil) (fun hHeld' => ?_)
    clear hK K hHeld; have hHeld := hHeld'; clear hHeld'
    try simp only [Act.put, List.getElem_toArray, List.getElem_cons_succ, List.getElem_cons_zero, List.setIfInBounds_toArray, List.set_cons_zero, List.set_cons_succ]
    change wpAnyL _ _ _ _ _ _ #[true, true, true, true, true, true, true, false, true, true, true, true, false, false, false, false, false] _ _
    revert hHeld
    revert hS
    revert gB
    revert gA
    revert W2
    clear W
    exact ?nAB
    refine AllReadyL.cons rfl (fun K hK => ?_) ?_
    go_simp
    (with_reducible refine (hrep.out _ _ _ (cell_of_row _ _ 0 _ _ _ hS.out.k0) ((Array.getElem?_eq_some_iff.1 hS.out.k0).1)).mono ?_)
    rintro e W2 ⟨rfl, hO, hb⟩
    replace hS := hid (hS.out.drop.callOwn hb hO)
    clear hb hO
    go_simp
    generalize W.heap.size = gC at *
    refine hK.out _ _ (HeldL.cons (fun _ => hgc.out _ hS.out.bel) HeldL.nil) (fun hHeld' => ?_)
    clear hK K hHeld; have hHeld := hHeld'; clear hHeld'
    try simp only [Act.put, List.getElem_toArray, List.getElem_cons_succ, List.getElem_cons_zero, List.setIfInBounds_toArray, List.set_cons_zero, List.set_cons_succ]
    change wpAnyL _ _ _ _ _ _ #[true, false, true, true, true, true, true, true, true, true, true, true, false, false, false, false, false] _ _
    revert hHeld
    revert hS
    revert gC
    revert gB
    revert W2
    clear W
    refine ?nBC
    rotate_left
    refine AllReadyL.cons rfl (fun K hK => ?_) ?_
    go_simp
    replace hS := hid (hS.out.newMat mc n hmc.out (by omega))
    generalize W.heap.size = gD at *
    generalize W.alloc (.cells mc 32) = W2 at *
    replace hS := hid hS.out.f1
    refine hK.out _ _ (HeldL.cons (fun _ => hgc.out _ hS.out.bel) HeldL.nil) (fun hHeld' => ?_)
    clear hK K hHeld; have hHeld := hHeld'; clear hHeld'
    try simp only [Act.put, List.getElem_toArray, List.getElem_cons_succ, List.getElem_cons_zero, List.setIfInBounds_toArray, List.set_cons_zero, List.set_cons_succ]
    change wpAnyL _ _ _ _ _ _ #[true, false, true, true, true, true, true, false, true, true, true, true, true, false, false, false, false] _ _
    revert hHeld
    revert hS
    revert gD
    revert gB
    revert W2
    clear W
    refine ?nBD
    rotate_left
    refine AllReadyL.cons rfl (fun K hK => ?_) AllReadyL.nil
    go_simp
    have hsz := hS.out.le
    replace hS := hid (hS.out.newBlk #[.pointer none] 130)
    generalize W.heap.size = gF at *
    generalize W.alloc (.cells #[.pointer none] 130) = W2 at *
    have hF := hid hsz; clear hsz
    replace hS := hid hS.out.f1
    refine hK.out _ _ (HeldL.cons (fun _ => hgc.out _ hS.out.bel) HeldL.nil) (fun hHeld' => ?_)
    clear hK K hHeld; have hHeld := hHeld'; clear hHeld'
    try simp only [Act.put, List.getElem_toArray, List.getElem_cons_succ, List.getElem_cons_zero, List.setIfInBounds_toArray, List.set_cons_zero, List.set_cons_succ]
    change wpAnyL _ _ _ _ _ _ #[true, false, true, true, true, true, true, false, true, true, true, true, false, false, false, true, false] _ _
    revert hHeld
    revert hF
    revert hS
    revert gF
    revert gB
    revert W2
    clear W
    refine ?nBF
    rotate_left
    intro W gD hS hHeld
    refine wpAnyL_ready (rs := [1, 2, 15]) (by kernel_rfl) (by simp) ?_
    refine AllReadyL.cons rfl (fun K hK => ?_) ?_
    go_simp
    replace hS := hid (show St w.heap.size w (Asn.own w.heap.size 2 (.slice (some ⟨W.heap.size, 0, none⟩) 1 1) (nats [k]) :: _) _ from hS.out.newOwn [.int .i64 (k : Nat)] 2 (by simp))
    generalize W.heap.size = gA at *
    generalize W.alloc (.cells #[.int .i64 (k : Nat)] 2) = W2 at *
    refine hK.out _ _ (HeldL.cons (fun _ => hgc.out _ hS.out.bel) HeldL.nil) (fun hHeld' => ?_)
    clear hK K hHeld; have hHeld := hHeld'; clear hHeld'
    try simp only [Act.put, List.getElem_toArray, List.getElem_cons_succ, List.getElem_cons_zero, List.setIfInBounds_toArray, List.set_cons_zero, List.set_cons_succ]
    change wpAnyL _ _ _ _ _ _ #[true, true, false, true, true, true, true, false, true, true, true, true, true, false, false, false, false] _ _
    revert hHeld
    revert hS
    revert gD
    revert gA
    revert W2
    clear W
    exact ?nAD
    refine AllReadyL.cons rfl (fun K hK => ?_) ?_
    go_simp
    replace hS := hid (hS.out.newBlk #[.int .i64 (-1)] 2)
    generalize W.heap.size = gB at *
    generalize W.alloc (.cells #[.int .i64 (-1)] 2) = W2 at *
    refine hK.out _ _ (HeldL.cons (fun _ => hgc.out _ hS.out.bel) HeldL.nil) (fun hHeld' => ?_)
    clear hK K hHeld; have hHeld := hHeld'; clear hHeld'
    try simp only [Act.put, List.getElem_toArray, List.getElem_cons_succ, List.getElem_cons_zero, List.setIfInBounds_toArray, List.set_cons_zero, List.set_cons_succ]
    change wpAnyL _ _ _ _ _ _ #[true, false, true, true, true, true, true, false, true, true, true, true, true, false, false, false, false] _ _
    revert hHeld
    revert hS
    revert gD
    revert gB
    revert W2
    clear W
    exact ?nBD
    refine AllReadyL.cons rfl (fun K hK => ?_) AllReadyL.nil
    go_simp
    have hsz := hS.out.le
    replace hS := hid (hS.out.newBlk #[.pointer none] 130)
    generalize W.heap.size = gF at *
    generalize W.alloc (.cells #[.pointer none] 130) = W2 at *
    have hF := hid hsz; clear hsz
    replace hS := hid hS.out.f1
    refine hK.out _ _ (HeldL.cons (fun _ => hgc.out _ hS.out.bel) HeldL.nil) (fun hHeld' => ?_)
    clear hK K hHeld; have hHeld := hHeld'; clear hHeld'
    try simp only [Act.put, List.getElem_toArray, List.getElem_cons_succ, List.getElem_cons_zero, List.setIfInBounds_toArray, List.set_cons_zero, List.set_cons_succ]
    change wpAnyL _ _ _ _ _ _ #[true, false, false, true, true, true, true, false, true, true, true, true, true, false, false, true, false] _ _
    revert hHeld
    revert hF
    revert hS
    revert gF
    revert gD
    revert W2
    clear W
    refine ?nDF
    rotate_left
    intro W gF hS hF hHeld
    refine wpAnyL_ready (rs := [1, 2, 12]) (by kernel_rfl) (by simp) ?_
    refine AllReadyL.cons rfl (fun K hK => ?_) ?_
    go_simp
    replace hS := hid (show St w.heap.size w (Asn.own w.heap.size 2 (.slice (some ⟨W.heap.size, 0, none⟩) 1 1) (nats [k]) :: _) _ from hS.out.newOwn [.int .i64 (k : Nat)] 2 (by simp))
    generalize W.heap.size = gA at *
    generalize W.alloc (.cells #[.int .i64 (k : Nat)] 2) = W2 at *
    refine hK.out _ _ (HeldL.cons (fun _ => hgc.out _ hS.out.bel) HeldL.nil) (fun hHeld' => ?_)
    clear hK K hHeld; have hHeld := hHeld'; clear hHeld'
    try simp only [Act.put, List.getElem_toArray, List.getElem_cons_succ, List.getElem_cons_zero, List.setIfInBounds_toArray, List.set_cons_zero, List.set_cons_succ]
    change wpAnyL _ _ _ _ _ _ #[true, true, false, true, true, true, true, false, true, true, true, true, false, false, false, true, false] _ _
    revert hHeld
    revert hF
    revert hS
    revert gF
    revert gA
    revert W2
    clear W
    exact ?nAF
    refine AllReadyL.cons rfl (fun K hK => ?_) ?_
    go_simp
    replace hS := hid (hS.out.newBlk #[.int .i64 (-1)] 2)
    generalize W.heap.size = gB at *
    generalize W.alloc (.cells #[.int .i64 (-1)] 2) = W2 at *
    refine hK.out _ _ (HeldL.cons (fun _ => hgc.out _ hS.out.bel) HeldL.nil) (fun hHeld' => ?_)
    clear hK K hHeld; have hHeld := hHeld'; clear hHeld'
    try simp only [Act.put, List.getElem_toArray, List.getElem_cons_succ, List.getElem_cons_zero, List.setIfInBounds_toArray, List.set_cons_zero, List.set_cons_succ]
    change wpAnyL _ _ _ _ _ _ #[true, false, true, true, true, true, true, false, true, true, true, true, false, false, false, true, false] _ _
    revert hHeld
    revert hF
    revert hS
    revert gF
    revert gB
    revert W2
    clear W
    exact ?nBF
    refine AllReadyL.cons rfl (fun K hK => ?_) AllReadyL.nil
    go_simp
    replace hS := hid (hS.out.newMat mc n hmc.out (by omega))
    generalize W.heap.size = gD at *
    generalize W.alloc (.cells mc 32) = W2 at *
    refine hK.out _ _ (HeldL.cons (fun _ => hgc.out _ hS.out.bel) HeldL.nil) (fun hHeld' => ?_)
    clear hK K hHeld; have hHeld := hHeld'; clear hHeld'
    try simp only [Act.put, List.getElem_toArray, List.getElem_cons_succ, List.getElem_cons_zero, List.setIfInBounds_toArray, List.set_cons_zero, List.set_cons_succ]
    change wpAnyL _ _ _ _ _ _ #[true, false, false, true, true, true, true, false, true, true, true, true, true, false, false, true, false] _ _
    revert hHeld
    revert hF
    revert hS
    revert gF
    revert gD
    revert W2
    clear W
    exact ?nDF
    intro W gA gB hS hHeld
    refine wpAnyL_ready (rs := [7, 12, 15]) (by kernel_rfl) (by simp) ?_
    refine AllReadyL.cons rfl (fun K hK => ?_) ?_
    go_simp
    replace hS := hid hS.out.f1
    (with_reducible refine (hrep.out _ _ _ (cell_of_row _ _ 0 _ _ _ hS.out.k0) ((Array.getElem?_eq_some_iff.1 hS.out.k0).1)).mono ?_)
    rintro e W2 ⟨rfl, hO, hb⟩
    replace hS := hid (hS.out.drop.callOwn hb hO)
    clear hb hO
    go_simp
    generalize W.heap.size = gC at *
    replace hS := hid hS.out.f1
    refine hK.out _ _ (HeldL.cons (fun _ => hgc.out _ hS.out.bel) HeldL.nil) (fun hHeld' => ?_)
    clear hK K hHeld; have hHeld := hHeld'; clear hHeld'
    try simp only [Act.put, List.getElem_toArray, List.getElem_cons_succ, List.getElem_cons_zero, List.setIfInBounds_toArray, List.set_cons_zero, List.set_cons_succ]
    change wpAnyL _ _ _ _ _ _ #[true, true, true, true, true, true, true, true, true, true, true, true, false, false, false, false, false] _ _
    revert hHeld
    revert hS
    revert gC
    revert gB
    revert gA
    revert W2
    clear W
    refine ?nABC
    rotate_left
    refine AllReadyL.cons rfl (fun K hK => ?_) ?_
    go_simp
    replace hS := hid (hS.out.newMat mc n hmc.out (by omega))
    generalize W.heap.size = gD at *
    generalize W.alloc (.cells mc 32) = W2 at *
    replace hS := hid hS.out.b2
    refine hK.out _ _ (HeldL.cons (fun _ => hgc.out _ hS.out.bel) HeldL.nil) (fun hHeld' => ?_)
    clear hK K hHeld; have hHeld := hHeld'; clear hHeld'
    try simp only [Act.put, List.getElem_toArray, List.getElem_cons_succ, List.getElem_cons_zero, List.setIfInBounds_toArray, List.set_cons_zero, List.set_cons_succ]
    change wpAnyL _ _ _ _ _ _ #[true, true, true, true, true, true, true, false, true, true, true, true, true, false, false, false, false] _ _
    revert hHeld
    revert hS
    revert gD
    revert gB
    revert gA
    revert W2
    clear W
    refine ?nABD
    rotate_left
    refine AllReadyL.cons rfl (fun K hK => ?_) AllReadyL.nil
    go_simp
    have hsz := hS.out.le
    replace hS := hid (hS.out.newBlk #[.pointer none] 130)
    generalize W.heap.size = gF at *
    generalize W.alloc (.cells #[.pointer none] 130) = W2 at *
    have hF := hid hsz; clear hsz
    replace hS := hid hS.out.b2
    refine hK.out _ _ (HeldL.cons (fun _ => hgc.out _ hS.out.bel) HeldL.nil) (fun hHeld' => ?_)
    clear hK K hHeld; have hHeld := hHeld'; clear hHeld'
    try simp only [Act.put, List.getElem_toArray, List.getElem_cons_succ, List.getElem_cons_zero, List.setIfInBounds_toArray, List.set_cons_zero, List.set_cons_succ]
    change wpAnyL _ _ _ _ _ _ #[true, true, true, true, true, true, true, false, true, true, true, true, false, false, false, true, false] _ _
    revert hHeld
    revert hF
    revert hS
    revert gF
    revert gB
    revert gA
    revert W2
    clear W
    refine ?nABF
    rotate_left
    intro W gA gD hS hHeld
    refine wpAnyL_ready (rs := [2, 15]) (by kernel_rfl) (by simp) ?_
    refine AllReadyL.cons rfl (fun K hK => ?_) ?_
    go_simp
    replace hS := hid (hS.out.newBlk #[.int .i64 (-1)] 2)
    generalize W.heap.size = gB at *
    generalize W.alloc (.cells #[.int .i64 (-1)] 2) = W2 at *
    replace hS := hid hS.out.f1
    refine hK.out _ _ (HeldL.cons (fun _ => hgc.out _ hS.out.bel) HeldL.nil) (fun hHeld' => ?_)
    clear hK K hHeld; have hHeld := hHeld'; clear hHeld'
    try simp only [Act.put, List.getElem_toArray, List.getElem_cons_succ, List.getElem_cons_zero, List.setIfInBounds_toArray, List.set_cons_zero, List.set_cons_succ]
    change wpAnyL _ _ _ _ _ _ #[true, true, true, true, true, true, true, false, true, true, true, true, true, false, false, false, false] _ _
    revert hHeld
    revert hS
    revert gD
    revert gB
    revert gA
    revert W2
    clear W
    exact ?nABD
    refine AllReadyL.cons rfl (fun K hK => ?_) AllReadyL.nil
    go_simp
    have hsz := hS.out.le
    replace hS := hid (hS.out.newBlk #[.pointer none] 130)
    generalize W.heap.size = gF at *
    generalize W.alloc (.cells #[.pointer none] 130) = W2 at *
    have hF := hid hsz; clear hsz
    replace hS := hid hS.out.b2
    refine hK.out _ _ (HeldL.cons (fun _ => hgc.out _ hS.out.bel) HeldL.nil) (fun hHeld' => ?_)
    clear hK K hHeld; have hHeld := hHeld'; clear hHeld'
    try simp only [Act.put, List.getElem_toArray, List.getElem_cons_succ, List.getElem_cons_zero, List.setIfInBounds_toArray, List.set_cons_zero, List.set_cons_succ]
    change wpAnyL _ _ _ _ _ _ #[true, true, false, true, true, true, true, false, true, true, true, true, true, false, false, true, false] _ _
    revert hHeld
    revert hF
    revert hS
    revert gF
    revert gD
    revert gA
    revert W2
    clear W
    refine ?nADF
    rotate_left
    intro W gA gF hS hF hHeld
    refine wpAnyL_ready (rs := [2, 12]) (by kernel_rfl) (by simp) ?_
    refine AllReadyL.cons rfl (fun K hK => ?_) ?_
    go_simp
    replace hS := hid (hS.out.newBlk #[.int .i64 (-1)] 2)
    generalize W.heap.size = gB at *
    generalize W.alloc (.cells #[.int .i64 (-1)] 2) = W2 at *
    replace hS := hid hS.out.f1
    refine hK.out _ _ (HeldL.cons (fun _ => hgc.out _ hS.out.bel) HeldL.nil) (fun hHeld' => ?_)
    clear hK K hHeld; have hHeld := hHeld'; clear hHeld'
    try simp only [Act.put, List.getElem_toArray, List.getElem_cons_succ, List.getElem_cons_zero, List.setIfInBounds_toArray, List.set_cons_zero, List.set_cons_succ]
    change wpAnyL _ _ _ _ _ _ #[true, true, true, true, true, true, true, false, true, true, true, true, false, false, false, true, false] _ _
    revert hHeld
    revert hF
    revert hS
    revert gF
    revert gB
    revert gA
    revert W2
    clear W
    exact ?nABF
    refine AllReadyL.cons rfl (fun K hK => ?_) AllReadyL.nil
    go_simp
    replace hS := hid (hS.out.newMat mc n hmc.out (by omega))
    generalize W.heap.size = gD at *
    generalize W.alloc (.cells mc 32) = W2 at *
    replace hS := hid hS.out.f1
    refine hK.out _ _ (HeldL.cons (fun _ => hgc.out _ hS.out.bel) HeldL.nil) (fun hHeld' => ?_)
    clear hK K hHeld; have hHeld := hHeld'; clear hHeld'
    try simp only [Act.put, List.getElem_toArray, List.getElem_cons_succ, List.getElem_cons_zero, List.setIfInBounds_toArray, List.set_cons_zero, List.set_cons_succ]
    change wpAnyL _ _ _ _ _ _ #[true, true, false, true, true, true, true, false, true, true, true, true, true, false, false, true, false] _ _
    revert hHeld
    revert hF
    revert hS
    revert gF
    revert gD
    revert gA
    revert W2
    clear W
    exact ?nADF
    intro W gB gC hS hHeld
    refine wpAnyL_ready (rs := [1, 12, 15]) (by kernel_rfl) (by simp) ?_
    refine AllReadyL.cons rfl (fun K hK => ?_) ?_
    go_simp
    replace hS := hid (show St w.heap.size w (Asn.own w.heap.size 2 (.slice (some ⟨W.heap.size, 0, none⟩) 1 1) (nats [k]) :: _) _ from hS.out.newOwn [.int .i64 (k : Nat)] 2 (by simp))
    generalize W.heap.size = gA at *
    generalize W.alloc (.cells #[.int .i64 (k : Nat)] 2) = W2 at *
    refine hK.out _ _ (HeldL.cons (fun _ => hgc.out _ hS.out.bel) HeldL.nil) (fun hHeld' => ?_)
    clear hK K hHeld; have hHeld := hHeld'; clear hHeld'
    try simp only [Act.put, List.getElem_toArray, List.getElem_cons_succ, List.getElem_cons_zero, List.setIfInBounds_toArray, List.set_cons_zero, List.set_cons_succ]
    change wpAnyL _ _ _ _ _ _ #[true, true, true, true, true, true, true, true, true, true, true, true, false, false, false, false, false] _ _
    revert hHeld
    revert hS
    revert gC
    revert gB
    revert gA
    revert W2
    clear W
    exact ?nABC
    refine AllReadyL.cons rfl (fun K hK => ?_) ?_
    go_simp
    replace hS := hid (hS.out.newMat mc n hmc.out (by omega))
    generalize W.heap.size = gD at *
    generalize W.alloc (.cells mc 32) = W2 at *
    replace hS := hid hS.out.f1
    refine hK.out _ _ (HeldL.cons (fun _ => hgc.out _ hS.out.bel) HeldL.nil) (fun hHeld' => ?_)
    clear hK K hHeld; have hHeld := hHeld'; clear hHeld'
    try simp only [Act.put, List.getElem_toArray, List.getElem_cons_succ, List.getElem_cons_zero, List.setIfInBounds_toArray, List.set_cons_zero, List.set_cons_succ]
    change wpAnyL _ _ _ _ _ _ #[true, false, true, true, true, true, true, true, true, true, true, true, true, false, false, false, false] _ _
    revert hHeld
    revert hS
    revert gD
    revert gC
    revert gB
    revert W2
    clear W
    refine ?nBCD
    rotate_left
    refine AllReadyL.cons rfl (fun K hK => ?_) AllReadyL.nil
    go_simp
    have hsz := hS.out.le
    replace hS := hid (hS.out.newBlk #[.pointer none] 130)
    generalize W.heap.size = gF at *
    generalize W.alloc (.cells #[.pointer none] 130) = W2 at *
    have hF := hid hsz; clear hsz
    replace hS := hid hS.out.f1
    refine hK.out _ _ (HeldL.cons (fun _ => hgc.out _ hS.out.bel) HeldL.nil) (fun hHeld' => ?_)
    clear hK K hHeld; have hHeld := hHeld'; clear hHeld'
    try simp only [Act.put, List.getElem_toArray, List.getElem_cons_succ, List.getElem_cons_zero, List.setIfInBounds_toArray, List.set_cons_zero, List.set_cons_succ]
    change wpAnyL _ _ _ _ _ _ #[true, false, true, true, true, true, true, true, true, true, true, true, false, false, false, true, false] _ _
    revert hHeld
    revert hF
    revert hS
    revert gF
    revert gC
    revert gB
    revert W2
    clear W
    refine ?nBCF
    rotate_left
    intro W gB gD hS hHeld
    refine wpAnyL_ready (rs := [1, 7, 15]) (by kernel_rfl) (by simp) ?_
    refine AllReadyL.cons rfl (fun K hK => ?_) ?_
    go_simp
    replace hS := hid (show St w.heap.size w (Asn.own w.heap.size 2 (.slice (some ⟨W.heap.size, 0, none⟩) 1 1) (nats [k]) :: _) _ from hS.out.newOwn [.int .i64 (k : Nat)] 2 (by simp))
    generalize W.heap.size = gA at *
    generalize W.alloc (.cells #[.int .i64 (k : Nat)] 2) = W2 at *
    refine hK.out _ _ (HeldL.cons (fun _ => hgc.out _ hS.out.bel) HeldL.nil) (fun hHeld' => ?_)
    clear hK K hHeld; have hHeld := hHeld'; clear hHeld'
    try simp only [Act.put, List.getElem_toArray, List.getElem_cons_succ, List.getElem_cons_zero, List.setIfInBounds_toArray, List.set_cons_zero, List.set_cons_succ]
    change wpAnyL _ _ _ _ _ _ #[true, true, true, true, true, true, true, false, true, true, true, true, true, false, false, false, false] _ _
    revert hHeld
    revert hS
    revert gD
    revert gB
    revert gA
    revert W2
    clear W
    exact ?nABD
    refine AllReadyL.cons rfl (fun K hK => ?_) ?_
    go_simp
    (with_reducible refine (hrep.out _ _ _ (cell_of_row _ _ 0 _ _ _ hS.out.k0) ((Array.getElem?_eq_some_iff.1 hS.out.k0).1)).mono ?_)
    rintro e W2 ⟨rfl, hO, hb⟩
    replace hS := hid (hS.out.drop.callOwn hb hO)
    clear hb hO
    go_simp
    generalize W.heap.size = gC at *
    refine hK.out _ _ (HeldL.cons (fun _ => hgc.out _ hS.out.bel) HeldL.nil) (fun hHeld' => ?_)
    clear hK K hHeld; have hHeld := hHeld'; clear hHeld'
    try simp only [Act.put, List.getElem_toArray, List.getElem_cons_succ, List.getElem_cons_zero, List.setIfInBounds_toArray, List.set_cons_zero, List.set_cons_succ]
    change wpAnyL _ _ _ _ _ _ #[true, false, true, true, true, true, true, true, true, true, true, true, true, false, false, false, false] _ _
    revert hHeld
    revert hS
    revert gD
    revert gC
    revert gB
    revert W2
    clear W
    exact ?nBCD
    refine AllReadyL.cons rfl (fun K hK => ?_) AllReadyL.nil
    go_simp
    have hsz := hS.out.le
    replace hS := hid (hS.out.newBlk #[.pointer none] 130)
    generalize W.heap.size = gF at *
    generalize W.alloc (.cells #[.pointer none] 130) = W2 at *
    have hF := hid hsz; clear hsz
    replace hS := hid hS.out.b2
    refine hK.out _ _ (HeldL.cons (fun _ => hgc.out _ hS.out.bel) HeldL.nil) (fun hHeld' => ?_)
    clear hK K hHeld; have hHeld := hHeld'; clear hHeld'
    try simp only [Act.put, List.getElem_toArray, List.getElem_cons_succ, List.getElem_cons_zero, List.setIfInBounds_toArray, List.set_cons_zero, List.set_cons_succ]
    change wpAnyL _ _ _ _ _ _ #[true, false, true, true, true, true, true, false, true, true, true, true, true, false, false, true, false] _ _
    revert hHeld
    revert hF
    revert hS
    revert gF
    revert gD
    revert gB
    revert W2
    clear W
    refine ?nBDF
    rotate_left
    intro W gB gF hS hF hHeld
    refine wpAnyL_ready (rs := [1, 7, 12]) (by kernel_rfl) (by simp) ?_
    refine AllReadyL.cons rfl (fun K hK => ?_) ?_
    go_simp
    replace hS := hid (show St w.heap.size w (Asn.own w.heap.size 2 (.slice (some ⟨W.heap.size, 0, none⟩) 1 1) (nats [k]) :: _) _ from hS.out.newOwn [.int .i64 (k : Nat)] 2 (by simp))
    generalize W.heap.size = gA at *
    generalize W.alloc (.cells #[.int .i64 (k : Nat)] 2) = W2 at *
    refine hK.out _ _ (HeldL.cons (fun _ => hgc.out _ hS.out.bel) HeldL.nil) (fun hHeld' => ?_)
    clear hK K hHeld; have hHeld := hHeld'; clear hHeld'
    try simp only [Act.put, List.getElem_toArray, List.getElem_cons_succ, List.getElem_cons_zero, List.setIfInBounds_toArray, List.set_cons_zero, List.set_cons_succ]
    change wpAnyL _ _ _ _ _ _ #[true, true, true, true, true, true, true, false, true, true, true, true, false, false, false, true, false] _ _
    revert hHeld
    revert hF
    revert hS
    revert gF
    revert gB
    revert gA
    revert W2
    clear W
    exact ?nABF
    refine AllReadyL.cons rfl (fun K hK => ?_) ?_
    go_simp
    (with_reducible refine (hrep.out _ _ _ (cell_of_row _ _ 0 _ _ _ hS.out.k0) ((Array.getElem?_eq_some_iff.1 hS.out.k0).1)).mono ?_)
    rintro e W2 ⟨rfl, hO, hb⟩
    replace hS := hid (hS.out.drop.callOwn hb hO)
    clear hb hO
    go_simp
    generalize W.heap.size = gC at *
    refine hK.out _ _ (HeldL.cons (fun _ => hgc.out _ hS.out.bel) HeldL.nil) (fun hHeld' => ?_)
    clear hK K hHeld; have hHeld := hHeld'; clear hHeld'
    try simp only [Act.put, List.getElem_toArray, List.getElem_cons_succ, List.getElem_cons_zero, List.setIfInBounds_toArray, List.set_cons_zero, List.set_cons_succ]
    change wpAnyL _ _ _ _ _ _ #[true, false, true, true, true, true, true, true, true, true, true, true, false, false, false, true, false] _ _
    revert hHeld
    revert hF
    revert hS
    revert gF
    revert gC
    revert gB
    revert W2
    clear W
    exact ?nBCF
    refine AllReadyL.cons rfl (fun K hK => ?_) AllReadyL.nil
    go_simp
    replace hS := hid (hS.out.newMat mc n hmc.out (by omega))
    generalize W.heap.size = gD at *
    generalize W.alloc (.cells mc 32) = W2 at *
    replace hS := hid hS.out.f1
    refine hK.out _ _ (HeldL.cons (fun _ => hgc.out _ hS.out.bel) HeldL.nil) (fun hHeld' => ?_)
    clear hK K hHeld; have hHeld := hHeld'; clear hHeld'
    try simp only [Act.put, List.getElem_toArray, List.getElem_cons_succ, List.getElem_cons_zero, List.setIfInBounds_toArray, List.set_cons_zero, List.set_cons_succ]
    change wpAnyL _ _ _ _ _ _ #[true, false, true, true, true, true, true, false, true, true, true, true, true, false, false, true, false] _ _
    revert hHeld
    revert hF
    revert hS
    revert gF
    revert gD
    revert gB
    revert W2
    clear W
    exact ?nBDF
    intro W gD gF hS hF hHeld
    refine wpAnyL_ready (rs := [1, 2]) (by kernel_rfl) (by simp) ?_
    refine AllReadyL.cons rfl (fun K hK => ?_) ?_
    go_simp
    replace hS := hid (show St w.heap.size w (Asn.own w.heap.size 2 (.slice (some ⟨W.heap.size, 0, none⟩) 1 1) (nats [k]) :: _) _ from hS.out.newOwn [.int .i64 (k : Nat)] 2 (by simp))
    generalize W.heap.size = gA at *
    generalize W.alloc (.cells #[.int .i64 (k : Nat)] 2) = W2 at *
    refine hK.out _ _ (HeldL.cons (fun _ => hgc.out _ hS.out.bel) HeldL.nil) (fun hHeld' => ?_)
    clear hK K hHeld; have hHeld := hHeld'; clear hHeld'
    try simp only [Act.put, List.getElem_toArray, List.getElem_cons_succ, List.getElem_cons_zero, List.setIfInBounds_toArray, List.set_cons_zero, List.set_cons_succ]
    change wpAnyL _ _ _ _ _ _ #[true, true, false, true, true, true, true, false, true, true, true, true, true, false, false, true, false] _ _
    revert hHeld
    revert hF
    revert hS
    revert gF
    revert gD
    revert gA
    revert W2
    clear W
    exact ?nADF
    refine AllReadyL.cons rfl (fun K hK => ?_) AllReadyL.nil
    go_simp
    replace hS := hid (hS.out.newBlk #[.int .i64 (-1)] 2)
    generalize W.heap.size = gB at *
    generalize W.alloc (.cells #[.int .i64 (-1)] 2) = W2 at *
    refine hK.out _ _ (HeldL.cons (fun _ => hgc.out _ hS.out.bel) HeldL.nil) (fun hHeld' => ?_)
    clear hK K hHeld; have hHeld := hHeld'; clear hHeld'
    try simp only [Act.put, List.getElem_toArray, List.getElem_cons_succ, List.getElem_cons_zero, List.setIfInBounds_toArray, List.set_cons_zero, List.set_cons_succ]
    change wpAnyL _ _ _ _ _ _ #[true, false, true, true, true, true, true, false, true, true, true, true, true, false, false, true, false] _ _
    revert hHeld
    revert hF
    revert hS
    revert gF
    revert gD
    revert gB
    revert W2
    clear W
    exact ?nBDF
    intro W gA gB gC hS hHeld
    refine wpAnyL_ready (rs := [12, 15]) (by kernel_rfl) (by simp) ?_
    refine AllReadyL.cons rfl (fun K hK => ?_) ?_
    go_simp
    replace hS := hid (hS.out.newMat mc n hmc.out (by omega))
    generalize W.heap.size = gD at *
    generalize W.alloc (.cells mc 32) = W2 at *
    replace hS := hid hS.out.b2
    refine hK.out _ _ (HeldL.cons (fun _ => hgc.out _ hS.out.bel) HeldL.nil) (fun hHeld' => ?_)
    clear hK K hHeld; have hHeld := hHeld'; clear hHeld'
    try simp only [Act.put, List.getElem_toArray, List.getElem_cons_succ, List.getElem_cons_zero, List.setIfInBounds_toArray, List.set_cons_zero, List.set_cons_succ]
    refine wpAnyL_take0 (i := 13) (v := ?_) rfl (by kernel_rfl) (by kernel_rfl) (by kernel_rfl) (by rfl) (fun _ _ _ h => h) (Or.inl ⟨by rfl, ?_⟩) (by assumption) ?_
    rotate_left
    · (intro W _; go_simp; (with_reducible rfl))
    intro hHeld'
    clear hHeld; have hHeld := hHeld'; clear hHeld'
    try simp only [Act.put, List.getElem_toArray, List.getElem_cons_succ, List.getElem_cons_zero, List.setIfInBounds_toArray, List.set_cons_zero, List.set_cons_succ]
    change wpAnyL _ _ _ _ _ _ #[true, true, true, true, true, true, true, true, true, true, true, true, true, true, false, false, false] _ _
    revert hHeld
    revert hS
    revert gD
    revert gC
    revert gB
    revert gA
    revert W2
    clear W
    refine ?nABCD
    rotate_left
    refine AllReadyL.cons rfl (fun K hK => ?_) AllReadyL.nil
    go_simp
    have hsz := hS.out.le
    replace hS := hid (hS.out.newBlk #[.pointer none] 130)
    generalize W.heap.size = gF at *
    generalize W.alloc (.cells #[.pointer none] 130) = W2 at *
    have hF := hid hsz; clear hsz
    replace hS := hid hS.out.b2
    refine hK.out _ _ (HeldL.cons (fun _ => hgc.out _ hS.out.bel) HeldL.nil) (fun hHeld' => ?_)
    clear hK K hHeld; have hHeld := hHeld'; clear hHeld'
    try simp only [Act.put, List.getElem_toArray, List.getElem_cons_succ, List.getElem_cons_zero, List.setIfInBounds_toArray, List.set_cons_zero, List.set_cons_succ]
    change wpAnyL _ _ _ _ _ _ #[true, true, true, true, true, true, true, true, true, true, true, true, false, false, false, true, false] _ _
    revert hHeld
    revert hF
    revert hS
    revert gF
    revert gC
    revert gB
    revert gA
    revert W2
    clear W
    refine ?nABCF
    rotate_left
    intro W gA gB gD hS hHeld
    refine wpAnyL_ready (rs := [7, 15]) (by kernel_rfl) (by simp) ?_
    refine AllReadyL.cons rfl (fun K hK => ?_) ?_
    go_simp
    replace hS := hid hS.out.f1
    (with_reducible refine (hrep.out _ _ _ (cell_of_row _ _ 0 _ _ _ hS.out.k0) ((Array.getElem?_eq_some_iff.1 hS.out.k0).1)).mono ?_)
    rintro e W2 ⟨rfl, hO, hb⟩
    replace hS := hid (hS.out.drop.callOwn hb hO)
    clear hb hO
    go_simp
    generalize W.heap.size = gC at *
    replace hS := hid hS.out.f1
    refine hK.out _ _ (HeldL.cons (fun _ => hgc.out _ hS.out.bel) HeldL.nil) (fun hHeld' => ?_)
    clear hK K hHeld; have hHeld := hHeld'; clear hHeld'
    try simp only [Act.put, List.getElem_toArray, List.getElem_cons_succ, List.getElem_cons_zero, List.setIfInBounds_toArray, List.set_cons_zero, List.set_cons_succ]
    refine wpAnyL_take0 (i := 13) (v := ?_) rfl (by kernel_rfl) (by kernel_rfl) (by kernel_rfl) (by rfl) (fun _ _ _ h => h) (Or.inl ⟨by rfl, ?_⟩) (by assumption) ?_
    rotate_left
    · (intro W _; go_simp; (with_reducible rfl))
    intro hHeld'
    clear hHeld; have hHeld := hHeld'; clear hHeld'
    try simp only [Act.put, List.getElem_toArray, List.getElem_cons_succ, List.getElem_cons_zero, List.setIfInBounds_toArray, List.set_cons_zero, List.set_cons_succ]
    change wpAnyL _ _ _ _ _ _ #[true, true, true, true, true, true, true, true, true, true, true, true, true, true, false, false, false] _ _
    revert hHeld
    revert hS
    revert gD
    revert gC
    revert gB
    revert gA
    revert W2
    clear W
    exact ?nABCD
    refine AllReadyL.cons rfl (fun K hK => ?_) AllReadyL.nil
    go_simp
    have hsz := hS.out.le
    replace hS := hid (hS.out.newBlk #[.pointer none] 130)
    generalize W.heap.size = gF at *
    generalize W.alloc (.cells #[.pointer none] 130) = W2 at *
    have hF := hid hsz; clear hsz
    replace hS := hid hS.out.b3
    refine hK.out _ _ (HeldL.cons (fun _ => hgc.out _ hS.out.bel) HeldL.nil) (fun hHeld' => ?_)
    clear hK K hHeld; have hHeld := hHeld'; clear hHeld'
    try simp only [Act.put, List.getElem_toArray, List.getElem_cons_succ, List.getElem_cons_zero, List.setIfInBounds_toArray, List.set_cons_zero, List.set_cons_succ]
    change wpAnyL _ _ _ _ _ _ #[true, true, true, true, true, true, true, false, true, true, true, true, true, false, false, true, false] _ _
    revert hHeld
    revert hF
    revert hS
    revert gF
    revert gD
    revert gB
    revert gA
    revert W2
    clear W
    refine ?nABDF
    rotate_left
    intro W gA gB gF hS hF hHeld
    refine wpAnyL_ready (rs := [7, 12]) (by kernel_rfl) (by simp) ?_
    refine AllReadyL.cons rfl (fun K hK => ?_) ?_
    go_simp
    replace hS := hid hS.out.f1
    (with_reducible refine (hrep.out _ _ _ (cell_of_row _ _ 0 _ _ _ hS.out.k0) ((Array.getElem?_eq_some_iff.1 hS.out.k0).1)).mono ?_)
    rintro e W2 ⟨rfl, hO, hb⟩
    replace hS := hid (hS.out.drop.callOwn hb hO)
    clear hb hO
    go_simp
    generalize W.heap.size = gC at *
    replace hS := hid hS.out.f1
    refine hK.out _ _ (HeldL.cons (fun _ => hgc.out _ hS.out.bel) HeldL.nil) (fun hHeld' => ?_)
    clear hK K hHeld; have hHeld := hHeld'; clear hHeld'
    try simp only [Act.put, List.getElem_toArray, List.getElem_cons_succ, List.getElem_cons_zero, List.setIfInBounds_toArray, List.set_cons_zero, List.set_cons_succ]
    change wpAnyL _ _ _ _ _ _ #[true, true, true, true, true, true, true, true, true, true, true, true, false, false, false, true, false] _ _
    revert hHeld
    revert hF
    revert hS
    revert gF
    revert gC
    revert gB
    revert gA
    revert W2
    clear W
    exact ?nABCF
    refine AllReadyL.cons rfl (fun K hK => ?_) AllReadyL.nil
    go_simp
    replace hS := hid (hS.out.newMat mc n hmc.out (by omega))
    generalize W.heap.size = gD at *
    generalize W.alloc (.cells mc 32) = W2 at *
    replace hS := hid hS.out.b2
    refine hK.out _ _ (HeldL.cons (fun _ => hgc.out _ hS.out.bel) HeldL.nil) (fun hHeld' => ?_)
    clear hK K hHeld; have hHeld := hHeld'; clear hHeld'
    try simp only [Act.put, List.getElem_toArray, List.getElem_cons_succ, List.getElem_cons_zero, List.setIfInBounds_toArray, List.set_cons_zero, List.set_cons_succ]
    change wpAnyL _ _ _ _ _ _ #[true, true, true, true, true, true, true, false, true, true, true, true, true, false, false, true, false] _ _
    revert hHeld
    revert hF
    revert hS
    revert gF
    revert gD
    revert gB
    revert gA
    revert W2
    clear W
    exact ?nABDF
    intro W gA gD gF hS hF hHeld
    refine wpAnyL_ready (rs := [2]) (by kernel_rfl) (by simp) ?_
    refine AllReadyL.cons rfl (fun K hK => ?_) AllReadyL.nil
    go_simp
    replace hS := hid (hS.out.newBlk #[.int .i64 (-1)] 2)
    generalize W.heap.size = gB at *
    generalize W.alloc (.cells #[.int .i64 (-1)] 2) = W2 at *
    replace hS := hid hS.out.f1
    refine hK.out _ _ (HeldL.cons (fun _ => hgc.out _ hS.out.bel) HeldL.nil) (fun hHeld' => ?_)
    clear hK K hHeld; have hHeld := hHeld'; clear hHeld'
    try simp only [Act.put, List.getElem_toArray, List.getElem_cons_succ, List.getElem_cons_zero, List.setIfInBounds_toArray, List.set_cons_zero, List.set_cons_succ]
    change wpAnyL _ _ _ _ _ _ #[true, true, true, true, true, true, true, false, true, true, true, true, true, false, false, true, false] _ _
    revert hHeld
    revert hF
    revert hS
    revert gF
    revert gD
    revert gB
    revert gA
    revert W2
    clear W
    exact ?nABDF
    intro W gB gC gD hS hHeld
    refine wpAnyL_ready (rs := [1, 15]) (by kernel_rfl) (by simp) ?_
    refine AllReadyL.cons rfl (fun K hK => ?_) ?_
    go_simp
    replace hS := hid (show St w.heap.size w (Asn.own w.heap.size 2 (.slice (some ⟨W.heap.size, 0, none⟩) 1 1) (nats [k]) :: _) _ from hS.out.newOwn [.int .i64 (k : Nat)] 2 (by simp))
    generalize W.heap.size = gA at *
    generalize W.alloc (.cells #[.int .i64 (k : Nat)] 2) = W2 at *
    refine hK.out _ _ (HeldL.cons (fun _ => hgc.out _ hS.out.bel) HeldL.nil) (fun hHeld' => ?_)
    clear hK K hHeld; have hHeld := hHeld'; clear hHeld'
    try simp only [Act.put, List.getElem_toArray, List.getElem_cons_succ, List.getElem_cons_zero, List.setIfInBounds_toArray, List.set_cons_zero, List.set_cons_succ]
    refine wpAnyL_take0 (i := 13) (v := ?_) rfl (by kernel_rfl) (by kernel_rfl) (by kernel_rfl) (by rfl) (fun _ _ _ h => h) (Or.inl ⟨by rfl, ?_⟩) (by assumption) ?_
    rotate_left
    · (intro W _; go_simp; (with_reducible rfl))
    intro hHeld'
    clear hHeld; have hHeld := hHeld'; clear hHeld'
    try simp only [Act.put, List.getElem_toArray, List.getElem_cons_succ, List.getElem_cons_zero, List.setIfInBounds_toArray, List.set_cons_zero, List.set_cons_succ]
    change wpAnyL _ _ _ _ _ _ #[true, true, true, true, true, true, true, true, true, true, true, true, true, true, false, false, false] _ _
    revert hHeld
    revert hS
    revert gD
    revert gC
    revert gB
    revert gA
    revert W2
    clear W
    exact ?nABCD
    refine AllReadyL.cons rfl (fun K hK => ?_) AllReadyL.nil
    go_simp
    have hsz := hS.out.le
    replace hS := hid (hS.out.newBlk #[.pointer none] 130)
    generalize W.heap.size = gF at *
    generalize W.alloc (.cells #[.pointer none] 130) = W2 at *
    have hF := hid hsz; clear hsz
    replace hS := hid hS.out.b2
    refine hK.out _ _ (HeldL.cons (fun _ => hgc.out _ hS.out.bel) HeldL.nil) (fun hHeld' => ?_)
    clear hK K hHeld; have hHeld := hHeld'; clear hHeld'
    try simp only [Act.put, List.getElem_toArray, List.getElem_cons_succ, List.getElem_cons_zero, List.setIfInBounds_toArray, List.set_cons_zero, List.set_cons_succ]
    change wpAnyL _ _ _ _ _ _ #[true, false, true, true, true, true, true, true, true, true, true, true, true, false, false, true, false] _ _
    revert hHeld
    revert hF
    revert hS
    revert gF
    revert gD
    revert gC
    revert gB
    revert W2
    clear W
    refine ?nBCDF
    rotate_left
    intro W gB gC gF hS hF hHeld
    refine wpAnyL_ready (rs := [1, 12]) (by kernel_rfl) (by simp) ?_
    refine AllReadyL.cons rfl (fun K hK => ?_) ?_
    go_simp
    replace hS := hid (show St w.heap.size w (Asn.own w.heap.size 2 (.slice (some ⟨W.heap.size, 0, none⟩) 1 1) (nats [k]) :: _) _ from hS.out.newOwn [.int .i64 (k : Nat)] 2 (by simp))
    generalize W.heap.size = gA at *
    generalize W.alloc (.cells #[.int .i64 (k : Nat)] 2) = W2 at *
    refine hK.out _ _ (HeldL.cons (fun _ => hgc.out _ hS.out.bel) HeldL.nil) (fun hHeld' => ?_)
    clear hK K hHeld; have hHeld := hHeld'; clear hHeld'
    try simp only [Act.put, List.getElem_toArray, List.getElem_cons_succ, List.getElem_cons_zero, List.setIfInBounds_toArray, List.set_cons_zero, List.set_cons_succ]
    change wpAnyL _ _ _ _ _ _ #[true, true, true, true, true, true, true, true, true, true, true, true, false, false, false, true, false] _ _
    revert hHeld
    revert hF
    revert hS
    revert gF
    revert gC
    revert gB
    revert gA
    revert W2
    clear W
    exact ?nABCF
    refine AllReadyL.cons rfl (fun K hK => ?_) AllReadyL.nil
    go_simp
    replace hS := hid (hS.out.newMat mc n hmc.out (by omega))
    generalize W.heap.size = gD at *
    generalize W.alloc (.cells mc 32) = W2 at *
    replace hS := hid hS.out.f1
    refine hK.out _ _ (HeldL.cons (fun _ => hgc.out _ hS.out.bel) HeldL.nil) (fun hHeld' => ?_)
    clear hK K hHeld; have hHeld := hHeld'; clear hHeld'
    try simp only [Act.put, List.getElem_toArray, List.getElem_cons_succ, List.getElem_cons_zero, List.setIfInBounds_toArray, List.set_cons_zero, List.set_cons_succ]
    change wpAnyL _ _ _ _ _ _ #[true, false, true, true, true, true, true, true, true, true, true, true, true, false, false, true, false] _ _
    revert hHeld
    revert hF
    revert hS
    revert gF
    revert gD
    revert gC
    revert gB
    revert W2
    clear W
    exact ?nBCDF
    intro W gB gD gF hS hF hHeld
    refine wpAnyL_ready (rs := [1, 7]) (by kernel_rfl) (by simp) ?_
    refine AllReadyL.cons rfl (fun K hK => ?_) ?_
    go_simp
    replace hS := hid (show St w.heap.size w (Asn.own w.heap.size 2 (.slice (some ⟨W.heap.size, 0, none⟩) 1 1) (nats [k]) :: _) _ from hS.out.newOwn [.int .i64 (k : Nat)] 2 (by simp))
    generalize W.heap.size = gA at *
    generalize W.alloc (.cells #[.int .i64 (k : Nat)] 2) = W2 at *
    refine hK.out _ _ (HeldL.cons (fun _ => hgc.out _ hS.out.bel) HeldL.nil) (fun hHeld' => ?_)
    clear hK K hHeld; have hHeld := hHeld'; clear hHeld'
    try simp only [Act.put, List.getElem_toArray, List.getElem_cons_succ, List.getElem_cons_zero, List.setIfInBounds_toArray, List.set_cons_zero, List.set_cons_succ]
    change wpAnyL _ _ _ _ _ _ #[true, true, true, true, true, true, true, false, true, true, true, true, true, false, false, true, false] _ _
    revert hHeld
    revert hF
    revert hS
    revert gF
    revert gD
    revert gB
    revert gA
    revert W2
    clear W
    exact ?nABDF
    refine AllReadyL.cons rfl (fun K hK => ?_) AllReadyL.nil
    go_simp
    (with_reducible refine (hrep.out _ _ _ (cell_of_row _ _ 0 _ _ _ hS.out.k0) ((Array.getElem?_eq_some_iff.1 hS.out.k0).1)).mono ?_)
    rintro e W2 ⟨rfl, hO, hb⟩
    replace hS := hid (hS.out.drop.callOwn hb hO)
    clear hb hO
    go_simp
    generalize W.heap.size = gC at *
    refine hK.out _ _ (HeldL.cons (fun _ => hgc.out _ hS.out.bel) HeldL.nil) (fun hHeld' => ?_)
    clear hK K hHeld; have hHeld := hHeld'; clear hHeld'
    try simp only [Act.put, List.getElem_toArray, List.getElem_cons_succ, List.getElem_cons_zero, List.setIfInBounds_toArray, List.set_cons_zero, List.set_cons_succ]
    change wpAnyL _ _ _ _ _ _ #[true, false, true, true, true, true, true, true, true, true, true, true, true, false, false, true, false] _ _
    revert hHeld
    revert hF
    revert hS
    revert gF
    revert gD
    revert gC
    revert gB
    revert W2
    clear W
    exact ?nBCDF
    intro W gA gB gC gD hS hHeld
    refine wpAnyL_ready (rs := [14, 15]) (by kernel_rfl) (by simp) ?_
    refine AllReadyL.cons rfl (fun K hK => ?_) ?_
    go_simp
    have hsz := hS.out.le
    replace hS := hid (hS.out.newBlk #[.slice (some ⟨gA, 0, none⟩) 1 1, .slice (some ⟨gC, 0, none⟩) n n, .slice (some ⟨gD, 0, none⟩) n n] 129)
    generalize W.heap.size = gE at *
    generalize W.alloc (.cells #[.slice (some ⟨gA, 0, none⟩) 1 1, .slice (some ⟨gC, 0, none⟩) n n, .slice (some ⟨gD, 0, none⟩) n n] 129) = W2 at *
    have hE := hid hsz; clear hsz
    refine hK.out _ _ (HeldL.cons (fun _ => hgc.out _ hS.out.bel) HeldL.nil) (fun hHeld' => ?_)
    clear hK K hHeld; have hHeld := hHeld'; clear hHeld'
    try simp only [Act.put, List.getElem_toArray, List.getElem_cons_succ, List.getElem_cons_zero, List.setIfInBounds_toArray, List.set_cons_zero, List.set_cons_succ]
    change wpAnyL _ _ _ _ _ _ #[true, true, true, true, true, true, true, true, true, true, true, true, true, true, true, false, false] _ _
    revert hHeld
    revert hE
    revert hS
    revert gE
    revert gD
    revert gC
    revert gB
    revert gA
    revert W2
    clear W
    refine ?nABCDE
    rotate_left
    refine AllReadyL.cons rfl (fun K hK => ?_) AllReadyL.nil
    go_simp
    have hsz := hS.out.le
    replace hS := hid (hS.out.newBlk #[.pointer none] 130)
    generalize W.heap.size = gF at *
    generalize W.alloc (.cells #[.pointer none] 130) = W2 at *
    have hF := hid hsz; clear hsz
    replace hS := hid hS.out.b3
    refine hK.out _ _ (HeldL.cons (fun _ => hgc.out _ hS.out.bel) HeldL.nil) (fun hHeld' => ?_)
    clear hK K hHeld; have hHeld := hHeld'; clear hHeld'
    try simp only [Act.put, List.getElem_toArray, List.getElem_cons_succ, List.getElem_cons_zero, List.setIfInBounds_toArray, List.set_cons_zero, List.set_cons_succ]
    change wpAnyL _ _ _ _ _ _ #[true, true, true, true, true, true, true, true, true, true, true, true, true, true, false, true, false] _ _
    revert hHeld
    revert hF
    revert hS
    revert gF
    revert gD
    revert gC
    revert gB
    revert gA
    revert W2
    clear W
    refine ?nABCDF
    rotate_left
    intro W gA gB gC gF hS hF hHeld
    refine wpAnyL_ready (rs := [12]) (by kernel_rfl) (by simp) ?_
    refine AllReadyL.cons rfl (fun K hK => ?_) AllReadyL.nil
    go_simp
    replace hS := hid (hS.out.newMat mc n hmc.out (by omega))
    generalize W.heap.size = gD at *
    generalize W.alloc (.cells mc 32) = W2 at *
    replace hS := hid hS.out.b2
    refine hK.out _ _ (HeldL.cons (fun _ => hgc.out _ hS.out.bel) HeldL.nil) (fun hHeld' => ?_)
    clear hK K hHeld; have hHeld := hHeld'; clear hHeld'
    try simp only [Act.put, List.getElem_toArray, List.getElem_cons_succ, List.getElem_cons_zero, List.setIfInBounds_toArray, List.set_cons_zero, List.set_cons_succ]
    refine wpAnyL_take0 (i := 13) (v := ?_) rfl (by kernel_rfl) (by kernel_rfl) (by kernel_rfl) (by rfl) (fun _ _ _ h => h) (Or.inl ⟨by rfl, ?_⟩) (by assumption) ?_
    rotate_left
    · (intro W _; go_simp; (with_reducible rfl))
    intro hHeld'
    clear hHeld; have hHeld := hHeld'; clear hHeld'
    try simp only [Act.put, List.getElem_toArray, List.getElem_cons_succ, List.getElem_cons_zero, List.setIfInBounds_toArray, List.set_cons_zero, List.set_cons_succ]
    change wpAnyL _ _ _ _ _ _ #[true, true, true, true, true, true, true, true, true, true, true, true, true, true, false, true, false] _ _
    revert hHeld
    revert hF
    revert hS
    revert gF
    revert gD
    revert gC
    revert gB
    revert gA
    revert W2
    clear W
    exact ?nABCDF
    intro W gA gB gD gF hS hF hHeld
    refine wpAnyL_ready (rs := [7]) (by kernel_rfl) (by simp) ?_
    refine AllReadyL.cons rfl (fun K hK => ?_) AllReadyL.nil
    go_simp
    replace hS := hid hS.out.f1
    (with_reducible refine (hrep.out _ _ _ (cell_of_row _ _ 0 _ _ _ hS.out.k0) ((Array.getElem?_eq_some_iff.1 hS.out.k0).1)).mono ?_)
    rintro e W2 ⟨rfl, hO, hb⟩
    replace hS := hid (hS.out.drop.callOwn hb hO)
    clear hb hO
    go_simp
    generalize W.heap.size = gC at *
    replace hS := hid hS.out.f1
    refine hK.out _ _ (HeldL.cons (fun _ => hgc.out _ hS.out.bel) HeldL.nil) (fun hHeld' => ?_)
    clear hK K hHeld; have hHeld := hHeld'; clear hHeld'
    try simp only [Act.put, List.getElem_toArray, List.getElem_cons_succ, List.getElem_cons_zero, List.setIfInBounds_toArray, List.set_cons_zero, List.set_cons_succ]
    refine wpAnyL_take0 (i := 13) (v := ?_) rfl (by kernel_rfl) (by kernel_rfl) (by kernel_rfl) (by rfl) (fun _ _ _ h => h) (Or.inl ⟨by rfl, ?_⟩) (by assumption) ?_
    rotate_left
    · (intro W _; go_simp; (with_reducible rfl))
    intro hHeld'
    clear hHeld; have hHeld := hHeld'; clear hHeld'
    try simp only [Act.put, List.getElem_toArray, List.getElem_cons_succ, List.getElem_cons_zero, List.setIfInBounds_toArray, List.set_cons_zero, List.set_cons_succ]
    change wpAnyL _ _ _ _ _ _ #[true, true, true, true, true, true, true, true, true, true, true, true, true, true, false, true, false] _ _
    revert hHeld
    revert hF
    revert hS
    revert gF
    revert gD
    revert gC
    revert gB
    revert gA
    revert W2
    clear W
    exact ?nABCDF
    intro W gB gC gD gF hS hF hHeld
    refine wpAnyL_ready (rs := [1]) (by kernel_rfl) (by simp) ?_
    refine AllReadyL.cons rfl (fun K hK => ?_) AllReadyL.nil
    go_simp
    replace hS := hid (show St w.heap.size w (Asn.own w.heap.size 2 (.slice (some ⟨W.heap.size, 0, none⟩) 1 1) (nats [k]) :: _) _ from hS.out.newOwn [.int .i64 (k : Nat)] 2 (by simp))
    generalize W.heap.size = gA at *
    generalize W.alloc (.cells #[.int .i64 (k : Nat)] 2) = W2 at *
    refine hK.out _ _ (HeldL.cons (fun _ => hgc.out _ hS.out.bel) HeldL.nil) (fun hHeld' => ?_)
    clear hK K hHeld; have hHeld := hHeld'; clear hHeld'
    try simp only [Act.put, List.getElem_toArray, List.getElem_cons_succ, List.getElem_cons_zero, List.setIfInBounds_toArray, List.set_cons_zero, List.set_cons_succ]
    refine wpAnyL_take0 (i := 13) (v := ?_) rfl (by kernel_rfl) (by kernel_rfl) (by kernel_rfl) (by rfl) (fun _ _ _ h => h) (Or.inl ⟨by rfl, ?_⟩) (by assumption) ?_
    rotate_left
    · (intro W _; go_simp; (with_reducible rfl))
    intro hHeld'
    clear hHeld; have hHeld := hHeld'; clear hHeld'
    try simp only [Act.put, List.getElem_toArray, List.getElem_cons_succ, List.getElem_cons_zero, List.setIfInBounds_toArray, List.set_cons_zero, List.set_cons_succ]
    change wpAnyL _ _ _ _ _ _ #[true, true, true, true, true, true, true, true, true, true, true, true, true, true, false, true, false] _ _
    revert hHeld
    revert hF
    revert hS
    revert gF
    revert gD
    revert gC
    revert gB
    revert gA
    revert W2
    clear W
    exact ?nABCDF
    intro W gA gB gC gD gE hS hE hHeld
    refine wpAnyL_ready (rs := [15]) (by kernel_rfl) (by simp) ?_
    refine AllReadyL.cons rfl (fun K hK => ?_) AllReadyL.nil
    go_simp
    have hsz := hS.out.le
    replace hS := hid (hS.out.newBlk #[.pointer none] 130)
    generalize W.heap.size = gF at *
    generalize W.alloc (.cells #[.pointer none] 130) = W2 at *
    have hF := hid hsz; clear hsz
    replace hS := hid hS.out.b4
    refine hK.out _ _ (HeldL.cons (fun _ => hgc.out _ hS.out.bel) HeldL.nil) (fun hHeld' => ?_)
    clear hK K hHeld; have hHeld := hHeld'; clear hHeld'
    try simp only [Act.put, List.getElem_toArray, List.getElem_cons_succ, List.getElem_cons_zero, List.setIfInBounds_toArray, List.set_cons_zero, List.set_cons_succ]
    change wpAnyL _ _ _ _ _ _ #[true, true, true, true, true, true, true, true, true, true, true, true, true, true, true, true, false] _ _
    revert hHeld
    revert hF
    revert hE
    revert hS
    revert gF
    revert gE
    revert gD
    revert gC
    revert gB
    revert gA
    revert W2
    clear W
    refine ?nABCDEF
    rotate_left
    intro W gA gB gC gD gF hS hF hHeld
    refine wpAnyL_ready (rs := [14]) (by kernel_rfl) (by simp) ?_
    refine AllReadyL.cons rfl (fun K hK => ?_) AllReadyL.nil
    go_simp
    have hsz := hS.out.le
    replace hS := hid (hS.out.newBlk #[.slice (some ⟨gA, 0, none⟩) 1 1, .slice (some ⟨gC, 0, none⟩) n n, .slice (some ⟨gD, 0, none⟩) n n] 129)
    generalize W.heap.size = gE at *
    generalize W.alloc (.cells #[.slice (some ⟨gA, 0, none⟩) 1 1, .slice (some ⟨gC, 0, none⟩) n n, .slice (some ⟨gD, 0, none⟩) n n] 129) = W2 at *
    have hE := hid hsz; clear hsz
    refine hK.out _ _ (HeldL.cons (fun _ => hgc.out _ hS.out.bel) HeldL.nil) (fun hHeld' => ?_)
    clear hK K hHeld; have hHeld := hHeld'; clear hHeld'
    try simp only [Act.put, List.getElem_toArray, List.getElem_cons_succ, List.getElem_cons_zero, List.setIfInBounds_toArray, List.set_cons_zero, List.set_cons_succ]
    change wpAnyL _ _ _ _ _ _ #[true, true, true, true, true, true, true, true, true, true, true, true, true, true, true, true, false] _ _
    revert hHeld
    revert hF
    revert hE
    revert hS
    revert gF
    revert gE
    revert gD
    revert gC
    revert gB
    revert gA
    revert W2
    clear W
    exact ?nABCDEF
    intro W gA gB gC gD gE gF hS hE hF hHeld
    have c1 := cell_of_row _ _ 0 _ _ _ (hS.out.f4).k0
    have c2 := frozen_of_row _ _ 0 _ _ (hS.out.f4).k0
    refine wpAnyL_ready (rs := [16]) (by kernel_rfl) (by simp) ?_
    refine AllReadyL.cons rfl (fun K hK => ?_) AllReadyL.nil
    go_simp
    replace hS := hid (show St w.heap.size w (Asn.blk gF #[.pointer (some ⟨gE, 0, none⟩)] 130 :: _) _ from (hS.out.f4).setBlk hF.out 0 (.pointer (some ⟨gE, 0, none⟩)))
    clear c1 c2
    refine hK.out _ _ (HeldL.cons (fun h => absurd h (by decide +kernel)) HeldL.nil) (fun hHeld' => ?_)
    clear hK K hHeld; have hHeld := hHeld'; clear hHeld'
    try simp only [Act.put, List.getElem_toArray, List.getElem_cons_succ, List.getElem_cons_zero, List.setIfInBounds_toArray, List.set_cons_zero, List.set_cons_succ]
    refine wpAnyL_done (by kernel_rfl) ?_ _
    replace hS := hid hS.out.b4
    go_wp2
    go_meet
    case rel => exact ⟨gF, gE, gA, gC, gD, _, rfl, hE.out, hS.out⟩
  case rest =>
    obtain ⟨bp, bt, gq, gf, gw, rows, rfl, hbt, rS⟩ := hcut
    clear hrep hmk hmc hS
    replace rS := hid rS
    have q1 := (show _ = some (Value.pointer (some ⟨bt, 0, none⟩)) from cell_of_row _ _ 0 _ _ _ rS.out.k4)
    have q2 := (show _ = some (Value.slice (some ⟨gf, 0, none⟩) n n) from cell_of_row _ _ 1 _ _ _ rS.out.k0)
    have q3 := rS.out.o2.cellAt k (.int .i64 (-1)) (by simp [ints, hk])
    have q4 := rS.out.o2.frozenAt (by simp [ints]) k
    have y1 := (rS.out.f2.setOwn (by simp [ints]) k (.int .i64 0) hk).b2
    rw [show (ints (List.replicate n (-1))).set k (.int .i64 0) = ints ((List.replicate n (-1)).set k 0) by simp [ints, List.map_set]] at y1
    replace y1 := hid y1
    have k0 : (0 : Int) ≤ (k : Int) := Int.natCast_nonneg _
    have k1 : (k : Int) < (n : Int) := by omega
    clear rS
    go_wp2
    go_loopw [6] (fun i wr => ∃ (j : Nat) (vq : Value) (rows : List Value), j ≤ (growT T s n k j).q.length ∧ i = .int .i64 j ∧ St w.heap.size w (treeP w.heap.size bt gf n gw n n vq rows (growT T s n k j) ++ [Asn.blk bp #[.pointer (some ⟨bt, 0, none⟩)] 130]) wr) (fun i _ => n - (intOf i).toNat)
    case atStart => exact ⟨0, _, _, Nat.zero_le _, rfl, y1.out⟩
    case round =>
      obtain ⟨j, vq, rows, hj, rfl, rS⟩ := hrel
      clear y1 q1 q2 q3 q4 k0 k1
      have ok := growT_ok (T := T) (s := s) hk hT.out j
      have hql := ok.ql
      have hstep := hid (fun fr (h : (growT T s n k j).q[j]? = some fr) => growT_step h)
      have hend := hid (fun (h : (growT T s n k j).q.length ≤ j) => growT_end (T := T) (s := s) (k := k) (Nat.le_trans hj hql) h)
      generalize growT T s n k j = t at *
      replace rS := (show St w.heap.size w (Asn.blk bt #[vq, .slice (some ⟨gf, 0, none⟩) n n, .slice (some ⟨gw, 0, none⟩) n n] 129 :: Asn.own w.heap.size 2 vq (nats t.q) :: Asn.own w.heap.size 2 (.slice (some ⟨gf, 0, none⟩) n n) (ints t.far) :: Asn.mat w.heap.size (.slice (some ⟨gw, 0, none⟩) n n) rows t.ways :: [Asn.blk bp #[.pointer (some ⟨bt, 0, none⟩)] 130]) wr from rS)
      obtain ⟨A1, c1, rfl, _, hA1⟩ := rS.o1.form
      rw [nats_length] at rS
      have q1 : wr.cell? ⟨bp, 0, none⟩ = some (.pointer (some ⟨bt, 0, none⟩)) := cell_of_row _ _ 0 _ _ _ rS.k4
      have q2 : wr.cell? ⟨bt, 0, none⟩ = some (.slice A1 t.q.length c1) := cell_of_row _ _ 0 _ _ _ rS.k0
      by_cases hlt : j < t.q.length
      · obtain ⟨gq, rfl⟩ : ∃ gq, A1 = some ⟨gq, 0, none⟩ := by
          rcases hA1 with ⟨_, h0, _⟩ | ⟨g, h, _⟩
          · have h2 : t.q.length = 0 := by rw [← nats_length, h0]; rfl
            omega
          · exact ⟨g, h⟩
        obtain ⟨fr, hfr⟩ : ∃ fr, t.q[j]? = some fr := ⟨_, List.getElem?_eq_getElem hlt⟩
        have q3 : wr.cell? ⟨gq, j, none⟩ = some (.int .i64 (fr : Nat)) := rS.o1.cellAt j _ (by simp [nats, hfr])
        have hs2 := hid (hstep.out fr hfr)
        have hfm := List.mem_of_getElem? hfr
        have hrok := hid (fun p (hp : p ≤ 2 * s) => rndT_ok (T := T) (s := s) ok hfm (fun j hj => hT.out j fr hj (ok.qb fr hfm)) p hp)
        have hfn := ok.qb fr hfm
        have hrl := hid (rndT_len (T := T) (s := s) (t := t) (fr := fr) (2 * s))
        have yS := hid (rS.newBlk #[.int .i64 (fr : Nat)] 2).b5
        clear hA1 hstep hend
        have hmf : ∀ (fn : Fn) (first cap : Array Value) (w : World), (Instr.makeFunc fn first cap).run Tryz.prog w = .ok (.func fn first cap) w := fun _ _ _ _ => rfl
        have hfr1 := hid hfr
        clear hfr rS
        go_upto_region 7 with (fail)
        clear q1 q2 q3
        generalize wr.heap.size = bf at *
        generalize wr.alloc (.cells #[.int .i64 (fr : Nat)] 2) = wi at *
        have g1' := hg1.out _ yS.out.bel
        go_wp2
        go_loopw [56] (fun i wc => ∃ (p : Nat) (vq : Value) (rows : List Value), p ≤ s ∧ i = .int .i64 p ∧ St w.heap.size w (treeP w.heap.size bt gf n gw n n vq rows (rndT T s t fr p) ++ [Asn.blk bp #[.pointer (some ⟨bt, 0, none⟩)] 130, Asn.blk bf #[.int .i64 (fr : Nat)] 2]) wc) (fun i _ => s - (intOf i).toNat)
        case atStart => exact ⟨0, _, _, Nat.zero_le _, rfl, yS.out⟩
        case round =>
          obtain ⟨p, vq, rows, hp, rfl, zS⟩ := hrel
          clear yS
          rename_i wz
          have hok := hrok.out p (by omega)
          have hnx := hid (fun (h : p < s) => (show meetT (rndT T s t fr p) fr (T p fr) ((p : Int) + 1) = rndT T s t fr (p + 1) by rw [rndT, stpT, if_pos h]))
          by_cases hlt2 : p < s
          · obtain ⟨gr, cr, hc1, hc2⟩ := hrA.out p hlt2 _ zS.bel
            have r1 := (show _ = some (Value.int .i64 (fr : Nat)) from cell_of_row _ _ 0 _ _ _ zS.k5)
            have r2 := hc2 fr hfn _ (Below.refl _ _)
            clear hc2
            have hTp := hid (hT.out p fr (by omega) hfn)
            have hnx2 := hid (hnx.out hlt2)
            generalize T p fr = tx at *
            have f0 : (0 : Int) ≤ (fr : Int) := Int.natCast_nonneg _
            have f1 : (fr : Int) < (n : Int) := by omega
            have ew : IntKind.i64.wrap ((p : Int) + 1) = p + 1 := IntWalk.i64_in _ (by omega)
            have hme := hid (fun W (hW : St w.heap.size w (treeP w.heap.size bt gf n gw n n vq rows (rndT T s t fr p) ++ [Asn.blk bp #[.pointer (some ⟨bt, 0, none⟩)] 130, Asn.blk bf #[.int .i64 (fr : Nat)] 2]) W) => meet_any w.heap.size w [] W bp bt bf gf n gw n n hbt hn vq rows _ hok.1 fr tx hok.2 hTp.out ((p : Int) + 1) hW)
            replace zS := hid zS
            clear hok hnx
            go_wp2_with (
              (go_at_call 203; (with_reducible refine (hme.out _ zS.out).mono ?_); rintro e w5 ⟨rfl, vq', rows', zS'⟩; replace zS := hid zS'; clear zS' hme))
            go_roundw
            case rel => exact ⟨p + 1, _, _, by omega, by go_num, by rw [← hnx2.out]; exact zS.out⟩
            case measure => simp [intOf]; omega
          · obtain rfl : s = p := by omega
            have g2' := hg2.out _ zS.bel
            replace zS := hid zS
            clear hok hnx g1'
            go_wp2
            go_loopw [75] (fun i wc => ∃ (p : Nat) (vq : Value) (rows : List Value), p ≤ s ∧ i = .int .i64 p ∧ St w.heap.size w (treeP w.heap.size bt gf n gw n n vq rows (rndT T s t fr (s + p)) ++ [Asn.blk bp #[.pointer (some ⟨bt, 0, none⟩)] 130, Asn.blk bf #[.int .i64 (fr : Nat)] 2]) wc) (fun i _ => s - (intOf i).toNat)
            case atStart => exact ⟨0, _, _, Nat.zero_le _, rfl, zS.out⟩
            case round =>
              clear zS g2'
              obtain ⟨p, vq, rows, hp, rfl, zS⟩ := hrel
              rename_i wx
              have hok := hrok.out (s + p) (by omega)
              have hnx := hid (fun (h : p < s) => (show meetT (rndT T s t fr (s + p)) fr (T (s + p) fr) (-(p : Int) - 1) = rndT T s t fr (s + (p + 1)) by
                show _ = rndT T s t fr (s + p + 1)
                rw [rndT, stpT, if_neg (by omega), show ((s : Int) - ((s + p : Nat) : Int) - 1) = -(p : Int) - 1 by omega]))
              by_cases hlt2 : p < s
              · obtain ⟨gr, cr, hc1, hc2⟩ := hrB.out p hlt2 _ zS.bel
                have r1 := (show _ = some (Value.int .i64 (fr : Nat)) from cell_of_row _ _ 0 _ _ _ zS.k5)
                have r2 := hc2 fr hfn _ (Below.refl _ _)
                clear hc2
                have hTp := hid (hT.out (s + p) fr (by omega) hfn)
                have hnx2 := hid (hnx.out hlt2)
                generalize T (s + p) fr = tx at *
                have f0 : (0 : Int) ≤ (fr : Int) := Int.natCast_nonneg _
                have f1 : (fr : Int) < (n : Int) := by omega
                have ew : IntKind.i64.wrap (-(p : Int)) = -(p : Int) := IntWalk.i64_in _ (by omega)
                have ew2 : IntKind.i64.wrap (-(p : Int) - 1) = -(p : Int) - 1 := IntWalk.i64_in _ (by omega)
                have hme := hid (fun W (hW : St w.heap.size w (treeP w.heap.size bt gf n gw n n vq rows (rndT T s t fr (s + p)) ++ [Asn.blk bp #[.pointer (some ⟨bt, 0, none⟩)] 130, Asn.blk bf #[.int .i64 (fr : Nat)] 2]) W) => meet_any w.heap.size w [] W bp bt bf gf n gw n n hbt hn vq rows _ hok.1 fr tx hok.2 hTp.out (-(p : Int) - 1) hW)
                replace zS := hid zS
                clear hok hnx
                go_wp2_with (
                  (go_at_call 203; (with_reducible refine (hme.out _ zS.out).mono ?_); rintro e w5 ⟨rfl, vq', rows', zS'⟩; replace zS := hid zS'; clear zS' hme))
                go_roundw
                case rel => exact ⟨p + 1, _, _, by omega, by go_num, by rw [← hnx2.out]; exact zS.out⟩
                case measure => simp [intOf]; omega
              · obtain rfl : s = p := by omega
                have e2 : 2 * s = s + s := by omega
                rw [e2] at hs2 hrl
                have hr3 := hrl.out
                have hok2 := hok.1.ql
                replace zS := hid zS.f5.drop
                clear hok hnx hrl
                go_wp2
                go_roundw
                case rel => exact ⟨j + 1, _, _, by rw [hs2.out]; omega, by go_num, by rw [hs2.out]; exact zS.out⟩
                case measure => simp [intOf]; omega
      · have hfin := hid (hend.out (by omega))
        have hje : j = t.q.length := by omega
        subst hje
        replace rS := hid rS
        clear hA1 hstep hend hj hlt
        go_wp2
        go_ret
        exact ⟨bt, gf, gw, _, _, rfl, by rw [hfin.out]; exact rS.out.f4.drop⟩
end Go.Proofs.YthmcdfjijkecfaaGreat

/- DistancesFrom: what the program answers. -/
namespace Go.Proofs.YthmcdfjijkecfaaGreat
open Go.RowKit
set_option linter.unusedVariables false
set_option linter.unusedSimpArgs false
-- @LONG

theorem pw_few {l n : Nat} (h2 : 2 ≤ l) (h3 : l ≤ 3) (h : n + l ≤ 7) : Few (pw l n) := by
  have hl : l = 2 ∨ l = 3 := by omega
  rcases hl with rfl | rfl
  · have : n = 0 ∨ n = 1 ∨ n = 2 ∨ n = 3 ∨ n = 4 ∨ n = 5 := by omega
    rcases this with rfl | rfl | rfl | rfl | rfl | rfl <;> simp [Few, pw]
  · have : n = 0 ∨ n = 1 ∨ n = 2 ∨ n = 3 ∨ n = 4 := by omega
    rcases this with rfl | rfl | rfl | rfl | rfl <;> simp [Few, pw]
/-- The maps of a level, forward and then backward. -/
def lvT (m : Mach) (l s n : Nat) : Nat → Nat → Nat := both (fun q i => pf m l q n i) (fun q i => pf (inv m l s) l q n i) s
theorem lvT_lt {m : Mach} {l s n : Nat} (g : Good m l s) (j fr : Nat) (hj : j < 2 * s) (hfr : fr < pw l n) : lvT m l s n j fr < pw l n := by
  unfold lvT both
  split
  · rename_i h; exact pf_lt g j n fr h
  · exact pf_lt (inv_good g) (j - s) n fr (by omega)
theorem lvT_A {m : Mach} {l s n : Nat} (p : Nat) (hp : p < s) : ∃ row, (tabA m l n s)[p]? = some row ∧ row.length = pw l n ∧ ∀ i, i < pw l n → row[i]? = some ((lvT m l s n p i : Nat) : Int) := by
  refine ⟨_, tabA_get m l n s p hp, permZ_length _ _ _ _, fun i hi => ?_⟩
  unfold lvT both
  rw [if_pos hp]
  exact permZ_get m l p n i hi
theorem lvT_B {m : Mach} {l s n : Nat} (p : Nat) (hp : p < s) : ∃ row, (tabA (inv m l s) l n s)[p]? = some row ∧ row.length = pw l n ∧ ∀ i, i < pw l n → row[i]? = some ((lvT m l s n (s + p) i : Nat) : Int) := by
  refine ⟨_, tabA_get (inv m l s) l n s p hp, permZ_length _ _ _ _, fun i hi => ?_⟩
  unfold lvT both
  rw [if_neg (by omega), show s + p - s = p by omega]
  exact permZ_get (inv m l s) l p n i hi
theorem lvT_M {m : Mach} {l s n : Nat} (p : Nat) (hp : p < 2 * s) : ∃ row, (tabA m l n s ++ tabA (inv m l s) l n s)[p]? = some row ∧ row.length = pw l n ∧ ∀ i, i < pw l n → row[i]? = some ((lvT m l s n p i : Nat) : Int) := by
  by_cases h : p < s
  · obtain ⟨row, h1, h2⟩ := lvT_A (m := m) (l := l) (s := s) (n := n) p h
    exact ⟨row, by rw [List.getElem?_append_left (by rw [tabA_length]; exact h)]; exact h1, h2⟩
  · obtain ⟨q, rfl⟩ : ∃ q, p = s + q := ⟨p - s, by omega⟩
    obtain ⟨row, h1, h2⟩ := lvT_B (m := m) (l := l) (s := s) (n := n) q (by omega)
    exact ⟨row, by rw [List.getElem?_append_right (by rw [tabA_length]; omega), tabA_length, show s + q - s = q by omega]; exact h1, h2⟩
/-- Is x the number of a word of the level? -/
def inLv (m : Mach) (n : Int) (x : Int) : Prop := 0 ≤ x ∧ x < ((pw m.L.toNat n.toNat : Nat) : Int)
open Classical in
/-- What DistancesFrom answers. -/
noncomputable def disAns (m : Mach) (n k : Int) : List Int × Int :=
  if levelI m n = 0 then (if inLv m n k then ((treeT (lvT m m.L.toNat m.S.toNat n.toNat) m.S.toNat (pw m.L.toNat n.toNat) k.toNat).far, 0) else ([], 2)) else ([], levelI m n)
theorem disAns_c {m : Mach} {n k : Int} (h : levelI m n ≠ 0) : disAns m n k = ([], levelI m n) := by unfold disAns; rw [if_neg h]
theorem disAns_2 {m : Mach} {n k : Int} (h : levelI m n = 0) (hk : ¬ inLv m n k) : disAns m n k = ([], 2) := by unfold disAns; rw [if_pos h, if_neg hk]
theorem disAns_0 {m : Mach} {l s n k : Nat} (g : Good m l s) (h : levelI m n = 0) (hk : k < pw l n) : disAns m n k = ((treeT (lvT m l s n) s (pw l n) k).far, 0) := by
  unfold disAns inLv
  rw [if_pos h, g.L, g.S, if_pos ⟨by omega, by simp only [Int.toNat_natCast]; omega⟩]
  rfl
theorem disAns_len (m : Mach) (n k : Int) : (disAns m n k).1.length ≤ 243 := by
  by_cases h : levelI m n = 0
  · by_cases hk : inLv m n k
    · obtain ⟨l, s, n', gd, rfl, hn5, hnl, hpw⟩ := levelI_good h
      obtain ⟨k', rfl⟩ := Int.eq_ofNat_of_zero_le hk.1
      have hk' : k' < pw l n' := by have := hk.2; rw [gd.L] at this; simp only [Int.toNat_natCast] at this; omega
      rw [disAns_0 gd h hk']
      have ok : TrOk (pw l n') (treeT (lvT m l s n') s (pw l n') k') := growT_ok hk' (fun j fr hj hf => lvT_lt gd j fr hj hf) _
      show (treeT _ _ _ _).far.length ≤ 243
      rw [ok.fl]; exact hpw
    · rw [disAns_2 h hk]; exact Nat.zero_le _
  · rw [disAns_c h]; exact Nat.zero_le _
set_option maxHeartbeats 1000000 in
set_option maxRecDepth 100000 in
theorem gIsWord_any (w : World) (G n : Nat) (hG : w.cell? ⟨G, 0, none⟩ = some (.int .i64 (n : Nat))) (hn : n ≤ 243) (k : Int) (r : Bool) (hr : r = decide (0 ≤ k ∧ k < (n : Int))) :
    Calls Tryz.prog 110 #[.pointer (some ⟨G, 0, none⟩), .int .i64 k] w fun e w' => e = .returned (.bool r) ∧ w = w' := by
  have ew : IntKind.i64.wrap ((n : Int) - 1) = (n : Int) - 1 := IntWalk.i64_in _ (by omega)
  have hin := hid (fun W => within_any k 0 ((n : Int) - 1) r (by rw [hr]; exact decide_eq_decide.2 (by omega)) W)
  clear hr
  go_enter Tryz.func110, Tryz.ntmps110
  go_wp2_with (
    (go_at_call 86; (with_reducible refine (hin.out _).mono ?_); rintro e w3 ⟨rfl, rfl⟩))
  go_ret
  exact ⟨rfl, rfl⟩
set_option maxHeartbeats 4000000 in
set_option maxRecDepth 100000 in
theorem implDis_any (w : World) (m : Mach) (hk : m.Ok) (n k : Int) :
    Calls Tryz.prog 20 #[.agg (mcells m), .int .i64 n, .int .i64 k] w fun e w' => ∃ v, e = .returned (.tuple #[v, .int .i64 (disAns m n k).2]) ∧ Own w' w.heap.size 2 v (ints (disAns m n k).1) ∧ Below w.heap.size w w' := by
  have hS := hid ((St.start w).newMB m 27)
  have hcode := hid (fun W => levelCode_any W m hk n)
  by_cases h0 : levelI m n = 0
  · obtain ⟨l, s, n, gd, rfl, hn5, hnl, hpw⟩ := levelI_good h0
    rw [h0] at hcode
    have hgr := hid (fun W hW => graph_any w.heap.size W m hW l s gd n (by omega) (by omega))
    by_cases hkk : inLv m n k
    · obtain ⟨k, rfl⟩ := Int.eq_ofNat_of_zero_le hkk.1
      have hk' : k < pw l n := by have := hkk.2; rw [gd.L] at this; simp only [Int.toNat_natCast] at this; omega
      rw [disAns_0 gd h0 hk']
      have hiw := hid (fun W G (hG : W.cell? ⟨G, 0, none⟩ = some (.int .i64 (pw l n : Nat))) => gIsWord_any W G (pw l n) hG hpw (k : Int) true (decide_eq_true (by omega)).symm)
      have htr := hid (fun W G vA vB (hG : GB W G (pw l n) vA vB (tabA m l n s) (tabA (inv m l s) l n s)) => tree_any W G (pw l n) s k vA vB _ _ hG (pw_few gd.l2 gd.l3 hnl) hk' (tabA_length _ _ _ _) (tabA_length _ _ _ _) gd.s1 gd.s16 (lvT m l s n) (fun p hp => lvT_A p hp) (fun p hp => lvT_B p hp) (fun j fr hj hf => lvT_lt gd j fr hj hf))
      replace hk := hid hk; replace gd := hid gd
      clear hkk h0
      generalize treeT (lvT m l s n) s (pw l n) k = t at *
      go_enter Tryz.func20, Tryz.ntmps20
      go_wp2_with (first
        | ((with_reducible refine gate (N := 10) rfl ?_); refine load_mach rfl _ rfl w.heap.size rfl m hS.out.m0 ?_)
        | (go_at_call 108; (with_reducible refine (hcode.out _).mono ?_); rintro e w1 ⟨rfl, hb⟩; replace hS := hid (hS.out.call hb); clear hb hcode)
        | (go_at_call 109; (with_reducible refine (hgr.out _ hS.out.m0).mono ?_); rintro e w2 ⟨vA, vB, rfl, hG, hb⟩; replace hS := hid (hS.out.call hb); replace hG := hid hG; clear hb hgr)
        | (go_at_call 110; (with_reducible refine (hiw.out _ _ hG.out.c0).mono ?_); rintro e w3 ⟨rfl, rfl⟩)
        | (go_at_call 111; (with_reducible refine (htr.out _ _ _ _ hG.out).mono ?_); rintro e w4 ⟨bt, gf, gw, vq, rows, rfl, hT⟩; (have hle := hid hS.out.le); replace hS := hid (hS.out.outer hT); (have q1 := (show w4.cell? ⟨bt, 1, none⟩ = some (Value.slice (some ⟨gf, 0, none⟩) (pw l n) (pw l n)) from cell_of_row _ _ 1 _ _ _ hT.k0)); (have hO := hid hT.o2); replace hT := hid hT))
      go_ret2
      exact ⟨_, rfl, hO.out.mono hle.out, hS.out.bel⟩
    · rw [disAns_2 h0 hkk]
      have hkk' : ¬ (0 ≤ k ∧ k < ((pw l n : Nat) : Int)) := fun h => hkk ⟨h.1, by rw [gd.L]; exact h.2⟩
      have hiw := hid (fun W G (hG : W.cell? ⟨G, 0, none⟩ = some (.int .i64 (pw l n : Nat))) => gIsWord_any W G (pw l n) hG hpw k false (decide_eq_false hkk').symm)
      replace hk := hid hk; replace gd := hid gd
      clear hkk h0 hkk'
      go_enter Tryz.func20, Tryz.ntmps20
      go_wp2_with (first
        | ((with_reducible refine gate (N := 10) rfl ?_); refine load_mach rfl _ rfl w.heap.size rfl m hS.out.m0 ?_)
        | (go_at_call 108; (with_reducible refine (hcode.out _).mono ?_); rintro e w1 ⟨rfl, hb⟩; replace hS := hid (hS.out.call hb); clear hb hcode)
        | (go_at_call 109; (with_reducible refine (hgr.out _ hS.out.m0).mono ?_); rintro e w2 ⟨vA, vB, rfl, hG, hb⟩; replace hS := hid (hS.out.call hb); replace hG := hid hG; clear hb hgr)
        | (go_at_call 110; (with_reducible refine (hiw.out _ _ hG.out.c0).mono ?_); rintro e w3 ⟨rfl, rfl⟩))
      go_ret2
      exact ⟨_, rfl, Own.nil _ _ _, hS.out.bel⟩
  · rw [disAns_c h0]
    have dn : ((levelI m n) != 0) = true := by simpa using h0
    generalize levelI m n = cd at *
    replace hk := hid hk
    clear h0
    go_enter Tryz.func20, Tryz.ntmps20
    go_wp2_with (first
      | ((with_reducible refine gate (N := 10) rfl ?_); refine load_mach rfl _ rfl w.heap.size rfl m hS.out.m0 ?_)
      | (go_at_call 108; (with_reducible refine (hcode.out _).mono ?_); rintro e w1 ⟨rfl, hb⟩; replace hS := hid (hS.out.call hb); clear hb hcode))
    go_ret2
    exact ⟨_, rfl, Own.nil _ _ _, hS.out.bel⟩
end Go.Proofs.YthmcdfjijkecfaaGreat
