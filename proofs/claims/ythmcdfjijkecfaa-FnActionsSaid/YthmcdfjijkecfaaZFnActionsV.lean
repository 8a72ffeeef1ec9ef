/- What the proof of FnActions leans on, part 22 of 23. -/
import Derived.Test.YthmcdfjijkecfaaZFnActionsU
/- Draws of machines with states. -/
namespace Go.Proofs.Ythmcdfjijkecfaa
open Go.RowKit
set_option linter.unusedVariables false
set_option linter.unusedSimpArgs false
-- @LONG

set_option maxHeartbeats 2000000 in
set_option maxRecDepth 100000 in
theorem drMos_any (w : World) (v : Value) (l : List Nat) (hv : ArgB w v l) (hl : l.length ≤ 4096) :
    Calls Try.prog 97 #[v] w fun e w' => ∃ (m : Mach) (q : Int), e = .returned (.tuple #[.agg (mcells m), .int .i64 q]) ∧ Hid (Low8 m ∧ I64 q) ∧ Below w.heap.size w w' := by
  have hz := zeroM_run
  have hS := hid ((St.start w).newMB zeroM 27)
  have hfr := hid (fun W L hW => Dg.from (w := w) (W := W) (L := L) hv hl hW)
  have hz2 := hid (fun L W (h : St w.heap.size w L W) => h.newMB zeroM 27)
  replace hv := hid hv
  obtain ⟨A, c, rfl, _⟩ := hv.out
  go_enter Try.func97, Try.ntmps97
  go_upto_region 3 with (first
    | (go_at_call 104; (with_reducible refine (hfr.out _ _ hS.out).mono ?_); rintro e w1 ⟨S, rfl, D, hS'⟩; replace hS := hid hS'; clear hS')
    | (go_at_call 103; (with_reducible refine (D.out.spoil hS.out).mono ?_); rintro e w2 ⟨M, rfl, hM, hS'⟩; have hle := hid hS'.le; replace hS := hid (hz2.out _ _ hS'); clear hS')
    | ((with_reducible refine gateOp (op := .store 27 (.tmp 5) (.tmp 9)) rfl ?_); refine store_mach rfl _ _ rfl w2.heap.size rfl M rfl 27 _ hS.out.m0 ?_; intro w4 p3 ho hsz hbl; replace hS := hid (hS.out.setM hle.out p3 ho hbl); clear p3 ho hsz hbl))
  generalize w2.heap.size = b6 at *
  replace hS := hid hS.out.drew
  refine wp_region_heldL (L := [(4, (fun w' : World => MB w' 27 b6 M))]) (by kernel_rfl) (HeldL.cons (fun _ => hS.out.m0) HeldL.nil) (fun hHeld => ?_)
  generalize World.drew w4 = wa at *
  refine wpAnyL_takeP (i := 0) 4 [] (v := (.agg (mcells M))) (fun w' : World => MB w' 27 b6 M) rfl (by kernel_rfl) (by kernel_rfl) (by kernel_rfl) (by rfl) (by kernel_rfl) (by simp) (fun _ _ _ h => h) (Or.inl ⟨by rfl, ?_⟩) (by assumption) ?_
  · (intro W hW; exact exec_load _ rfl rfl (load_run hW))
  intro hHeld'
  clear hHeld; have hHeld := hHeld'; clear hHeld'
  try simp only [Act.put, List.getElem_toArray, List.getElem_cons_succ, List.getElem_cons_zero, List.setIfInBounds_toArray, List.set_cons_zero, List.set_cons_succ]
  refine wpAnyL_take0 (i := 1) (v := ?_) rfl (by kernel_rfl) (by kernel_rfl) (by kernel_rfl) (by rfl) (fun _ _ _ h => h) (Or.inl ⟨by rfl, ?_⟩) (by assumption) ?_
  rotate_left
  · (intro W _; go_simp; (with_reducible rfl))
  intro hHeld'
  clear hHeld; have hHeld := hHeld'; clear hHeld'
  try simp only [Act.put, List.getElem_toArray, List.getElem_cons_succ, List.getElem_cons_zero, List.setIfInBounds_toArray, List.set_cons_zero, List.set_cons_succ]
  refine wpAnyL_takeP (i := 2) 4 [3] (v := (.agg (mcells M))) (fun w' : World => MB w' 27 b6 M) rfl (by kernel_rfl) (by kernel_rfl) (by kernel_rfl) (by rfl) (by kernel_rfl) (by simp) (fun _ _ _ h => h) (Or.inl ⟨by rfl, ?_⟩) (by assumption) ?_
  · (intro W hW; exact exec_load _ rfl rfl (load_run hW))
  intro hHeld'
  clear hHeld; have hHeld := hHeld'; clear hHeld'
  try simp only [Act.put, List.getElem_toArray, List.getElem_cons_succ, List.getElem_cons_zero, List.setIfInBounds_toArray, List.set_cons_zero, List.set_cons_succ]
  refine wpAnyL_ready (rs := [3]) (by kernel_rfl) (by simp) ?_
  refine AllReadyL.cons rfl (fun K hK => ?_) AllReadyL.nil
  go_simp
  replace hS := hid hS.out.f1
  (with_reducible refine (D.out.state M hS.out).mono ?_)
  rintro e w5 ⟨k, rfl, hk, hS'⟩
  replace hS := hid hS'
  clear hS'
  go_simp
  refine hK.out _ _ (HeldL.cons (fun _ => hS.out.m1) HeldL.nil) (fun hHeld' => ?_)
  clear hK K hHeld; have hHeld := hHeld'; clear hHeld'
  try simp only [Act.put, List.getElem_toArray, List.getElem_cons_succ, List.getElem_cons_zero, List.setIfInBounds_toArray, List.set_cons_zero, List.set_cons_succ]
  refine wpAnyL_ready (rs := [4]) (by kernel_rfl) (by simp) ?_
  refine AllReadyL.cons rfl (fun K hK => ?_) AllReadyL.nil
  refine step_store_mach rfl _ _ rfl _ rfl M rfl _ _ hS.out.m2 ?_
  intro W9 p2 ho hbl
  replace hS := hid (hS.out.f2.setM (Nat.le_refl _) p2 ho hbl)
  clear p2 ho hbl
  refine hK.out _ _ (HeldL.cons (fun h => absurd h (by decide +kernel)) HeldL.nil) (fun hHeld' => ?_)
  clear hK K hHeld; have hHeld := hHeld'; clear hHeld'
  try simp only [Act.put, List.getElem_toArray, List.getElem_cons_succ, List.getElem_cons_zero, List.setIfInBounds_toArray, List.set_cons_zero, List.set_cons_succ]
  refine wpAnyL_take0 (i := 5) (v := ?_) rfl (by kernel_rfl) (by kernel_rfl) (by kernel_rfl) (by rfl) (fun _ _ _ h => h) (Or.inl ⟨by rfl, ?_⟩) (by assumption) ?_
  rotate_left
  · (intro W _; go_simp; (with_reducible rfl))
  intro hHeld'
  clear hHeld; have hHeld := hHeld'; clear hHeld'
  try simp only [Act.put, List.getElem_toArray, List.getElem_cons_succ, List.getElem_cons_zero, List.setIfInBounds_toArray, List.set_cons_zero, List.set_cons_succ]
  refine wpAnyL_done (by kernel_rfl) ?_ _
  go_wp2
  exact ret_mach_v rfl rfl rfl hS.out.m0 rfl ⟨M, k, rfl, hid ⟨hM.out, hk.out⟩, hS.out.bel⟩
set_option maxHeartbeats 2000000 in
set_option maxRecDepth 100000 in
theorem drCom_any (w : World) (v : Value) (l : List Nat) (hv : ArgB w v l) (hl : l.length ≤ 4096) :
    Calls Try.prog 100 #[v] w fun e w' => ∃ (m : Mach) (q r : Int), e = .returned (.tuple #[.agg (mcells m), .int .i64 q, .int .i64 r]) ∧ Hid (Low8 m ∧ I64 q ∧ I64 r) ∧ Below w.heap.size w w' := by
  have hz := zeroM_run
  have hS := hid ((St.start w).newMB zeroM 27)
  have hfr := hid (fun W L hW => Dg.from (w := w) (W := W) (L := L) hv hl hW)
  have hz2 := hid (fun L W (h : St w.heap.size w L W) => h.newMB zeroM 27)
  replace hv := hid hv
  obtain ⟨A, c, rfl, _⟩ := hv.out
  go_enter Try.func100, Try.ntmps100
  go_upto_region 3 with (first
    | (go_at_call 104; (with_reducible refine (hfr.out _ _ hS.out).mono ?_); rintro e w1 ⟨S, rfl, D, hS'⟩; replace hS := hid hS'; clear hS')
    | (go_at_call 103; (with_reducible refine (D.out.spoil hS.out).mono ?_); rintro e w2 ⟨M, rfl, hM, hS'⟩; have hle := hid hS'.le; replace hS := hid (hz2.out _ _ hS'); clear hS')
    | ((with_reducible refine gateOp (op := .store 27 (.tmp 6) (.tmp 10)) rfl ?_); refine store_mach rfl _ _ rfl w2.heap.size rfl M rfl 27 _ hS.out.m0 ?_; intro w4 p3 ho hsz hbl; replace hS := hid (hS.out.setM hle.out p3 ho hbl); clear p3 ho hsz hbl))
  generalize w2.heap.size = b6 at *
  replace hS := hid hS.out.drew
  refine wp_region_heldL (L := [(7, (fun w' : World => MB w' 27 b6 M))]) (by kernel_rfl) (HeldL.cons (fun _ => hS.out.m0) HeldL.nil) (fun hHeld => ?_)
  generalize World.drew w4 = wa at *
  refine wpAnyL_takeP (i := 0) 7 [] (v := (.agg (mcells M))) (fun w' : World => MB w' 27 b6 M) rfl (by kernel_rfl) (by kernel_rfl) (by kernel_rfl) (by rfl) (by kernel_rfl) (by simp) (fun _ _ _ h => h) (Or.inl ⟨by rfl, ?_⟩) (by assumption) ?_
  · (intro W hW; exact exec_load _ rfl rfl (load_run hW))
  intro hHeld'
  clear hHeld; have hHeld := hHeld'; clear hHeld'
  try simp only [Act.put, List.getElem_toArray, List.getElem_cons_succ, List.getElem_cons_zero, List.setIfInBounds_toArray, List.set_cons_zero, List.set_cons_succ]
  refine wpAnyL_take0 (i := 1) (v := ?_) rfl (by kernel_rfl) (by kernel_rfl) (by kernel_rfl) (by rfl) (fun _ _ _ h => h) (Or.inl ⟨by rfl, ?_⟩) (by assumption) ?_
  rotate_left
  · (intro W _; go_simp; (with_reducible rfl))
  intro hHeld'
  clear hHeld; have hHeld := hHeld'; clear hHeld'
  try simp only [Act.put, List.getElem_toArray, List.getElem_cons_succ, List.getElem_cons_zero, List.setIfInBounds_toArray, List.set_cons_zero, List.set_cons_succ]
  refine wpAnyL_takeP (i := 2) 7 [6, 3] (v := (.agg (mcells M))) (fun w' : World => MB w' 27 b6 M) rfl (by kernel_rfl) (by kernel_rfl) (by kernel_rfl) (by rfl) (by kernel_rfl) (by simp) (fun _ _ _ h => h) (Or.inl ⟨by rfl, ?_⟩) (by assumption) ?_
  · (intro W hW; exact exec_load _ rfl rfl (load_run hW))
  intro hHeld'
  clear hHeld; have hHeld := hHeld'; clear hHeld'
  try simp only [Act.put, List.getElem_toArray, List.getElem_cons_succ, List.getElem_cons_zero, List.setIfInBounds_toArray, List.set_cons_zero, List.set_cons_succ]
  refine wpAnyL_take0 (i := 4) (v := ?_) rfl (by kernel_rfl) (by kernel_rfl) (by kernel_rfl) (by rfl) (fun _ _ _ h => h) (Or.inl ⟨by rfl, ?_⟩) (by assumption) ?_
  rotate_left
  · (intro W _; go_simp; (with_reducible rfl))
  intro hHeld'
  clear hHeld; have hHeld := hHeld'; clear hHeld'
  try simp only [Act.put, List.getElem_toArray, List.getElem_cons_succ, List.getElem_cons_zero, List.setIfInBounds_toArray, List.set_cons_zero, List.set_cons_succ]
  refine wpAnyL_takeP (i := 5) 7 [6] (v := (.agg (mcells M))) (fun w' : World => MB w' 27 b6 M) rfl (by kernel_rfl) (by kernel_rfl) (by kernel_rfl) (by rfl) (by kernel_rfl) (by simp) (fun _ _ _ h => h) (Or.inl ⟨by rfl, ?_⟩) (by assumption) ?_
  · (intro W hW; exact exec_load _ rfl rfl (load_run hW))
  intro hHeld'
  clear hHeld; have hHeld := hHeld'; clear hHeld'
  try simp only [Act.put, List.getElem_toArray, List.getElem_cons_succ, List.getElem_cons_zero, List.setIfInBounds_toArray, List.set_cons_zero, List.set_cons_succ]
  refine wpAnyL_ready (rs := [3]) (by kernel_rfl) (by simp) ?_
  refine AllReadyL.cons rfl (fun K hK => ?_) AllReadyL.nil
  go_simp
  replace hS := hid hS.out.f1
  (with_reducible refine (D.out.state M hS.out).mono ?_)
  rintro e w5 ⟨k, rfl, hk, hS'⟩
  replace hS := hid hS'
  clear hS'
  go_simp
  refine hK.out _ _ (HeldL.cons (fun _ => hS.out.m1) HeldL.nil) (fun hHeld' => ?_)
  clear hK K hHeld; have hHeld := hHeld'; clear hHeld'
  try simp only [Act.put, List.getElem_toArray, List.getElem_cons_succ, List.getElem_cons_zero, List.setIfInBounds_toArray, List.set_cons_zero, List.set_cons_succ]
  refine wpAnyL_ready (rs := [6]) (by kernel_rfl) (by simp) ?_
  refine AllReadyL.cons rfl (fun K hK => ?_) AllReadyL.nil
  go_simp
  (with_reducible refine (D.out.state M hS.out).mono ?_)
  rintro e w6 ⟨k2, rfl, hk2, hS'⟩
  replace hS := hid hS'
  clear hS'
  go_simp
  refine hK.out _ _ (HeldL.cons (fun _ => hS.out.m1) HeldL.nil) (fun hHeld' => ?_)
  clear hK K hHeld; have hHeld := hHeld'; clear hHeld'
  try simp only [Act.put, List.getElem_toArray, List.getElem_cons_succ, List.getElem_cons_zero, List.setIfInBounds_toArray, List.set_cons_zero, List.set_cons_succ]
  refine wpAnyL_ready (rs := [7]) (by kernel_rfl) (by simp) ?_
  refine AllReadyL.cons rfl (fun K hK => ?_) AllReadyL.nil
  refine step_store_mach rfl _ _ rfl _ rfl M rfl _ _ hS.out.m2 ?_
  intro W9 p2 ho hbl
  replace hS := hid (hS.out.f2.setM (Nat.le_refl _) p2 ho hbl)
  clear p2 ho hbl
  refine hK.out _ _ (HeldL.cons (fun h => absurd h (by decide +kernel)) HeldL.nil) (fun hHeld' => ?_)
  clear hK K hHeld; have hHeld := hHeld'; clear hHeld'
  try simp only [Act.put, List.getElem_toArray, List.getElem_cons_succ, List.getElem_cons_zero, List.setIfInBounds_toArray, List.set_cons_zero, List.set_cons_succ]
  refine wpAnyL_take0 (i := 8) (v := ?_) rfl (by kernel_rfl) (by kernel_rfl) (by kernel_rfl) (by rfl) (fun _ _ _ h => h) (Or.inl ⟨by rfl, ?_⟩) (by assumption) ?_
  rotate_left
  · (intro W _; go_simp; (with_reducible rfl))
  intro hHeld'
  clear hHeld; have hHeld := hHeld'; clear hHeld'
  try simp only [Act.put, List.getElem_toArray, List.getElem_cons_succ, List.getElem_cons_zero, List.setIfInBounds_toArray, List.set_cons_zero, List.set_cons_succ]
  refine wpAnyL_take0 (i := 9) (v := ?_) rfl (by kernel_rfl) (by kernel_rfl) (by kernel_rfl) (by rfl) (fun _ _ _ h => h) (Or.inl ⟨by rfl, ?_⟩) (by assumption) ?_
  rotate_left
  · (intro W _; go_simp; (with_reducible rfl))
  intro hHeld'
  clear hHeld; have hHeld := hHeld'; clear hHeld'
  try simp only [Act.put, List.getElem_toArray, List.getElem_cons_succ, List.getElem_cons_zero, List.setIfInBounds_toArray, List.set_cons_zero, List.set_cons_succ]
  refine wpAnyL_done (by kernel_rfl) ?_ _
  go_wp2
  exact ret_mvv rfl rfl rfl rfl hS.out.m0 rfl ⟨M, k, k2, rfl, hid ⟨hM.out, hk.out, hk2.out⟩, hS.out.bel⟩
set_option maxHeartbeats 2000000 in
set_option maxRecDepth 100000 in
theorem drPow_any (w : World) (v : Value) (l : List Nat) (hv : ArgB w v l) (hl : l.length ≤ 4096) :
    Calls Try.prog 95 #[v] w fun e w' => ∃ (m : Mach) (q n : Int), e = .returned (.tuple #[.agg (mcells m), .int .i64 q, .int .i64 n]) ∧ Hid (Low8 m ∧ I64 q ∧ -17 ≤ n ∧ n ≤ 17) ∧ Below w.heap.size w w' := by
  have hz := zeroM_run
  have hS := hid ((St.start w).newMB zeroM 27)
  have hfr := hid (fun W L hW => Dg.from (w := w) (W := W) (L := L) hv hl hW)
  have hz2 := hid (fun L W (h : St w.heap.size w L W) => h.newMB zeroM 27)
  replace hv := hid hv
  obtain ⟨A, c, rfl, _⟩ := hv.out
  go_enter Try.func95, Try.ntmps95
  have hpr := hid (fun (x r : Int) (h0 : -17 ≤ x) (h1 : x ≤ 17) (hr : r ∈ [0, 1, 2, 3, -1, -2, x]) => (show -17 ≤ r ∧ r ≤ 17 from by
    simp only [List.mem_cons, List.not_mem_nil, or_false] at hr
    rcases hr with rfl | rfl | rfl | rfl | rfl | rfl | rfl <;> omega))
  go_upto_region 3 with (first
    | (go_at_call 104; (with_reducible refine (hfr.out _ _ hS.out).mono ?_); rintro e w1 ⟨S, rfl, D, hS'⟩; replace hS := hid hS'; clear hS')
    | (go_at_call 103; (with_reducible refine (D.out.spoil hS.out).mono ?_); rintro e w2 ⟨M, rfl, hM, hS'⟩; have hle := hid hS'.le; replace hS := hid (hz2.out _ _ hS'); clear hS')
    | ((with_reducible refine gateOp (op := .store 27 (.tmp 6) (.tmp 10)) rfl ?_); refine store_mach rfl _ _ rfl w2.heap.size rfl M rfl 27 _ hS.out.m0 ?_; intro w4 p3 ho hsz hbl; replace hS := hid (hS.out.setM hle.out p3 ho hbl); clear p3 ho hsz hbl))
  generalize w2.heap.size = b6 at *
  replace hS := hid hS.out.drew
  refine wp_region_heldL (L := [(10, (fun w' : World => MB w' 27 b6 M))]) (by kernel_rfl) (HeldL.cons (fun _ => hS.out.m0) HeldL.nil) (fun hHeld => ?_)
  generalize World.drew w4 = wa at *
  refine wpAnyL_takeP (i := 0) 10 [] (v := (.agg (mcells M))) (fun w' : World => MB w' 27 b6 M) rfl (by kernel_rfl) (by kernel_rfl) (by kernel_rfl) (by rfl) (by kernel_rfl) (by simp) (fun _ _ _ h => h) (Or.inl ⟨by rfl, ?_⟩) (by assumption) ?_
  · (intro W hW; exact exec_load _ rfl rfl (load_run hW))
  intro hHeld'
  clear hHeld; have hHeld := hHeld'; clear hHeld'
  try simp only [Act.put, List.getElem_toArray, List.getElem_cons_succ, List.getElem_cons_zero, List.setIfInBounds_toArray, List.set_cons_zero, List.set_cons_succ]
  refine wpAnyL_take0 (i := 1) (v := ?_) rfl (by kernel_rfl) (by kernel_rfl) (by kernel_rfl) (by rfl) (fun _ _ _ h => h) (Or.inl ⟨by rfl, ?_⟩) (by assumption) ?_
  rotate_left
  · (intro W _; go_simp; (with_reducible rfl))
  intro hHeld'
  clear hHeld; have hHeld := hHeld'; clear hHeld'
  try simp only [Act.put, List.getElem_toArray, List.getElem_cons_succ, List.getElem_cons_zero, List.setIfInBounds_toArray, List.set_cons_zero, List.set_cons_succ]
  refine wpAnyL_takeP (i := 2) 10 [9, 6, 3] (v := (.agg (mcells M))) (fun w' : World => MB w' 27 b6 M) rfl (by kernel_rfl) (by kernel_rfl) (by kernel_rfl) (by rfl) (by kernel_rfl) (by simp) (fun _ _ _ h => h) (Or.inl ⟨by rfl, ?_⟩) (by assumption) ?_
  · (intro W hW; exact exec_load _ rfl rfl (load_run hW))
  intro hHeld'
  clear hHeld; have hHeld := hHeld'; clear hHeld'
  try simp only [Act.put, List.getElem_toArray, List.getElem_cons_succ, List.getElem_cons_zero, List.setIfInBounds_toArray, List.set_cons_zero, List.set_cons_succ]
  refine wpAnyL_take0 (i := 4) (v := ?_) rfl (by kernel_rfl) (by kernel_rfl) (by kernel_rfl) (by rfl) (fun _ _ _ h => h) (Or.inl ⟨by rfl, ?_⟩) (by assumption) ?_
  rotate_left
  · (intro W _; go_simp; (with_reducible rfl))
  intro hHeld'
  clear hHeld; have hHeld := hHeld'; clear hHeld'
  try simp only [Act.put, List.getElem_toArray, List.getElem_cons_succ, List.getElem_cons_zero, List.setIfInBounds_toArray, List.set_cons_zero, List.set_cons_succ]
  refine wpAnyL_take0 (i := 5) (v := ?_) rfl (by kernel_rfl) (by kernel_rfl) (by kernel_rfl) (by rfl) (fun _ _ _ h => h) (Or.inl ⟨by rfl, ?_⟩) (by assumption) ?_
  rotate_left
  · (intro W _; go_simp; (with_reducible rfl))
  intro hHeld'
  clear hHeld; have hHeld := hHeld'; clear hHeld'
  try simp only [Act.put, List.getElem_toArray, List.getElem_cons_succ, List.getElem_cons_zero, List.setIfInBounds_toArray, List.set_cons_zero, List.set_cons_succ]
  refine wpAnyL_ready (rs := [3]) (by kernel_rfl) (by simp) ?_
  refine AllReadyL.cons rfl (fun K hK => ?_) AllReadyL.nil
  go_simp
  replace hS := hid hS.out.f1
  (with_reducible refine (D.out.state M hS.out).mono ?_)
  rintro e w5 ⟨k, rfl, hk, hS'⟩
  replace hS := hid hS'
  clear hS'
  go_simp
  refine hK.out _ _ (HeldL.cons (fun _ => hS.out.m1) HeldL.nil) (fun hHeld' => ?_)
  clear hK K hHeld; have hHeld := hHeld'; clear hHeld'
  try simp only [Act.put, List.getElem_toArray, List.getElem_cons_succ, List.getElem_cons_zero, List.setIfInBounds_toArray, List.set_cons_zero, List.set_cons_succ]
  refine wpAnyL_ready (rs := [6]) (by kernel_rfl) (by simp) ?_
  refine AllReadyL.cons rfl (fun K hK => ?_) AllReadyL.nil
  go_simp
  (with_reducible refine (D.out.next 35 (by omega) hS.out).mono ?_)
  rintro e w6 ⟨z, rfl, hz3, hS'⟩
  replace hS := hid hS'
  clear hS'
  go_simp
  refine hK.out _ _ (HeldL.cons (fun _ => hS.out.m1) HeldL.nil) (fun hHeld' => ?_)
  clear hK K hHeld; have hHeld := hHeld'; clear hHeld'
  try simp only [Act.put, List.getElem_toArray, List.getElem_cons_succ, List.getElem_cons_zero, List.setIfInBounds_toArray, List.set_cons_zero, List.set_cons_succ]
  have hzz : (z : Int) < 35 := by omega
  have ew2 := hid (show IntKind.i64.wrap ((z : Int) - 17) = (z : Int) - 17 by unfold IntKind.wrap; simp [IntKind.signed, IntKind.bits]; omega)
  refine wpAnyL_take0 (i := 7) (v := (.int .i64 ((z : Int) - 17))) rfl (by kernel_rfl) (by kernel_rfl) (by kernel_rfl) (by rfl) (fun _ _ _ h => h) (Or.inl ⟨by rfl, ?_⟩) (by assumption) ?_
  · (intro W _; go_simp; exact ew2.out)
  intro hHeld'
  clear hHeld; have hHeld := hHeld'; clear hHeld'
  try simp only [Act.put, List.getElem_toArray, List.getElem_cons_succ, List.getElem_cons_zero, List.setIfInBounds_toArray, List.set_cons_zero, List.set_cons_succ]
  refine wpAnyL_ready (rs := [8]) (by kernel_rfl) (by simp) ?_
  refine AllReadyL.cons rfl (fun K hK => ?_) AllReadyL.nil
  go_simp
  have hS2 := hS.out.list [.int .i64 0, .int .i64 1, .int .i64 2, .int .i64 3, .int .i64 (-1), .int .i64 (-2), .int .i64 ((z : Int) - 17)] (by simp)
  refine hK.out _ _ (HeldL.cons (fun _ => hS2.m2) HeldL.nil) (fun hHeld' => ?_)
  clear hK K hHeld; have hHeld := hHeld'; clear hHeld'
  try simp only [Act.put, List.getElem_toArray, List.getElem_cons_succ, List.getElem_cons_zero, List.setIfInBounds_toArray, List.set_cons_zero, List.set_cons_succ]
  refine wpAnyL_ready (rs := [9]) (by kernel_rfl) (by simp) ?_
  refine AllReadyL.cons rfl (fun K hK => ?_) AllReadyL.nil
  go_simp
  (with_reducible refine (D.out.pick [0, 1, 2, 3, -1, -2, (z : Int) - 17] (by simp) (by simp) hS2).mono ?_)
  rintro e w7 ⟨n, rfl, hn, hS'⟩
  have hn' := hid (hpr.out ((z : Int) - 17) n (by omega) (by omega) hn)
  replace hS := hid hS'
  clear hS' hS2 hn
  go_simp
  refine hK.out _ _ (HeldL.cons (fun _ => hS.out.m1) HeldL.nil) (fun hHeld' => ?_)
  clear hK K hHeld; have hHeld := hHeld'; clear hHeld'
  try simp only [Act.put, List.getElem_toArray, List.getElem_cons_succ, List.getElem_cons_zero, List.setIfInBounds_toArray, List.set_cons_zero, List.set_cons_succ]
  refine wpAnyL_ready (rs := [10]) (by kernel_rfl) (by simp) ?_
  refine AllReadyL.cons rfl (fun K hK => ?_) AllReadyL.nil
  refine step_store_mach rfl _ _ rfl _ rfl M rfl _ _ hS.out.m2 ?_
  intro W9 p2 ho hbl
  replace hS := hid (hS.out.f2.setM (Nat.le_refl _) p2 ho hbl)
  clear p2 ho hbl
  refine hK.out _ _ (HeldL.cons (fun h => absurd h (by decide +kernel)) HeldL.nil) (fun hHeld' => ?_)
  clear hK K hHeld; have hHeld := hHeld'; clear hHeld'
  try simp only [Act.put, List.getElem_toArray, List.getElem_cons_succ, List.getElem_cons_zero, List.setIfInBounds_toArray, List.set_cons_zero, List.set_cons_succ]
  refine wpAnyL_take0 (i := 11) (v := ?_) rfl (by kernel_rfl) (by kernel_rfl) (by kernel_rfl) (by rfl) (fun _ _ _ h => h) (Or.inl ⟨by rfl, ?_⟩) (by assumption) ?_
  rotate_left
  · (intro W _; go_simp; (with_reducible rfl))
  intro hHeld'
  clear hHeld; have hHeld := hHeld'; clear hHeld'
  try simp only [Act.put, List.getElem_toArray, List.getElem_cons_succ, List.getElem_cons_zero, List.setIfInBounds_toArray, List.set_cons_zero, List.set_cons_succ]
  refine wpAnyL_take0 (i := 12) (v := ?_) rfl (by kernel_rfl) (by kernel_rfl) (by kernel_rfl) (by rfl) (fun _ _ _ h => h) (Or.inl ⟨by rfl, ?_⟩) (by assumption) ?_
  rotate_left
  · (intro W _; go_simp; (with_reducible rfl))
  intro hHeld'
  clear hHeld; have hHeld := hHeld'; clear hHeld'
  try simp only [Act.put, List.getElem_toArray, List.getElem_cons_succ, List.getElem_cons_zero, List.setIfInBounds_toArray, List.set_cons_zero, List.set_cons_succ]
  refine wpAnyL_done (by kernel_rfl) ?_ _
  go_wp2
  exact ret_mvv rfl rfl rfl rfl hS.out.m0 rfl ⟨M, k, n, rfl, hid ⟨hM.out, hk.out, hn'.out⟩, hS.out.bel⟩
theorem ret_mvmv {fn : Func} {R : Ending → World → Prop} {a : Act} {w : World} {p q r s : Nat} (h : fn.results = #[.cell p 27, .tmp q, .cell r 27, .tmp s]) {g t g2 t2 : Nat} {m k : Mach} {v u : Value}
    (hp : a.tmps.getD p undef = .pointer (some ⟨g, 0, none⟩)) (hq : a.tmps.getD q undef = v) (hr : a.tmps.getD r undef = .pointer (some ⟨g2, 0, none⟩)) (hs : a.tmps.getD s undef = u) (hm : MB w t g m) (hk : MB w t2 g2 k) (hdf : a.defers = []) (hR : R (.returned (.tuple #[.agg (mcells m), v, .agg (mcells k), u])) w) : bodyPost Try.prog fn R .ret a w := by
  refine bodyPost_ret (v := .tuple #[.agg (mcells m), v, .agg (mcells k), u]) ?_ hdf hR
  have hp' : a.tmps[p]?.getD undef = .pointer (some ⟨g, 0, none⟩) := by simpa using hp
  have hq' : a.tmps[q]?.getD undef = v := by simpa using hq
  have hr' : a.tmps[r]?.getD undef = .pointer (some ⟨g2, 0, none⟩) := by simpa using hr
  have hs' : a.tmps[s]?.getD undef = u := by simpa using hs
  have h1 := run_loadVar_row (P := Try.prog) w g t 27 (mcells m) (0, 0) _ hm.heap Try.underlying27 rfl (by rw [size_mcells]; exact sz_mach)
  have h2 := run_loadVar_row (P := Try.prog) w g2 t2 27 (mcells k) (0, 0) _ hk.heap Try.underlying27 rfl (by rw [size_mcells]; exact sz_mach)
  simp [results, h, hp', hq', hr', hs', asAddr, h1, h2]
set_option maxHeartbeats 4000000 in
set_option maxRecDepth 100000 in
theorem l07Draw_any (w : World) (v : Value) (l : List Nat) (hv : ArgB w v l) (hl : l.length ≤ 4096) :
    Calls Try.prog 200 #[v] w fun e w' => ∃ (m : Mach) (q : Int) (k : Mach) (r : Int), e = .returned (.tuple #[.agg (mcells m), .int .i64 q, .agg (mcells k), .int .i64 r]) ∧ Hid (m.Ok ∧ k.Ok ∧ I64 q ∧ I64 r) ∧ Below w.heap.size w w' := by
  have hz := zeroM_run
  have hS := hid (((St.start w).newMB zeroM 27).newMB zeroM 27)
  rw [heap_alloc_size] at hS
  have hfr := hid (fun W L hW => Dg.from (w := w) (W := W) (L := L) hv hl hW)
  have hz2 := hid (fun L W (h : St w.heap.size w L W) => h.newMB zeroM 27)
  have his := hid l01Is_any
  have hin := hid l01Inverse_any
  replace hv := hid hv
  obtain ⟨A, c, rfl, _⟩ := hv.out
  go_enter Try.func200, Try.ntmps200
  go_upto_region 3 with (first
    | (go_at_call 104; (with_reducible refine (hfr.out _ _ hS.out).mono ?_); rintro e w1 ⟨S, rfl, D, hS'⟩; replace hS := hid hS'; clear hS')
    | (go_at_call 103; (with_reducible refine (D.out.spoil hS.out).mono ?_); rintro e w2 ⟨M, rfl, hM, hS'⟩; have hle := hid hS'.le; replace hS := hid (hz2.out _ _ hS'); clear hS')
    | ((with_reducible refine gateOp (op := .store 27 (.tmp 7) (.tmp 12)) rfl ?_); refine store_mach rfl _ _ rfl w2.heap.size rfl M rfl 27 _ hS.out.m0 ?_; intro w4 p3 ho hsz hbl; replace hS := hid (hS.out.setM hle.out p3 ho hbl); clear p3 ho hsz hbl))
  generalize w2.heap.size = b7 at *
  have hM7 := hid hS.out.m0
  have hle3 := hid hS.out.le
  replace hS := hid (hz2.out _ _ hS.out)
  go_upto_region 4 with (first
    | ((with_reducible refine gate (N := 13) rfl ?_); refine load_mach rfl _ rfl b7 rfl M hM7.out ?_)
    | ((with_reducible refine gateOp (op := .store 27 (.tmp 8) (.tmp 13)) rfl ?_); refine store_mach rfl _ _ rfl w4.heap.size rfl M rfl 27 _ hS.out.m0 ?_; intro w5 p3 ho hsz hbl; replace hS := hid (hS.out.setM hle3.out p3 ho hbl); clear p3 ho hsz hbl))
  have hle8 := hid (show w.heap.size ≤ w4.heap.size from hle3.out)
  generalize w4.heap.size = b8 at *
  clear hM7 hle3
  replace hS := hid hS.out.f2
  go_simp
  go_cut [15] from 14 (fun d wr => ∃ z : Nat, d = .int .i64 z ∧ St w.heap.size w [Asn.src S (.slice A l.length c) l.length, Asn.mb 27 b8 M, Asn.mb 27 b7 M, Asn.mb 27 (w.heap.size + 1) zeroM, Asn.mb 27 w.heap.size zeroM] wr)
  case first =>
    go_wp2_with (
      (go_at_call 133; (with_reducible refine (D.out.next 4 (by omega) hS.out).mono ?_); rintro e w6 ⟨z, rfl, hz4, hS'⟩; replace hS := hid hS'; clear hS'))
    go_meet
    exact ⟨_, rfl, hS.out⟩
  obtain ⟨z, rfl, hcut⟩ := hcut
  replace hS := hid hcut
  clear hcut
  rename_i hK0
  refine hK0 _ _ ?_
  clear hK0
  go_cut [3] from 16 (fun d wr => ∃ K : Mach, d = .int .i64 0 ∧ Hid K.Ok ∧ St w.heap.size w [Asn.src S (.slice A l.length c) l.length, Asn.mb 27 b8 K, Asn.mb 27 b7 M, Asn.mb 27 (w.heap.size + 1) zeroM, Asn.mb 27 w.heap.size zeroM] wr)
  case first =>
    by_cases z0 : z = 0
    · subst z0
      by_cases hm : IsM M
      · obtain ⟨lL, sS, g⟩ := hm.good
        have hiv := hid (inv_ok g)
        have hi1 := hid (fun W => his.out W M hM.out.ok true (iff_of_true rfl hm))
        have hi2 := hid (fun W => hin.out W M lL sS g hM.out.ok)
        clear g hm
        generalize inv M lL sS = IV at *
        go_wp2_with (first
          | ((with_reducible refine gate (N := 18) rfl ?_); refine load_mach rfl _ rfl b7 rfl M hS.out.m2 ?_)
          | (go_at_call 106; (with_reducible refine (hi1.out _).mono ?_); rintro e w7 ⟨rfl, hb⟩; replace hS := hid (hS.out.call hb); clear hb)
          | ((with_reducible refine gate (N := 20) rfl ?_); refine load_mach rfl _ rfl b7 rfl M hS.out.m2 ?_)
          | (go_at_call 177; (with_reducible refine (hi2.out _).mono ?_); rintro e w8 ⟨rfl, hb⟩; replace hS := hid (hS.out.call hb); clear hb)
          | ((with_reducible refine gateOp (op := .store 27 (.tmp 8) (.tmp 21)) rfl ?_); refine store_mach rfl _ _ rfl b8 rfl IV rfl 27 _ hS.out.f1.m0 ?_; intro w9 p3 ho hsz hbl; replace hS := hid (hS.out.f1.setM hle8.out p3 ho hbl); clear p3 ho hsz hbl))
        go_meet
        exact ⟨_, rfl, hiv, hS.out.f1⟩
      · have hi1 := hid (fun W => his.out W M hM.out.ok false (iff_of_false (by decide) hm))
        clear hm
        go_wp2_with (first
          | ((with_reducible refine gate (N := 18) rfl ?_); refine load_mach rfl _ rfl b7 rfl M hS.out.m2 ?_)
          | (go_at_call 106; (with_reducible refine (hi1.out _).mono ?_); rintro e w7 ⟨rfl, hb⟩; replace hS := hid (hS.out.call hb); clear hb))
        go_meet
        exact ⟨_, rfl, hid hM.out.ok, hS.out⟩
    · have d0 : ((z : Int) == 0) = false := by simp; omega
      by_cases z1 : z = 1
      · subst z1
        go_upto_region 9 with (fail)
        obtain ⟨d, hd, hd2⟩ : ∃ d : Nat, (if (3 : Int) < (if M.L < 2 then 2 else M.L) then (3 : Int) else (if M.L < 2 then 2 else M.L)) = (d : Int) ∧ (d = 2 ∨ d = 3) := by
          by_cases h3 : M.L ≤ 2
          · exact ⟨2, by (repeat' split) <;> omega, .inl rfl⟩
          · exact ⟨3, by (repeat' split) <;> omega, .inr rfl⟩
        replace hd := hid hd
        replace hS := hid hS.out.drew
        refine wp_region_heldL (L := [(9, (fun w' : World => MB w' 27 b7 M))]) (by kernel_rfl) (HeldL.cons (fun _ => hS.out.m2) HeldL.nil) (fun hHeld => ?_)
        generalize World.drew _ = wa at *
        refine wpAnyL_take0 (i := 0) (v := ?_) rfl (by kernel_rfl) (by kernel_rfl) (by kernel_rfl) (by rfl) (fun _ _ _ h => h) (Or.inl ⟨by rfl, ?_⟩) (by assumption) ?_
        rotate_left
        · (intro W _; go_simp; (with_reducible rfl))
        intro hHeld'
        clear hHeld; have hHeld := hHeld'; clear hHeld'
        try simp only [Act.put, List.getElem_toArray, List.getElem_cons_succ, List.getElem_cons_zero, List.setIfInBounds_toArray, List.set_cons_zero, List.set_cons_succ]
        refine wpAnyL_take0 (i := 1) (v := ?_) rfl (by kernel_rfl) (by kernel_rfl) (by kernel_rfl) (by rfl) (fun _ _ _ h => h) (Or.inl ⟨by rfl, ?_⟩) (by assumption) ?_
        rotate_left
        · (intro W _; go_simp; (with_reducible rfl))
        intro hHeld'
        clear hHeld; have hHeld := hHeld'; clear hHeld'
        try simp only [Act.put, List.getElem_toArray, List.getElem_cons_succ, List.getElem_cons_zero, List.setIfInBounds_toArray, List.set_cons_zero, List.set_cons_succ]
        refine wpAnyL_takeP (i := 2) 9 [] (v := (.int .i64 M.L)) (fun w' : World => MB w' 27 b7 M) rfl (by kernel_rfl) (by kernel_rfl) (by kernel_rfl) (by rfl) (by kernel_rfl) (by simp) (fun _ _ _ h => h) (Or.inl ⟨by rfl, ?_⟩) (by assumption) ?_
        · (intro W hW; (replace hW := hW.cL); go_simp)
        intro hHeld'
        clear hHeld; have hHeld := hHeld'; clear hHeld'
        try simp only [Act.put, List.getElem_toArray, List.getElem_cons_succ, List.getElem_cons_zero, List.setIfInBounds_toArray, List.set_cons_zero, List.set_cons_succ]
        refine wpAnyL_take0 (i := 3) (v := ?_) rfl (by kernel_rfl) (by kernel_rfl) (by kernel_rfl) (by rfl) (fun _ _ _ h => h) (Or.inl ⟨by rfl, ?_⟩) (by assumption) ?_
        rotate_left
        · (intro W _; go_simp; (with_reducible rfl))
        intro hHeld'
        clear hHeld; have hHeld := hHeld'; clear hHeld'
        try simp only [Act.put, List.getElem_toArray, List.getElem_cons_succ, List.getElem_cons_zero, List.setIfInBounds_toArray, List.set_cons_zero, List.set_cons_succ]
        refine wpAnyL_take0 (i := 4) (v := ?_) rfl (by kernel_rfl) (by kernel_rfl) (by kernel_rfl) (by rfl) (fun _ _ _ h => h) (Or.inl ⟨by rfl, ?_⟩) (by assumption) ?_
        rotate_left
        · (intro W _; go_simp; (with_reducible rfl))
        intro hHeld'
        clear hHeld; have hHeld := hHeld'; clear hHeld'
        try simp only [Act.put, List.getElem_toArray, List.getElem_cons_succ, List.getElem_cons_zero, List.setIfInBounds_toArray, List.set_cons_zero, List.set_cons_succ]
        refine wpAnyL_take0 (i := 5) (v := ?_) rfl (by kernel_rfl) (by kernel_rfl) (by kernel_rfl) (by rfl) (fun _ _ _ h => h) (Or.inl ⟨by rfl, ?_⟩) (by assumption) ?_
        rotate_left
        · (intro W _; go_simp; (with_reducible rfl))
        intro hHeld'
        clear hHeld; have hHeld := hHeld'; clear hHeld'
        try simp only [Act.put, List.getElem_toArray, List.getElem_cons_succ, List.getElem_cons_zero, List.setIfInBounds_toArray, List.set_cons_zero, List.set_cons_succ]
        refine wpAnyL_ready (rs := [6]) (by kernel_rfl) (by simp) ?_
        refine AllReadyL.cons rfl (fun K hK => ?_) AllReadyL.nil
        go_simp
        (with_reducible refine (D.out.next 5 (by omega) hS.out).mono ?_)
        rintro e w7 ⟨y, rfl, hy, hS'⟩
        replace hS := hid hS'
        clear hS'
        have hyy : (y : Int) < 5 := by omega
        have ew2 := hid (show IntKind.i64.wrap (1 + (y : Int)) = 1 + (y : Int) by unfold IntKind.wrap; simp [IntKind.signed, IntKind.bits]; omega)
        go_simp
        refine hK.out _ _ (HeldL.cons (fun _ => hS.out.m2) HeldL.nil) (fun hHeld' => ?_)
        clear hK K hHeld; have hHeld := hHeld'; clear hHeld'
        try simp only [Act.put, List.getElem_toArray, List.getElem_cons_succ, List.getElem_cons_zero, List.setIfInBounds_toArray, List.set_cons_zero, List.set_cons_succ]
        refine wpAnyL_take0 (i := 7) (v := (.int .i64 ((1 + y : Nat) : Int))) rfl (by kernel_rfl) (by kernel_rfl) (by kernel_rfl) (by rfl) (fun _ _ _ h => h) (Or.inl ⟨by rfl, ?_⟩) (by assumption) ?_
        · (intro W _; go_simp; exact ew2.out)
        intro hHeld'
        clear hHeld; have hHeld := hHeld'; clear hHeld'
        try simp only [Act.put, List.getElem_toArray, List.getElem_cons_succ, List.getElem_cons_zero, List.setIfInBounds_toArray, List.set_cons_zero, List.set_cons_succ]
        refine wpAnyL_ready (rs := [8]) (by kernel_rfl) (by simp) ?_
        refine AllReadyL.cons rfl (fun K hK => ?_) AllReadyL.nil
        go_simp
        rw [hd.out, show (1 + (y : Int)) = ((1 + y : Nat) : Int) by omega]
        (with_reducible refine (D.out.any d (1 + y) hd2 (by omega) hS.out).mono ?_)
        rintro e w8 ⟨M3, rfl, hM3, hS'⟩
        replace hS := hid hS'
        clear hS'
        go_simp
        refine hK.out _ _ (HeldL.cons (fun _ => hS.out.m2) HeldL.nil) (fun hHeld' => ?_)
        clear hK K hHeld; have hHeld := hHeld'; clear hHeld'
        try simp only [Act.put, List.getElem_toArray, List.getElem_cons_succ, List.getElem_cons_zero, List.setIfInBounds_toArray, List.set_cons_zero, List.set_cons_succ]
        refine wpAnyL_ready (rs := [9]) (by kernel_rfl) (by simp) ?_
        refine AllReadyL.cons rfl (fun K hK => ?_) AllReadyL.nil
        refine step_store_mach rfl _ _ rfl _ rfl M3 rfl _ _ hS.out.m1 ?_
        intro W9 p2 ho hbl
        replace hS := hid (hS.out.f1.setM hle8.out p2 ho hbl)
        clear p2 ho hbl
        refine hK.out _ _ (HeldL.cons (fun h => absurd h (by decide +kernel)) HeldL.nil) (fun hHeld' => ?_)
        clear hK K hHeld; have hHeld := hHeld'; clear hHeld'
        try simp only [Act.put, List.getElem_toArray, List.getElem_cons_succ, List.getElem_cons_zero, List.setIfInBounds_toArray, List.set_cons_zero, List.set_cons_succ]
        refine wpAnyL_done (by kernel_rfl) ?_ _
        go_wp2
        all_goals go_meet
        all_goals exact ⟨_, rfl, hid hM3.out.1, hS.out.f1⟩
      · have d1 : ((z : Int) == 1) = false := by simp; omega
        by_cases z2 : z = 2
        · subst z2
          go_upto_if 37 with (
            (go_at_call 133; (with_reducible refine (D.out.next 3 (by omega) hS.out).mono ?_); rintro e w7 ⟨y, rfl, hy, hS'⟩; replace hS := hid hS'; clear hS'))
          by_cases y0 : y = 0
          · subst y0
            go_wp2_with (first
              | (go_at_call 103; (with_reducible refine (D.out.spoil hS.out).mono ?_); rintro e w8 ⟨M3, rfl, hM3, hS'⟩; replace hS := hid hS'; clear hS')
              | ((with_reducible refine gateOp (op := .store 27 (.tmp 8) (.tmp 39)) rfl ?_); refine store_mach rfl _ _ rfl b8 rfl M3 rfl 27 _ hS.out.f1.m0 ?_; intro w9 p3 ho hsz hbl; replace hS := hid (hS.out.f1.setM hle8.out p3 ho hbl); clear p3 ho hsz hbl))
            go_meet
            exact ⟨_, rfl, hid hM3.out.ok, hS.out.f1⟩
          · have e0 : ((y : Int) == 0) = false := by simp; omega
            go_wp2
            go_meet
            exact ⟨_, rfl, hid hM.out.ok, hS.out⟩
        · have d2 : ((z : Int) == 2) = false := by simp; omega
          go_wp2
          go_meet
          exact ⟨_, rfl, hid hM.out.ok, hS.out⟩
  case rest =>
    obtain ⟨M2, rfl, hK, hcut⟩ := hcut
    replace hS := hid hcut
    clear hcut
    go_upto_region 13 with (fail)
    replace hS := hid hS.out.drew
    refine wp_region_heldL (L := [(10, (fun w' : World => MB w' 27 b7 M ∧ MB w' 27 b8 M2))]) (by kernel_rfl) (HeldL.cons (fun _ => ⟨hS.out.m2, hS.out.m1⟩) HeldL.nil) (fun hHeld => ?_)
    generalize World.drew _ = wa at *
    refine wpAnyL_takeP (i := 0) 10 [] (v := (.agg (mcells M))) (fun w' : World => MB w' 27 b7 M ∧ MB w' 27 b8 M2) rfl (by kernel_rfl) (by kernel_rfl) (by kernel_rfl) (by rfl) (by kernel_rfl) (by simp) (fun _ _ _ h => h) (Or.inl ⟨by rfl, ?_⟩) (by assumption) ?_
    · (intro W hW; exact exec_load _ rfl rfl (load_run hW.1))
    intro hHeld'
    clear hHeld; have hHeld := hHeld'; clear hHeld'
    try simp only [Act.put, List.getElem_toArray, List.getElem_cons_succ, List.getElem_cons_zero, List.setIfInBounds_toArray, List.set_cons_zero, List.set_cons_succ]
    refine wpAnyL_take0 (i := 1) (v := ?_) rfl (by kernel_rfl) (by kernel_rfl) (by kernel_rfl) (by rfl) (fun _ _ _ h => h) (Or.inl ⟨by rfl, ?_⟩) (by assumption) ?_
    rotate_left
    · (intro W _; go_simp; (with_reducible rfl))
    intro hHeld'
    clear hHeld; have hHeld := hHeld'; clear hHeld'
    try simp only [Act.put, List.getElem_toArray, List.getElem_cons_succ, List.getElem_cons_zero, List.setIfInBounds_toArray, List.set_cons_zero, List.set_cons_succ]
    refine wpAnyL_takeP (i := 2) 10 [] (v := (.agg (mcells M))) (fun w' : World => MB w' 27 b7 M ∧ MB w' 27 b8 M2) rfl (by kernel_rfl) (by kernel_rfl) (by kernel_rfl) (by rfl) (by kernel_rfl) (by simp) (fun _ _ _ h => h) (Or.inl ⟨by rfl, ?_⟩) (by assumption) ?_
    · (intro W hW; exact exec_load _ rfl rfl (load_run hW.1))
    intro hHeld'
    clear hHeld; have hHeld := hHeld'; clear hHeld'
    try simp only [Act.put, List.getElem_toArray, List.getElem_cons_succ, List.getElem_cons_zero, List.setIfInBounds_toArray, List.set_cons_zero, List.set_cons_succ]
    refine wpAnyL_takeP (i := 4) 10 [] (v := (.agg (mcells M2))) (fun w' : World => MB w' 27 b7 M ∧ MB w' 27 b8 M2) rfl (by kernel_rfl) (by kernel_rfl) (by kernel_rfl) (by rfl) (by kernel_rfl) (by simp) (fun _ _ _ h => h) (Or.inl ⟨by rfl, ?_⟩) (by assumption) ?_
    · (intro W hW; exact exec_load _ rfl rfl (load_run hW.2))
    intro hHeld'
    clear hHeld; have hHeld := hHeld'; clear hHeld'
    try simp only [Act.put, List.getElem_toArray, List.getElem_cons_succ, List.getElem_cons_zero, List.setIfInBounds_toArray, List.set_cons_zero, List.set_cons_succ]
    refine wpAnyL_take0 (i := 5) (v := ?_) rfl (by kernel_rfl) (by kernel_rfl) (by kernel_rfl) (by rfl) (fun _ _ _ h => h) (Or.inl ⟨by rfl, ?_⟩) (by assumption) ?_
    rotate_left
    · (intro W _; go_simp; (with_reducible rfl))
    intro hHeld'
    clear hHeld; have hHeld := hHeld'; clear hHeld'
    try simp only [Act.put, List.getElem_toArray, List.getElem_cons_succ, List.getElem_cons_zero, List.setIfInBounds_toArray, List.set_cons_zero, List.set_cons_succ]
    refine wpAnyL_takeP (i := 6) 10 [8, 7] (v := (.agg (mcells M2))) (fun w' : World => MB w' 27 b7 M ∧ MB w' 27 b8 M2) rfl (by kernel_rfl) (by kernel_rfl) (by kernel_rfl) (by rfl) (by kernel_rfl) (by simp) (fun _ _ _ h => h) (Or.inl ⟨by rfl, ?_⟩) (by assumption) ?_
    · (intro W hW; exact exec_load _ rfl rfl (load_run hW.2))
    intro hHeld'
    clear hHeld; have hHeld := hHeld'; clear hHeld'
    try simp only [Act.put, List.getElem_toArray, List.getElem_cons_succ, List.getElem_cons_zero, List.setIfInBounds_toArray, List.set_cons_zero, List.set_cons_succ]
    refine wpAnyL_ready (rs := [3]) (by kernel_rfl) (by simp) ?_
    refine AllReadyL.cons rfl (fun K hK => ?_) AllReadyL.nil
    go_simp
    (with_reducible refine (D.out.state M hS.out).mono ?_)
    rintro e w7 ⟨q, rfl, hq, hS'⟩
    replace hS := hid hS'
    clear hS'
    go_simp
    refine hK.out _ _ (HeldL.cons (fun _ => ⟨hS.out.m2, hS.out.m1⟩) HeldL.nil) (fun hHeld' => ?_)
    clear hK K hHeld; have hHeld := hHeld'; clear hHeld'
    try simp only [Act.put, List.getElem_toArray, List.getElem_cons_succ, List.getElem_cons_zero, List.setIfInBounds_toArray, List.set_cons_zero, List.set_cons_succ]
    refine wpAnyL_ready (rs := [7]) (by kernel_rfl) (by simp) ?_
    refine AllReadyL.cons rfl (fun K hK => ?_) AllReadyL.nil
    go_simp
    (with_reducible refine (D.out.state M2 hS.out).mono ?_)
    rintro e w8 ⟨r, rfl, hr, hS'⟩
    replace hS := hid hS'
    clear hS'
    go_simp
    refine hK.out _ _ (HeldL.cons (fun _ => ⟨hS.out.m2, hS.out.m1⟩) HeldL.nil) (fun hHeld' => ?_)
    clear hK K hHeld; have hHeld := hHeld'; clear hHeld'
    try simp only [Act.put, List.getElem_toArray, List.getElem_cons_succ, List.getElem_cons_zero, List.setIfInBounds_toArray, List.set_cons_zero, List.set_cons_succ]
    refine wpAnyL_ready (rs := [8]) (by kernel_rfl) (by simp) ?_
    refine AllReadyL.cons rfl (fun K hK => ?_) AllReadyL.nil
    refine step_store_mach rfl _ _ rfl _ rfl M rfl _ _ hS.out.m4 ?_
    intro W9 p2 ho hbl
    replace hS := hid (hS.out.f4.setM (Nat.le_refl _) p2 ho hbl)
    clear p2 ho hbl
    refine hK.out _ _ (HeldL.cons (fun _ => ⟨hS.out.m3, hS.out.m2⟩) HeldL.nil) (fun hHeld' => ?_)
    clear hK K hHeld; have hHeld := hHeld'; clear hHeld'
    try simp only [Act.put, List.getElem_toArray, List.getElem_cons_succ, List.getElem_cons_zero, List.setIfInBounds_toArray, List.set_cons_zero, List.set_cons_succ]
    refine wpAnyL_take0 (i := 9) (v := ?_) rfl (by kernel_rfl) (by kernel_rfl) (by kernel_rfl) (by rfl) (fun _ _ _ h => h) (Or.inl ⟨by rfl, ?_⟩) (by assumption) ?_
    rotate_left
    · (intro W _; go_simp; (with_reducible rfl))
    intro hHeld'
    clear hHeld; have hHeld := hHeld'; clear hHeld'
    try simp only [Act.put, List.getElem_toArray, List.getElem_cons_succ, List.getElem_cons_zero, List.setIfInBounds_toArray, List.set_cons_zero, List.set_cons_succ]
    refine wpAnyL_ready (rs := [10]) (by kernel_rfl) (by simp) ?_
    refine AllReadyL.cons rfl (fun K hK => ?_) AllReadyL.nil
    refine step_store_mach rfl _ _ rfl _ rfl M2 rfl _ _ hS.out.m4 ?_
    intro W10 p2 ho hbl
    replace hS := hid (hS.out.f4.setM (Nat.le_succ _) p2 ho hbl)
    clear p2 ho hbl
    refine hK.out _ _ (HeldL.cons (fun h => absurd h (by decide +kernel)) HeldL.nil) (fun hHeld' => ?_)
    clear hK K hHeld; have hHeld := hHeld'; clear hHeld'
    try simp only [Act.put, List.getElem_toArray, List.getElem_cons_succ, List.getElem_cons_zero, List.setIfInBounds_toArray, List.set_cons_zero, List.set_cons_succ]
    refine wpAnyL_take0 (i := 11) (v := ?_) rfl (by kernel_rfl) (by kernel_rfl) (by kernel_rfl) (by rfl) (fun _ _ _ h => h) (Or.inl ⟨by rfl, ?_⟩) (by assumption) ?_
    rotate_left
    · (intro W _; go_simp; (with_reducible rfl))
    intro hHeld'
    clear hHeld; have hHeld := hHeld'; clear hHeld'
    try simp only [Act.put, List.getElem_toArray, List.getElem_cons_succ, List.getElem_cons_zero, List.setIfInBounds_toArray, List.set_cons_zero, List.set_cons_succ]
    refine wpAnyL_done (by kernel_rfl) ?_ _
    go_wp2
    exact ret_mvmv rfl rfl rfl rfl rfl hS.out.m1 hS.out.m0 rfl ⟨M, q, M2, r, rfl, hid ⟨hM.out.ok, hK.out, hq.out, hr.out⟩, hS.out.bel⟩
set_option maxHeartbeats 4000000 in
set_option maxRecDepth 100000 in
theorem drPos_any (w : World) (v : Value) (l : List Nat) (hv : ArgB w v l) (hl : l.length ≤ 4096) :
    Calls Try.prog 89 #[v] w fun e w' => ∃ (m : Mach) (q : Int) (k : Mach) (r : Int), e = .returned (.tuple #[.agg (mcells m), .int .i64 q, .agg (mcells k), .int .i64 r]) ∧ Hid (m.Ok ∧ k.Ok ∧ I64 q ∧ I64 r) ∧ Below w.heap.size w w' := by
  have hz := zeroM_run
  have hS := hid (((St.start w).newMB zeroM 27).newMB zeroM 27)
  rw [heap_alloc_size] at hS
  have hdr := hid (fun W (hW : Below w.heap.size w W) => l07Draw_any W v l (hv.below hW) hl)
  have hz2 := hid (fun L W (h : St w.heap.size w L W) => (h.newMB zeroM 27).newMB zeroM 27)
  replace hv := hid hv
  obtain ⟨A, c, rfl, _⟩ := hv.out
  go_enter Try.func89, Try.ntmps89
  go_upto_region 2 with (first
    | (go_at_call 200; (with_reducible refine (hdr.out _ hS.out.bel).mono ?_); rintro e w1 ⟨M, q, K2, r, rfl, hM, hb⟩; have hle := hid (hS.out.call hb).le; replace hS := hid (hz2.out _ _ (hS.out.call hb)); rw [heap_alloc_size] at hS; clear hb)
    | ((with_reducible refine gateOp (op := .store 27 (.tmp 6) (.tmp 13)) rfl ?_); refine store_mach rfl _ _ rfl w1.heap.size rfl M rfl 27 _ hS.out.f1.m0 ?_; intro w2 p3 ho hsz hbl; replace hS := hid (hS.out.f1.setM hle.out p3 ho hbl); clear p3 ho hsz hbl)
    | ((with_reducible refine gateOp (op := .store 27 (.tmp 8) (.tmp 15)) rfl ?_); refine store_mach rfl _ _ rfl (w1.heap.size + 1) rfl K2 rfl 27 _ hS.out.f1.m0 ?_; intro w3 p3 ho hsz hbl; replace hS := hid (hS.out.f1.setM (Nat.le_succ_of_le hle.out) p3 ho hbl); clear p3 ho hsz hbl))
  generalize w1.heap.size = b6 at *
  replace hS := hid hS.out.drew
  refine wp_region_heldL (L := [(6, (fun w' : World => MB w' 27 b6 M ∧ MB w' 27 (b6 + 1) K2))]) (by kernel_rfl) (HeldL.cons (fun _ => ⟨hS.out.m1, hS.out.m0⟩) HeldL.nil) (fun hHeld => ?_)
  generalize World.drew _ = wa at *
  refine wpAnyL_takeP (i := 0) 6 [] (v := (.agg (mcells M))) (fun w' : World => MB w' 27 b6 M ∧ MB w' 27 (b6 + 1) K2) rfl (by kernel_rfl) (by kernel_rfl) (by kernel_rfl) (by rfl) (by kernel_rfl) (by simp) (fun _ _ _ h => h) (Or.inl ⟨by rfl, ?_⟩) (by assumption) ?_
  · (intro W hW; exact exec_load _ rfl rfl (load_run hW.1))
  intro hHeld'
  clear hHeld; have hHeld := hHeld'; clear hHeld'
  try simp only [Act.put, List.getElem_toArray, List.getElem_cons_succ, List.getElem_cons_zero, List.setIfInBounds_toArray, List.set_cons_zero, List.set_cons_succ]
  refine wpAnyL_take0 (i := 1) (v := ?_) rfl (by kernel_rfl) (by kernel_rfl) (by kernel_rfl) (by rfl) (fun _ _ _ h => h) (Or.inl ⟨by rfl, ?_⟩) (by assumption) ?_
  rotate_left
  · (intro W _; go_simp; (with_reducible rfl))
  intro hHeld'
  clear hHeld; have hHeld := hHeld'; clear hHeld'
  try simp only [Act.put, List.getElem_toArray, List.getElem_cons_succ, List.getElem_cons_zero, List.setIfInBounds_toArray, List.set_cons_zero, List.set_cons_succ]
  refine wpAnyL_takeP (i := 2) 6 [] (v := (.agg (mcells K2))) (fun w' : World => MB w' 27 b6 M ∧ MB w' 27 (b6 + 1) K2) rfl (by kernel_rfl) (by kernel_rfl) (by kernel_rfl) (by rfl) (by kernel_rfl) (by simp) (fun _ _ _ h => h) (Or.inl ⟨by rfl, ?_⟩) (by assumption) ?_
  · (intro W hW; exact exec_load _ rfl rfl (load_run hW.2))
  intro hHeld'
  clear hHeld; have hHeld := hHeld'; clear hHeld'
  try simp only [Act.put, List.getElem_toArray, List.getElem_cons_succ, List.getElem_cons_zero, List.setIfInBounds_toArray, List.set_cons_zero, List.set_cons_succ]
  refine wpAnyL_take0 (i := 3) (v := ?_) rfl (by kernel_rfl) (by kernel_rfl) (by kernel_rfl) (by rfl) (fun _ _ _ h => h) (Or.inl ⟨by rfl, ?_⟩) (by assumption) ?_
  rotate_left
  · (intro W _; go_simp; (with_reducible rfl))
  intro hHeld'
  clear hHeld; have hHeld := hHeld'; clear hHeld'
  try simp only [Act.put, List.getElem_toArray, List.getElem_cons_succ, List.getElem_cons_zero, List.setIfInBounds_toArray, List.set_cons_zero, List.set_cons_succ]
  refine wpAnyL_ready (rs := [4]) (by kernel_rfl) (by simp) ?_
  refine AllReadyL.cons rfl (fun K hK => ?_) AllReadyL.nil
  refine step_store_mach rfl _ _ rfl _ rfl M rfl _ _ hS.out.m3 ?_
  intro W9 p2 ho hbl
  replace hS := hid (hS.out.f3.setM (Nat.le_refl _) p2 ho hbl)
  clear p2 ho hbl
  refine hK.out _ _ (HeldL.cons (fun _ => ⟨hS.out.m2, hS.out.m1⟩) HeldL.nil) (fun hHeld' => ?_)
  clear hK K hHeld; have hHeld := hHeld'; clear hHeld'
  try simp only [Act.put, List.getElem_toArray, List.getElem_cons_succ, List.getElem_cons_zero, List.setIfInBounds_toArray, List.set_cons_zero, List.set_cons_succ]
  refine wpAnyL_take0 (i := 5) (v := ?_) rfl (by kernel_rfl) (by kernel_rfl) (by kernel_rfl) (by rfl) (fun _ _ _ h => h) (Or.inl ⟨by rfl, ?_⟩) (by assumption) ?_
  rotate_left
  · (intro W _; go_simp; (with_reducible rfl))
  intro hHeld'
  clear hHeld; have hHeld := hHeld'; clear hHeld'
  try simp only [Act.put, List.getElem_toArray, List.getElem_cons_succ, List.getElem_cons_zero, List.setIfInBounds_toArray, List.set_cons_zero, List.set_cons_succ]
  refine wpAnyL_ready (rs := [6]) (by kernel_rfl) (by simp) ?_
  refine AllReadyL.cons rfl (fun K hK => ?_) AllReadyL.nil
  refine step_store_mach rfl _ _ rfl _ rfl K2 rfl _ _ hS.out.m3 ?_
  intro W10 p2 ho hbl
  replace hS := hid (hS.out.f3.setM (Nat.le_succ _) p2 ho hbl)
  clear p2 ho hbl
  refine hK.out _ _ (HeldL.cons (fun h => absurd h (by decide +kernel)) HeldL.nil) (fun hHeld' => ?_)
  clear hK K hHeld; have hHeld := hHeld'; clear hHeld'
  try simp only [Act.put, List.getElem_toArray, List.getElem_cons_succ, List.getElem_cons_zero, List.setIfInBounds_toArray, List.set_cons_zero, List.set_cons_succ]
  refine wpAnyL_take0 (i := 7) (v := ?_) rfl (by kernel_rfl) (by kernel_rfl) (by kernel_rfl) (by rfl) (fun _ _ _ h => h) (Or.inl ⟨by rfl, ?_⟩) (by assumption) ?_
  rotate_left
  · (intro W _; go_simp; (with_reducible rfl))
  intro hHeld'
  clear hHeld; have hHeld := hHeld'; clear hHeld'
  try simp only [Act.put, List.getElem_toArray, List.getElem_cons_succ, List.getElem_cons_zero, List.setIfInBounds_toArray, List.set_cons_zero, List.set_cons_succ]
  refine wpAnyL_done (by kernel_rfl) ?_ _
  go_wp2
  exact ret_mvmv rfl rfl rfl rfl rfl hS.out.m1 hS.out.m0 rfl ⟨M, q, K2, r, rfl, hM, hS.out.bel⟩
end Go.Proofs.Ythmcdfjijkecfaa

/- The dice of the great laws. -/
namespace Go.Proofs.Ythmcdfjijkecfaa
open Go.RowKit
set_option linter.unusedVariables false
set_option linter.unusedSimpArgs false
-- @LONG

/-- Dice: their code, how far it is read, their number. -/
def Asn.dic (S : Nat) (v : Value) (n : Nat) : Asn :=
  ⟨fun k => k = S, fun w => ∃ a h : Nat, w.heap[S]? = some (.cells #[v, .int .i64 a, .int .u64 h] 193 (0, 0)) ∧ a ≤ n ∧ h < 18446744073709551616,
   fun ⟨a, h, h1, h2⟩ hk => ⟨a, h, (hk S rfl).trans h1, h2⟩, fun ⟨a, h, h1, _⟩ k hk => hk ▸ (Array.getElem?_eq_some_iff.1 h1).1⟩
theorem St.dicBlk {base S n : Nat} {w0 w : World} {L : List Asn} {v : Value} (h : St base w0 (Asn.dic S v n :: L) w) : ∃ a x : Nat, a ≤ n ∧ x < 18446744073709551616 ∧ St base w0 (Asn.blk S #[v, .int .i64 a, .int .u64 x] 193 :: L) w := by
  obtain ⟨⟨a, x, h1, h2, h3⟩, hf, hL⟩ := h.star
  exact ⟨a, x, h2, h3, h.bel, h.le, h1, hf, hL⟩
theorem St.blkDic {base S n a x : Nat} {w0 w : World} {L : List Asn} {v : Value} (h : St base w0 (Asn.blk S #[v, .int .i64 a, .int .u64 x] 193 :: L) w) (ha : a ≤ n) (hx : x < 18446744073709551616) : St base w0 (Asn.dic S v n :: L) w :=
  ⟨h.bel, h.le, ⟨a, x, h.star.1, ha, hx⟩, h.star.2.1, h.star.2.2⟩
set_option maxHeartbeats 2000000 in
set_option maxRecDepth 100000 in
theorem below_any (w0 : World) (L : List Asn) (w : World) (S : Nat) (v : Value) (l : List Nat) (hv : ArgB w0 v l) (hl : l.length ≤ 4096) (hSb : w0.heap.size ≤ S) (n : Int) (hn : n < 9223372036854775808)
    (hS : St w0.heap.size w0 (Asn.dic S v l.length :: L) w) :
    Calls Try.prog 112 #[.pointer (some ⟨S, 0, none⟩), .int .i64 n] w fun e w' => ∃ r : Int, e = .returned (.int .i64 r) ∧ 0 ≤ r ∧ (r < n ∨ r = 0) ∧ St w0.heap.size w0 (Asn.dic S v l.length :: L) w' := by
  have hv' := hid hv
  obtain ⟨A, c, rfl, hA⟩ := hv
  obtain ⟨a, x, ha, hx, hB⟩ := hS.dicBlk
  by_cases h1 : n < 1
  · have d1 : decide (n < 1) = true := decide_eq_true h1
    replace hS := hid hS
    clear hB
    go_enter Try.func112, Try.ntmps112
    go_wp2
    go_ret
    exact ⟨0, rfl, by omega, .inr rfl, hS.out⟩
  · have d1 : decide (n < 1) = false := decide_eq_false h1
    have c2 := (show w.cell? ⟨S, 2, none⟩ = some (.int .u64 x) from cell_of_row _ _ 2 _ _ _ hB.k0)
    have f2 := frozen_of_row _ _ 2 _ _ hB.k0
    replace hB := hid hB
    clear hS
    go_enter Try.func112, Try.ntmps112
    go_upto_region 4 with (fail)
    obtain ⟨y, hy, hy2⟩ := u64_nat (IntKind.u64.wrap ((x : Int) * 6364136223846793005) + 1442695040888963407)
    rw [hy]
    clear hy
    replace hB := hid (show St w0.heap.size w0 (Asn.blk S #[.slice A l.length c, .int .i64 a, .int .u64 y] 193 :: L) _ from hB.out.setBlk hSb 2 (.int .u64 y))
    clear c2 f2
    generalize w.setCell _ _ = w1 at *
    have c2 := (show w1.cell? ⟨S, 2, none⟩ = some (.int .u64 y) from cell_of_row _ _ 2 _ _ _ hB.out.k0)
    have c1 := (show w1.cell? ⟨S, 1, none⟩ = some (.int .i64 a) from cell_of_row _ _ 1 _ _ _ hB.out.k0)
    have c0 := (show w1.cell? ⟨S, 0, none⟩ = some (.slice A l.length c) from cell_of_row _ _ 0 _ _ _ hB.out.k0)
    have f1 := frozen_of_row _ _ 1 _ _ hB.out.k0
    go_upto_region 5 with (fail)
    obtain ⟨z, hz, hz2⟩ := and24 y hy2
    rw [hz]
    clear hz
    rw [w64 (show -9223372036854775808 ≤ (z : Int) by omega) (show (z : Int) ≤ 9223372036854775807 by omega)]
    have dz : ¬ n = 0 := by omega
    by_cases hlt : a < l.length
    · have da : decide ((a : Int) < (l.length : Int)) = true := decide_eq_true (by omega)
      obtain ⟨g, rfl, hc⟩ : ∃ g : Addr, A = some g ∧ ∀ i x, l[i]? = some x → x < 256 ∧ w0.cell? (g.add i) = some (.int .u8 (x : Nat)) ∧ (g.add i).block < w0.heap.size := by
        rcases hA with ⟨_, h⟩ | ⟨g, h, hh⟩
        · rw [h] at hlt; simp at hlt
        · exact ⟨g, h, hh⟩
      obtain ⟨b, hb⟩ : ∃ b, l[a]? = some b := ⟨_, List.getElem?_eq_getElem hlt⟩
      obtain ⟨hb1, hb2, hb3⟩ := hc a b hb
      have cb := (hB.out.bel.cell hb3).trans hb2
      have a0 : (0 : Int) ≤ (a : Int) := Int.natCast_nonneg _
      have a1 : (a : Int) < (l.length : Int) := by omega
      have ew : wrap64 ((z : Int) + (b : Int)) = (z : Int) + b := w64 (by omega) (by omega)
      have ew1 : wrap64 ((a : Int) + 1) = (a : Int) + 1 := w64 (by omega) (by omega)
      have ewb : wrap64 (b : Int) = (b : Int) := w64 (by omega) (by omega)
      have hr1 := Int.emod_nonneg ((z : Int) + b) (show n ≠ 0 by omega)
      have hr2 := Int.emod_lt_of_pos ((z : Int) + b) (show 0 < n by omega)
      have m1 : Int.tmod ((z : Int) + (b : Int)) n = ((z : Int) + b) % n := Int.tmod_eq_emod_of_nonneg (Int.add_nonneg (Int.natCast_nonneg _) (Int.natCast_nonneg _))
      clear hA hc hb hb2 hb3
      replace hy2 := hid hy2; replace hx := hid hx; replace hn := hid hn; replace hz2 := hid hz2
      go_quiet (fail)
      go_upto_region 6 with (fail)
      go_quiet (fail)
      rw [ew]
      obtain ⟨w3, hw3, hB3⟩ : ∃ w3, (World.drewN (World.drewN w1 _) nq) = w3 ∧ St w0.heap.size w0 (Asn.blk S #[.slice (some g) l.length c, .int .i64 a, .int .u64 y] 193 :: L) w3 := ⟨_, rfl, (hB.out.drewN _).drewN _⟩
      rw [hw3]
      replace hB := hid hB3
      clear hw3 hB3 c0 c1 c2 f1 cb
      have c1 := (show w3.cell? ⟨S, 1, none⟩ = some (.int .i64 a) from cell_of_row _ _ 1 _ _ _ hB.out.k0)
      have f1 := frozen_of_row _ _ 1 _ _ hB.out.k0
      go_upto_region 8 with (fail)
      replace hB := hid (show St w0.heap.size w0 (Asn.blk S #[.slice (some g) l.length c, .int .i64 ((a : Int) + 1), .int .u64 y] 193 :: L) _ from hB.out.setBlk hSb 1 (.int .i64 ((a : Int) + 1)))
      generalize w3.setCell _ _ = w4 at *
      have ea : (a : Int) + 1 = ((a + 1 : Nat) : Int) := rfl
      rw [ea] at hB
      clear c1 f1 ew ew1 ewb
      go_wp2
      go_ret
      exact ⟨((z : Int) + b) % n, by first | rfl | (rw [m1]), hr1, .inl hr2, (hB.out.blkDic (by omega) hy2.out)⟩
    · have da : decide ((a : Int) < (l.length : Int)) = false := decide_eq_false (by omega)
      have hr1 := Int.emod_nonneg (z : Int) (show n ≠ 0 by omega)
      have hr2 := Int.emod_lt_of_pos (z : Int) (show 0 < n by omega)
      have m1 : Int.tmod (z : Int) n = (z : Int) % n := Int.tmod_eq_emod_of_nonneg (Int.natCast_nonneg _)
      go_quiet (fail)
      go_wp2
      go_ret
      exact ⟨(z : Int) % n, by first | rfl | (rw [m1]), hr1, .inl hr2, ((hB.out.drewN _).blkDic ha hy2)⟩
theorem built_dice (A : Option Addr) (n c : Nat) (x : Int) : Try.prog.built 193 [(0, .slice A n c), (2, .int .u64 x)] = some #[.slice A n c, .int .i64 0, .int .u64 x] := by kernel_rfl
set_option maxHeartbeats 2000000 in
set_option maxRecDepth 100000 in
theorem roll_any (w : World) (v : Value) (l : List Nat) (hv : ArgB w v l) (hl : l.length ≤ 4096) (sd : Int) :
    Calls Try.prog 111 #[v, .int .u64 sd] w fun e w' => e = .returned (.pointer (some ⟨w.heap.size, 0, none⟩)) ∧ St w.heap.size w [Asn.dic w.heap.size v l.length] w' := by
  have hv' := hid hv
  obtain ⟨A, c, rfl, hA⟩ := hv
  have hbs := fun (x : Int) => built_dice A l.length c x
  have hby := hid (fun i (hi : i < l.length) => (show ∃ (g : Addr) (b : Nat), A = some g ∧ b < 256 ∧ w.cell? (g.add i) = some (.int .u8 (b : Nat)) ∧ (g.add i).block < w.heap.size from by
    rcases hA with ⟨_, h⟩ | ⟨g, h, hh⟩
    · rw [h] at hi; simp at hi
    · obtain ⟨h1, h2, h3⟩ := hh i _ (List.getElem?_eq_getElem hi)
      exact ⟨g, _, h, h1, h2, h3⟩))
  clear hA
  have hux := hid u64_nat
  generalize hn : l.length = n at *
  go_enter Try.func111, Try.ntmps111
  go_upto_region 2 with (fail)
  obtain ⟨y0, hy0, hy02⟩ := hux.out (IntKind.u64.wrap (sd * 6257) + (n : Int))
  rw [hy0]
  have hS1 := hid ((show St w.heap.size w [Asn.blk w.heap.size #[.slice A n c, .int .i64 ((0 : Nat) : Int), .int .u64 ((y0 : Nat) : Int)] 193] _ from (St.start w).newBlk #[.slice A n c, .int .i64 0, .int .u64 (y0 : Nat)] 193).blkDic (n := n) (Nat.zero_le _) hy02)
  generalize World.alloc w _ = w1 at *
  clear hbs hy0
  replace hy02 := hid hy02
  go_wp2
  go_loopw [6] (fun i wr => ∃ k : Nat, k ≤ n ∧ i = .int .i64 k ∧ St w.heap.size w [Asn.dic w.heap.size (.slice A n c) n] wr) (fun i _ => n - (intOf i).toNat)
  case atStart => exact ⟨0, Nat.zero_le _, rfl, hS1.out⟩
  case round =>
    obtain ⟨k, hk, rfl, rS⟩ := hrel
    clear hS1
    by_cases hlt : k < n
    · have dk : decide ((k : Int) < (n : Int)) = true := decide_eq_true (by omega)
      obtain ⟨a, x, ha, hx, hB⟩ := rS.dicBlk
      obtain ⟨g, b, rfl, hb, hb2, hb3⟩ := hby.out k hlt
      have cb := (hB.bel.cell hb3).trans hb2
      have c2 := (show wr.cell? ⟨w.heap.size, 2, none⟩ = some (.int .u64 x) from cell_of_row _ _ 2 _ _ _ hB.k0)
      have f2 := frozen_of_row _ _ 2 _ _ hB.k0
      have k0 : (0 : Int) ≤ (k : Int) := Int.natCast_nonneg _
      have k1 : (k : Int) < (n : Int) := by omega
      replace hB := hid hB; replace hx := hid hx
      clear rS hb2 hb3
      go_upto_region 5 with (fail)
      go_region
      obtain ⟨y, hy, hy2⟩ := u64_nat (IntKind.u64.wrap (IntKind.u64.wrap ((x : Int) * 1099511628211) + (b : Int)) + 5)
      rw [hy]
      replace hB := hid ((show St w.heap.size w [Asn.blk w.heap.size #[.slice (some g) n c, .int .i64 a, .int .u64 y] 193] _ from hB.out.setBlk (Nat.le_refl _) 2 (.int .u64 y)).drew)
      generalize World.drew _ = w5 at *
      clear hy c2 f2 cb
      replace hy2 := hid hy2
      go_wp2
      go_roundw
      case rel => exact ⟨k + 1, by omega, by go_num, hB.out.blkDic ha hy2.out⟩
      case measure => simp [intOf]; omega
    · obtain rfl : k = n := by omega
      have dk : decide ((k : Int) < (k : Int)) = false := decide_eq_false (by omega)
      replace rS := hid rS
      go_wp2
      go_ret
      exact ⟨rfl, rS.out⟩
end Go.Proofs.Ythmcdfjijkecfaa

/- Equal lists of numbers, sums, words of dice. -/
namespace Go.Proofs.Ythmcdfjijkecfaa
open Go.RowKit
set_option linter.unusedVariables false
set_option linter.unusedSimpArgs false
-- @LONG

set_option maxHeartbeats 2000000 in
set_option maxRecDepth 100000 in
theorem likeInts_any (w : World) (b1 b2 : Nat) (v1 v2 : Value) (M : List Int) (h1 : Own w b1 2 v1 (ints M)) (h2 : Own w b2 2 v2 (ints M)) (hl : M.length ≤ 1000000) :
    Calls Try.prog 15 #[v1, v2] w fun e w' => e = .returned (.bool true) ∧ Below w.heap.size w w' := by
  obtain ⟨A1, c1, rfl, _, hA1⟩ := h1.form
  obtain ⟨A2, c2, rfl, _, hA2⟩ := h2.form
  rw [ints_length] at *
  have hg := hid (fun k (hk : k < M.length) => (show ∃ (x : Int) (g1 g2 : Nat), A1 = some ⟨g1, 0, none⟩ ∧ A2 = some ⟨g2, 0, none⟩ ∧ w.cell? ⟨g1, k, none⟩ = some (.int .i64 x) ∧ w.cell? ⟨g2, k, none⟩ = some (.int .i64 x) ∧ g1 < w.heap.size ∧ g2 < w.heap.size from by
    have hx : (ints M)[k]? = some (.int .i64 M[k]) := by simp [ints, hk]
    rcases hA1 with ⟨_, h, _⟩ | ⟨g1, e1, _, l1, q1⟩
    · rw [h] at hx; simp at hx
    · rcases hA2 with ⟨_, h, _⟩ | ⟨g2, e2, _, l2, q2⟩
      · rw [h] at hx; simp at hx
      · exact ⟨_, g1, g2, e1, e2, q1 k _ hx, q2 k _ hx, l1, l2⟩))
  clear hA1 hA2 h1 h2
  generalize M.length = n at *
  go_enter Try.func15, Try.ntmps15
  go_wp2
  go_loopw [5] (fun i wr => ∃ k : Nat, k ≤ n ∧ i = .int .i64 k ∧ Below w.heap.size w wr) (fun i _ => n - (intOf i).toNat)
  case atStart => exact ⟨0, Nat.zero_le _, rfl, Below.refl _ _⟩
  case round =>
    obtain ⟨k, hk, rfl, rB⟩ := hrel
    by_cases hlt : k < n
    · have dk : decide ((k : Int) < (n : Int)) = true := decide_eq_true (by omega)
      obtain ⟨x, g1, g2, rfl, rfl, q1, q2, l1, l2⟩ := hg.out k hlt
      have d1 := (rB.cell (p := ⟨g1, k, none⟩) l1).trans q1
      have d2 := (rB.cell (p := ⟨g2, k, none⟩) l2).trans q2
      have k0 : (0 : Int) ≤ (k : Int) := Int.natCast_nonneg _
      have k1 : (k : Int) < (n : Int) := by omega
      replace rB := hid rB
      go_upto_region 6 with (fail)
      go_quiet (fail)
      go_wp2
      go_roundw
      case rel => exact ⟨k + 1, by omega, by go_num, below_drewN rB.out _⟩
      case measure => simp [intOf]; omega
    · obtain rfl : k = n := by omega
      have dk : decide ((k : Int) < (k : Int)) = false := decide_eq_false (by omega)
      go_wp2
      go_ret
      exact ⟨rfl, rB⟩
set_option maxHeartbeats 1000000 in
set_option maxRecDepth 100000 in
theorem sum_any (w : World) (b1 : Nat) (v1 : Value) (M : List Int) (h1 : Own w b1 2 v1 (ints M)) (hl : M.length ≤ 100000) (hr : ∀ x ∈ M, 0 ≤ x ∧ x ≤ 1000000000) :
    Calls Try.prog 47 #[v1] w fun e w' => e = .returned (.int .i64 M.sum) ∧ w = w' := by
  obtain ⟨A1, c1, rfl, _, hA1⟩ := h1.form
  rw [ints_length] at *
  have hg := hid (fun k (hk : k < M.length) => (show ∃ (x : Int) (g1 : Nat), A1 = some ⟨g1, 0, none⟩ ∧ M[k]? = some x ∧ w.cell? ⟨g1, k, none⟩ = some (.int .i64 x) ∧ (M.take (k + 1)).sum = (M.take k).sum + x from by
    have hx : (ints M)[k]? = some (.int .i64 M[k]) := by simp [ints, hk]
    have hy : M[k]? = some M[k] := List.getElem?_eq_getElem hk
    rcases hA1 with ⟨_, h, _⟩ | ⟨g1, e1, _, l1, q1⟩
    · rw [h] at hx; simp at hx
    · exact ⟨_, g1, e1, hy, q1 k _ hx, by rw [List.take_add_one, hy, List.sum_append]; simp⟩))
  have hbd := hid (fun k (hk : k ≤ M.length) => (show 0 ≤ (M.take k).sum ∧ (M.take k).sum ≤ k * 1000000000 from by
    induction k with
    | zero => simp
    | succ k ih =>
      obtain ⟨x, _, _, hx, _, e⟩ := hg.out k (by omega)
      have h1 := hr x (List.mem_of_getElem? hx)
      have h2 := ih (by omega)
      rw [e]; omega))
  have hfu := hid (show M.sum = (M.take M.length).sum by rw [List.take_length])
  rw [hfu.out]
  obtain ⟨F, hF⟩ : ∃ F : Nat → Int, F = fun k => (M.take k).sum := ⟨_, rfl⟩
  have hF' := hid (fun k => (show (M.take k).sum = F k by rw [hF]))
  have hF0 := hid (show F 0 = 0 by rw [hF]; rfl)
  simp only [hF'.out] at hg hbd ⊢
  clear hA1 h1 hfu hF hr
  generalize M.length = n at *
  go_enter Try.func47, Try.ntmps47
  go_wp2
  go_loop [3, 4] (fun s i => ∃ k : Nat, k ≤ n ∧ i = .int .i64 k ∧ s = .int .i64 (F k)) (fun _ i => n - (intOf i).toNat)
  case atStart => exact ⟨0, Nat.zero_le _, rfl, by rw [hF0.out]⟩
  case round =>
    obtain ⟨k, hk, rfl, rfl⟩ := hrel
    by_cases hlt : k < n
    · have dk : decide ((k : Int) < (n : Int)) = true := decide_eq_true (by omega)
      obtain ⟨x, g1, rfl, _, q1, e⟩ := hg.out k hlt
      have k0 : (0 : Int) ≤ (k : Int) := Int.natCast_nonneg _
      have k1 : (k : Int) < (n : Int) := by omega
      have h2 := hbd.out (k + 1) hlt
      have ew : wrap64 (F k + x) = F k + x := by rw [← e]; exact w64 (by omega) (by omega)
      replace e := hid e; replace h2 := hid h2
      go_wp2
      go_round
      case rel => exact ⟨k + 1, by omega, by go_num, by rw [e.out]; first | rfl | (rw [ew]) | (rw [IntWalk.i64_in _ (by have := h2.out; rw [e.out] at this; omega)])⟩
      case measure => simp [intOf]; omega
    · obtain rfl : k = n := by omega
      have dk : decide ((k : Int) < (k : Int)) = false := decide_eq_false (by omega)
      go_wp2
      go_ret
      exact ⟨rfl, rfl⟩
set_option maxHeartbeats 2000000 in
set_option maxRecDepth 100000 in
theorem word5_any (w : World) (v : Value) (l : List Nat) (hv : ArgB w v l) (hl : l.length ≤ 4096) (d n : Nat) (hd1 : 1 ≤ d) (hd : d ≤ 3) (hn : n ≤ 40) :
    Calls Try.prog 16 #[v, .int .i64 d, .int .i64 n] w fun e w' => ∃ u : List Nat, e = .returned (.string (wstr u)) ∧ u.length = n ∧ (∀ x ∈ u, x < d) ∧ Below w.heap.size w w' := by
  have hro := hid (roll_any w v l hv hl 1701)
  have hN := hid (fun W L hW => below_any w L W w.heap.size v l hv hl (Nat.le_refl _) (d : Int) (by omega) hW)
  replace hv := hid hv
  obtain ⟨A, c, rfl, _⟩ := hv.out
  go_enter Try.func16, Try.ntmps16
  go_upto_region 2 with (first
    | (go_at_call 111; (with_reducible refine (hro.out).mono ?_); rintro e w1 ⟨rfl, hS⟩; replace hS := hid hS))
  have hS0 := hid ((hS.out.newOwn [] 5 (by simp)).f1)
  clear hS
  go_wp2
  go_loopw [2, 8] (fun i o wr => ∃ (u : List Nat) (k : Nat), i = .int .i64 k ∧ u.length + k = n ∧ Hid (∀ x ∈ u, x < d) ∧ St w.heap.size w [Asn.dic w.heap.size (.slice A l.length c) l.length, Asn.own w.heap.size 5 o (wb u)] wr) (fun i _ _ => (intOf i).toNat)
  case atStart => exact ⟨[], n, rfl, by simp, hid (fun x hx => by cases hx), hS0.out⟩
  case round =>
    obtain ⟨u, k, rfl, hk3, hu, rS⟩ := hrel
    clear hS0
    replace rS := hid rS
    by_cases hlt : 0 < k
    · have dk : decide (0 < (k : Int)) = true := decide_eq_true (by omega)
      have hul : u.length ≤ 40 := by omega
      go_wp2_with (first
        | (go_at_call 112; (with_reducible refine (hN.out _ _ rS.out).mono ?_); rintro e w1 ⟨x, rfl, hx0, hx, hS'⟩; obtain ⟨x, rfl⟩ := Int.eq_ofNat_of_zero_le hx0; (have hx3 : x < d := by omega); (have e1 : wrap64 (48 + (x : Int)) = 48 + (x : Int) := w64 (by omega) (by omega)); replace rS := hid hS'.f1; clear hS' hx hN hx0)
        | ((with_reducible refine gate (N := 23) rfl ?_); (refine St.app 22 5 (.int .u8 0) 1 Try.underlying22 info_u8 rfl (by omega) rfl _ _ rfl _ _ rfl rS.out (.int .u8 (48 + (x : Int))) rfl rfl u.length (wb_length u) (by omega) ?_; intro gn cap w2 hO2; replace rS := hid hO2.f1; clear hO2)))
      all_goals go_roundw
      all_goals first
        | (exact ⟨u ++ [x], k - 1, i64_eq (by omega), by simp; omega, hid (fun y hy => (List.mem_append.1 hy).elim (hu.out y) fun hy => by rw [List.mem_singleton.1 hy]; exact hx3), by rw [wb_snoc]; exact rS.out⟩)
        | (simp only [intOf]; omega)
    · obtain rfl : k = 0 := by omega
      have hconv := rS.out.o1.conv
      have hun : u.length = n := by omega
      go_wp2
      go_ret
      exact ⟨u, rfl, hun, hu.out, rS.out.bel⟩
end Go.Proofs.Ythmcdfjijkecfaa

/- Draws of machines with states and words. -/
namespace Go.Proofs.Ythmcdfjijkecfaa
open Go.RowKit
set_option linter.unusedVariables false
set_option linter.unusedSimpArgs false
-- @LONG

set_option maxHeartbeats 2000000 in
set_option maxRecDepth 100000 in
theorem drAow_any (w : World) (v : Value) (l : List Nat) (hv : ArgB w v l) (hl : l.length ≤ 4096) :
    Calls Try.prog 21 #[v] w fun e w' => ∃ (m : Mach) (q : Int) (ws : ByteArray), e = .returned (.tuple #[.agg (mcells m), .int .i64 q, .string ws]) ∧ Hid (Low8 m ∧ I64 q ∧ ws.size ≤ 50) ∧ Below w.heap.size w w' := by
  have hz := zeroM_run
  have hS := hid ((St.start w).newMB zeroM 27)
  have hfr := hid (fun W L hW => Dg.from (w := w) (W := W) (L := L) hv hl hW)
  have hz2 := hid (fun L W (h : St w.heap.size w L W) => h.newMB zeroM 27)
  replace hv := hid hv
  obtain ⟨A, c, rfl, _⟩ := hv.out
  go_enter Try.func21, Try.ntmps21
  go_upto_region 3 with (first
    | (go_at_call 104; (with_reducible refine (hfr.out _ _ hS.out).mono ?_); rintro e w1 ⟨S, rfl, D, hS'⟩; replace hS := hid hS'; clear hS')
    | (go_at_call 103; (with_reducible refine (D.out.spoil hS.out).mono ?_); rintro e w2 ⟨M, rfl, hM, hS'⟩; have hle := hid hS'.le; replace hS := hid (hz2.out _ _ hS'); clear hS')
    | ((with_reducible refine gateOp (op := .store 27 (.tmp 6) (.tmp 10)) rfl ?_); refine store_mach rfl _ _ rfl w2.heap.size rfl M rfl 27 _ hS.out.m0 ?_; intro w4 p3 ho hsz hbl; replace hS := hid (hS.out.setM hle.out p3 ho hbl); clear p3 ho hsz hbl))
  generalize w2.heap.size = b6 at *
  replace hS := hid hS.out.drew
  refine wp_region_heldL (L := [(7, (fun w' : World => MB w' 27 b6 M))]) (by kernel_rfl) (HeldL.cons (fun _ => hS.out.m0) HeldL.nil) (fun hHeld => ?_)
  generalize World.drew w4 = wa at *
  refine wpAnyL_takeP (i := 0) 7 [] (v := (.agg (mcells M))) (fun w' : World => MB w' 27 b6 M) rfl (by kernel_rfl) (by kernel_rfl) (by kernel_rfl) (by rfl) (by kernel_rfl) (by simp) (fun _ _ _ h => h) (Or.inl ⟨by rfl, ?_⟩) (by assumption) ?_
  · (intro W hW; exact exec_load _ rfl rfl (load_run hW))
  intro hHeld'
  clear hHeld; have hHeld := hHeld'; clear hHeld'
  try simp only [Act.put, List.getElem_toArray, List.getElem_cons_succ, List.getElem_cons_zero, List.setIfInBounds_toArray, List.set_cons_zero, List.set_cons_succ]
  refine wpAnyL_take0 (i := 1) (v := ?_) rfl (by kernel_rfl) (by kernel_rfl) (by kernel_rfl) (by rfl) (fun _ _ _ h => h) (Or.inl ⟨by rfl, ?_⟩) (by assumption) ?_
  rotate_left
  · (intro W _; go_simp; (with_reducible rfl))
  intro hHeld'
  clear hHeld; have hHeld := hHeld'; clear hHeld'
  try simp only [Act.put, List.getElem_toArray, List.getElem_cons_succ, List.getElem_cons_zero, List.setIfInBounds_toArray, List.set_cons_zero, List.set_cons_succ]
  refine wpAnyL_takeP (i := 2) 7 [6, 3] (v := (.agg (mcells M))) (fun w' : World => MB w' 27 b6 M) rfl (by kernel_rfl) (by kernel_rfl) (by kernel_rfl) (by rfl) (by kernel_rfl) (by simp) (fun _ _ _ h => h) (Or.inl ⟨by rfl, ?_⟩) (by assumption) ?_
  · (intro W hW; exact exec_load _ rfl rfl (load_run hW))
  intro hHeld'
  clear hHeld; have hHeld := hHeld'; clear hHeld'
  try simp only [Act.put, List.getElem_toArray, List.getElem_cons_succ, List.getElem_cons_zero, List.setIfInBounds_toArray, List.set_cons_zero, List.set_cons_succ]
  refine wpAnyL_take0 (i := 4) (v := ?_) rfl (by kernel_rfl) (by kernel_rfl) (by kernel_rfl) (by rfl) (fun _ _ _ h => h) (Or.inl ⟨by rfl, ?_⟩) (by assumption) ?_
  rotate_left
  · (intro W _; go_simp; (with_reducible rfl))
  intro hHeld'
  clear hHeld; have hHeld := hHeld'; clear hHeld'
  try simp only [Act.put, List.getElem_toArray, List.getElem_cons_succ, List.getElem_cons_zero, List.setIfInBounds_toArray, List.set_cons_zero, List.set_cons_succ]
  refine wpAnyL_takeP (i := 5) 7 [6] (v := (.agg (mcells M))) (fun w' : World => MB w' 27 b6 M) rfl (by kernel_rfl) (by kernel_rfl) (by kernel_rfl) (by rfl) (by kernel_rfl) (by simp) (fun _ _ _ h => h) (Or.inl ⟨by rfl, ?_⟩) (by assumption) ?_
  · (intro W hW; exact exec_load _ rfl rfl (load_run hW))
  intro hHeld'
  clear hHeld; have hHeld := hHeld'; clear hHeld'
  try simp only [Act.put, List.getElem_toArray, List.getElem_cons_succ, List.getElem_cons_zero, List.setIfInBounds_toArray, List.set_cons_zero, List.set_cons_succ]
  refine wpAnyL_ready (rs := [3]) (by kernel_rfl) (by simp) ?_
  refine AllReadyL.cons rfl (fun K hK => ?_) AllReadyL.nil
  go_simp
  replace hS := hid hS.out.f1
  (with_reducible refine (D.out.state M hS.out).mono ?_)
  rintro e w5 ⟨k, rfl, hk, hS'⟩
  replace hS := hid hS'
  clear hS'
  go_simp
  refine hK.out _ _ (HeldL.cons (fun _ => hS.out.m1) HeldL.nil) (fun hHeld' => ?_)
  clear hK K hHeld; have hHeld := hHeld'; clear hHeld'
  try simp only [Act.put, List.getElem_toArray, List.getElem_cons_succ, List.getElem_cons_zero, List.setIfInBounds_toArray, List.set_cons_zero, List.set_cons_succ]
  refine wpAnyL_ready (rs := [6]) (by kernel_rfl) (by simp) ?_
  refine AllReadyL.cons rfl (fun K hK => ?_) AllReadyL.nil
  go_simp
  (with_reducible refine (D.out.wordy M hS.out).mono ?_)
  rintro e w6 ⟨k2, rfl, hk2, hS'⟩
  replace hS := hid hS'
  clear hS'
  go_simp
  refine hK.out _ _ (HeldL.cons (fun _ => hS.out.m1) HeldL.nil) (fun hHeld' => ?_)
  clear hK K hHeld; have hHeld := hHeld'; clear hHeld'
  try simp only [Act.put, List.getElem_toArray, List.getElem_cons_succ, List.getElem_cons_zero, List.setIfInBounds_toArray, List.set_cons_zero, List.set_cons_succ]
  refine wpAnyL_ready (rs := [7]) (by kernel_rfl) (by simp) ?_
  refine AllReadyL.cons rfl (fun K hK => ?_) AllReadyL.nil
  refine step_store_mach rfl _ _ rfl _ rfl M rfl _ _ hS.out.m2 ?_
  intro W9 p2 ho hbl
  replace hS := hid (hS.out.f2.setM (Nat.le_refl _) p2 ho hbl)
  clear p2 ho hbl
  refine hK.out _ _ (HeldL.cons (fun h => absurd h (by decide +kernel)) HeldL.nil) (fun hHeld' => ?_)
  clear hK K hHeld; have hHeld := hHeld'; clear hHeld'
  try simp only [Act.put, List.getElem_toArray, List.getElem_cons_succ, List.getElem_cons_zero, List.setIfInBounds_toArray, List.set_cons_zero, List.set_cons_succ]
  refine wpAnyL_take0 (i := 8) (v := ?_) rfl (by kernel_rfl) (by kernel_rfl) (by kernel_rfl) (by rfl) (fun _ _ _ h => h) (Or.inl ⟨by rfl, ?_⟩) (by assumption) ?_
  rotate_left
  · (intro W _; go_simp; (with_reducible rfl))
  intro hHeld'
  clear hHeld; have hHeld := hHeld'; clear hHeld'
  try simp only [Act.put, List.getElem_toArray, List.getElem_cons_succ, List.getElem_cons_zero, List.setIfInBounds_toArray, List.set_cons_zero, List.set_cons_succ]
  refine wpAnyL_take0 (i := 9) (v := ?_) rfl (by kernel_rfl) (by kernel_rfl) (by kernel_rfl) (by rfl) (fun _ _ _ h => h) (Or.inl ⟨by rfl, ?_⟩) (by assumption) ?_
  rotate_left
  · (intro W _; go_simp; (with_reducible rfl))
  intro hHeld'
  clear hHeld; have hHeld := hHeld'; clear hHeld'
  try simp only [Act.put, List.getElem_toArray, List.getElem_cons_succ, List.getElem_cons_zero, List.setIfInBounds_toArray, List.set_cons_zero, List.set_cons_succ]
  refine wpAnyL_done (by kernel_rfl) ?_ _
  go_wp2
  exact ret_mvv rfl rfl rfl rfl hS.out.m0 rfl ⟨M, k, k2, rfl, hid ⟨hM.out, hk.out, hk2.out⟩, hS.out.bel⟩
set_option maxHeartbeats 2000000 in
set_option maxRecDepth 100000 in
theorem drLvp_any (w : World) (v : Value) (l : List Nat) (hv : ArgB w v l) (hl : l.length ≤ 4096) :
    Calls Try.prog 25 #[v] w fun e w' => ∃ (m : Mach) (q n : Int), e = .returned (.tuple #[.agg (mcells m), .int .i64 q, .int .i64 n]) ∧ Hid (Low8 m ∧ I64 q ∧ I64 n) ∧ Below w.heap.size w w' := by
  have hz := zeroM_run
  have hS := hid ((St.start w).newMB zeroM 27)
  have hfr := hid (fun W L hW => Dg.from (w := w) (W := W) (L := L) hv hl hW)
  have hz2 := hid (fun L W (h : St w.heap.size w L W) => h.newMB zeroM 27)
  replace hv := hid hv
  obtain ⟨A, c, rfl, _⟩ := hv.out
  go_enter Try.func25, Try.ntmps25
  have hpr := hid (fun (x r : Int) (hx : I64 x) (hr : r ∈ [0, 1, 2, 3, x]) => (show I64 r from by
    unfold I64 at hx ⊢
    simp only [List.mem_cons, List.not_mem_nil, or_false] at hr
    rcases hr with rfl | rfl | rfl | rfl | rfl <;> omega))
  go_upto_region 3 with (first
    | (go_at_call 104; (with_reducible refine (hfr.out _ _ hS.out).mono ?_); rintro e w1 ⟨S, rfl, D, hS'⟩; replace hS := hid hS'; clear hS')
    | (go_at_call 103; (with_reducible refine (D.out.spoil hS.out).mono ?_); rintro e w2 ⟨M, rfl, hM, hS'⟩; have hle := hid hS'.le; replace hS := hid (hz2.out _ _ hS'); clear hS')
    | ((with_reducible refine gateOp (op := .store 27 (.tmp 6) (.tmp 10)) rfl ?_); refine store_mach rfl _ _ rfl w2.heap.size rfl M rfl 27 _ hS.out.m0 ?_; intro w4 p3 ho hsz hbl; replace hS := hid (hS.out.setM hle.out p3 ho hbl); clear p3 ho hsz hbl))
  generalize w2.heap.size = b6 at *
  replace hS := hid hS.out.drew
  refine wp_region_heldL (L := [(9, (fun w' : World => MB w' 27 b6 M))]) (by kernel_rfl) (HeldL.cons (fun _ => hS.out.m0) HeldL.nil) (fun hHeld => ?_)
  generalize World.drew w4 = wa at *
  refine wpAnyL_takeP (i := 0) 9 [] (v := (.agg (mcells M))) (fun w' : World => MB w' 27 b6 M) rfl (by kernel_rfl) (by kernel_rfl) (by kernel_rfl) (by rfl) (by kernel_rfl) (by simp) (fun _ _ _ h => h) (Or.inl ⟨by rfl, ?_⟩) (by assumption) ?_
  · (intro W hW; exact exec_load _ rfl rfl (load_run hW))
  intro hHeld'
  clear hHeld; have hHeld := hHeld'; clear hHeld'
  try simp only [Act.put, List.getElem_toArray, List.getElem_cons_succ, List.getElem_cons_zero, List.setIfInBounds_toArray, List.set_cons_zero, List.set_cons_succ]
  refine wpAnyL_take0 (i := 1) (v := ?_) rfl (by kernel_rfl) (by kernel_rfl) (by kernel_rfl) (by rfl) (fun _ _ _ h => h) (Or.inl ⟨by rfl, ?_⟩) (by assumption) ?_
  rotate_left
  · (intro W _; go_simp; (with_reducible rfl))
  intro hHeld'
  clear hHeld; have hHeld := hHeld'; clear hHeld'
  try simp only [Act.put, List.getElem_toArray, List.getElem_cons_succ, List.getElem_cons_zero, List.setIfInBounds_toArray, List.set_cons_zero, List.set_cons_succ]
  refine wpAnyL_takeP (i := 2) 9 [8, 6, 3] (v := (.agg (mcells M))) (fun w' : World => MB w' 27 b6 M) rfl (by kernel_rfl) (by kernel_rfl) (by kernel_rfl) (by rfl) (by kernel_rfl) (by simp) (fun _ _ _ h => h) (Or.inl ⟨by rfl, ?_⟩) (by assumption) ?_
  · (intro W hW; exact exec_load _ rfl rfl (load_run hW))
  intro hHeld'
  clear hHeld; have hHeld := hHeld'; clear hHeld'
  try simp only [Act.put, List.getElem_toArray, List.getElem_cons_succ, List.getElem_cons_zero, List.setIfInBounds_toArray, List.set_cons_zero, List.set_cons_succ]
  refine wpAnyL_take0 (i := 4) (v := ?_) rfl (by kernel_rfl) (by kernel_rfl) (by kernel_rfl) (by rfl) (fun _ _ _ h => h) (Or.inl ⟨by rfl, ?_⟩) (by assumption) ?_
  rotate_left
  · (intro W _; go_simp; (with_reducible rfl))
  intro hHeld'
  clear hHeld; have hHeld := hHeld'; clear hHeld'
  try simp only [Act.put, List.getElem_toArray, List.getElem_cons_succ, List.getElem_cons_zero, List.setIfInBounds_toArray, List.set_cons_zero, List.set_cons_succ]
  refine wpAnyL_take0 (i := 5) (v := ?_) rfl (by kernel_rfl) (by kernel_rfl) (by kernel_rfl) (by rfl) (fun _ _ _ h => h) (Or.inl ⟨by rfl, ?_⟩) (by assumption) ?_
  rotate_left
  · (intro W _; go_simp; (with_reducible rfl))
  intro hHeld'
  clear hHeld; have hHeld := hHeld'; clear hHeld'
  try simp only [Act.put, List.getElem_toArray, List.getElem_cons_succ, List.getElem_cons_zero, List.setIfInBounds_toArray, List.set_cons_zero, List.set_cons_succ]
  refine wpAnyL_ready (rs := [3]) (by kernel_rfl) (by simp) ?_
  refine AllReadyL.cons rfl (fun K hK => ?_) AllReadyL.nil
  go_simp
  replace hS := hid hS.out.f1
  (with_reducible refine (D.out.state M hS.out).mono ?_)
  rintro e w5 ⟨k, rfl, hk, hS'⟩
  replace hS := hid hS'
  clear hS'
  go_simp
  refine hK.out _ _ (HeldL.cons (fun _ => hS.out.m1) HeldL.nil) (fun hHeld' => ?_)
  clear hK K hHeld; have hHeld := hHeld'; clear hHeld'
  try simp only [Act.put, List.getElem_toArray, List.getElem_cons_succ, List.getElem_cons_zero, List.setIfInBounds_toArray, List.set_cons_zero, List.set_cons_succ]
  refine wpAnyL_ready (rs := [6]) (by kernel_rfl) (by simp) ?_
  refine AllReadyL.cons rfl (fun K hK => ?_) AllReadyL.nil
  go_simp
  (with_reducible refine (D.out.near 5 (by omega) (by omega) hS.out).mono ?_)
  rintro e w6 ⟨x, rfl, hx, hS'⟩
  replace hS := hid hS'
  clear hS'
  go_simp
  refine hK.out _ _ (HeldL.cons (fun _ => hS.out.m1) HeldL.nil) (fun hHeld' => ?_)
  clear hK K hHeld; have hHeld := hHeld'; clear hHeld'
  try simp only [Act.put, List.getElem_toArray, List.getElem_cons_succ, List.getElem_cons_zero, List.setIfInBounds_toArray, List.set_cons_zero, List.set_cons_succ]
  refine wpAnyL_ready (rs := [7]) (by kernel_rfl) (by simp) ?_
  refine AllReadyL.cons rfl (fun K hK => ?_) AllReadyL.nil
  go_simp
  have hS2 := hS.out.list [.int .i64 0, .int .i64 1, .int .i64 2, .int .i64 3, .int .i64 x] (by simp)
  refine hK.out _ _ (HeldL.cons (fun _ => hS2.m2) HeldL.nil) (fun hHeld' => ?_)
  clear hK K hHeld; have hHeld := hHeld'; clear hHeld'
  try simp only [Act.put, List.getElem_toArray, List.getElem_cons_succ, List.getElem_cons_zero, List.setIfInBounds_toArray, List.set_cons_zero, List.set_cons_succ]
  refine wpAnyL_ready (rs := [8]) (by kernel_rfl) (by simp) ?_
  refine AllReadyL.cons rfl (fun K hK => ?_) AllReadyL.nil
  go_simp
  (with_reducible refine (D.out.pick [0, 1, 2, 3, x] (by simp) (by simp) hS2).mono ?_)
  rintro e w7 ⟨n, rfl, hn, hS'⟩
  have hn' := hid (hpr.out x n hx.out hn)
  replace hS := hid hS'
  clear hS' hS2 hn
  go_simp
  refine hK.out _ _ (HeldL.cons (fun _ => hS.out.m1) HeldL.nil) (fun hHeld' => ?_)
  clear hK K hHeld; have hHeld := hHeld'; clear hHeld'
  try simp only [Act.put, List.getElem_toArray, List.getElem_cons_succ, List.getElem_cons_zero, List.setIfInBounds_toArray, List.set_cons_zero, List.set_cons_succ]
  refine wpAnyL_ready (rs := [9]) (by kernel_rfl) (by simp) ?_
  refine AllReadyL.cons rfl (fun K hK => ?_) AllReadyL.nil
  refine step_store_mach rfl _ _ rfl _ rfl M rfl _ _ hS.out.m2 ?_
  intro W9 p2 ho hbl
  replace hS := hid (hS.out.f2.setM (Nat.le_refl _) p2 ho hbl)
  clear p2 ho hbl
  refine hK.out _ _ (HeldL.cons (fun h => absurd h (by decide +kernel)) HeldL.nil) (fun hHeld' => ?_)
  clear hK K hHeld; have hHeld := hHeld'; clear hHeld'
  try simp only [Act.put, List.getElem_toArray, List.getElem_cons_succ, List.getElem_cons_zero, List.setIfInBounds_toArray, List.set_cons_zero, List.set_cons_succ]
  refine wpAnyL_take0 (i := 10) (v := ?_) rfl (by kernel_rfl) (by kernel_rfl) (by kernel_rfl) (by rfl) (fun _ _ _ h => h) (Or.inl ⟨by rfl, ?_⟩) (by assumption) ?_
  rotate_left
  · (intro W _; go_simp; (with_reducible rfl))
  intro hHeld'
  clear hHeld; have hHeld := hHeld'; clear hHeld'
  try simp only [Act.put, List.getElem_toArray, List.getElem_cons_succ, List.getElem_cons_zero, List.setIfInBounds_toArray, List.set_cons_zero, List.set_cons_succ]
  refine wpAnyL_take0 (i := 11) (v := ?_) rfl (by kernel_rfl) (by kernel_rfl) (by kernel_rfl) (by rfl) (fun _ _ _ h => h) (Or.inl ⟨by rfl, ?_⟩) (by assumption) ?_
  rotate_left
  · (intro W _; go_simp; (with_reducible rfl))
  intro hHeld'
  clear hHeld; have hHeld := hHeld'; clear hHeld'
  try simp only [Act.put, List.getElem_toArray, List.getElem_cons_succ, List.getElem_cons_zero, List.setIfInBounds_toArray, List.set_cons_zero, List.set_cons_succ]
  refine wpAnyL_done (by kernel_rfl) ?_ _
  go_wp2
  exact ret_mvv rfl rfl rfl rfl hS.out.m0 rfl ⟨M, k, n, rfl, hid ⟨hM.out, hk.out, hn'.out⟩, hS.out.bel⟩
end Go.Proofs.Ythmcdfjijkecfaa
