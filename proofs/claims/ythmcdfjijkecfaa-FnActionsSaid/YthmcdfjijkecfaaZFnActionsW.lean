/- What the proof of FnActions leans on, part 23 of 23. -/
import Derived.Test.YthmcdfjijkecfaaZFnActionsV
import Derived.Deep.CutBlock
/- Draws of words, numbers and orbits. -/
namespace Go.Proofs.Ythmcdfjijkecfaa
open Go.RowKit
set_option linter.unusedVariables false
set_option linter.unusedSimpArgs false
-- @LONG

theorem built_L0 (a : Int) : Try.prog.built 27 [(0, .int .i64 a), (1, .int .i64 0)] = Try.prog.built 27 [(0, .int .i64 a)] := by kernel_rfl
theorem build_L {ops : Array Oper} {rest : List Oper} {o : Oper} {a : Act} {w : World} {Q : Exit → Act → World → Prop} (hgd : o.guard = none) (x : Operand) (ho : o.op = .build 27 #[(0, x)])
    (L : Int) (hx : a.eval x = .int .i64 L) (h : wpList Try.prog ops Q rest (a.put o.dst (.agg (mcells ⟨L, 0, fun _ => 0, fun _ => 0⟩))) w) : wpList Try.prog ops Q (o :: rest) a w := by
  have e : Try.prog.built 27 ((#[(0, x)] : Array (Nat × Operand)).map fun (i, x) => (i, a.eval x)).toList = some (mcells ⟨L, 0, fun _ => 0, fun _ => 0⟩) := by
    have : ((#[(0, x)] : Array (Nat × Operand)).map fun (i, x) => (i, a.eval x)).toList = [(0, .int .i64 L)] := by simp [hx]
    rw [this, ← built_L0]; exact built_mach L 0
  refine wpList_build hgd 27 _ ho (by rw [e]; rfl) ?_
  rw [e]
  exact h
set_option maxHeartbeats 2000000 in
set_option maxRecDepth 100000 in
theorem drNow_any (w : World) (v : Value) (l : List Nat) (hv : ArgB w v l) (hl : l.length ≤ 4096) :
    Calls Try.prog 36 #[v] w fun e w' => ∃ (d : Int) (ws : ByteArray), e = .returned (.tuple #[.int .i64 d, .string ws]) ∧ Hid (ws.size ≤ 50) ∧ Below w.heap.size w w' := by
  have hS := hid (St.start w)
  have hfr := hid (fun W L hW => Dg.from (w := w) (W := W) (L := L) hv hl hW)
  replace hv := hid hv
  obtain ⟨A, c, rfl, _⟩ := hv.out
  go_enter Try.func36, Try.ntmps36
  go_wp2_with (first
    | (go_at_call 104; (with_reducible refine (hfr.out _ _ hS.out).mono ?_); rintro e w1 ⟨S, rfl, D, hS'⟩; replace hS := hid hS'; clear hS')
    | (go_at_call 122; (have hS2 := hS.out.list [.int .i64 2, .int .i64 3, .int .i64 2, .int .i64 3, .int .i64 2, .int .i64 3, .int .i64 1, .int .i64 4] (by simp)); (with_reducible refine (D.out.pick [2, 3, 2, 3, 2, 3, 1, 4] (by simp) (by simp) hS2).mono ?_); rintro e w2 ⟨d, rfl, hd, hS'⟩; replace hS := hid hS'; clear hS' hS2 hd)
    | ((with_reducible refine gate (N := 14) rfl ?_); refine build_L rfl _ rfl d rfl ?_)
    | (go_at_call 119; (with_reducible refine (D.out.wordy _ hS.out).mono ?_); rintro e w3 ⟨ws, rfl, hws, hS'⟩; replace hS := hid hS'; clear hS'))
  go_ret2
  exact ⟨d, ws, rfl, hws, hS.out.bel⟩
set_option maxHeartbeats 2000000 in
set_option maxRecDepth 100000 in
theorem drWon_any (w : World) (v : Value) (l : List Nat) (hv : ArgB w v l) (hl : l.length ≤ 4096) :
    Calls Try.prog 34 #[v] w fun e w' => ∃ (d n k : Int), e = .returned (.tuple #[.int .i64 d, .int .i64 n, .int .i64 k]) ∧ Hid (I64 n ∧ I64 k) ∧ Below w.heap.size w w' := by
  have hS := hid (St.start w)
  have hfr := hid (fun W L hW => Dg.from (w := w) (W := W) (L := L) hv hl hW)
  have hpw := hid (fun (d n : Int) (hd : 1 ≤ d ∧ d ≤ 3) (hn : 0 ≤ n ∧ n ≤ 5) W => (show Calls Try.prog 134 #[.int .i64 d, .int .i64 n] W fun e w' => ∃ p : Int, e = .returned (.int .i64 p) ∧ 1 ≤ p ∧ p ≤ 243 ∧ W = w' from by
    obtain ⟨a, rfl⟩ := Int.eq_ofNat_of_zero_le (show 0 ≤ d by omega)
    obtain ⟨b, rfl⟩ := Int.eq_ofNat_of_zero_le hn.1
    have h1 := pw_le a (by omega) (n := b) (k := 5) (by omega)
    have h3 : pw a 5 ≤ 243 := by rcases (show a = 1 ∨ a = 2 ∨ a = 3 by omega) with rfl | rfl | rfl <;> decide
    have h4 := pw_pos a (by omega) b
    refine (l01Power_any a b (by omega) (by omega) (by omega) W).mono ?_
    rintro e w' ⟨rfl, rfl⟩
    exact ⟨_, rfl, by omega, by omega, rfl⟩))
  have hdd := hid (fun (d : Int) (hd : d ∈ [2, 3, 2, 3, 1, (4 : Int)]) => (show 1 ≤ d from by
    simp only [List.mem_cons, List.not_mem_nil, or_false] at hd
    rcases hd with rfl | rfl | rfl | rfl | rfl | rfl <;> omega))
  replace hv := hid hv
  obtain ⟨A, c, rfl, _⟩ := hv.out
  go_enter Try.func34, Try.ntmps34
  go_upto_region 3 with (first
    | (go_at_call 104; (with_reducible refine (hfr.out _ _ hS.out).mono ?_); rintro e w1 ⟨S, rfl, D, hS'⟩; replace hS := hid hS'; clear hS')
    | (go_at_call 122; (have hS2 := hS.out.list [.int .i64 2, .int .i64 3, .int .i64 2, .int .i64 3, .int .i64 1, .int .i64 4] (by simp)); (with_reducible refine (D.out.pick [2, 3, 2, 3, 1, 4] (by simp) (by simp) hS2).mono ?_); rintro e w2 ⟨d, rfl, hd, hS'⟩; (have hd1 := hdd.out d hd); replace hS := hid hS'; clear hS' hS2 hd)
    | (go_at_call 123; (with_reducible refine (D.out.near 5 (by omega) (by omega) hS.out).mono ?_); rintro e w3 ⟨n, rfl, hn, hS'⟩; replace hS := hid hS'; clear hS'))
  go_wp2_with (first
    | (go_at_call 134; (with_reducible refine (hpw.out _ _ (by omega) (by omega) _).mono ?_); rintro e w4 ⟨p, rfl, hp1, hp2, rfl⟩; (have ep : wrap64 (p - 1) = p - 1 := w64 (by omega) (by omega)); (have ep2 : IntKind.i64.wrap (p - 1) = p - 1 := IntWalk.i64_in _ (by omega)))
    | (go_at_call 123; (with_reducible refine (D.out.near (p - 1) (by omega) (by omega) hS.out).mono ?_); rintro e w5 ⟨k, rfl, hk, hS'⟩; replace hS := hid hS'; clear hS'))
  all_goals go_ret3
  all_goals exact ⟨d, n, k, rfl, hid ⟨hn.out, hk.out⟩, hS.out.bel⟩
set_option maxHeartbeats 4000000 in
set_option maxRecDepth 100000 in
theorem drOrw_any (w : World) (v : Value) (l : List Nat) (hv : ArgB w v l) (hl : l.length ≤ 4096) :
    Calls Try.prog 30 #[v] w fun e w' => ∃ (m : Mach) (q : Int) (ws : ByteArray), e = .returned (.tuple #[.agg (mcells m), .int .i64 q, .string ws]) ∧ Hid (Low8 m ∧ I64 q ∧ ws.size ≤ 50) ∧ Below w.heap.size w w' := by
  have hz := zeroM_run
  have hS := hid ((St.start w).newMB zeroM 27)
  have hfr := hid (fun W L hW => Dg.from (w := w) (W := W) (L := L) hv hl hW)
  have hz2 := hid (fun L W (h : St w.heap.size w L W) => h.newMB zeroM 27)
  replace hv := hid hv
  obtain ⟨A, c, rfl, _⟩ := hv.out
  go_enter Try.func30, Try.ntmps30
  go_upto_region 3 with (first
    | (go_at_call 104; (with_reducible refine (hfr.out _ _ hS.out).mono ?_); rintro e w1 ⟨S, rfl, D, hS'⟩; replace hS := hid hS'; clear hS')
    | (go_at_call 103; (with_reducible refine (D.out.spoil hS.out).mono ?_); rintro e w2 ⟨M, rfl, hM, hS'⟩; have hle := hid hS'.le; replace hS := hid (hz2.out _ _ hS'); clear hS')
    | ((with_reducible refine gateOp (op := .store 27 (.tmp 6) (.tmp 11)) rfl ?_); refine store_mach rfl _ _ rfl w2.heap.size rfl M rfl 27 _ hS.out.m0 ?_; intro w4 p3 ho hsz hbl; replace hS := hid (hS.out.setM hle.out p3 ho hbl); clear p3 ho hsz hbl))
  generalize w2.heap.size = b6 at *
  replace hS := hid hS.out.drew
  refine wp_region_heldL (L := [(5, (fun w' : World => MB w' 27 b6 M))]) (by kernel_rfl) (HeldL.cons (fun _ => hS.out.m0) HeldL.nil) (fun hHeld => ?_)
  generalize World.drew w4 = wa at *
  refine wpAnyL_take0 (i := 0) (v := ?_) rfl (by kernel_rfl) (by kernel_rfl) (by kernel_rfl) (by rfl) (fun _ _ _ h => h) (Or.inl ⟨by rfl, ?_⟩) (by assumption) ?_
  rotate_left
  · (intro W _; go_simp; (with_reducible rfl))
  intro hHeld'
  clear hHeld; have hHeld := hHeld'; clear hHeld'
  try simp only [Act.put, List.getElem_toArray, List.getElem_cons_succ, List.getElem_cons_zero, List.setIfInBounds_toArray, List.set_cons_zero, List.set_cons_succ]
  refine wpAnyL_take0 (i := 1) (v := ?_) rfl (by kernel_rfl) (by kernel_rfl) (by kernel_rfl) (by rfl) (fun _ _ _ h => h) (Or.inl ⟨by rfl, ?_⟩) (by assumption) ?_
  rotate_left
  · (intro W _; go_simp; (with_reducible rfl))
  intro hHeld'
  clear hHeld; have hHeld := hHeld'; clear hHeld'
  try simp only [Act.put, List.getElem_toArray, List.getElem_cons_succ, List.getElem_cons_zero, List.setIfInBounds_toArray, List.set_cons_zero, List.set_cons_succ]
  refine wpAnyL_takeP (i := 2) 5 [] (v := (.int .i64 M.L)) (fun w' : World => MB w' 27 b6 M) rfl (by kernel_rfl) (by kernel_rfl) (by kernel_rfl) (by rfl) (by kernel_rfl) (by simp) (fun _ _ _ h => h) (Or.inl ⟨by rfl, ?_⟩) (by assumption) ?_
  · (intro W hW; (replace hW := hW.cL); go_simp)
  intro hHeld'
  clear hHeld; have hHeld := hHeld'; clear hHeld'
  try simp only [Act.put, List.getElem_toArray, List.getElem_cons_succ, List.getElem_cons_zero, List.setIfInBounds_toArray, List.set_cons_zero, List.set_cons_succ]
  refine wpAnyL_take0 (i := 3) (v := ?_) rfl (by kernel_rfl) (by kernel_rfl) (by kernel_rfl) (by rfl) (fun _ _ _ h => h) (Or.inl ⟨by rfl, ?_⟩) (by assumption) ?_
  rotate_left
  · (intro W _; go_simp; (with_reducible rfl))
  intro hHeld'
  clear hHeld; have hHeld := hHeld'; clear hHeld'
  try simp only [Act.put, List.getElem_toArray, List.getElem_cons_succ, List.getElem_cons_zero, List.setIfInBounds_toArray, List.set_cons_zero, List.set_cons_succ]
  refine wpAnyL_ready (rs := [4]) (by kernel_rfl) (by simp) ?_
  refine AllReadyL.cons rfl (fun K hK => ?_) AllReadyL.nil
  go_simp
  replace hS := hid hS.out.f1
  (with_reducible refine (D.out.next 6 (by omega) hS.out).mono ?_)
  rintro e w5 ⟨n, rfl, hn, hS'⟩
  replace hS := hid hS'
  clear hS'
  go_simp
  refine hK.out _ _ (HeldL.cons (fun _ => hS.out.m1) HeldL.nil) (fun hHeld' => ?_)
  clear hK K hHeld; have hHeld := hHeld'; clear hHeld'
  try simp only [Act.put, List.getElem_toArray, List.getElem_cons_succ, List.getElem_cons_zero, List.setIfInBounds_toArray, List.set_cons_zero, List.set_cons_succ]
  refine wpAnyL_ready (rs := [5]) (by kernel_rfl) (by simp) ?_
  refine AllReadyL.cons rfl (fun K hK => ?_) AllReadyL.nil
  go_simp
  (with_reducible refine (D.out.word M.L n (by omega) hS.out).mono ?_)
  rintro e w6 ⟨uw, rfl, hu, hS'⟩
  replace hS := hid hS'
  clear hS'
  go_simp
  refine hK.out _ _ (HeldL.cons (fun h => absurd h (by decide +kernel)) HeldL.nil) (fun hHeld' => ?_)
  clear hK K hHeld; have hHeld := hHeld'; clear hHeld'
  try simp only [Act.put, List.getElem_toArray, List.getElem_cons_succ, List.getElem_cons_zero, List.setIfInBounds_toArray, List.set_cons_zero, List.set_cons_succ]
  refine wpAnyL_take0 (i := 6) (v := ?_) rfl (by kernel_rfl) (by kernel_rfl) (by kernel_rfl) (by rfl) (fun _ _ _ h => h) (Or.inl ⟨by rfl, ?_⟩) (by assumption) ?_
  rotate_left
  · (intro W _; go_simp; (with_reducible rfl))
  intro hHeld'
  clear hHeld; have hHeld := hHeld'; clear hHeld'
  try simp only [Act.put, List.getElem_toArray, List.getElem_cons_succ, List.getElem_cons_zero, List.setIfInBounds_toArray, List.set_cons_zero, List.set_cons_succ]
  refine wpAnyL_done (by kernel_rfl) ?_ _
  have hus := hid (show (wstr uw).size ≤ 50 from by rw [wstr_size]; have := hu.out.1; omega)
  generalize wstr uw = us at *
  go_upto_if 20 with (first
    | (go_at_call 133; (with_reducible refine (D.out.next 12 (by omega) hS.out).mono ?_); rintro e w7 ⟨z, rfl, _, hS'⟩; replace hS := hid hS'; clear hS'))
  go_cut [7] from 21 (fun x wr => ∃ ws : ByteArray, x = .string ws ∧ ws.size ≤ 50 ∧ St w.heap.size w [Asn.src S (.slice A l.length c) l.length, Asn.mb 27 b6 M, Asn.mb 27 w.heap.size zeroM] wr)
  case first =>
    by_cases z0 : z = 0
    · subst z0
      go_wp2_with (first
        | ((with_reducible refine gate (N := 22) rfl ?_); refine load_mach rfl _ rfl b6 rfl M hS.out.m1 ?_)
        | (go_at_call 119; (with_reducible refine (D.out.wordy M hS.out).mono ?_); rintro e w8 ⟨k2, rfl, hk2, hS'⟩; replace hS := hid hS'; clear hS'))
      go_meet
      exact ⟨k2, rfl, hk2.out, hS.out⟩
    · have d0 : ((z : Int) == 0) = false := by simp; omega
      go_wp2
      go_meet
      exact ⟨us, rfl, hus.out, hS.out⟩
  case rest =>
    obtain ⟨ws, rfl, hws, hS'⟩ := hcut
    replace hS := hid hS'
    clear hS'
    go_upto_region 6 with (fail)
    replace hS := hid hS.out.drew
    refine wp_region_heldL (L := [(5, (fun w' : World => MB w' 27 b6 M))]) (by kernel_rfl) (HeldL.cons (fun _ => hS.out.m1) HeldL.nil) (fun hHeld => ?_)
    generalize World.drew _ = wb at *
    refine wpAnyL_takeP (i := 0) 5 [] (v := (.agg (mcells M))) (fun w' : World => MB w' 27 b6 M) rfl (by kernel_rfl) (by kernel_rfl) (by kernel_rfl) (by rfl) (by kernel_rfl) (by simp) (fun _ _ _ h => h) (Or.inl ⟨by rfl, ?_⟩) (by assumption) ?_
    · (intro W hW; exact exec_load _ rfl rfl (load_run hW))
    intro hHeld'
    clear hHeld; have hHeld := hHeld'; clear hHeld'
    try simp only [Act.put, List.getElem_toArray, List.getElem_cons_succ, List.getElem_cons_zero, List.setIfInBounds_toArray, List.set_cons_zero, List.set_cons_succ]
    refine wpAnyL_take0 (i := 1) (v := ?_) rfl (by kernel_rfl) (by kernel_rfl) (by kernel_rfl) (by rfl) (fun _ _ _ h => h) (Or.inl ⟨by rfl, ?_⟩) (by assumption) ?_
    rotate_left
    · (intro W _; go_simp; (with_reducible rfl))
    intro hHeld'
    clear hHeld; have hHeld := hHeld'; clear hHeld'
    try simp only [Act.put, List.getElem_toArray, List.getElem_cons_succ, List.getElem_cons_zero, List.setIfInBounds_toArray, List.set_cons_zero, List.set_cons_succ]
    refine wpAnyL_takeP (i := 2) 5 [3] (v := (.agg (mcells M))) (fun w' : World => MB w' 27 b6 M) rfl (by kernel_rfl) (by kernel_rfl) (by kernel_rfl) (by rfl) (by kernel_rfl) (by simp) (fun _ _ _ h => h) (Or.inl ⟨by rfl, ?_⟩) (by assumption) ?_
    · (intro W hW; exact exec_load _ rfl rfl (load_run hW))
    intro hHeld'
    clear hHeld; have hHeld := hHeld'; clear hHeld'
    try simp only [Act.put, List.getElem_toArray, List.getElem_cons_succ, List.getElem_cons_zero, List.setIfInBounds_toArray, List.set_cons_zero, List.set_cons_succ]
    refine wpAnyL_take0 (i := 4) (v := ?_) rfl (by kernel_rfl) (by kernel_rfl) (by kernel_rfl) (by rfl) (fun _ _ _ h => h) (Or.inl ⟨by rfl, ?_⟩) (by assumption) ?_
    rotate_left
    · (intro W _; go_simp; (with_reducible rfl))
    intro hHeld'
    clear hHeld; have hHeld := hHeld'; clear hHeld'
    try simp only [Act.put, List.getElem_toArray, List.getElem_cons_succ, List.getElem_cons_zero, List.setIfInBounds_toArray, List.set_cons_zero, List.set_cons_succ]
    refine wpAnyL_ready (rs := [3]) (by kernel_rfl) (by simp) ?_
    refine AllReadyL.cons rfl (fun K hK => ?_) AllReadyL.nil
    go_simp
    (with_reducible refine (D.out.state M hS.out).mono ?_)
    rintro e w9 ⟨k, rfl, hk, hS'⟩
    replace hS := hid hS'
    clear hS'
    go_simp
    refine hK.out _ _ (HeldL.cons (fun _ => hS.out.m1) HeldL.nil) (fun hHeld' => ?_)
    clear hK K hHeld; have hHeld := hHeld'; clear hHeld'
    try simp only [Act.put, List.getElem_toArray, List.getElem_cons_succ, List.getElem_cons_zero, List.setIfInBounds_toArray, List.set_cons_zero, List.set_cons_succ]
    refine wpAnyL_ready (rs := [5]) (by kernel_rfl) (by simp) ?_
    refine AllReadyL.cons rfl (fun K hK => ?_) AllReadyL.nil
    refine step_store_mach rfl _ _ rfl _ rfl M rfl _ _ hS.out.m2 ?_
    intro W9 p2 ho hbl
    replace hS := hid (hS.out.f2.setM (Nat.le_refl _) p2 ho hbl)
    clear p2 ho hbl
    refine hK.out _ _ (HeldL.cons (fun h => absurd h (by decide +kernel)) HeldL.nil) (fun hHeld' => ?_)
    clear hK K hHeld; have hHeld := hHeld'; clear hHeld'
    try simp only [Act.put, List.getElem_toArray, List.getElem_cons_succ, List.getElem_cons_zero, List.setIfInBounds_toArray, List.set_cons_zero, List.set_cons_succ]
    refine wpAnyL_take0 (i := 6) (v := ?_) rfl (by kernel_rfl) (by kernel_rfl) (by kernel_rfl) (by rfl) (fun _ _ _ h => h) (Or.inl ⟨by rfl, ?_⟩) (by assumption) ?_
    rotate_left
    · (intro W _; go_simp; (with_reducible rfl))
    intro hHeld'
    clear hHeld; have hHeld := hHeld'; clear hHeld'
    try simp only [Act.put, List.getElem_toArray, List.getElem_cons_succ, List.getElem_cons_zero, List.setIfInBounds_toArray, List.set_cons_zero, List.set_cons_succ]
    refine wpAnyL_take0 (i := 7) (v := ?_) rfl (by kernel_rfl) (by kernel_rfl) (by kernel_rfl) (by rfl) (fun _ _ _ h => h) (Or.inl ⟨by rfl, ?_⟩) (by assumption) ?_
    rotate_left
    · (intro W _; go_simp; (with_reducible rfl))
    intro hHeld'
    clear hHeld; have hHeld := hHeld'; clear hHeld'
    try simp only [Act.put, List.getElem_toArray, List.getElem_cons_succ, List.getElem_cons_zero, List.setIfInBounds_toArray, List.set_cons_zero, List.set_cons_succ]
    refine wpAnyL_done (by kernel_rfl) ?_ _
    go_wp2
    exact ret_mvv rfl rfl rfl rfl hS.out.m0 rfl ⟨M, k, ws, rfl, hid ⟨hM.out, hk.out, hws⟩, hS.out.bel⟩
end Go.Proofs.Ythmcdfjijkecfaa

/- FnActions: the walk. -/
namespace Go.Proofs.Ythmcdfjijkecfaa
open Go.RowKit
set_option linter.unusedVariables false
set_option linter.unusedSimpArgs false
-- @LONG

set_option maxHeartbeats 20000000 in
set_option maxRecDepth 100000 in
theorem actions_law (w : World) (v : Value) (l : List Nat) (hv : ArgB w v l) :
    Calls Try.prog 4 #[v] w fun e w' => e = .returned (.bool true) ∧ Below w.heap.size w w' := by
  have hbg := hid (big_any w v l hv)
  by_cases hl : l.length ≤ 4096
  · have dl : decide (4096 < l.length) = false := decide_eq_false (by omega)
    rw [dl] at hbg
    have hdr := hid (fun W (hW : Below w.heap.size w W) => drAow_any W v l (hv.below hW) hl)
    have hdr2 := hid (fun W (hW : Below w.heap.size w W) => drLvp_any W v l (hv.below hW) hl)
    have hdr3 := hid (fun W (hW : Below w.heap.size w W) => drOrw_any W v l (hv.below hW) hl)
    have hdr4 := hid (fun W (hW : Below w.heap.size w W) => drWon_any W v l (hv.below hW) hl)
    have hdr5 := hid (fun W (hW : Below w.heap.size w W) => drNow_any W v l (hv.below hW) hl)
    have hwd := hid (fun W (hW : Below w.heap.size w W) (d : Nat) h1 h2 => (show Calls Try.prog 16 #[v, .int .i64 d, .int .i64 6] W (fun e w' => ∃ u : List Nat, e = .returned (.string (wstr u)) ∧ u.length = 6 ∧ (∀ x ∈ u, x < d) ∧ Below W.heap.size W w') from word5_any W v l (hv.below hW) hl d 6 h1 h2 (by omega)))
    have hia := hid implAow_any
    have hsa := hid specAow_any
    have hie := hid implSeA_any
    have hse := hid specSeA_any
    have hil := hid implLevel_any
    have hsl := hid specLevel_any
    have hlk := hid likeInts_any
    have hiw := hid implWon_any
    have hin := hid implNow_any
    have hio := hid implOrw_any
    have hso := hid specOrw_any
    have hw5 := hid words5_any
    have hiwx := hid implWonX_any
    have hswx := hid specWonX_any
    have hinx := hid implNowX_any
    have hsnx := hid specNowX_any
    have hs0 := hid (St.start w)
    have hz := zeroM_run
    have hz1 := hid (fun L W (h : St w.heap.size w L W) => h.newMB zeroM 27)
    have hcy := hid (fun (x : Int) => (show (x != x) = false by simp))
    replace hv := hid hv
    obtain ⟨A, c, rfl, _⟩ := hv.out
    go_enter Try.func4, Try.ntmps4
    go_upto_region 8 with (first
      | (go_at_call 9; (with_reducible refine (hbg.out).mono ?_); rintro e w1 ⟨rfl, rfl⟩)
      | (go_at_call 21; (with_reducible refine (hdr.out _ (Below.refl _ _)).mono ?_); rintro e w1 ⟨m, q, ws, rfl, hF, hb⟩; have hle := hid hb.size; replace hS := hid (hz1.out _ _ (hs0.out.call hb)); clear hb)
      | ((with_reducible refine gateOp (op := .store 27 (.tmp 3) (.tmp 61)) rfl ?_); refine store_mach rfl _ _ rfl w1.heap.size rfl m rfl 27 _ hS.out.m0 ?_; intro w2 p3 ho hsz hbl; replace hS := hid (hS.out.setM hle.out p3 ho hbl); clear p3 ho hsz hbl)
      | ((with_reducible refine gate (N := 65) rfl ?_); refine load_mach rfl _ rfl w1.heap.size rfl m hS.out.m0 ?_)
      | (go_at_call 17; (with_reducible refine (hia.out _ m hF.out.1.ok q ws (by have := hF.out.2.2; omega)).mono ?_); rintro e w3 ⟨rfl, hb⟩; replace hS := hid (hS.out.call hb); clear hb)
      | ((with_reducible refine gate (N := 72) rfl ?_); refine load_mach rfl _ rfl w1.heap.size rfl m hS.out.m0 ?_)
      | (go_at_call 22; (with_reducible refine (hsa.out _ m hF.out.1.ok q ws (by have := hF.out.2.2; omega)).mono ?_); rintro e w3 ⟨rfl, hb⟩; replace hS := hid (hS.out.call hb); clear hb)
      | ((with_reducible refine gate (N := 79) rfl ?_); refine load_mach rfl _ rfl w1.heap.size rfl m hS.out.m0 ?_)
      | (go_at_call 23; (with_reducible refine (hie.out _ m hF.out.1.ok q ws (by have := hF.out.2.2; omega)).mono ?_); rintro e w3 ⟨rfl, hb⟩; replace hS := hid (hS.out.call hb); clear hb)
      | ((with_reducible refine gate (N := 86) rfl ?_); refine load_mach rfl _ rfl w1.heap.size rfl m hS.out.m0 ?_)
      | (go_at_call 24; (with_reducible refine (hse.out _ m hF.out.1.ok q ws (by have := hF.out.2.2; omega)).mono ?_); rintro e w3 ⟨rfl, hb⟩; replace hS := hid (hS.out.call hb); clear hb))
    generalize w1.heap.size = b3 at *
    have hP := hid (fun h h' => act_law (m := m) (q := q) (ws := ws) h h')
    have q1 := hcy.out (aowAns m q ws).2
    have q2 := hcy.out (seaAns m q ws).1
    have q3 := hcy.out (seaAns m q ws).2
    generalize (aowAns m q ws).1 = tw at *
    generalize (aowAns m q ws).2 = c1 at *
    generalize (seaAns m q ws).1 = r at *
    generalize (seaAns m q ws).2 = c3 at *
    go_upto_region 10 with (fail)
    go_cut [116] from 110 to 115 (fun b wr => ∃ bb : Bool, b = .bool bb ∧ Hid (bb = true → c1 = 0 ∧ ws.size ≤ 30) ∧ St w.heap.size w [Asn.mb 27 b3 m] wr)
    case first =>
      as_aux_lemma =>
        by_cases h0 : c1 = 0
        · subst h0
          by_cases h30 : ws.size ≤ 30
          · have d30 : decide ((ws.size : Int) ≤ 30) = true := decide_eq_true (by omega)
            go_wp2
            go_meet
            case rel => exact ⟨true, rfl, hid fun _ => ⟨by first | rfl | trivial, h30⟩, hS.out⟩
          · have d30 : decide ((ws.size : Int) ≤ 30) = false := decide_eq_false (by omega)
            go_wp2
            go_meet
            case rel => exact ⟨false, rfl, hid fun h => (by cases h), hS.out⟩
        · have d0 : ((c1 : Int) == 0) = false := by simpa using h0
          go_wp2
          go_meet
          case rel => exact ⟨false, rfl, hid fun h => (by cases h), hS.out⟩
    case rest =>
     obtain ⟨bb, rfl, hbb, hS'⟩ := hcut
     replace hS := hid hS'
     clear hS'
     go_upto_if 116 with (fail)
     go_cut [14, 15, 16, 17, 18] from 117 (fun _ _ _ _ _ wr => Below w.heap.size w wr)
     case first =>
      as_aux_lemma =>
        cases bb with
        | true =>
          · obtain ⟨h0, h30⟩ := hbb.out rfl
            subst h0
            obtain ⟨lL, hL, l1, l3, hto, hact⟩ := hP.out rfl h30
            have cL := hS.out.m0.cL
            rw [hL] at cL
            replace hact := hid hact
            clear hP hL
            go_upto_region 12 with (
              (go_at_call 16; (with_reducible refine (hwd.out _ hS.out.bel lL l1 l3).mono ?_); rintro e w10 ⟨u, rfl, hu1, hu2, hb⟩; replace hS := hid (hS.out.call hb); clear hb cL))
            obtain ⟨t, ht, a1, a2⟩ := hact.out u hu1 hu2
            have haw1 := hid (fun W => hia.out W m hF.out.1.ok q (ws ++ wstr u) (by rw [ByteArray.size_append, wstr_size]; omega))
            have haw2 := hid (fun W => hia.out W m hF.out.1.ok r (wstr u) (by rw [wstr_size]; omega))
            have hadd1 : ws.size + (wstr u).size ≤ 9223372036854775807 := by rw [wstr_size]; omega
            have hadd2 : tw.size + t.size ≤ 9223372036854775807 := by omega
            rw [a1] at haw1
            rw [a2] at haw2
            clear a1 a2 hact hu1 hu2
            generalize wstr u = us at *
            go_upto_if 149 with (first
              | ((with_reducible refine gate (N := 122) rfl ?_); refine load_mach rfl _ rfl b3 rfl m hS.out.m0 ?_)
              | ((with_reducible refine gate (N := 131) rfl ?_); refine load_mach rfl _ rfl b3 rfl m hS.out.m0 ?_)
              | (go_at_call 17; (first | (with_reducible refine (haw1.out _).mono ?_) | (with_reducible refine (haw2.out _).mono ?_)); rintro e w11 ⟨rfl, hb⟩; replace hS := hid (hS.out.call hb); clear hb))
            go_wp2
            go_meet
            case rel => exact hS.out.bel
        | false =>
          clear hP
          go_wp2
          go_meet
          case rel => exact hS.out.bel
     case rest =>
      as_aux_lemma =>
        have hsE := hid (St.start w)
        clear hS hP q1 q2 q3 hF hbb
        replace hcut := hid hcut
        go_upto_region 19 with (first
          | (go_at_call 25; (with_reducible refine (hdr2.out _ hcut.out).mono ?_); rintro e w1 ⟨k, s, n, rfl, hF2, hb⟩; have hle := hid (hcut.out.trans (hb.mono hcut.out.size)).size; have hS := hid (hz1.out _ _ (hsE.out.call (hcut.out.trans (hb.mono hcut.out.size)))); clear hb)
          | ((with_reducible refine gateOp (op := .store 27 (.tmp 19) (.tmp 153)) rfl ?_); refine store_mach rfl _ _ rfl w1.heap.size rfl k rfl 27 _ hS.out.m0 ?_; intro w2 p3 ho hsz hbl; replace hS := hid (hS.out.setM hle.out p3 ho hbl); clear p3 ho hsz hbl)
          | ((with_reducible refine gate (N := 157) rfl ?_); refine load_mach rfl _ rfl w1.heap.size rfl k hS.out.m0 ?_)
          | (go_at_call 26; (with_reducible refine (hil.out _ k hF2.out.1.ok s n).mono ?_); rintro e w3 ⟨v1, rfl, hO, hb⟩; replace hS := hid (hS.out.callOwn hb hO); clear hb hO)
          | ((with_reducible refine gate (N := 164) rfl ?_); refine load_mach rfl _ rfl w1.heap.size rfl k hS.out.m1 ?_)
          | (go_at_call 27; (with_reducible refine (hsl.out _ k hF2.out.1.ok s n).mono ?_); rintro e w3 ⟨v2, rfl, hO, hb⟩; replace hS := hid (hS.out.callOwn hb hO); clear hb hO))
        generalize w1.heap.size = b19 at *
        have hlv := hid (lvl_law k s n).2
        have hMl := hid (lvl_law k s n).1
        have q1 := hcy.out (levelAns k s n).2
        generalize (levelAns k s n).1 = M at *
        generalize (levelAns k s n).2 = c2 at *
        obtain ⟨A1, cp1, rfl, _, hA1⟩ := hS.out.o1.form
        rw [ints_length] at hS ⊢
        have hA2 := hid (fun (h : 0 < M.length) => (show ∃ ga, A1 = some ⟨ga, 0, none⟩ from by
          rcases hA1 with ⟨_, h1, _⟩ | ⟨ga, h1, _⟩
          · have := congrArg List.length h1; rw [ints_length, List.length_nil] at this; omega
          · exact ⟨ga, h1⟩))
        clear hA1
        go_upto_region 21 with (
          (go_at_call 15; (with_reducible refine (hlk.out _ _ _ _ _ M hS.out.o1 hS.out.o0 (by have := hMl.out; omega)).mono ?_); rintro e w7 ⟨rfl, hb⟩; replace hS := hid (hS.out.call hb).drop; clear hb))
        have hMl2 := hMl.out
        clear q1
        go_wp2
        go_loopw [26, 27, 28, 29, 30, 31, 32] (fun i _ _ _ _ _ _ wr => ∃ j : Nat, j ≤ M.length ∧ i = .int .i64 j ∧ St w.heap.size w [Asn.own w.heap.size 2 (.slice A1 M.length cp1) (ints M), Asn.mb 27 b19 k] wr) (fun i _ _ _ _ _ _ _ => M.length - (intOf i).toNat)
        case atStart => exact ⟨0, Nat.zero_le _, rfl, hS.out⟩
        case round =>
          obtain ⟨j, hj, rfl, rS⟩ := hrel
          clear hS
          by_cases hlt : j < M.length
          · have dj : decide ((j : Int) < (M.length : Int)) = true := decide_eq_true (by omega)
            have j0 : (0 : Int) ≤ (j : Int) := Int.natCast_nonneg _
            have j1 : (j : Int) < (M.length : Int) := by omega
            obtain ⟨ga, rfl⟩ := hA2.out (by omega)
            obtain ⟨x, hx⟩ : ∃ x, M[j]? = some x := ⟨_, List.getElem?_eq_getElem hlt⟩
            obtain ⟨l', s', q', n', g, rfl, hq, rfl, hn5, hjp, rfl⟩ := hlv.out j x hx
            have l2 := g.l2
            have l3 := g.l3
            have hcell := hid (show (ints M)[j]? = some (.int .i64 ((num l' (img k q' (wrd l' n' j)) : Nat) : Int)) from by rw [ints, List.getElem?_map, hx]; rfl)
            have hwl := wrd_lt l' (by omega) n' j
            have hil := img_lt g (wrd l' n' j) q' hq hwl
            have c1 := hid (fun W => hiw.out W l' n' j (by omega) hn5 hjp)
            have c2 := hid (fun W => (by have h := hia.out W k hF2.out.1.ok q' (wstr (wrd l' n' j)) (by rw [wstr_size, wrd_length]; omega); rw [aow_good g hq hwl (by rw [wrd_length]; omega)] at h; exact h : Calls Try.prog 17 #[.agg (mcells k), .int .i64 q', .string (wstr (wrd l' n' j))] W fun e w' => e = .returned (.tuple #[.string (wstr (img k q' (wrd l' n' j))), .int .i64 0]) ∧ Below W.heap.size W w'))
            have c3 := hid (fun W => hin.out W l' (img k q' (wrd l' n' j)) (by omega) hil (by rw [img_length, wrd_length]; omega))
            have cL := rS.m1.cL
            rw [g.L] at cL
            replace g := hid g
            replace rS := hid rS
            clear hwl hil hx hlv
            generalize num l' (img k q' (wrd l' n' j)) = x at *
            generalize wstr (img k q' (wrd l' n' j)) = y at *
            generalize wstr (wrd l' n' j) = z at *
            go_upto_region 25 with (
              (go_at_call 28; (with_reducible refine (c1.out _).mono ?_); rintro e w8 ⟨rfl, hb⟩; replace rS := hid (rS.out.call hb); clear hb cL))
            go_upto_region 26 with (first
              | ((with_reducible refine gate (N := 194) rfl ?_); refine load_mach rfl _ rfl b19 rfl k rS.out.m1 ?_)
              | (go_at_call 17; (with_reducible refine (c2.out _).mono ?_); rintro e w8 ⟨rfl, hb⟩; replace rS := hid (rS.out.call hb); clear hb))
            have cL := rS.out.m1.cL
            rw [g.out.L] at cL
            go_upto_region 27 with (
              (go_at_call 29; (with_reducible refine (c3.out _).mono ?_); rintro e w8 ⟨rfl, hb⟩; replace rS := hid (rS.out.call hb); clear hb cL))
            have ck := rS.out.o0.cellAt j _ hcell.out
            have qx : ((x : Int) != (x : Int)) = false := by simp
            go_wp2
            go_roundw
            case rel => exact ⟨j + 1, by omega, by go_num, rS.out⟩
            case measure => simp [intOf]; omega
          · obtain rfl : j = M.length := by omega
            have dj : decide ((M.length : Int) < (M.length : Int)) = false := decide_eq_false (by omega)
            have hB := hid rS.bel
            clear rS hlv hA2 hMl hMl2 hF2
            go_upto_region 32 with (first
              | (go_at_call 30; (with_reducible refine (hdr3.out _ hB.out).mono ?_); rintro e w1 ⟨a, t, u, rfl, hF3, hb⟩; have hle := hid (hB.out.trans (hb.mono hB.out.size)).size; have hS := hid (hz1.out _ _ (hsE.out.call (hB.out.trans (hb.mono hB.out.size)))); clear hb)
              | ((with_reducible refine gateOp (op := .store 27 (.tmp 33) (.tmp 228)) rfl ?_); refine store_mach rfl _ _ rfl w1.heap.size rfl a rfl 27 _ hS.out.m0 ?_; intro w2 p3 ho hsz hbl; replace hS := hid (hS.out.setM hle.out p3 ho hbl); clear p3 ho hsz hbl)
              | ((with_reducible refine gate (N := 232) rfl ?_); refine load_mach rfl _ rfl w1.heap.size rfl a hS.out.m0 ?_)
              | (go_at_call 31; (with_reducible refine (hio.out _ a hF3.out.1.ok t u (by have := hF3.out.2.2; omega)).mono ?_); rintro e w3 ⟨v1, rfl, hO, hb⟩; replace hS := hid (hS.out.callOwn hb hO); clear hb hO)
              | ((with_reducible refine gate (N := 239) rfl ?_); refine load_mach rfl _ rfl w1.heap.size rfl a hS.out.m1 ?_)
              | (go_at_call 32; (with_reducible refine (hso.out _ a hF3.out.1.ok t u (by have := hF3.out.2.2; omega)).mono ?_); rintro e w3 ⟨v2, rfl, hO, hb⟩; replace hS := hid (hS.out.callOwn hb hO); clear hb hO))
            generalize w1.heap.size = b33 at *
            have hob := hid (fun h => orb_law (m := a) (q := t) (ws := u) h)
            have hol := hid (orbAns_len a t u)
            have q1 := hcy.out (orbAns a t u).2
            generalize (orbAns a t u).1 = N at *
            generalize (orbAns a t u).2 = c4 at *
            obtain ⟨A3, cp3, rfl, _, hA3⟩ := hS.out.o1.form
            rw [strs_length] at hS ⊢
            have hA4 := hid (fun (h : 0 < N.length) => (show ∃ ga, A3 = some ⟨ga, 0, none⟩ from by
              rcases hA3 with ⟨_, h1, _⟩ | ⟨ga, h1, _⟩
              · have := congrArg List.length h1; rw [strs_length, List.length_nil] at this; omega
              · exact ⟨ga, h1⟩))
            clear hA3
            go_upto_if 257 with (
              (go_at_call 33; (with_reducible refine (hw5.out _ _ _ _ _ N hS.out.o1 hS.out.o0 (by have := hol.out; omega)).mono ?_); rintro e w7 ⟨rfl, hb⟩; replace hS := hid (hS.out.call hb).drop; clear hb))
            clear q1
            go_cut [41, 42] from 257 (fun _ _ wr => Below w.heap.size w wr)
            case first =>
              as_aux_lemma =>
                by_cases hn : 0 < N.length
                · have dn : decide ((0 : Int) < (N.length : Int)) = true := decide_eq_true (by omega)
                  obtain ⟨h243, hN0, x, hx, hx5, hao⟩ := hob.out hn
                  obtain ⟨ga, rfl⟩ := hA4.out hn
                  have ha := hid (fun W => (by have h := hia.out W a hF3.out.1.ok t x (by omega); rw [hao] at h; exact h : Calls Try.prog 17 #[.agg (mcells a), .int .i64 t, .string x] W fun e w' => e = .returned (.tuple #[.string u, .int .i64 0]) ∧ Below W.heap.size W w'))
                  have hc0 := hid (show (strs N)[0]? = some (.string u) from by rw [strs, List.getElem?_map, hN0]; rfl)
                  have hcx := hid (show (strs N)[N.length - 1]? = some (.string x) from by rw [strs, List.getElem?_map, hx]; rfl)
                  have en : IntKind.i64.wrap ((N.length : Int) - 1) = ((N.length - 1 : Nat) : Int) := by rw [show (N.length : Int) - 1 = ((N.length - 1 : Nat) : Int) by omega]; exact IntWalk.i64_in _ (by omega)
                  have k0 : (0 : Int) ≤ ((N.length - 1 : Nat) : Int) := Int.natCast_nonneg _
                  have k1 : ((N.length - 1 : Nat) : Int) < (N.length : Int) := by omega
                  have n1 : (0 : Int) < (N.length : Int) := by omega
                  clear hob hN0 hx hao hol hA4
                  generalize hK : N.length - 1 = K at *
                  replace hK := hid hK
                  go_upto_region 36 with (fail)
                  refine wp_region_heldL (L := [(7, (fun w' : World => MB w' 27 b33 a ∧ w'.cell? ⟨ga, K, none⟩ = some (.string x)))]) (by kernel_rfl) (HeldL.cons (fun _ => ⟨hS.out.drew.m1, hS.out.drew.o0.cellAt K _ hcx.out⟩) HeldL.nil) (fun hHeld => ?_)
                  replace hS := hid hS.out.drew
                  generalize World.drew _ = wd at *
                  refine wpAnyL_takeP (i := 0) 7 [] (v := (.agg (mcells a))) (fun w' : World => MB w' 27 b33 a ∧ w'.cell? ⟨ga, K, none⟩ = some (.string x)) rfl (by kernel_rfl) (by kernel_rfl) (by kernel_rfl) (by rfl) (by kernel_rfl) (by simp) (fun _ _ _ h => h) (Or.inl ⟨by rfl, ?_⟩) (by assumption) ?_
                  · (intro W hW; exact exec_load _ rfl rfl (load_run hW.1))
                  intro hHeld'
                  clear hHeld; have hHeld := hHeld'; clear hHeld'
                  try simp only [Act.put, List.getElem_toArray, List.getElem_cons_succ, List.getElem_cons_zero, List.setIfInBounds_toArray, List.set_cons_zero, List.set_cons_succ]
                  refine wpAnyL_take0 (i := 1) (v := ?_) rfl (by kernel_rfl) (by kernel_rfl) (by kernel_rfl) (by rfl) (fun _ _ _ h => h) (Or.inl ⟨by rfl, ?_⟩) (by assumption) ?_
                  rotate_left
                  · (intro W _; go_simp; (with_reducible rfl))
                  intro hHeld'
                  clear hHeld; have hHeld := hHeld'; clear hHeld'
                  try simp only [Act.put, List.getElem_toArray, List.getElem_cons_succ, List.getElem_cons_zero, List.setIfInBounds_toArray, List.set_cons_zero, List.set_cons_succ]
                  refine wpAnyL_take0 (i := 2) (v := ?_) rfl (by kernel_rfl) (by kernel_rfl) (by kernel_rfl) (by rfl) (fun _ _ _ h => h) (Or.inl ⟨by rfl, ?_⟩) (by assumption) ?_
                  rotate_left
                  · (intro W _; go_simp; (with_reducible rfl))
                  intro hHeld'
                  clear hHeld; have hHeld := hHeld'; clear hHeld'
                  try simp only [Act.put, List.getElem_toArray, List.getElem_cons_succ, List.getElem_cons_zero, List.setIfInBounds_toArray, List.set_cons_zero, List.set_cons_succ]
                  refine wpAnyL_take0 (i := 3) (v := ?_) rfl (by kernel_rfl) (by kernel_rfl) (by kernel_rfl) (by rfl) (fun _ _ _ h => h) (Or.inl ⟨by rfl, ?_⟩) (by assumption) ?_
                  rotate_left
                  · (intro W _; go_simp; (with_reducible rfl))
                  intro hHeld'
                  clear hHeld; have hHeld := hHeld'; clear hHeld'
                  try simp only [Act.put, List.getElem_toArray, List.getElem_cons_succ, List.getElem_cons_zero, List.setIfInBounds_toArray, List.set_cons_zero, List.set_cons_succ]
                  refine wpAnyL_take0 (i := 4) (v := ?_) rfl (by kernel_rfl) (by kernel_rfl) (by kernel_rfl) (by rfl) (fun _ _ _ h => h) (Or.inl ⟨by rfl, ?_⟩) (by assumption) ?_
                  rotate_left
                  · (intro W _; go_simp; (with_reducible rfl))
                  intro hHeld'
                  clear hHeld; have hHeld := hHeld'; clear hHeld'
                  try simp only [Act.put, List.getElem_toArray, List.getElem_cons_succ, List.getElem_cons_zero, List.setIfInBounds_toArray, List.set_cons_zero, List.set_cons_succ]
                  refine wpAnyL_take0 (i := 5) (v := ?_) rfl (by kernel_rfl) (by kernel_rfl) (by kernel_rfl) (by rfl) (fun _ _ _ h => h) (Or.inl ⟨by rfl, ?_⟩) (by assumption) ?_
                  rotate_left
                  · (intro W _; go_simp; (with_reducible rfl))
                  intro hHeld'
                  clear hHeld; have hHeld := hHeld'; clear hHeld'
                  try simp only [Act.put, List.getElem_toArray, List.getElem_cons_succ, List.getElem_cons_zero, List.setIfInBounds_toArray, List.set_cons_zero, List.set_cons_succ]
                  refine wpAnyL_takeP (i := 6) 7 [] (v := (.string x)) (fun w' : World => MB w' 27 b33 a ∧ w'.cell? ⟨ga, K, none⟩ = some (.string x)) rfl (by kernel_rfl) (by kernel_rfl) (by kernel_rfl) (by rfl) (by kernel_rfl) (by simp) (fun _ _ _ h => h) (Or.inl ⟨by rfl, ?_⟩) (by assumption) ?_
                  · (intro W hW; (replace hW := hW.2); go_simp)
                  intro hHeld'
                  clear hHeld; have hHeld := hHeld'; clear hHeld'
                  try simp only [Act.put, List.getElem_toArray, List.getElem_cons_succ, List.getElem_cons_zero, List.setIfInBounds_toArray, List.set_cons_zero, List.set_cons_succ]
                  refine wpAnyL_ready (rs := [7]) (by kernel_rfl) (by simp) ?_
                  refine AllReadyL.cons rfl (fun K hK => ?_) AllReadyL.nil
                  go_simp
                  (with_reducible refine (ha.out _).mono ?_)
                  rintro e w6 ⟨rfl, hb⟩
                  replace hS := hid (hS.out.call hb)
                  clear hb
                  go_simp
                  refine hK.out _ _ (HeldL.cons (fun h => absurd h (by decide +kernel)) HeldL.nil) (fun hHeld' => ?_)
                  clear hK K hHeld; have hHeld := hHeld'; clear hHeld'
                  try simp only [Act.put, List.getElem_toArray, List.getElem_cons_succ, List.getElem_cons_zero, List.setIfInBounds_toArray, List.set_cons_zero, List.set_cons_succ]
                  refine wpAnyL_take0 (i := 8) (v := ?_) rfl (by kernel_rfl) (by kernel_rfl) (by kernel_rfl) (by rfl) (fun _ _ _ h => h) (Or.inl ⟨by rfl, ?_⟩) (by assumption) ?_
                  rotate_left
                  · (intro W _; go_simp; (with_reducible rfl))
                  intro hHeld'
                  clear hHeld; have hHeld := hHeld'; clear hHeld'
                  try simp only [Act.put, List.getElem_toArray, List.getElem_cons_succ, List.getElem_cons_zero, List.setIfInBounds_toArray, List.set_cons_zero, List.set_cons_succ]
                  refine wpAnyL_take0 (i := 9) (v := ?_) rfl (by kernel_rfl) (by kernel_rfl) (by kernel_rfl) (by rfl) (fun _ _ _ h => h) (Or.inl ⟨by rfl, ?_⟩) (by assumption) ?_
                  rotate_left
                  · (intro W _; go_simp; (with_reducible rfl))
                  intro hHeld'
                  clear hHeld; have hHeld := hHeld'; clear hHeld'
                  try simp only [Act.put, List.getElem_toArray, List.getElem_cons_succ, List.getElem_cons_zero, List.setIfInBounds_toArray, List.set_cons_zero, List.set_cons_succ]
                  refine wpAnyL_take0 (i := 10) (v := ?_) rfl (by kernel_rfl) (by kernel_rfl) (by kernel_rfl) (by rfl) (fun _ _ _ h => h) (Or.inl ⟨by rfl, ?_⟩) (by assumption) ?_
                  rotate_left
                  · (intro W _; go_simp; (with_reducible rfl))
                  intro hHeld'
                  clear hHeld; have hHeld := hHeld'; clear hHeld'
                  try simp only [Act.put, List.getElem_toArray, List.getElem_cons_succ, List.getElem_cons_zero, List.setIfInBounds_toArray, List.set_cons_zero, List.set_cons_succ]
                  refine wpAnyL_take0 (i := 11) (v := ?_) rfl (by kernel_rfl) (by kernel_rfl) (by kernel_rfl) (by rfl) (fun _ _ _ h => h) (Or.inl ⟨by rfl, ?_⟩) (by assumption) ?_
                  rotate_left
                  · (intro W _; go_simp; (with_reducible rfl))
                  intro hHeld'
                  clear hHeld; have hHeld := hHeld'; clear hHeld'
                  try simp only [Act.put, List.getElem_toArray, List.getElem_cons_succ, List.getElem_cons_zero, List.setIfInBounds_toArray, List.set_cons_zero, List.set_cons_succ]
                  refine wpAnyL_take0 (i := 12) (v := ?_) rfl (by kernel_rfl) (by kernel_rfl) (by kernel_rfl) (by rfl) (fun _ _ _ h => h) (Or.inl ⟨by rfl, ?_⟩) (by assumption) ?_
                  rotate_left
                  · (intro W _; go_simp; (with_reducible rfl))
                  intro hHeld'
                  clear hHeld; have hHeld := hHeld'; clear hHeld'
                  try simp only [Act.put, List.getElem_toArray, List.getElem_cons_succ, List.getElem_cons_zero, List.setIfInBounds_toArray, List.set_cons_zero, List.set_cons_succ]
                  refine wpAnyL_done (by kernel_rfl) ?_ _
                  have ck := hS.out.o0.cellAt 0 _ hc0.out
                  go_wp2
                  go_meet
                  case rel => exact hS.out.bel
                · have dn : decide ((0 : Int) < (N.length : Int)) = false := decide_eq_false (by omega)
                  clear hob
                  go_wp2
                  go_meet
                  case rel => exact hS.out.bel
            case rest =>
              as_aux_lemma =>
                clear hS hob hol hA4 hF3
                replace hB := hid hcut
                go_upto_region 45 with (first
                  | (go_at_call 34; (with_reducible refine (hdr4.out _ hB.out).mono ?_); rintro e w1 ⟨d, n, p, rfl, hF4, hb⟩; replace hB := hid (hB.out.trans (hb.mono hB.out.size)); clear hb)
                  | (go_at_call 28; (with_reducible refine (hiwx.out _ d n p).mono ?_); rintro e w1 ⟨rfl, hb⟩; replace hB := hid (hB.out.trans (hb.mono hB.out.size)); clear hb)
                  | (go_at_call 35; (with_reducible refine (hswx.out _ d n p).mono ?_); rintro e w1 ⟨rfl, hb⟩; replace hB := hid (hB.out.trans (hb.mono hB.out.size)); clear hb)
                  | (go_at_call 36; (with_reducible refine (hdr5.out _ hB.out).mono ?_); rintro e w1 ⟨d2, u2, rfl, hF5, hb⟩; replace hB := hid (hB.out.trans (hb.mono hB.out.size)); clear hb)
                  | (go_at_call 29; (with_reducible refine (hinx.out _ d2 u2 (by have := hF5.out; omega)).mono ?_); rintro e w1 ⟨rfl, hb⟩; replace hB := hid (hB.out.trans (hb.mono hB.out.size)); clear hb)
                  | (go_at_call 37; (with_reducible refine (hsnx.out _ d2 u2 (by have := hF5.out; omega)).mono ?_); rintro e w1 ⟨rfl, hb⟩; replace hB := hid (hB.out.trans (hb.mono hB.out.size)); clear hb))
                have q1 : ((wonAns d n p).2 == (wonAns d n p).2) = true := by simp
                have q2 : ((nowAns d2 u2).1 == (nowAns d2 u2).1) = true := by simp
                have q3 : ((nowAns d2 u2).2 == (nowAns d2 u2).2) = true := by simp
                generalize (wonAns d n p).1 = x1 at *
                generalize (wonAns d n p).2 = x2 at *
                generalize (nowAns d2 u2).1 = x3 at *
                generalize (nowAns d2 u2).2 = x4 at *
                go_wp2
                go_ret
                exact ⟨rfl, hB.out⟩
  · have dl : decide (4096 < l.length) = true := decide_eq_true (by omega)
    rw [dl] at hbg
    go_enter Try.func4, Try.ntmps4
    go_wp2_with (
      (go_at_call 9; (with_reducible refine (hbg.out).mono ?_); rintro e w1 ⟨rfl, rfl⟩))
    go_ret
    exact ⟨rfl, Below.refl _ _⟩
end Go.Proofs.Ythmcdfjijkecfaa
