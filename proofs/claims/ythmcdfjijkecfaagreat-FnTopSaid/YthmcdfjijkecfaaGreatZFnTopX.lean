/- What the proof of FnTop leans on, part 24 of 28. -/
import Derived.Test.YthmcdfjijkecfaaGreatZFnTopW
/- Draws of machines with states. -/
namespace Go.Proofs.YthmcdfjijkecfaaGreat
open Go.RowKit
set_option linter.unusedVariables false
set_option linter.unusedSimpArgs false
-- @LONG

theorem ret_mvmv {fn : Func} {R : Ending → World → Prop} {a : Act} {w : World} {p q r s : Nat} (h : fn.results = #[.cell p 27, .tmp q, .cell r 27, .tmp s]) {g t g2 t2 : Nat} {m k : Mach} {v u : Value}
    (hp : a.tmps.getD p undef = .pointer (some ⟨g, 0, none⟩)) (hq : a.tmps.getD q undef = v) (hr : a.tmps.getD r undef = .pointer (some ⟨g2, 0, none⟩)) (hs : a.tmps.getD s undef = u) (hm : MB w t g m) (hk : MB w t2 g2 k) (hdf : a.defers = []) (hR : R (.returned (.tuple #[.agg (mcells m), v, .agg (mcells k), u])) w) : bodyPost Tryz.prog fn R .ret a w := by
  refine bodyPost_ret (v := .tuple #[.agg (mcells m), v, .agg (mcells k), u]) ?_ hdf hR
  have hp' : a.tmps[p]?.getD undef = .pointer (some ⟨g, 0, none⟩) := by simpa using hp
  have hq' : a.tmps[q]?.getD undef = v := by simpa using hq
  have hr' : a.tmps[r]?.getD undef = .pointer (some ⟨g2, 0, none⟩) := by simpa using hr
  have hs' : a.tmps[s]?.getD undef = u := by simpa using hs
  have h1 := run_loadVar_row (P := Tryz.prog) w g t 27 (mcells m) (0, 0) _ hm.heap Tryz.underlying27 rfl (by rw [size_mcells]; exact sz_mach)
  have h2 := run_loadVar_row (P := Tryz.prog) w g2 t2 27 (mcells k) (0, 0) _ hk.heap Tryz.underlying27 rfl (by rw [size_mcells]; exact sz_mach)
  simp [results, h, hp', hq', hr', hs', asAddr, h1, h2]
set_option maxHeartbeats 4000000 in
set_option maxRecDepth 100000 in
theorem l07Draw_any (w : World) (v : Value) (l : List Nat) (hv : ArgB w v l) (hl : l.length ≤ 4096) :
    Calls Tryz.prog 80 #[v] w fun e w' => ∃ (m : Mach) (q : Int) (k : Mach) (r : Int), e = .returned (.tuple #[.agg (mcells m), .int .i64 q, .agg (mcells k), .int .i64 r]) ∧ Hid (m.Ok ∧ k.Ok ∧ I64 q ∧ I64 r) ∧ Below w.heap.size w w' := by
  have hz := zeroM_run
  have hS := hid (((St.start w).newMB zeroM 27).newMB zeroM 27)
  rw [heap_alloc_size] at hS
  have hfr := hid (fun W L hW => Dg.from (w := w) (W := W) (L := L) hv hl hW)
  have hz2 := hid (fun L W (h : St w.heap.size w L W) => h.newMB zeroM 27)
  have his := hid l01Is_any
  have hin := hid l01Inverse_any
  replace hv := hid hv
  obtain ⟨A, c, rfl, _⟩ := hv.out
  go_enter Tryz.func80, Tryz.ntmps80
  go_upto_region 3 with (first
    | (go_at_call 104; (with_reducible refine (hfr.out _ _ hS.out).mono ?_); rintro e w1 ⟨S, rfl, D, hS'⟩; replace hS := hid hS'; clear hS')
    | (go_at_call 105; (with_reducible refine (D.out.spoil hS.out).mono ?_); rintro e w2 ⟨M, rfl, hM, hS'⟩; have hle := hid hS'.le; replace hS := hid (hz2.out _ _ hS'); clear hS')
    | ((with_reducible refine gateOp (op := .store 27 (.tmp 7) (.tmp 12)) rfl ?_); refine store_mach rfl _ _ rfl w2.heap.size rfl M rfl 27 _ hS.out.m0 ?_; intro w4 p3 ho hsz hbl; replace hS := hid (hS.out.setM hle.out p3 ho hbl); clear p3 ho hsz hbl))
  generalize w2.heap.size = b7 at *
  have hM7 := hid hS.out.m0
  have hle3 := hid hS.out.le
  replace hS := hid (hz2.out _ _ hS.out)
  go_upto_region 4 with (first
    | ((with_reducible refine gate (N := 13) rfl ?_); refine load_mach rfl _ rfl b7 rfl M hM7.out ?_)
    | ((with_reducible refine gateOp (op := .store 27 (.tmp 8) (.tmp 13)) rfl ?_); refine store_mach rfl _ _ rfl w4.heap.size rfl M rfl 27 _ hS.out.m0 ?_; intro w5 p3 ho hsz hbl; replace hS := hid (hS.out.setM hle3.out p3 ho hbl); clear p3 ho hsz hbl))
  have hle8 := hid (show w.heap.size ≤ w4.heap.size from hle3.out)
  generalize w4.heap.size = b8 at *
  clear hM7 hle3
  replace hS := hid hS.out.f2
  go_simp
  go_cut [15] from 14 (fun d wr => ∃ z : Nat, d = .int .i64 z ∧ St w.heap.size w [Asn.src S (.slice A l.length c) l.length, Asn.mb 27 b8 M, Asn.mb 27 b7 M, Asn.mb 27 (w.heap.size + 1) zeroM, Asn.mb 27 w.heap.size zeroM] wr)
  case first =>
    go_wp2_with (
      (go_at_call 130; (with_reducible refine (D.out.next 4 (by omega) hS.out).mono ?_); rintro e w6 ⟨z, rfl, hz4, hS'⟩; replace hS := hid hS'; clear hS'))
    go_meet
    exact ⟨_, rfl, hS.out⟩
  obtain ⟨z, rfl, hcut⟩ := hcut
  replace hS := hid hcut
  clear hcut
  rename_i hK0
  refine hK0 _ _ ?_
  clear hK0
  go_cut [3] from 16 (fun d wr => ∃ K : Mach, d = .int .i64 0 ∧ Hid K.Ok ∧ St w.heap.size w [Asn.src S (.slice A l.length c) l.length, Asn.mb 27 b8 K, Asn.mb 27 b7 M, Asn.mb 27 (w.heap.size + 1) zeroM, Asn.mb 27 w.heap.size zeroM] wr)
  case first =>
    by_cases z0 : z = 0
    · subst z0
      by_cases hm : IsM M
      · obtain ⟨lL, sS, g⟩ := hm.good
        have hiv := hid (inv_ok g)
        have hi1 := hid (fun W => his.out W M hM.out.ok true (iff_of_true rfl hm))
        have hi2 := hid (fun W => hin.out W M lL sS g hM.out.ok)
        clear g hm
        generalize inv M lL sS = IV at *
        go_wp2_with (first
          | ((with_reducible refine gate (N := 18) rfl ?_); refine load_mach rfl _ rfl b7 rfl M hS.out.m2 ?_)
          | (go_at_call 141; (with_reducible refine (hi1.out _).mono ?_); rintro e w7 ⟨rfl, hb⟩; replace hS := hid (hS.out.call hb); clear hb)
          | ((with_reducible refine gate (N := 20) rfl ?_); refine load_mach rfl _ rfl b7 rfl M hS.out.m2 ?_)
          | (go_at_call 137; (with_reducible refine (hi2.out _).mono ?_); rintro e w8 ⟨rfl, hb⟩; replace hS := hid (hS.out.call hb); clear hb)
          | ((with_reducible refine gateOp (op := .store 27 (.tmp 8) (.tmp 21)) rfl ?_); refine store_mach rfl _ _ rfl b8 rfl IV rfl 27 _ hS.out.f1.m0 ?_; intro w9 p3 ho hsz hbl; replace hS := hid (hS.out.f1.setM hle8.out p3 ho hbl); clear p3 ho hsz hbl))
        go_meet
        exact ⟨_, rfl, hiv, hS.out.f1⟩
      · have hi1 := hid (fun W => his.out W M hM.out.ok false (iff_of_false (by decide) hm))
        clear hm
        go_wp2_with (first
          | ((with_reducible refine gate (N := 18) rfl ?_); refine load_mach rfl _ rfl b7 rfl M hS.out.m2 ?_)
          | (go_at_call 141; (with_reducible refine (hi1.out _).mono ?_); rintro e w7 ⟨rfl, hb⟩; replace hS := hid (hS.out.call hb); clear hb))
        go_meet
        exact ⟨_, rfl, hid hM.out.ok, hS.out⟩
    · have d0 : ((z : Int) == 0) = false := by simp; omega
      by_cases z1 : z = 1
      · subst z1
        go_upto_region 9 with (fail)
        obtain ⟨d, hd, hd2⟩ : ∃ d : Nat, (if (3 : Int) < (if M.L < 2 then 2 else M.L) then (3 : Int) else (if M.L < 2 then 2 else M.L)) = (d : Int) ∧ (d = 2 ∨ d = 3) := by
          by_cases h3 : M.L ≤ 2
          · exact ⟨2, by (repeat' split) <;> omega, .inl rfl⟩
          · exact ⟨3, by (repeat' split) <;> omega, .inr rfl⟩
        replace hd := hid hd
        replace hS := hid hS.out.drew
        refine wp_region_heldL (L := [(9, (fun w' : World => MB w' 27 b7 M))]) (by kernel_rfl) (HeldL.cons (fun _ => hS.out.m2) HeldL.nil) (fun hHeld => ?_)
        generalize World.drew _ = wa at *
        refine wpAnyL_take0 (i := 0) (v := ?_) rfl (by kernel_rfl) (by kernel_rfl) (by kernel_rfl) (by rfl) (fun _ _ _ h => h) (Or.inl ⟨by rfl, ?_⟩) (by assumption) ?_
        rotate_left
        · (intro W _; go_simp; (with_reducible rfl))
        intro hHeld'
        clear hHeld; have hHeld := hHeld'; clear hHeld'
        try simp only [Act.put, List.getElem_toArray, List.getElem_cons_succ, List.getElem_cons_zero, List.setIfInBounds_toArray, List.set_cons_zero, List.set_cons_succ]
        refine wpAnyL_take0 (i := 1) (v := ?_) rfl (by kernel_rfl) (by kernel_rfl) (by kernel_rfl) (by rfl) (fun _ _ _ h => h) (Or.inl ⟨by rfl, ?_⟩) (by assumption) ?_
        rotate_left
        · (intro W _; go_simp; (with_reducible rfl))
        intro hHeld'
        clear hHeld; have hHeld := hHeld'; clear hHeld'
        try simp only [Act.put, List.getElem_toArray, List.getElem_cons_succ, List.getElem_cons_zero, List.setIfInBounds_toArray, List.set_cons_zero, List.set_cons_succ]
        refine wpAnyL_takeP (i := 2) 9 [] (v := (.int .i64 M.L)) (fun w' : World => MB w' 27 b7 M) rfl (by kernel_rfl) (by kernel_rfl) (by kernel_rfl) (by rfl) (by kernel_rfl) (by simp) (fun _ _ _ h => h) (Or.inl ⟨by rfl, ?_⟩) (by assumption) ?_
        · (intro W hW; (replace hW := hW.cL); go_simp)
        intro hHeld'
        clear hHeld; have hHeld := hHeld'; clear hHeld'
        try simp only [Act.put, List.getElem_toArray, List.getElem_cons_succ, List.getElem_cons_zero, List.setIfInBounds_toArray, List.set_cons_zero, List.set_cons_succ]
        refine wpAnyL_take0 (i := 3) (v := ?_) rfl (by kernel_rfl) (by kernel_rfl) (by kernel_rfl) (by rfl) (fun _ _ _ h => h) (Or.inl ⟨by rfl, ?_⟩) (by assumption) ?_
        rotate_left
        · (intro W _; go_simp; (with_reducible rfl))
        intro hHeld'
        clear hHeld; have hHeld := hHeld'; clear hHeld'
        try simp only [Act.put, List.getElem_toArray, List.getElem_cons_succ, List.getElem_cons_zero, List.setIfInBounds_toArray, List.set_cons_zero, List.set_cons_succ]
        refine wpAnyL_take0 (i := 4) (v := ?_) rfl (by kernel_rfl) (by kernel_rfl) (by kernel_rfl) (by rfl) (fun _ _ _ h => h) (Or.inl ⟨by rfl, ?_⟩) (by assumption) ?_
        rotate_left
        · (intro W _; go_simp; (with_reducible rfl))
        intro hHeld'
        clear hHeld; have hHeld := hHeld'; clear hHeld'
        try simp only [Act.put, List.getElem_toArray, List.getElem_cons_succ, List.getElem_cons_zero, List.setIfInBounds_toArray, List.set_cons_zero, List.set_cons_succ]
        refine wpAnyL_take0 (i := 5) (v := ?_) rfl (by kernel_rfl) (by kernel_rfl) (by kernel_rfl) (by rfl) (fun _ _ _ h => h) (Or.inl ⟨by rfl, ?_⟩) (by assumption) ?_
        rotate_left
        · (intro W _; go_simp; (with_reducible rfl))
        intro hHeld'
        clear hHeld; have hHeld := hHeld'; clear hHeld'
        try simp only [Act.put, List.getElem_toArray, List.getElem_cons_succ, List.getElem_cons_zero, List.setIfInBounds_toArray, List.set_cons_zero, List.set_cons_succ]
        refine wpAnyL_ready (rs := [6]) (by kernel_rfl) (by simp) ?_
        refine AllReadyL.cons rfl (fun K hK => ?_) AllReadyL.nil
        go_simp
        (with_reducible refine (D.out.next 5 (by omega) hS.out).mono ?_)
        rintro e w7 ⟨y, rfl, hy, hS'⟩
        replace hS := hid hS'
        clear hS'
        have hyy : (y : Int) < 5 := by omega
        have ew2 := hid (show IntKind.i64.wrap (1 + (y : Int)) = 1 + (y : Int) by unfold IntKind.wrap; simp [IntKind.signed, IntKind.bits]; omega)
        go_simp
        refine hK.out _ _ (HeldL.cons (fun _ => hS.out.m2) HeldL.nil) (fun hHeld' => ?_)
        clear hK K hHeld; have hHeld := hHeld'; clear hHeld'
        try simp only [Act.put, List.getElem_toArray, List.getElem_cons_succ, List.getElem_cons_zero, List.setIfInBounds_toArray, List.set_cons_zero, List.set_cons_succ]
        refine wpAnyL_take0 (i := 7) (v := (.int .i64 ((1 + y : Nat) : Int))) rfl (by kernel_rfl) (by kernel_rfl) (by kernel_rfl) (by rfl) (fun _ _ _ h => h) (Or.inl ⟨by rfl, ?_⟩) (by assumption) ?_
        · (intro W _; go_simp; exact ew2.out)
        intro hHeld'
        clear hHeld; have hHeld := hHeld'; clear hHeld'
        try simp only [Act.put, List.getElem_toArray, List.getElem_cons_succ, List.getElem_cons_zero, List.setIfInBounds_toArray, List.set_cons_zero, List.set_cons_succ]
        refine wpAnyL_ready (rs := [8]) (by kernel_rfl) (by simp) ?_
        refine AllReadyL.cons rfl (fun K hK => ?_) AllReadyL.nil
        go_simp
        rw [hd.out, show (1 + (y : Int)) = ((1 + y : Nat) : Int) by omega]
        (with_reducible refine (D.out.any d (1 + y) hd2 (by omega) hS.out).mono ?_)
        rintro e w8 ⟨M3, rfl, hM3, hS'⟩
        replace hS := hid hS'
        clear hS'
        go_simp
        refine hK.out _ _ (HeldL.cons (fun _ => hS.out.m2) HeldL.nil) (fun hHeld' => ?_)
        clear hK K hHeld; have hHeld := hHeld'; clear hHeld'
        try simp only [Act.put, List.getElem_toArray, List.getElem_cons_succ, List.getElem_cons_zero, List.setIfInBounds_toArray, List.set_cons_zero, List.set_cons_succ]
        refine wpAnyL_ready (rs := [9]) (by kernel_rfl) (by simp) ?_
        refine AllReadyL.cons rfl (fun K hK => ?_) AllReadyL.nil
        refine step_store_mach rfl _ _ rfl _ rfl M3 rfl _ _ hS.out.m1 ?_
        intro W9 p2 ho hbl
        replace hS := hid (hS.out.f1.setM hle8.out p2 ho hbl)
        clear p2 ho hbl
        refine hK.out _ _ (HeldL.cons (fun h => absurd h (by decide +kernel)) HeldL.nil) (fun hHeld' => ?_)
        clear hK K hHeld; have hHeld := hHeld'; clear hHeld'
        try simp only [Act.put, List.getElem_toArray, List.getElem_cons_succ, List.getElem_cons_zero, List.setIfInBounds_toArray, List.set_cons_zero, List.set_cons_succ]
        refine wpAnyL_done (by kernel_rfl) ?_ _
        go_wp2
        all_goals go_meet
        all_goals exact ⟨_, rfl, hid hM3.out.1, hS.out.f1⟩
      · have d1 : ((z : Int) == 1) = false := by simp; omega
        by_cases z2 : z = 2
        · subst z2
          go_upto_if 37 with (
            (go_at_call 130; (with_reducible refine (D.out.next 3 (by omega) hS.out).mono ?_); rintro e w7 ⟨y, rfl, hy, hS'⟩; replace hS := hid hS'; clear hS'))
          by_cases y0 : y = 0
          · subst y0
            go_wp2_with (first
              | (go_at_call 105; (with_reducible refine (D.out.spoil hS.out).mono ?_); rintro e w8 ⟨M3, rfl, hM3, hS'⟩; replace hS := hid hS'; clear hS')
              | ((with_reducible refine gateOp (op := .store 27 (.tmp 8) (.tmp 39)) rfl ?_); refine store_mach rfl _ _ rfl b8 rfl M3 rfl 27 _ hS.out.f1.m0 ?_; intro w9 p3 ho hsz hbl; replace hS := hid (hS.out.f1.setM hle8.out p3 ho hbl); clear p3 ho hsz hbl))
            go_meet
            exact ⟨_, rfl, hid hM3.out.ok, hS.out.f1⟩
          · have e0 : ((y : Int) == 0) = false := by simp; omega
            go_wp2
            go_meet
            exact ⟨_, rfl, hid hM.out.ok, hS.out⟩
        · have d2 : ((z : Int) == 2) = false := by simp; omega
          go_wp2
          go_meet
          exact ⟨_, rfl, hid hM.out.ok, hS.out⟩
  case rest =>
    obtain ⟨M2, rfl, hK, hcut⟩ := hcut
    replace hS := hid hcut
    clear hcut
    go_upto_region 13 with (fail)
    replace hS := hid hS.out.drew
    refine wp_region_heldL (L := [(10, (fun w' : World => MB w' 27 b7 M ∧ MB w' 27 b8 M2))]) (by kernel_rfl) (HeldL.cons (fun _ => ⟨hS.out.m2, hS.out.m1⟩) HeldL.nil) (fun hHeld => ?_)
    generalize World.drew _ = wa at *
    refine wpAnyL_takeP (i := 0) 10 [] (v := (.agg (mcells M))) (fun w' : World => MB w' 27 b7 M ∧ MB w' 27 b8 M2) rfl (by kernel_rfl) (by kernel_rfl) (by kernel_rfl) (by rfl) (by kernel_rfl) (by simp) (fun _ _ _ h => h) (Or.inl ⟨by rfl, ?_⟩) (by assumption) ?_
    · (intro W hW; exact exec_load _ rfl rfl (load_run hW.1))
    intro hHeld'
    clear hHeld; have hHeld := hHeld'; clear hHeld'
    try simp only [Act.put, List.getElem_toArray, List.getElem_cons_succ, List.getElem_cons_zero, List.setIfInBounds_toArray, List.set_cons_zero, List.set_cons_succ]
    refine wpAnyL_take0 (i := 1) (v := ?_) rfl (by kernel_rfl) (by kernel_rfl) (by kernel_rfl) (by rfl) (fun _ _ _ h => h) (Or.inl ⟨by rfl, ?_⟩) (by assumption) ?_
    rotate_left
    · (intro W _; go_simp; (with_reducible rfl))
    intro hHeld'
    clear hHeld; have hHeld := hHeld'; clear hHeld'
    try simp only [Act.put, List.getElem_toArray, List.getElem_cons_succ, List.getElem_cons_zero, List.setIfInBounds_toArray, List.set_cons_zero, List.set_cons_succ]
    refine wpAnyL_takeP (i := 2) 10 [] (v := (.agg (mcells M))) (fun w' : World => MB w' 27 b7 M ∧ MB w' 27 b8 M2) rfl (by kernel_rfl) (by kernel_rfl) (by kernel_rfl) (by rfl) (by kernel_rfl) (by simp) (fun _ _ _ h => h) (Or.inl ⟨by rfl, ?_⟩) (by assumption) ?_
    · (intro W hW; exact exec_load _ rfl rfl (load_run hW.1))
    intro hHeld'
    clear hHeld; have hHeld := hHeld'; clear hHeld'
    try simp only [Act.put, List.getElem_toArray, List.getElem_cons_succ, List.getElem_cons_zero, List.setIfInBounds_toArray, List.set_cons_zero, List.set_cons_succ]
    refine wpAnyL_takeP (i := 4) 10 [] (v := (.agg (mcells M2))) (fun w' : World => MB w' 27 b7 M ∧ MB w' 27 b8 M2) rfl (by kernel_rfl) (by kernel_rfl) (by kernel_rfl) (by rfl) (by kernel_rfl) (by simp) (fun _ _ _ h => h) (Or.inl ⟨by rfl, ?_⟩) (by assumption) ?_
    · (intro W hW; exact exec_load _ rfl rfl (load_run hW.2))
    intro hHeld'
    clear hHeld; have hHeld := hHeld'; clear hHeld'
    try simp only [Act.put, List.getElem_toArray, List.getElem_cons_succ, List.getElem_cons_zero, List.setIfInBounds_toArray, List.set_cons_zero, List.set_cons_succ]
    refine wpAnyL_take0 (i := 5) (v := ?_) rfl (by kernel_rfl) (by kernel_rfl) (by kernel_rfl) (by rfl) (fun _ _ _ h => h) (Or.inl ⟨by rfl, ?_⟩) (by assumption) ?_
    rotate_left
    · (intro W _; go_simp; (with_reducible rfl))
    intro hHeld'
    clear hHeld; have hHeld := hHeld'; clear hHeld'
    try simp only [Act.put, List.getElem_toArray, List.getElem_cons_succ, List.getElem_cons_zero, List.setIfInBounds_toArray, List.set_cons_zero, List.set_cons_succ]
    refine wpAnyL_takeP (i := 6) 10 [8, 7] (v := (.agg (mcells M2))) (fun w' : World => MB w' 27 b7 M ∧ MB w' 27 b8 M2) rfl (by kernel_rfl) (by kernel_rfl) (by kernel_rfl) (by rfl) (by kernel_rfl) (by simp) (fun _ _ _ h => h) (Or.inl ⟨by rfl, ?_⟩) (by assumption) ?_
    · (intro W hW; exact exec_load _ rfl rfl (load_run hW.2))
    intro hHeld'
    clear hHeld; have hHeld := hHeld'; clear hHeld'
    try simp only [Act.put, List.getElem_toArray, List.getElem_cons_succ, List.getElem_cons_zero, List.setIfInBounds_toArray, List.set_cons_zero, List.set_cons_succ]
    refine wpAnyL_ready (rs := [3]) (by kernel_rfl) (by simp) ?_
    refine AllReadyL.cons rfl (fun K hK => ?_) AllReadyL.nil
    go_simp
    (with_reducible refine (D.out.state M hS.out).mono ?_)
    rintro e w7 ⟨q, rfl, hq, hS'⟩
    replace hS := hid hS'
    clear hS'
    go_simp
    refine hK.out _ _ (HeldL.cons (fun _ => ⟨hS.out.m2, hS.out.m1⟩) HeldL.nil) (fun hHeld' => ?_)
    clear hK K hHeld; have hHeld := hHeld'; clear hHeld'
    try simp only [Act.put, List.getElem_toArray, List.getElem_cons_succ, List.getElem_cons_zero, List.setIfInBounds_toArray, List.set_cons_zero, List.set_cons_succ]
    refine wpAnyL_ready (rs := [7]) (by kernel_rfl) (by simp) ?_
    refine AllReadyL.cons rfl (fun K hK => ?_) AllReadyL.nil
    go_simp
    (with_reducible refine (D.out.state M2 hS.out).mono ?_)
    rintro e w8 ⟨r, rfl, hr, hS'⟩
    replace hS := hid hS'
    clear hS'
    go_simp
    refine hK.out _ _ (HeldL.cons (fun _ => ⟨hS.out.m2, hS.out.m1⟩) HeldL.nil) (fun hHeld' => ?_)
    clear hK K hHeld; have hHeld := hHeld'; clear hHeld'
    try simp only [Act.put, List.getElem_toArray, List.getElem_cons_succ, List.getElem_cons_zero, List.setIfInBounds_toArray, List.set_cons_zero, List.set_cons_succ]
    refine wpAnyL_ready (rs := [8]) (by kernel_rfl) (by simp) ?_
    refine AllReadyL.cons rfl (fun K hK => ?_) AllReadyL.nil
    refine step_store_mach rfl _ _ rfl _ rfl M rfl _ _ hS.out.m4 ?_
    intro W9 p2 ho hbl
    replace hS := hid (hS.out.f4.setM (Nat.le_refl _) p2 ho hbl)
    clear p2 ho hbl
    refine hK.out _ _ (HeldL.cons (fun _ => ⟨hS.out.m3, hS.out.m2⟩) HeldL.nil) (fun hHeld' => ?_)
    clear hK K hHeld; have hHeld := hHeld'; clear hHeld'
    try simp only [Act.put, List.getElem_toArray, List.getElem_cons_succ, List.getElem_cons_zero, List.setIfInBounds_toArray, List.set_cons_zero, List.set_cons_succ]
    refine wpAnyL_take0 (i := 9) (v := ?_) rfl (by kernel_rfl) (by kernel_rfl) (by kernel_rfl) (by rfl) (fun _ _ _ h => h) (Or.inl ⟨by rfl, ?_⟩) (by assumption) ?_
    rotate_left
    · (intro W _; go_simp; (with_reducible rfl))
    intro hHeld'
    clear hHeld; have hHeld := hHeld'; clear hHeld'
    try simp only [Act.put, List.getElem_toArray, List.getElem_cons_succ, List.getElem_cons_zero, List.setIfInBounds_toArray, List.set_cons_zero, List.set_cons_succ]
    refine wpAnyL_ready (rs := [10]) (by kernel_rfl) (by simp) ?_
    refine AllReadyL.cons rfl (fun K hK => ?_) AllReadyL.nil
    refine step_store_mach rfl _ _ rfl _ rfl M2 rfl _ _ hS.out.m4 ?_
    intro W10 p2 ho hbl
    replace hS := hid (hS.out.f4.setM (Nat.le_succ _) p2 ho hbl)
    clear p2 ho hbl
    refine hK.out _ _ (HeldL.cons (fun h => absurd h (by decide +kernel)) HeldL.nil) (fun hHeld' => ?_)
    clear hK K hHeld; have hHeld := hHeld'; clear hHeld'
    try simp only [Act.put, List.getElem_toArray, List.getElem_cons_succ, List.getElem_cons_zero, List.setIfInBounds_toArray, List.set_cons_zero, List.set_cons_succ]
    refine wpAnyL_take0 (i := 11) (v := ?_) rfl (by kernel_rfl) (by kernel_rfl) (by kernel_rfl) (by rfl) (fun _ _ _ h => h) (Or.inl ⟨by rfl, ?_⟩) (by assumption) ?_
    rotate_left
    · (intro W _; go_simp; (with_reducible rfl))
    intro hHeld'
    clear hHeld; have hHeld := hHeld'; clear hHeld'
    try simp only [Act.put, List.getElem_toArray, List.getElem_cons_succ, List.getElem_cons_zero, List.setIfInBounds_toArray, List.set_cons_zero, List.set_cons_succ]
    refine wpAnyL_done (by kernel_rfl) ?_ _
    go_wp2
    exact ret_mvmv rfl rfl rfl rfl rfl hS.out.m1 hS.out.m0 rfl ⟨M, q, M2, r, rfl, hid ⟨hM.out.ok, hK.out, hq.out, hr.out⟩, hS.out.bel⟩
set_option maxHeartbeats 4000000 in
set_option maxRecDepth 100000 in
theorem drPos_any (w : World) (v : Value) (l : List Nat) (hv : ArgB w v l) (hl : l.length ≤ 4096) :
    Calls Tryz.prog 9 #[v] w fun e w' => ∃ (m : Mach) (q : Int) (k : Mach) (r : Int), e = .returned (.tuple #[.agg (mcells m), .int .i64 q, .agg (mcells k), .int .i64 r]) ∧ Hid (m.Ok ∧ k.Ok ∧ I64 q ∧ I64 r) ∧ Below w.heap.size w w' := by
  have hz := zeroM_run
  have hS := hid (((St.start w).newMB zeroM 27).newMB zeroM 27)
  rw [heap_alloc_size] at hS
  have hdr := hid (fun W (hW : Below w.heap.size w W) => l07Draw_any W v l (hv.below hW) hl)
  have hz2 := hid (fun L W (h : St w.heap.size w L W) => (h.newMB zeroM 27).newMB zeroM 27)
  replace hv := hid hv
  obtain ⟨A, c, rfl, _⟩ := hv.out
  go_enter Tryz.func9, Tryz.ntmps9
  go_upto_region 2 with (first
    | (go_at_call 80; (with_reducible refine (hdr.out _ hS.out.bel).mono ?_); rintro e w1 ⟨M, q, K2, r, rfl, hM, hb⟩; have hle := hid (hS.out.call hb).le; replace hS := hid (hz2.out _ _ (hS.out.call hb)); rw [heap_alloc_size] at hS; clear hb)
    | ((with_reducible refine gateOp (op := .store 27 (.tmp 6) (.tmp 13)) rfl ?_); refine store_mach rfl _ _ rfl w1.heap.size rfl M rfl 27 _ hS.out.f1.m0 ?_; intro w2 p3 ho hsz hbl; replace hS := hid (hS.out.f1.setM hle.out p3 ho hbl); clear p3 ho hsz hbl)
    | ((with_reducible refine gateOp (op := .store 27 (.tmp 8) (.tmp 15)) rfl ?_); refine store_mach rfl _ _ rfl (w1.heap.size + 1) rfl K2 rfl 27 _ hS.out.f1.m0 ?_; intro w3 p3 ho hsz hbl; replace hS := hid (hS.out.f1.setM (Nat.le_succ_of_le hle.out) p3 ho hbl); clear p3 ho hsz hbl))
  generalize w1.heap.size = b6 at *
  replace hS := hid hS.out.drew
  refine wp_region_heldL (L := [(6, (fun w' : World => MB w' 27 b6 M ∧ MB w' 27 (b6 + 1) K2))]) (by kernel_rfl) (HeldL.cons (fun _ => ⟨hS.out.m1, hS.out.m0⟩) HeldL.nil) (fun hHeld => ?_)
  generalize World.drew _ = wa at *
  refine wpAnyL_takeP (i := 0) 6 [] (v := (.agg (mcells M))) (fun w' : World => MB w' 27 b6 M ∧ MB w' 27 (b6 + 1) K2) rfl (by kernel_rfl) (by kernel_rfl) (by kernel_rfl) (by rfl) (by kernel_rfl) (by simp) (fun _ _ _ h => h) (Or.inl ⟨by rfl, ?_⟩) (by assumption) ?_
  · (intro W hW; exact exec_load _ rfl rfl (load_run hW.1))
  intro hHeld'
  clear hHeld; have hHeld := hHeld'; clear hHeld'
  try simp only [Act.put, List.getElem_toArray, List.getElem_cons_succ, List.getElem_cons_zero, List.setIfInBounds_toArray, List.set_cons_zero, List.set_cons_succ]
  refine wpAnyL_take0 (i := 1) (v := ?_) rfl (by kernel_rfl) (by kernel_rfl) (by kernel_rfl) (by rfl) (fun _ _ _ h => h) (Or.inl ⟨by rfl, ?_⟩) (by assumption) ?_
  rotate_left
  · (intro W _; go_simp; (with_reducible rfl))
  intro hHeld'
  clear hHeld; have hHeld := hHeld'; clear hHeld'
  try simp only [Act.put, List.getElem_toArray, List.getElem_cons_succ, List.getElem_cons_zero, List.setIfInBounds_toArray, List.set_cons_zero, List.set_cons_succ]
  refine wpAnyL_takeP (i := 2) 6 [] (v := (.agg (mcells K2))) (fun w' : World => MB w' 27 b6 M ∧ MB w' 27 (b6 + 1) K2) rfl (by kernel_rfl) (by kernel_rfl) (by kernel_rfl) (by rfl) (by kernel_rfl) (by simp) (fun _ _ _ h => h) (Or.inl ⟨by rfl, ?_⟩) (by assumption) ?_
  · (intro W hW; exact exec_load _ rfl rfl (load_run hW.2))
  intro hHeld'
  clear hHeld; have hHeld := hHeld'; clear hHeld'
  try simp only [Act.put, List.getElem_toArray, List.getElem_cons_succ, List.getElem_cons_zero, List.setIfInBounds_toArray, List.set_cons_zero, List.set_cons_succ]
  refine wpAnyL_take0 (i := 3) (v := ?_) rfl (by kernel_rfl) (by kernel_rfl) (by kernel_rfl) (by rfl) (fun _ _ _ h => h) (Or.inl ⟨by rfl, ?_⟩) (by assumption) ?_
  rotate_left
  · (intro W _; go_simp; (with_reducible rfl))
  intro hHeld'
  clear hHeld; have hHeld := hHeld'; clear hHeld'
  try simp only [Act.put, List.getElem_toArray, List.getElem_cons_succ, List.getElem_cons_zero, List.setIfInBounds_toArray, List.set_cons_zero, List.set_cons_succ]
  refine wpAnyL_ready (rs := [4]) (by kernel_rfl) (by simp) ?_
  refine AllReadyL.cons rfl (fun K hK => ?_) AllReadyL.nil
  refine step_store_mach rfl _ _ rfl _ rfl M rfl _ _ hS.out.m3 ?_
  intro W9 p2 ho hbl
  replace hS := hid (hS.out.f3.setM (Nat.le_refl _) p2 ho hbl)
  clear p2 ho hbl
  refine hK.out _ _ (HeldL.cons (fun _ => ⟨hS.out.m2, hS.out.m1⟩) HeldL.nil) (fun hHeld' => ?_)
  clear hK K hHeld; have hHeld := hHeld'; clear hHeld'
  try simp only [Act.put, List.getElem_toArray, List.getElem_cons_succ, List.getElem_cons_zero, List.setIfInBounds_toArray, List.set_cons_zero, List.set_cons_succ]
  refine wpAnyL_take0 (i := 5) (v := ?_) rfl (by kernel_rfl) (by kernel_rfl) (by kernel_rfl) (by rfl) (fun _ _ _ h => h) (Or.inl ⟨by rfl, ?_⟩) (by assumption) ?_
  rotate_left
  · (intro W _; go_simp; (with_reducible rfl))
  intro hHeld'
  clear hHeld; have hHeld := hHeld'; clear hHeld'
  try simp only [Act.put, List.getElem_toArray, List.getElem_cons_succ, List.getElem_cons_zero, List.setIfInBounds_toArray, List.set_cons_zero, List.set_cons_succ]
  refine wpAnyL_ready (rs := [6]) (by kernel_rfl) (by simp) ?_
  refine AllReadyL.cons rfl (fun K hK => ?_) AllReadyL.nil
  refine step_store_mach rfl _ _ rfl _ rfl K2 rfl _ _ hS.out.m3 ?_
  intro W10 p2 ho hbl
  replace hS := hid (hS.out.f3.setM (Nat.le_succ _) p2 ho hbl)
  clear p2 ho hbl
  refine hK.out _ _ (HeldL.cons (fun h => absurd h (by decide +kernel)) HeldL.nil) (fun hHeld' => ?_)
  clear hK K hHeld; have hHeld := hHeld'; clear hHeld'
  try simp only [Act.put, List.getElem_toArray, List.getElem_cons_succ, List.getElem_cons_zero, List.setIfInBounds_toArray, List.set_cons_zero, List.set_cons_succ]
  refine wpAnyL_take0 (i := 7) (v := ?_) rfl (by kernel_rfl) (by kernel_rfl) (by kernel_rfl) (by rfl) (fun _ _ _ h => h) (Or.inl ⟨by rfl, ?_⟩) (by assumption) ?_
  rotate_left
  · (intro W _; go_simp; (with_reducible rfl))
  intro hHeld'
  clear hHeld; have hHeld := hHeld'; clear hHeld'
  try simp only [Act.put, List.getElem_toArray, List.getElem_cons_succ, List.getElem_cons_zero, List.setIfInBounds_toArray, List.set_cons_zero, List.set_cons_succ]
  refine wpAnyL_done (by kernel_rfl) ?_ _
  go_wp2
  exact ret_mvmv rfl rfl rfl rfl rfl hS.out.m1 hS.out.m0 rfl ⟨M, q, K2, r, rfl, hM, hS.out.bel⟩
end Go.Proofs.YthmcdfjijkecfaaGreat

/- The dice of the great laws. -/
namespace Go.Proofs.YthmcdfjijkecfaaGreat
open Go.RowKit
set_option linter.unusedVariables false
set_option linter.unusedSimpArgs false
-- @LONG

/-- Dice: their code, how far it is read, their number. -/
def Asn.dic (S : Nat) (v : Value) (n : Nat) : Asn :=
  ⟨fun k => k = S, fun w => ∃ a h : Nat, w.heap[S]? = some (.cells #[v, .int .i64 a, .int .u64 h] 142 (0, 0)) ∧ a ≤ n ∧ h < 18446744073709551616,
   fun ⟨a, h, h1, h2⟩ hk => ⟨a, h, (hk S rfl).trans h1, h2⟩, fun ⟨a, h, h1, _⟩ k hk => hk ▸ (Array.getElem?_eq_some_iff.1 h1).1⟩
theorem St.dicBlk {base S n : Nat} {w0 w : World} {L : List Asn} {v : Value} (h : St base w0 (Asn.dic S v n :: L) w) : ∃ a x : Nat, a ≤ n ∧ x < 18446744073709551616 ∧ St base w0 (Asn.blk S #[v, .int .i64 a, .int .u64 x] 142 :: L) w := by
  obtain ⟨⟨a, x, h1, h2, h3⟩, hf, hL⟩ := h.star
  exact ⟨a, x, h2, h3, h.bel, h.le, h1, hf, hL⟩
theorem St.blkDic {base S n a x : Nat} {w0 w : World} {L : List Asn} {v : Value} (h : St base w0 (Asn.blk S #[v, .int .i64 a, .int .u64 x] 142 :: L) w) (ha : a ≤ n) (hx : x < 18446744073709551616) : St base w0 (Asn.dic S v n :: L) w :=
  ⟨h.bel, h.le, ⟨a, x, h.star.1, ha, hx⟩, h.star.2.1, h.star.2.2⟩
set_option maxHeartbeats 2000000 in
set_option maxRecDepth 100000 in
theorem below_any (w0 : World) (L : List Asn) (w : World) (S : Nat) (v : Value) (l : List Nat) (hv : ArgB w0 v l) (hl : l.length ≤ 4096) (hSb : w0.heap.size ≤ S) (n : Int) (hn : n < 9223372036854775808)
    (hS : St w0.heap.size w0 (Asn.dic S v l.length :: L) w) :
    Calls Tryz.prog 26 #[.pointer (some ⟨S, 0, none⟩), .int .i64 n] w fun e w' => ∃ r : Int, e = .returned (.int .i64 r) ∧ 0 ≤ r ∧ (r < n ∨ r = 0) ∧ St w0.heap.size w0 (Asn.dic S v l.length :: L) w' := by
  have hv' := hid hv
  obtain ⟨A, c, rfl, hA⟩ := hv
  obtain ⟨a, x, ha, hx, hB⟩ := hS.dicBlk
  by_cases h1 : n < 1
  · have d1 : decide (n < 1) = true := decide_eq_true h1
    replace hS := hid hS
    clear hB
    go_enter Tryz.func26, Tryz.ntmps26
    go_wp2
    go_ret
    exact ⟨0, rfl, by omega, .inr rfl, hS.out⟩
  · have d1 : decide (n < 1) = false := decide_eq_false h1
    have c2 := (show w.cell? ⟨S, 2, none⟩ = some (.int .u64 x) from cell_of_row _ _ 2 _ _ _ hB.k0)
    have f2 := frozen_of_row _ _ 2 _ _ hB.k0
    replace hB := hid hB
    clear hS
    go_enter Tryz.func26, Tryz.ntmps26
    go_upto_region 4 with (fail)
    obtain ⟨y, hy, hy2⟩ := u64_nat (IntKind.u64.wrap ((x : Int) * 6364136223846793005) + 1442695040888963407)
    rw [hy]
    clear hy
    replace hB := hid (show St w0.heap.size w0 (Asn.blk S #[.slice A l.length c, .int .i64 a, .int .u64 y] 142 :: L) _ from hB.out.setBlk hSb 2 (.int .u64 y))
    clear c2 f2
    generalize w.setCell _ _ = w1 at *
    have c2 := (show w1.cell? ⟨S, 2, none⟩ = some (.int .u64 y) from cell_of_row _ _ 2 _ _ _ hB.out.k0)
    have c1 := (show w1.cell? ⟨S, 1, none⟩ = some (.int .i64 a) from cell_of_row _ _ 1 _ _ _ hB.out.k0)
    have c0 := (show w1.cell? ⟨S, 0, none⟩ = some (.slice A l.length c) from cell_of_row _ _ 0 _ _ _ hB.out.k0)
    have f1 := frozen_of_row _ _ 1 _ _ hB.out.k0
    go_upto_region 5 with (fail)
    obtain ⟨z, hz, hz2⟩ := and24 y hy2
    rw [hz]
    clear hz
    rw [w64 (show -9223372036854775808 ≤ (z : Int) by omega) (show (z : Int) ≤ 9223372036854775807 by omega)]
    have dz : ¬ n = 0 := by omega
    by_cases hlt : a < l.length
    · have da : decide ((a : Int) < (l.length : Int)) = true := decide_eq_true (by omega)
      obtain ⟨g, rfl, hc⟩ : ∃ g : Addr, A = some g ∧ ∀ i x, l[i]? = some x → x < 256 ∧ w0.cell? (g.add i) = some (.int .u8 (x : Nat)) ∧ (g.add i).block < w0.heap.size := by
        rcases hA with ⟨_, h⟩ | ⟨g, h, hh⟩
        · rw [h] at hlt; simp at hlt
        · exact ⟨g, h, hh⟩
      obtain ⟨b, hb⟩ : ∃ b, l[a]? = some b := ⟨_, List.getElem?_eq_getElem hlt⟩
      obtain ⟨hb1, hb2, hb3⟩ := hc a b hb
      have cb := (hB.out.bel.cell hb3).trans hb2
      have a0 : (0 : Int) ≤ (a : Int) := Int.natCast_nonneg _
      have a1 : (a : Int) < (l.length : Int) := by omega
      have ew : wrap64 ((z : Int) + (b : Int)) = (z : Int) + b := w64 (by omega) (by omega)
      have ew1 : wrap64 ((a : Int) + 1) = (a : Int) + 1 := w64 (by omega) (by omega)
      have ewb : wrap64 (b : Int) = (b : Int) := w64 (by omega) (by omega)
      have hr1 := Int.emod_nonneg ((z : Int) + b) (show n ≠ 0 by omega)
      have hr2 := Int.emod_lt_of_pos ((z : Int) + b) (show 0 < n by omega)
      have m1 : Int.tmod ((z : Int) + (b : Int)) n = ((z : Int) + b) % n := Int.tmod_eq_emod_of_nonneg (Int.add_nonneg (Int.natCast_nonneg _) (Int.natCast_nonneg _))
      clear hA hc hb hb2 hb3
      replace hy2 := hid hy2; replace hx := hid hx; replace hn := hid hn; replace hz2 := hid hz2
      go_quiet (fail)
      go_upto_region 6 with (fail)
      go_quiet (fail)
      rw [ew]
      obtain ⟨w3, hw3, hB3⟩ : ∃ w3, (World.drewN (World.drewN w1 _) nq) = w3 ∧ St w0.heap.size w0 (Asn.blk S #[.slice (some g) l.length c, .int .i64 a, .int .u64 y] 142 :: L) w3 := ⟨_, rfl, (hB.out.drewN _).drewN _⟩
      rw [hw3]
      replace hB := hid hB3
      clear hw3 hB3 c0 c1 c2 f1 cb
      have c1 := (show w3.cell? ⟨S, 1, none⟩ = some (.int .i64 a) from cell_of_row _ _ 1 _ _ _ hB.out.k0)
      have f1 := frozen_of_row _ _ 1 _ _ hB.out.k0
      go_upto_region 8 with (fail)
      replace hB := hid (show St w0.heap.size w0 (Asn.blk S #[.slice (some g) l.length c, .int .i64 ((a : Int) + 1), .int .u64 y] 142 :: L) _ from hB.out.setBlk hSb 1 (.int .i64 ((a : Int) + 1)))
      generalize w3.setCell _ _ = w4 at *
      have ea : (a : Int) + 1 = ((a + 1 : Nat) : Int) := rfl
      rw [ea] at hB
      clear c1 f1 ew ew1 ewb
      go_wp2
      go_ret
      exact ⟨((z : Int) + b) % n, by first | rfl | (rw [m1]), hr1, .inl hr2, (hB.out.blkDic (by omega) hy2.out)⟩
    · have da : decide ((a : Int) < (l.length : Int)) = false := decide_eq_false (by omega)
      have hr1 := Int.emod_nonneg (z : Int) (show n ≠ 0 by omega)
      have hr2 := Int.emod_lt_of_pos (z : Int) (show 0 < n by omega)
      have m1 : Int.tmod (z : Int) n = (z : Int) % n := Int.tmod_eq_emod_of_nonneg (Int.natCast_nonneg _)
      go_quiet (fail)
      go_wp2
      go_ret
      exact ⟨(z : Int) % n, by first | rfl | (rw [m1]), hr1, .inl hr2, ((hB.out.drewN _).blkDic ha hy2)⟩
theorem built_dice (A : Option Addr) (n c : Nat) (x : Int) : Tryz.prog.built 142 [(0, .slice A n c), (2, .int .u64 x)] = some #[.slice A n c, .int .i64 0, .int .u64 x] := by kernel_rfl
set_option maxHeartbeats 2000000 in
set_option maxRecDepth 100000 in
theorem roll_any (w : World) (v : Value) (l : List Nat) (hv : ArgB w v l) (hl : l.length ≤ 4096) (sd : Int) :
    Calls Tryz.prog 25 #[v, .int .u64 sd] w fun e w' => e = .returned (.pointer (some ⟨w.heap.size, 0, none⟩)) ∧ St w.heap.size w [Asn.dic w.heap.size v l.length] w' := by
  have hv' := hid hv
  obtain ⟨A, c, rfl, hA⟩ := hv
  have hbs := fun (x : Int) => built_dice A l.length c x
  have hby := hid (fun i (hi : i < l.length) => (show ∃ (g : Addr) (b : Nat), A = some g ∧ b < 256 ∧ w.cell? (g.add i) = some (.int .u8 (b : Nat)) ∧ (g.add i).block < w.heap.size from by
    rcases hA with ⟨_, h⟩ | ⟨g, h, hh⟩
    · rw [h] at hi; simp at hi
    · obtain ⟨h1, h2, h3⟩ := hh i _ (List.getElem?_eq_getElem hi)
      exact ⟨g, _, h, h1, h2, h3⟩))
  clear hA
  have hux := hid u64_nat
  generalize hn : l.length = n at *
  go_enter Tryz.func25, Tryz.ntmps25
  go_upto_region 2 with (fail)
  obtain ⟨y0, hy0, hy02⟩ := hux.out (IntKind.u64.wrap (sd * 6257) + (n : Int))
  rw [hy0]
  have hS1 := hid ((show St w.heap.size w [Asn.blk w.heap.size #[.slice A n c, .int .i64 ((0 : Nat) : Int), .int .u64 ((y0 : Nat) : Int)] 142] _ from (St.start w).newBlk #[.slice A n c, .int .i64 0, .int .u64 (y0 : Nat)] 142).blkDic (n := n) (Nat.zero_le _) hy02)
  generalize World.alloc w _ = w1 at *
  clear hbs hy0
  replace hy02 := hid hy02
  go_wp2
  go_loopw [6] (fun i wr => ∃ k : Nat, k ≤ n ∧ i = .int .i64 k ∧ St w.heap.size w [Asn.dic w.heap.size (.slice A n c) n] wr) (fun i _ => n - (intOf i).toNat)
  case atStart => exact ⟨0, Nat.zero_le _, rfl, hS1.out⟩
  case round =>
    obtain ⟨k, hk, rfl, rS⟩ := hrel
    clear hS1
    by_cases hlt : k < n
    · have dk : decide ((k : Int) < (n : Int)) = true := decide_eq_true (by omega)
      obtain ⟨a, x, ha, hx, hB⟩ := rS.dicBlk
      obtain ⟨g, b, rfl, hb, hb2, hb3⟩ := hby.out k hlt
      have cb := (hB.bel.cell hb3).trans hb2
      have c2 := (show wr.cell? ⟨w.heap.size, 2, none⟩ = some (.int .u64 x) from cell_of_row _ _ 2 _ _ _ hB.k0)
      have f2 := frozen_of_row _ _ 2 _ _ hB.k0
      have k0 : (0 : Int) ≤ (k : Int) := Int.natCast_nonneg _
      have k1 : (k : Int) < (n : Int) := by omega
      replace hB := hid hB; replace hx := hid hx
      clear rS hb2 hb3
      go_upto_region 5 with (fail)
      go_region
      obtain ⟨y, hy, hy2⟩ := u64_nat (IntKind.u64.wrap (IntKind.u64.wrap ((x : Int) * 1099511628211) + (b : Int)) + 5)
      rw [hy]
      replace hB := hid ((show St w.heap.size w [Asn.blk w.heap.size #[.slice (some g) n c, .int .i64 a, .int .u64 y] 142] _ from hB.out.setBlk (Nat.le_refl _) 2 (.int .u64 y)).drew)
      generalize World.drew _ = w5 at *
      clear hy c2 f2 cb
      replace hy2 := hid hy2
      go_wp2
      go_roundw
      case rel => exact ⟨k + 1, by omega, by go_num, hB.out.blkDic ha hy2.out⟩
      case measure => simp [intOf]; omega
    · obtain rfl : k = n := by omega
      have dk : decide ((k : Int) < (k : Int)) = false := decide_eq_false (by omega)
      replace rS := hid rS
      go_wp2
      go_ret
      exact ⟨rfl, rS.out⟩
end Go.Proofs.YthmcdfjijkecfaaGreat

/- Equal lists of numbers, sums, words of dice. -/
namespace Go.Proofs.YthmcdfjijkecfaaGreat
open Go.RowKit
set_option linter.unusedVariables false
set_option linter.unusedSimpArgs false
-- @LONG

set_option maxHeartbeats 2000000 in
set_option maxRecDepth 100000 in
theorem likeInts_any (w : World) (b1 b2 : Nat) (v1 v2 : Value) (M : List Int) (h1 : Own w b1 2 v1 (ints M)) (h2 : Own w b2 2 v2 (ints M)) (hl : M.length ≤ 1000000) :
    Calls Tryz.prog 18 #[v1, v2] w fun e w' => e = .returned (.bool true) ∧ Below w.heap.size w w' := by
  obtain ⟨A1, c1, rfl, _, hA1⟩ := h1.form
  obtain ⟨A2, c2, rfl, _, hA2⟩ := h2.form
  rw [ints_length] at *
  have hg := hid (fun k (hk : k < M.length) => (show ∃ (x : Int) (g1 g2 : Nat), A1 = some ⟨g1, 0, none⟩ ∧ A2 = some ⟨g2, 0, none⟩ ∧ w.cell? ⟨g1, k, none⟩ = some (.int .i64 x) ∧ w.cell? ⟨g2, k, none⟩ = some (.int .i64 x) ∧ g1 < w.heap.size ∧ g2 < w.heap.size from by
    have hx : (ints M)[k]? = some (.int .i64 M[k]) := by simp [ints, hk]
    rcases hA1 with ⟨_, h, _⟩ | ⟨g1, e1, _, l1, q1⟩
    · rw [h] at hx; simp at hx
    · rcases hA2 with ⟨_, h, _⟩ | ⟨g2, e2, _, l2, q2⟩
      · rw [h] at hx; simp at hx
      · exact ⟨_, g1, g2, e1, e2, q1 k _ hx, q2 k _ hx, l1, l2⟩))
  clear hA1 hA2 h1 h2
  generalize M.length = n at *
  go_enter Tryz.func18, Tryz.ntmps18
  go_wp2
  go_loopw [5] (fun i wr => ∃ k : Nat, k ≤ n ∧ i = .int .i64 k ∧ Below w.heap.size w wr) (fun i _ => n - (intOf i).toNat)
  case atStart => exact ⟨0, Nat.zero_le _, rfl, Below.refl _ _⟩
  case round =>
    obtain ⟨k, hk, rfl, rB⟩ := hrel
    by_cases hlt : k < n
    · have dk : decide ((k : Int) < (n : Int)) = true := decide_eq_true (by omega)
      obtain ⟨x, g1, g2, rfl, rfl, q1, q2, l1, l2⟩ := hg.out k hlt
      have d1 := (rB.cell (p := ⟨g1, k, none⟩) l1).trans q1
      have d2 := (rB.cell (p := ⟨g2, k, none⟩) l2).trans q2
      have k0 : (0 : Int) ≤ (k : Int) := Int.natCast_nonneg _
      have k1 : (k : Int) < (n : Int) := by omega
      replace rB := hid rB
      go_upto_region 6 with (fail)
      go_quiet (fail)
      go_wp2
      go_roundw
      case rel => exact ⟨k + 1, by omega, by go_num, below_drewN rB.out _⟩
      case measure => simp [intOf]; omega
    · obtain rfl : k = n := by omega
      have dk : decide ((k : Int) < (k : Int)) = false := decide_eq_false (by omega)
      go_wp2
      go_ret
      exact ⟨rfl, rB⟩
set_option maxHeartbeats 4000000 in
set_option maxRecDepth 100000 in
theorem rows_any (w : World) (b1 b2 : Nat) (v1 v2 : Value) (M : List (List Int)) (h1 : Mat w b1 v1 M) (h2 : Mat w b2 v2 M) (hl : M.length ≤ 1000) (hr : ∀ r ∈ M, r.length ≤ 1000) :
    Calls Tryz.prog 34 #[v1, v2] w fun e w' => e = .returned (.bool true) ∧ Below w.heap.size w w' := by
  have hcell := fun (v : Value) (b : Nat) (h : Mat w b v M) => hid (fun (j : Nat) (x : List Int) (hx : M[j]? = some x) => (show ∃ ga, v = .slice (some ⟨ga, 0, none⟩) M.length (match v with | .slice _ _ c => c | _ => 0) ∧ ∀ W, Below w.heap.size w W → ∃ r, W.cell? ⟨ga, j, none⟩ = some r ∧ Own W b 2 r (ints x) from by
    obtain ⟨ga, ca, rfl, _⟩ := h.blk (fun e => by rw [e] at hx; simp at hx)
    exact ⟨ga, rfl, fun W hW => (h.below hW).row j x hx⟩))
  have hc1 := hcell v1 b1 h1
  have hc2 := hcell v2 b2 h2
  clear hcell
  have heq := hid (fun W b1 b2 r1 r2 x (hx : x ∈ M) (hO1 : Own W b1 2 r1 (ints x)) (hO2 : Own W b2 2 r2 (ints x)) => likeInts_any W b1 b2 r1 r2 x hO1 hO2 (by have := hr x hx; omega))
  obtain ⟨A1, cp1, rfl⟩ := h1.form
  obtain ⟨A2, cp2, rfl⟩ := h2.form
  dsimp only at hc1 hc2
  have hget := hid (fun j (hj : j < M.length) => (show ∃ x, M[j]? = some x from ⟨_, List.getElem?_eq_getElem hj⟩))
  clear h1 h2 hr
  generalize hN : M.length = N at *
  replace hN := hid hN
  go_enter Tryz.func34, Tryz.ntmps34
  go_wp2
  go_loopw [5] (fun i wr => ∃ k : Nat, k ≤ N ∧ i = .int .i64 k ∧ Below w.heap.size w wr) (fun i _ => N - (intOf i).toNat)
  case atStart => exact ⟨0, Nat.zero_le _, rfl, Below.refl _ _⟩
  case round =>
    obtain ⟨k, hk, rfl, rB⟩ := hrel
    by_cases hlt : k < N
    · have dk : decide ((k : Int) < (N : Int)) = true := decide_eq_true (by omega)
      obtain ⟨x, hx⟩ := hget.out k hlt
      obtain ⟨g1, e1, hr1⟩ := hc1.out k x hx
      obtain ⟨g2, e2, hr2⟩ := hc2.out k x hx
      obtain rfl : A1 = some ⟨g1, 0, none⟩ := by injection e1
      obtain rfl : A2 = some ⟨g2, 0, none⟩ := by injection e2
      have hxm := List.mem_of_getElem? hx
      have k0 : (0 : Int) ≤ (k : Int) := Int.natCast_nonneg _
      have k1 : (k : Int) < (N : Int) := by omega
      obtain ⟨r1, q1, o1⟩ := hr1 wr.drew rB.drew
      obtain ⟨r2, q2, o2⟩ := hr2 wr.drew rB.drew
      have heqk := hid (fun W (hW : Below wr.drew.heap.size wr.drew W) => heq.out W b1 b2 r1 r2 x hxm (o1.below hW) (o2.below hW))
      clear hx hxm e1 e2 hr1 hr2 o1 o2
      replace rB := hid rB
      go_upto_region 6 with (fail)
      replace rB := hid rB.out.drew
      have hbr := hid (Below.refl wr.drew.heap.size wr.drew)
      refine wp_region_heldL (L := [(8, (fun w' : World => w'.cell? ⟨g1, k, none⟩ = some r1 ∧ w'.cell? ⟨g2, k, none⟩ = some r2))]) (by kernel_rfl) (HeldL.cons (fun _ => ⟨q1, q2⟩) HeldL.nil) (fun hHeld => ?_)
      generalize wr.drew = wa at *
      clear q1 q2
      refine wpAnyL_take0 (i := 0) (v := ?_) rfl (by kernel_rfl) (by kernel_rfl) (by kernel_rfl) (by rfl) (fun _ _ _ h => h) (Or.inl ⟨by rfl, ?_⟩) (by assumption) ?_
      rotate_left
      · (intro W _; go_simp; (with_reducible rfl))
      intro hHeld'
      clear hHeld; have hHeld := hHeld'; clear hHeld'
      try simp only [Act.put, List.getElem_toArray, List.getElem_cons_succ, List.getElem_cons_zero, List.setIfInBounds_toArray, List.set_cons_zero, List.set_cons_succ]
      refine wpAnyL_take0 (i := 1) (v := ?_) rfl (by kernel_rfl) (by kernel_rfl) (by kernel_rfl) (by rfl) (fun _ _ _ h => h) (Or.inl ⟨by rfl, ?_⟩) (by assumption) ?_
      rotate_left
      · (intro W _; go_simp; (with_reducible rfl))
      intro hHeld'
      clear hHeld; have hHeld := hHeld'; clear hHeld'
      try simp only [Act.put, List.getElem_toArray, List.getElem_cons_succ, List.getElem_cons_zero, List.setIfInBounds_toArray, List.set_cons_zero, List.set_cons_succ]
      refine wpAnyL_take0 (i := 2) (v := ?_) rfl (by kernel_rfl) (by kernel_rfl) (by kernel_rfl) (by rfl) (fun _ _ _ h => h) (Or.inl ⟨by rfl, ?_⟩) (by assumption) ?_
      rotate_left
      · (intro W _; go_simp; (with_reducible rfl))
      intro hHeld'
      clear hHeld; have hHeld := hHeld'; clear hHeld'
      try simp only [Act.put, List.getElem_toArray, List.getElem_cons_succ, List.getElem_cons_zero, List.setIfInBounds_toArray, List.set_cons_zero, List.set_cons_succ]
      refine wpAnyL_takeP (i := 3) 8 [] (v := ?_) (fun w' : World => w'.cell? ⟨g1, k, none⟩ = some r1 ∧ w'.cell? ⟨g2, k, none⟩ = some r2) rfl (by kernel_rfl) (by kernel_rfl) (by kernel_rfl) (by rfl) (by kernel_rfl) (by simp) (fun _ _ _ h => h) (Or.inl ⟨by rfl, ?_⟩) (by assumption) ?_
      rotate_left
      · (intro W hW; (obtain ⟨hW, _⟩ := hW); go_simp; (with_reducible rfl))
      intro hHeld'
      clear hHeld; have hHeld := hHeld'; clear hHeld'
      try simp only [Act.put, List.getElem_toArray, List.getElem_cons_succ, List.getElem_cons_zero, List.setIfInBounds_toArray, List.set_cons_zero, List.set_cons_succ]
      refine wpAnyL_take0 (i := 4) (v := ?_) rfl (by kernel_rfl) (by kernel_rfl) (by kernel_rfl) (by rfl) (fun _ _ _ h => h) (Or.inl ⟨by rfl, ?_⟩) (by assumption) ?_
      rotate_left
      · (intro W _; go_simp; (with_reducible rfl))
      intro hHeld'
      clear hHeld; have hHeld := hHeld'; clear hHeld'
      try simp only [Act.put, List.getElem_toArray, List.getElem_cons_succ, List.getElem_cons_zero, List.setIfInBounds_toArray, List.set_cons_zero, List.set_cons_succ]
      refine wpAnyL_take0 (i := 5) (v := ?_) rfl (by kernel_rfl) (by kernel_rfl) (by kernel_rfl) (by rfl) (fun _ _ _ h => h) (Or.inl ⟨by rfl, ?_⟩) (by assumption) ?_
      rotate_left
      · (intro W _; go_simp; (with_reducible rfl))
      intro hHeld'
      clear hHeld; have hHeld := hHeld'; clear hHeld'
      try simp only [Act.put, List.getElem_toArray, List.getElem_cons_succ, List.getElem_cons_zero, List.setIfInBounds_toArray, List.set_cons_zero, List.set_cons_succ]
      refine wpAnyL_take0 (i := 6) (v := ?_) rfl (by kernel_rfl) (by kernel_rfl) (by kernel_rfl) (by rfl) (fun _ _ _ h => h) (Or.inl ⟨by rfl, ?_⟩) (by assumption) ?_
      rotate_left
      · (intro W _; go_simp; (with_reducible rfl))
      intro hHeld'
      clear hHeld; have hHeld := hHeld'; clear hHeld'
      try simp only [Act.put, List.getElem_toArray, List.getElem_cons_succ, List.getElem_cons_zero, List.setIfInBounds_toArray, List.set_cons_zero, List.set_cons_succ]
      refine wpAnyL_takeP (i := 7) 8 [] (v := ?_) (fun w' : World => w'.cell? ⟨g1, k, none⟩ = some r1 ∧ w'.cell? ⟨g2, k, none⟩ = some r2) rfl (by kernel_rfl) (by kernel_rfl) (by kernel_rfl) (by rfl) (by kernel_rfl) (by simp) (fun _ _ _ h => h) (Or.inl ⟨by rfl, ?_⟩) (by assumption) ?_
      rotate_left
      · (intro W hW; (obtain ⟨_, hW⟩ := hW); go_simp; (with_reducible rfl))
      intro hHeld'
      clear hHeld; have hHeld := hHeld'; clear hHeld'
      try simp only [Act.put, List.getElem_toArray, List.getElem_cons_succ, List.getElem_cons_zero, List.setIfInBounds_toArray, List.set_cons_zero, List.set_cons_succ]
      refine wpAnyL_ready (rs := [8]) (by kernel_rfl) (by simp) ?_
      refine AllReadyL.cons rfl (fun K hK => ?_) AllReadyL.nil
      go_simp
      (with_reducible refine (heqk.out _ hbr.out).mono ?_)
      rintro e w3 ⟨rfl, hb⟩
      replace rB := hid (rB.out.trans (hb.mono rB.out.size))
      clear hb hbr heqk
      go_simp
      refine hK.out _ _ (HeldL.cons (fun h => absurd h (by decide +kernel)) HeldL.nil) (fun hHeld' => ?_)
      clear hK K hHeld; have hHeld := hHeld'; clear hHeld'
      try simp only [Act.put, List.getElem_toArray, List.getElem_cons_succ, List.getElem_cons_zero, List.setIfInBounds_toArray, List.set_cons_zero, List.set_cons_succ]
      refine wpAnyL_take0 (i := 9) (v := ?_) rfl (by kernel_rfl) (by kernel_rfl) (by kernel_rfl) (by rfl) (fun _ _ _ h => h) (Or.inl ⟨by rfl, ?_⟩) (by assumption) ?_
      rotate_left
      · (intro W _; go_simp; (with_reducible rfl))
      intro hHeld'
      clear hHeld; have hHeld := hHeld'; clear hHeld'
      try simp only [Act.put, List.getElem_toArray, List.getElem_cons_succ, List.getElem_cons_zero, List.setIfInBounds_toArray, List.set_cons_zero, List.set_cons_succ]
      refine wpAnyL_done (by kernel_rfl) ?_ _
      go_wp2
      go_roundw
      case rel => exact ⟨k + 1, by omega, by go_num, rB.out⟩
      case measure => simp [intOf]; omega
    · obtain rfl : k = N := by omega
      have dk : decide ((k : Int) < (k : Int)) = false := decide_eq_false (by omega)
      go_wp2
      go_ret
      exact ⟨rfl, rB⟩
set_option maxHeartbeats 1000000 in
set_option maxRecDepth 100000 in
theorem sum_any (w : World) (b1 : Nat) (v1 : Value) (M : List Int) (h1 : Own w b1 2 v1 (ints M)) (hl : M.length ≤ 100000) (hr : ∀ x ∈ M, 0 ≤ x ∧ x ≤ 1000000000) :
    Calls Tryz.prog 72 #[v1] w fun e w' => e = .returned (.int .i64 M.sum) ∧ w = w' := by
  obtain ⟨A1, c1, rfl, _, hA1⟩ := h1.form
  rw [ints_length] at *
  have hg := hid (fun k (hk : k < M.length) => (show ∃ (x : Int) (g1 : Nat), A1 = some ⟨g1, 0, none⟩ ∧ M[k]? = some x ∧ w.cell? ⟨g1, k, none⟩ = some (.int .i64 x) ∧ (M.take (k + 1)).sum = (M.take k).sum + x from by
    have hx : (ints M)[k]? = some (.int .i64 M[k]) := by simp [ints, hk]
    have hy : M[k]? = some M[k] := List.getElem?_eq_getElem hk
    rcases hA1 with ⟨_, h, _⟩ | ⟨g1, e1, _, l1, q1⟩
    · rw [h] at hx; simp at hx
    · exact ⟨_, g1, e1, hy, q1 k _ hx, by rw [List.take_add_one, hy, List.sum_append]; simp⟩))
  have hbd := hid (fun k (hk : k ≤ M.length) => (show 0 ≤ (M.take k).sum ∧ (M.take k).sum ≤ k * 1000000000 from by
    induction k with
    | zero => simp
    | succ k ih =>
      obtain ⟨x, _, _, hx, _, e⟩ := hg.out k (by omega)
      have h1 := hr x (List.mem_of_getElem? hx)
      have h2 := ih (by omega)
      rw [e]; omega))
  have hfu := hid (show M.sum = (M.take M.length).sum by rw [List.take_length])
  rw [hfu.out]
  obtain ⟨F, hF⟩ : ∃ F : Nat → Int, F = fun k => (M.take k).sum := ⟨_, rfl⟩
  have hF' := hid (fun k => (show (M.take k).sum = F k by rw [hF]))
  have hF0 := hid (show F 0 = 0 by rw [hF]; rfl)
  simp only [hF'.out] at hg hbd ⊢
  clear hA1 h1 hfu hF hr
  generalize M.length = n at *
  go_enter Tryz.func72, Tryz.ntmps72
  go_wp2
  go_loop [3, 4] (fun s i => ∃ k : Nat, k ≤ n ∧ i = .int .i64 k ∧ s = .int .i64 (F k)) (fun _ i => n - (intOf i).toNat)
  case atStart => exact ⟨0, Nat.zero_le _, rfl, by rw [hF0.out]⟩
  case round =>
    obtain ⟨k, hk, rfl, rfl⟩ := hrel
    by_cases hlt : k < n
    · have dk : decide ((k : Int) < (n : Int)) = true := decide_eq_true (by omega)
      obtain ⟨x, g1, rfl, _, q1, e⟩ := hg.out k hlt
      have k0 : (0 : Int) ≤ (k : Int) := Int.natCast_nonneg _
      have k1 : (k : Int) < (n : Int) := by omega
      have h2 := hbd.out (k + 1) hlt
      have ew : wrap64 (F k + x) = F k + x := by rw [← e]; exact w64 (by omega) (by omega)
      replace e := hid e; replace h2 := hid h2
      go_wp2
      go_round
      case rel => exact ⟨k + 1, by omega, by go_num, by rw [e.out]; first | rfl | (rw [ew]) | (rw [IntWalk.i64_in _ (by have := h2.out; rw [e.out] at this; omega)])⟩
      case measure => simp [intOf]; omega
    · obtain rfl : k = n := by omega
      have dk : decide ((k : Int) < (k : Int)) = false := decide_eq_false (by omega)
      go_wp2
      go_ret
      exact ⟨rfl, rfl⟩
set_option maxHeartbeats 2000000 in
set_option maxRecDepth 100000 in
theorem word5_any (w : World) (v : Value) (l : List Nat) (hv : ArgB w v l) (hl : l.length ≤ 4096) (d n : Nat) (hd1 : 1 ≤ d) (hd : d ≤ 3) (hn : n ≤ 40) :
    Calls Tryz.prog 46 #[v, .int .i64 d, .int .i64 n] w fun e w' => ∃ u : List Nat, e = .returned (.string (wstr u)) ∧ u.length = n ∧ (∀ x ∈ u, x < d) ∧ Below w.heap.size w w' := by
  have hro := hid (roll_any w v l hv hl 1701)
  have hN := hid (fun W L hW => below_any w L W w.heap.size v l hv hl (Nat.le_refl _) (d : Int) (by omega) hW)
  replace hv := hid hv
  obtain ⟨A, c, rfl, _⟩ := hv.out
  go_enter Tryz.func46, Tryz.ntmps46
  go_upto_region 2 with (first
    | (go_at_call 25; (with_reducible refine (hro.out).mono ?_); rintro e w1 ⟨rfl, hS⟩; replace hS := hid hS))
  have hS0 := hid ((hS.out.newOwn [] 5 (by simp)).f1)
  clear hS
  go_wp2
  go_loopw [2, 8] (fun i o wr => ∃ (u : List Nat) (k : Nat), i = .int .i64 k ∧ u.length + k = n ∧ Hid (∀ x ∈ u, x < d) ∧ St w.heap.size w [Asn.dic w.heap.size (.slice A l.length c) l.length, Asn.own w.heap.size 5 o (wb u)] wr) (fun i _ _ => (intOf i).toNat)
  case atStart => exact ⟨[], n, rfl, by simp, hid (fun x hx => by cases hx), hS0.out⟩
  case round =>
    obtain ⟨u, k, rfl, hk3, hu, rS⟩ := hrel
    clear hS0
    replace rS := hid rS
    by_cases hlt : 0 < k
    · have dk : decide (0 < (k : Int)) = true := decide_eq_true (by omega)
      have hul : u.length ≤ 40 := by omega
      go_wp2_with (first
        | (go_at_call 26; (with_reducible refine (hN.out _ _ rS.out).mono ?_); rintro e w1 ⟨x, rfl, hx0, hx, hS'⟩; obtain ⟨x, rfl⟩ := Int.eq_ofNat_of_zero_le hx0; (have hx3 : x < d := by omega); (have e1 : wrap64 (48 + (x : Int)) = 48 + (x : Int) := w64 (by omega) (by omega)); replace rS := hid hS'.f1; clear hS' hx hN hx0)
        | ((with_reducible refine gate (N := 23) rfl ?_); (refine St.app 22 5 (.int .u8 0) 1 Tryz.underlying22 info_u8 rfl (by omega) rfl _ _ rfl _ _ rfl rS.out (.int .u8 (48 + (x : Int))) rfl rfl u.length (wb_length u) (by omega) ?_; intro gn cap w2 hO2; replace rS := hid hO2.f1; clear hO2)))
      all_goals go_roundw
      all_goals first
        | (exact ⟨u ++ [x], k - 1, i64_eq (by omega), by simp; omega, hid (fun y hy => (List.mem_append.1 hy).elim (hu.out y) fun hy => by rw [List.mem_singleton.1 hy]; exact hx3), by rw [wb_snoc]; exact rS.out⟩)
        | (simp only [intOf]; omega)
    · obtain rfl : k = 0 := by omega
      have hconv := rS.out.o1.conv
      have hun : u.length = n := by omega
      go_wp2
      go_ret
      exact ⟨u, rfl, hun, hu.out, rS.out.bel⟩
end Go.Proofs.YthmcdfjijkecfaaGreat

/- The reference's permutations of letters. -/
namespace Go.Proofs.YthmcdfjijkecfaaGreat
open Go.RowKit
set_option linter.unusedVariables false
set_option linter.unusedSimpArgs false
-- @LONG

/-- Where permutation k leads the letter x. -/
def pim (d k x : Nat) : Nat := (((prms d).getD k []).getD x 0).toNat
theorem pim_lt (d k x : Nat) (hd : d = 2 ∨ d = 3) (hk : k < cnt d) (hx : x < d) : pim d k x < d := by
  rcases hd with rfl | rfl
  · have : k = 0 ∨ k = 1 := by have : cnt 2 = 2 := rfl; omega
    have h2 : x = 0 ∨ x = 1 := by omega
    rcases this with rfl | rfl <;> rcases h2 with rfl | rfl <;> decide
  · have : k = 0 ∨ k = 1 ∨ k = 2 ∨ k = 3 ∨ k = 4 ∨ k = 5 := by have : cnt 3 = 6 := rfl; omega
    have h2 : x = 0 ∨ x = 1 ∨ x = 2 := by omega
    rcases this with rfl | rfl | rfl | rfl | rfl | rfl <;> rcases h2 with rfl | rfl | rfl <;> decide
/-- Three bytes in a block of their own. -/
theorem row_new3 (w : World) (f : Nat → Nat) (a b c : Int) (ha : a = (f 0 : Nat)) (hb : b = (f 1 : Nat)) (hc : c = (f 2 : Nat)) :
    (w.alloc (.cells #[.int .u8 a, .int .u8 b, .int .u8 c] 24)).rowIs w.heap.size 24 3 (byt f) := by
  subst ha; subst hb; subst hc
  exact rowIs_new w 3 24 (byt f)
set_option maxHeartbeats 1000000 in
set_option maxRecDepth 100000 in
theorem l03Images_20 (w : World) :
    Calls Tryz.prog 247 #[.int .i64 2, .int .i64 0] w fun e w' => e = .returned (.agg (rowL 3 (byt (pim 2 0))).toArray) ∧ Below w.heap.size w w' := by
  go_enter Tryz.func247, Tryz.ntmps247
  go_wp2
  exact ret_row (ty := 24) (p := 4) rfl (g := w.heap.size) (t := 24) (n := 3) rfl (row_new3 w (pim 2 0) _ _ _ (by decide) (by decide) (by decide)) Tryz.underlying24 rfl sz_b3 rfl ⟨rfl, below_alloc (Below.refl _ _) (Nat.le_refl _) _⟩
set_option maxHeartbeats 1000000 in
set_option maxRecDepth 100000 in
theorem l03Images_21 (w : World) :
    Calls Tryz.prog 247 #[.int .i64 2, .int .i64 1] w fun e w' => e = .returned (.agg (rowL 3 (byt (pim 2 1))).toArray) ∧ Below w.heap.size w w' := by
  go_enter Tryz.func247, Tryz.ntmps247
  go_wp2
  exact ret_row (ty := 24) (p := 4) rfl (g := w.heap.size) (t := 24) (n := 3) rfl (row_new3 w (pim 2 1) _ _ _ (by decide) (by decide) (by decide)) Tryz.underlying24 rfl sz_b3 rfl ⟨rfl, below_alloc (Below.refl _ _) (Nat.le_refl _) _⟩
theorem row_is3 {W : World} {b t : Nat} {f : Nat → Nat} (h : W.heap[b]? = some (.cells (rowL 3 (byt f)).toArray t (0, 0))) : W.rowIs b t 3 (byt f) :=
  ⟨_, h, rfl, fun i hi => by have := rowL_get 3 (byt f) i hi; simpa using this⟩
theorem sz_63 : (Tryz.prog.info? 257).map (·.size) = some 18 := by kernel_rfl
theorem zero_63 (w : World) : (zeroValue 257).run Tryz.prog w = .ok (.agg (rowL 18 (byt fun _ => 0)).toArray) w := by kernel_rfl
def all6 : Array Value := #[.int .u8 0, .int .u8 1, .int .u8 2, .int .u8 0, .int .u8 2, .int .u8 1, .int .u8 1, .int .u8 0, .int .u8 2, .int .u8 1, .int .u8 2, .int .u8 0, .int .u8 2, .int .u8 0, .int .u8 1, .int .u8 2, .int .u8 1, .int .u8 0]
theorem all6_get (k : Nat) (hk : k < 6) (j : Nat) (v : Value) (hv : (rowL 3 (byt (pim 3 k)))[j]? = some v) : all6[k * 3 + j]? = some v := by
  have hj : j < 3 := by have := (List.getElem?_eq_some_iff.1 hv).1; rwa [rowL_length] at this
  rw [rowL_get 3 _ j hj] at hv
  rw [← hv]
  have : k = 0 ∨ k = 1 ∨ k = 2 ∨ k = 3 ∨ k = 4 ∨ k = 5 := by omega
  have h2 : j = 0 ∨ j = 1 ∨ j = 2 := by omega
  rcases this with rfl | rfl | rfl | rfl | rfl | rfl <;> rcases h2 with rfl | rfl | rfl <;> rfl
theorem built6 : Tryz.prog.built 257 [(0, Value.agg #[.int .u8 0, .int .u8 1, .int .u8 2]), (1, Value.agg #[.int .u8 0, .int .u8 2, .int .u8 1]), (2, Value.agg #[.int .u8 1, .int .u8 0, .int .u8 2]), (3, Value.agg #[.int .u8 1, .int .u8 2, .int .u8 0]), (4, Value.agg #[.int .u8 2, .int .u8 0, .int .u8 1]), (5, Value.agg #[.int .u8 2, .int .u8 1, .int .u8 0])] = some all6 := by kernel_rfl
theorem build_all6 {ops : Array Oper} {rest : List Oper} {o : Oper} {a : Act} {w : World} {Q : Exit → Act → World → Prop} (hgd : o.guard = none) (ho : o.op = .build 257 #[(0, Operand.tmp 12), (1, Operand.tmp 13), (2, Operand.tmp 14), (3, Operand.tmp 15), (4, Operand.tmp 16), (5, Operand.tmp 17)])
    (e0 : a.eval (.tmp 12) = .agg #[.int .u8 0, .int .u8 1, .int .u8 2]) (e1 : a.eval (.tmp 13) = .agg #[.int .u8 0, .int .u8 2, .int .u8 1]) (e2 : a.eval (.tmp 14) = .agg #[.int .u8 1, .int .u8 0, .int .u8 2]) (e3 : a.eval (.tmp 15) = .agg #[.int .u8 1, .int .u8 2, .int .u8 0]) (e4 : a.eval (.tmp 16) = .agg #[.int .u8 2, .int .u8 0, .int .u8 1]) (e5 : a.eval (.tmp 17) = .agg #[.int .u8 2, .int .u8 1, .int .u8 0])
    (h : wpList Tryz.prog ops Q rest (a.put o.dst (.agg all6)) w) : wpList Tryz.prog ops Q (o :: rest) a w := by
  have h0 : ((#[(0, Operand.tmp 12), (1, Operand.tmp 13), (2, Operand.tmp 14), (3, Operand.tmp 15), (4, Operand.tmp 16), (5, Operand.tmp 17)] : Array (Nat × Operand)).map fun (i, x) => (i, a.eval x)).toList = [(0, Value.agg #[.int .u8 0, .int .u8 1, .int .u8 2]), (1, Value.agg #[.int .u8 0, .int .u8 2, .int .u8 1]), (2, Value.agg #[.int .u8 1, .int .u8 0, .int .u8 2]), (3, Value.agg #[.int .u8 1, .int .u8 2, .int .u8 0]), (4, Value.agg #[.int .u8 2, .int .u8 0, .int .u8 1]), (5, Value.agg #[.int .u8 2, .int .u8 1, .int .u8 0])] := by
    simp only [List.map_toArray, List.map_cons, List.map_nil, e0, e1, e2, e3, e4, e5]
  have e : Tryz.prog.built 257 ((#[(0, Operand.tmp 12), (1, Operand.tmp 13), (2, Operand.tmp 14), (3, Operand.tmp 15), (4, Operand.tmp 16), (5, Operand.tmp 17)] : Array (Nat × Operand)).map fun (i, x) => (i, a.eval x)).toList = some all6 := by
    rw [h0]; exact built6
  refine wpList_build hgd 257 _ ho (by rw [e]; rfl) ?_
  rw [e]
  exact h
set_option maxHeartbeats 2000000 in
set_option maxRecDepth 100000 in
theorem l03Images_3 (k : Nat) (hk : k < 6) (w : World) :
    Calls Tryz.prog 247 #[.int .i64 3, .int .i64 k] w fun e w' => e = .returned (.agg (rowL 3 (byt (pim 3 k))).toArray) ∧ Below w.heap.size w w' := by
  have hS := ((St.start w).newBlk #[.int .u8 0, .int .u8 0, .int .u8 0] 24).newBlk (rowL 18 (byt fun _ => 0)).toArray 257
  rw [heap_alloc_size] at hS
  replace hS := hid hS
  have hz := zero_63
  have hbig : all6.all (·.oneCell') = true := by simp [all6, Value.oneCell']
  have hss := hid sz_63
  have hzs := hid (show (rowL 18 (byt fun _ => 0)).toArray.size = 18 from rfl)
  have h6s := hid (show all6.size = 18 from rfl)
  have hget := hid (all6_get k hk)
  have hl := hid (rowL_length 3 (byt (pim 3 k)))
  have k0 : (0 : Int) ≤ (k : Int) := Int.natCast_nonneg _
  have k1 : (k : Int) < 6 := by omega
  replace hbig := hid hbig
  generalize (rowL 18 (byt fun _ => 0)).toArray = zs at *
  go_enter Tryz.func247, Tryz.ntmps247
  go_upto_region 6 with (first
    | ((with_reducible refine gate (N := 18) rfl ?_); refine build_all6 rfl rfl rfl rfl rfl rfl rfl rfl ?_)
    | ((with_reducible refine gateOp (op := .store 257 (.tmp 5) (.tmp 18)) rfl ?_); refine wpList_store_row rfl _ _ _ rfl (w.heap.size + 1) _ rfl rfl _ _ hS.out.k0 (by rw [h6s.out]; exact hss.out) (by rw [hzs.out, h6s.out]) hbig.out ?_))
  replace hS := hid (hS.out.setRow (Nat.le_succ _) all6)
  generalize World.setRow _ _ all6 = w2 at *
  have hrg := hid (show w2.rangeAt (w.heap.size + 1) (k * 3) (rowL 3 (byt (pim 3 k))) from fun j v hv => (cell_of_row _ _ (k * 3 + j) _ _ _ hS.out.k0).trans (hget.out j v hv))
  have h1c := hid (show ((rowL 3 (byt (pim 3 k))).toArray.all (·.oneCell') = true) from one_byt 3 (pim 3 k))
  have hls := hid (show (rowL 3 (byt (pim 3 k))).toArray.size = 3 from rfl)
  have hrr := hid (fun (W : World) (b : Nat) (h : W.heap[b]? = some (.cells (rowL 3 (byt (pim 3 k))).toArray 24 (0, 0))) => (show W.rowIs b 24 3 (byt (pim 3 k)) from row_is3 h))
  have hRR := hid (show rowL 3 (byt (pim 3 k)) = rowL 3 (byt (pim 3 k)) from rfl)
  generalize hR : rowL 3 (byt (pim 3 k)) = R at *
  replace hR := hid hR
  clear hRR
  have hRR := hid hR.out
  go_wp2_with (first
    | ((with_reducible refine gate (N := 21) rfl ?_); refine wpList_load_mid rfl 24 _ rfl (w.heap.size + 1) (k * 3) rfl _ _ hrg.out Tryz.underlying24 rfl (by rw [hl.out]; exact sz_b3) ?_)
    | ((with_reducible refine gateOp (op := .store 24 (.tmp 4) (.tmp 21)) rfl ?_); refine wpList_store_row rfl _ _ _ rfl w.heap.size _ rfl rfl _ _ hS.out.k1 (by rw [hls.out]; exact sz_b3) (by rw [hls.out]; rfl) h1c.out ?_; replace hS := hid (hS.out.f1.setRow (Nat.le_refl _) R.toArray)))
  exact ret_row (ty := 24) (p := 4) rfl (g := w.heap.size) (t := 24) (n := 3) rfl (hrr.out _ _ hS.out.k0) Tryz.underlying24 rfl sz_b3 rfl ⟨by rw [hRR.out], hS.out.bel⟩
theorem l03Images_any (d k : Nat) (hd : d = 2 ∨ d = 3) (hk : k < cnt d) (w : World) :
    Calls Tryz.prog 247 #[.int .i64 d, .int .i64 k] w fun e w' => e = .returned (.agg (rowL 3 (byt (pim d k))).toArray) ∧ Below w.heap.size w w' := by
  rcases hd with rfl | rfl
  · have : k = 0 ∨ k = 1 := by have : cnt 2 = 2 := rfl; omega
    rcases this with rfl | rfl
    · exact l03Images_20 w
    · exact l03Images_21 w
  · exact l03Images_3 k (by have : cnt 3 = 6 := rfl; omega) w
end Go.Proofs.YthmcdfjijkecfaaGreat

/- What a portrait makes of words. -/
namespace Go.Proofs.YthmcdfjijkecfaaGreat
open Go.RowKit
set_option linter.unusedVariables false
set_option linter.unusedSimpArgs false
-- @LONG

/-- The word to which a portrait leads a word. -/
def actP (d : Nat) (g : List Int) (u : List Nat) : List Nat := (List.range u.length).map fun i => pim d (gAt d g (u.take i)).toNat (u.getD i 0)
theorem actP_length (d : Nat) (g : List Int) (u : List Nat) : (actP d g u).length = u.length := by simp [actP]
theorem actP_snoc (d : Nat) (g : List Int) (u : List Nat) (x : Nat) : actP d g (u ++ [x]) = actP d g u ++ [pim d (gAt d g u).toNat x] := by
  unfold actP
  rw [List.length_append, List.length_singleton, List.range_succ, List.map_append]
  congr 1
  · refine List.map_congr_left fun i hi => ?_
    have hi := List.mem_range.1 hi
    rw [List.take_append_of_le_length (by omega)]
    congr 1
    simp [List.getD_eq_getElem?_getD, List.getElem?_append_left hi]
  · simp
theorem actP_take (d : Nat) (g : List Int) (u : List Nat) (k : Nat) (hk : k < u.length) : actP d g (u.take (k + 1)) = actP d g (u.take k) ++ [pim d (gAt d g (u.take k)).toNat (u.getD k 0)] := by
  rw [take_snoc' u k hk, actP_snoc]
theorem gAt_nat {d n : Nat} {g : List Int} (hd : d = 2 ∨ d = 3) (hg : IsP d n g) (u : List Nat) (hu : ∀ x ∈ u, x < d) (hn : u.length < n) : ((gAt d g u).toNat : Int) = gAt d g u ∧ (gAt d g u).toNat < cnt d := by
  have := gAt_range hd hg u hu hn
  omega
theorem actP_lt {d n : Nat} {g : List Int} (hd : d = 2 ∨ d = 3) (hg : IsP d n g) (u : List Nat) (hu : ∀ x ∈ u, x < d) (hn : u.length ≤ n) : ∀ y ∈ actP d g u, y < d := fun y hy => by
  obtain ⟨i, hi, rfl⟩ := List.mem_map.1 hy
  have hi := List.mem_range.1 hi
  refine pim_lt d _ _ hd (gAt_nat hd hg _ (fun x hx => hu x (List.mem_of_mem_take hx)) (by rw [List.length_take]; omega)).2 (hu _ (getD_mem u i hi))
theorem pim_injx (d k x y : Nat) (hd : d = 2 ∨ d = 3) (hk : k < cnt d) (hx : x < d) (hy : y < d) (h : pim d k x = pim d k y) : x = y := by
  rcases hd with rfl | rfl
  · have h1 : k = 0 ∨ k = 1 := by have : cnt 2 = 2 := rfl; omega
    have h2 : x = 0 ∨ x = 1 := by omega
    have h3 : y = 0 ∨ y = 1 := by omega
    rcases h1 with rfl | rfl <;> rcases h2 with rfl | rfl <;> rcases h3 with rfl | rfl <;> first | rfl | (exact absurd h (by decide))
  · have h1 : k = 0 ∨ k = 1 ∨ k = 2 ∨ k = 3 ∨ k = 4 ∨ k = 5 := by have : cnt 3 = 6 := rfl; omega
    have h2 : x = 0 ∨ x = 1 ∨ x = 2 := by omega
    have h3 : y = 0 ∨ y = 1 ∨ y = 2 := by omega
    rcases h1 with rfl | rfl | rfl | rfl | rfl | rfl <;> rcases h2 with rfl | rfl | rfl <;> rcases h3 with rfl | rfl | rfl <;> first | rfl | (exact absurd h (by decide))
theorem actP_inj {d n : Nat} {g : List Int} (hd : d = 2 ∨ d = 3) (hg : IsP d n g) : ∀ (k : Nat) (u v : List Nat), u.length = k → v.length = k → k ≤ n → (∀ x ∈ u, x < d) → (∀ x ∈ v, x < d) → actP d g u = actP d g v → u = v
  | 0, u, v, hu, hv, _, _, _, _ => by rw [List.length_eq_zero_iff.1 hu, List.length_eq_zero_iff.1 hv]
  | k + 1, u, v, hu, hv, hk, hul, hvl, e => by
    obtain ⟨u', x, rfl⟩ : ∃ u' x, u = u' ++ [x] := ⟨u.dropLast, u.getLast (by intro e; rw [e] at hu; simp at hu), (List.dropLast_concat_getLast _).symm⟩
    obtain ⟨v', y, rfl⟩ : ∃ v' y, v = v' ++ [y] := ⟨v.dropLast, v.getLast (by intro e; rw [e] at hv; simp at hv), (List.dropLast_concat_getLast _).symm⟩
    have hu' : u'.length = k := by simpa using hu
    have hv' : v'.length = k := by simpa using hv
    rw [actP_snoc, actP_snoc] at e
    obtain ⟨e1, e2⟩ := List.append_inj e (by rw [actP_length, actP_length, hu', hv'])
    have euv := actP_inj hd hg k u' v' hu' hv' (by omega) (fun z hz => hul z (List.mem_append.2 (.inl hz))) (fun z hz => hvl z (List.mem_append.2 (.inl hz))) e1
    subst euv
    have e3 : pim d (gAt d g u').toNat x = pim d (gAt d g u').toNat y := by simpa using e2
    rw [pim_injx d _ x y hd (gAt_nat hd hg u' (fun z hz => hul z (List.mem_append.2 (.inl hz))) (by omega)).2 (hul x (by simp)) (hvl y (by simp)) e3]
theorem aut_act {d n : Nat} {g : List Int} (hd : d = 2 ∨ d = 3) (hg : IsP d n g) : Aut d (actP d g) n where
  len := fun u _ _ => actP_length d g u
  lt := fun u hu hl => actP_lt hd hg u hu hl
  pre := fun u x _ _ _ => ⟨_, actP_snoc d g u x⟩
  inj := fun u v hu hv hl he e => actP_inj hd hg u.length u v rfl he.symm hl hu hv e
theorem wstr_take (u : List Nat) (k : Nat) : (wstr u).extract 0 k = wstr (u.take k) := by
  apply ByteArray.ext
  rw [ByteArray.data_extract]
  apply Array.toList_inj.1
  simp [wstr, strOfNums, List.map_take]
theorem prms_row (d k : Nat) (hd : d = 2 ∨ d = 3) (hk : k < cnt d) : ∃ row, (prms d)[k]? = some row ∧ row.length = d ∧ ∀ x, x < d → row[x]? = some ((pim d k x : Nat) : Int) := by
  rcases hd with rfl | rfl
  · have h1 : k = 0 ∨ k = 1 := by have : cnt 2 = 2 := rfl; omega
    rcases h1 with rfl | rfl <;> refine ⟨_, rfl, rfl, fun x hx => ?_⟩ <;> (have h2 : x = 0 ∨ x = 1 := by omega) <;> rcases h2 with rfl | rfl <;> decide
  · have h1 : k = 0 ∨ k = 1 ∨ k = 2 ∨ k = 3 ∨ k = 4 ∨ k = 5 := by have : cnt 3 = 6 := rfl; omega
    rcases h1 with rfl | rfl | rfl | rfl | rfl | rfl <;> refine ⟨_, rfl, rfl, fun x hx => ?_⟩ <;> (have h2 : x = 0 ∨ x = 1 ∨ x = 2 := by omega) <;> rcases h2 with rfl | rfl | rfl <;> decide
set_option maxHeartbeats 4000000 in
set_option maxRecDepth 100000 in
theorem act_any (w : World) (d n : Nat) (hd : d = 2 ∨ d = 3) (hn : n ≤ 4) (b0 : Nat) (v : Value) (g : List Int) (hO : Own w b0 2 v (ints g)) (hg : IsP d n g) (u : List Nat) (hu : ∀ x ∈ u, x < d) (hl : u.length ≤ n) :
    Calls Tryz.prog 96 #[.int .i64 d, v, .string (wstr u)] w fun e w' => e = .returned (.string (wstr (actP d g u))) ∧ Below w.heap.size w w' := by
  have hgl := ints_length g
  obtain ⟨A, cp, rfl, _, hA⟩ := hO.form
  rw [hgl] at hO ⊢
  have hsz := wstr_size u
  have hmk := fun W : World => run_make_row' (P := Tryz.prog) 22 5 (.int .u8 0) 1 Tryz.underlying22 info_u8 rfl .i64 .i64 u.length (by omega) (by omega) W
  have hbyte := hid (fun k hk => wstr_byte u k hk (fun x hx => by have := hu x hx; omega))
  have hS := hid ((St.arg w hO).newDig u.length)
  have hpm := hid (fun W => permutations_any d hd W)
  have hc2 : 2 ≤ cnt d ∧ cnt d ≤ 6 := by rcases hd with rfl | rfl <;> decide
  have hpml := hid (prms_length d)
  have hpl := hid (fun i (hi : i < u.length) W => place_any d hd (u.take i) (fun x hx => hu x (List.mem_of_mem_take hx)) (by rw [List.length_take]; omega) W)
  -- what a round asks
  have hrd := hid (fun k (hk : k < u.length) => (show ∃ (ix kk : Nat) (row : List Int), start d (u.take k).length + num d (u.take k) = ix ∧ ix < g.length ∧ (ints g)[ix]? = some (.int .i64 (kk : Nat)) ∧ kk < cnt d ∧ (prms d)[kk]? = some row ∧ row.length = d ∧ (ints row)[u.getD k 0]? = some (.int .i64 (pim d kk (u.getD k 0) : Nat)) ∧ u.getD k 0 < d ∧ pim d kk (u.getD k 0) < d ∧ actP d g (u.take (k + 1)) = actP d g (u.take k) ++ [pim d kk (u.getD k 0)] from by
    have htl : (u.take k).length = k := by rw [List.length_take]; omega
    have hm : ∀ x ∈ u.take k, x < d := fun x hx => hu x (List.mem_of_mem_take hx)
    have hgi := gAt_in hd hg (u.take k) hm (by omega)
    have hgn := gAt_nat hd hg (u.take k) hm (by omega)
    have hx := hu _ (getD_mem u k hk)
    obtain ⟨row, h1, h2, h3⟩ := prms_row d _ hd hgn.2
    exact ⟨_, (gAt d g (u.take k)).toNat, row, rfl, hgi.1, by rw [hgn.1]; simp only [ints, List.getElem?_map, hgi.2]; rfl, hgn.2, h1, h2, by simp only [ints, List.getElem?_map, h3 _ hx]; rfl, hx, pim_lt d _ _ hd hgn.2 hx, actP_take d g u k hk⟩))
  have hal := hid (fun k (hk : k ≤ u.length) => (show (actP d g (u.take k)).length = k by rw [actP_length, List.length_take]; omega))
  have hfu := hid (show actP d g u = actP d g (u.take u.length) by rw [List.take_length])
  have hws := hid (fun k => wstr_take u k)
  have hd3 : d ≤ 3 ∧ 2 ≤ d := by rcases hd with h | h <;> rw [h] <;> decide
  rw [hfu.out]
  have hA2 := hid (fun (h : 0 < g.length) => (show ∃ ga, A = some ⟨ga, 0, none⟩ from by
    rcases hA with ⟨_, h1, _⟩ | ⟨ga, h1, _⟩
    · have : g.length = 0 := by rw [← hgl, h1]; rfl
      omega
    · exact ⟨ga, h1⟩))
  replace hg := hid hg; replace hu := hid hu; replace hd := hid hd
  clear hA hfu
  generalize hwe : wstr u = ws at *
  replace hwe := hid hwe
  generalize madeCells #[.int .u8 0] u.length = mc at *
  generalize hN : u.length = N at *
  replace hN := hid hN
  go_enter Tryz.func96, Tryz.ntmps96
  go_upto_region 2 with (fail)
  generalize w.alloc (.cells mc 5) = W1 at *
  go_wp2
  clear hmk
  go_loopw [15] (fun i wr => ∃ k : Nat, k ≤ N ∧ i = .int .i64 k ∧ St w.heap.size w [Asn.dig w.heap.size N (actP d g (u.take k)), Asn.own 0 2 (.slice A g.length cp) (ints g)] wr) (fun i _ => N - (intOf i).toNat)
  case atStart => exact ⟨0, Nat.zero_le _, rfl, hS.out⟩
  case round =>
    obtain ⟨k, hk, rfl, rS⟩ := hrel
    clear hS
    replace rS := hid rS
    by_cases hkN : k < N
    · have dk : decide ((k : Int) < (N : Int)) = true := decide_eq_true (by omega)
      have hks : k ≤ ws.size := by omega
      have hks2 : k < ws.size := by omega
      have hpk := hid (hpl.out k hkN)
      obtain ⟨ix, kk, row, e1, hix, hgk, hkk, hrow, hrl, hrx, hx, hy, hsn⟩ := hrd.out k hkN
      rw [e1] at hpk
      obtain ⟨ga, rfl⟩ := hA2.out (by omega)
      have hby := hbyte.out k hks2
      have hlk := hid (hal.out k hk)
      have hwk := hid (hws.out k)
      have hil := hid (ints_length row)
      have ix0 : (0 : Int) ≤ (ix : Int) := Int.natCast_nonneg _
      have ix1 : (ix : Int) < (g.length : Int) := by omega
      have kk0 : (0 : Int) ≤ (kk : Int) := Int.natCast_nonneg _
      have kk1 : (kk : Int) < (cnt d : Int) := by omega
      have hco := hid (fun (W : World) (hW : W.rowIs w.heap.size 5 N (dgs (actP d g (u.take k)))) => (show ∃ c0, W.cell? ⟨w.heap.size, k, none⟩ = some c0 ∧ W.frozen? ⟨w.heap.size, k, none⟩ = false from ⟨_, hW.cell hkN, hW.frozen k⟩))
      replace hgk := hid hgk; replace hrow := hid hrow; replace hrx := hid hrx; replace hsn := hid hsn
      clear e1 hix
      generalize wstr (u.take k) = wk at *
      generalize u.getD k 0 = x at *
      generalize pim d kk x = y at *
      generalize actP d g (u.take k) = ak at *
      generalize cnt d = C at *
      have e3 : 48 + (x : Int) - 48 = x := by omega
      have e4 : ((x : Nat) : Int) % 256 = (x : Nat) := by omega
      have x0 : (0 : Int) ≤ (x : Int) := Int.natCast_nonneg _
      have x1 : (x : Int) < (d : Int) := by omega
      go_upto_region 5 with (fail)
      replace rS := hid rS.out.drew
      refine wp_region_heldL (L := [(7, (fun w' : World => True))]) (by kernel_rfl) (HeldL.cons (fun _ => trivial) HeldL.nil) (fun hHeld => ?_)
      generalize wr.drew = wa at *
      refine wpAnyL_take0 (i := 0) (v := ?_) rfl (by kernel_rfl) (by kernel_rfl) (by kernel_rfl) (by rfl) (fun _ _ _ h => h) (Or.inl ⟨by rfl, ?_⟩) (by assumption) ?_
      rotate_left
      · (intro W _; go_simp; (with_reducible rfl))
      intro hHeld'
      clear hHeld; have hHeld := hHeld'; clear hHeld'
      try simp only [Act.put, List.getElem_toArray, List.getElem_cons_succ, List.getElem_cons_zero, List.setIfInBounds_toArray, List.set_cons_zero, List.set_cons_succ]
      refine wpAnyL_take0 (i := 2) (v := ?_) rfl (by kernel_rfl) (by kernel_rfl) (by kernel_rfl) (by rfl) (fun _ _ _ h => h) (Or.inl ⟨by rfl, ?_⟩) (by assumption) ?_
      rotate_left
      · (intro W _; go_simp; (with_reducible rfl))
      intro hHeld'
      clear hHeld; have hHeld := hHeld'; clear hHeld'
      try simp only [Act.put, List.getElem_toArray, List.getElem_cons_succ, List.getElem_cons_zero, List.setIfInBounds_toArray, List.set_cons_zero, List.set_cons_succ]
      refine wpAnyL_take0 (i := 3) (v := ?_) rfl (by kernel_rfl) (by kernel_rfl) (by kernel_rfl) (by rfl) (fun _ _ _ h => h) (Or.inl ⟨by rfl, ?_⟩) (by assumption) ?_
      rotate_left
      · (intro W _; go_simp; (with_reducible rfl))
      intro hHeld'
      clear hHeld; have hHeld := hHeld'; clear hHeld'
      try simp only [Act.put, List.getElem_toArray, List.getElem_cons_succ, List.getElem_cons_zero, List.setIfInBounds_toArray, List.set_cons_zero, List.set_cons_succ]
      refine wpAnyL_take0 (i := 4) (v := ?_) rfl (by kernel_rfl) (by kernel_rfl) (by kernel_rfl) (by rfl) (fun _ _ _ h => h) (Or.inl ⟨by rfl, ?_⟩) (by assumption) ?_
      rotate_left
      · (intro W _; go_simp; (with_reducible rfl))
      intro hHeld'
      clear hHeld; have hHeld := hHeld'; clear hHeld'
      try simp only [Act.put, List.getElem_toArray, List.getElem_cons_succ, List.getElem_cons_zero, List.setIfInBounds_toArray, List.set_cons_zero, List.set_cons_succ]
      refine wpAnyL_take0 (i := 5) (v := ?_) rfl (by kernel_rfl) (by kernel_rfl) (by kernel_rfl) (by rfl) (fun _ _ _ h => h) (Or.inl ⟨by rfl, ?_⟩) (by assumption) ?_
      rotate_left
      · (intro W _; go_simp; (with_reducible rfl))
      intro hHeld'
      clear hHeld; have hHeld := hHeld'; clear hHeld'
      try simp only [Act.put, List.getElem_toArray, List.getElem_cons_succ, List.getElem_cons_zero, List.setIfInBounds_toArray, List.set_cons_zero, List.set_cons_succ]
      refine wpAnyL_take0 (i := 6) (v := (.string wk)) rfl (by kernel_rfl) (by kernel_rfl) (by kernel_rfl) (by rfl) (fun _ _ _ h => h) (Or.inl ⟨by rfl, ?_⟩) (by assumption) ?_
      · (intro W _; go_simp; exact hwk.out)
      intro hHeld'
      clear hHeld; have hHeld := hHeld'; clear hHeld'
      try simp only [Act.put, List.getElem_toArray, List.getElem_cons_succ, List.getElem_cons_zero, List.setIfInBounds_toArray, List.set_cons_zero, List.set_cons_succ]
      refine wpAnyL_ready (rs := [1]) (by kernel_rfl) (by simp) ?_
      refine AllReadyL.cons rfl (fun K hK => ?_) AllReadyL.nil
      go_simp
      (with_reducible refine (hpm.out _).mono ?_)
      rintro e w3 ⟨vp, rfl, hM, hb⟩
      replace rS := hid (rS.out.call hb)
      clear hb
      obtain ⟨gp, cpp, rfl, _, _⟩ := hM.blk (fun e => by have h := hpml.out; rw [e] at h; simp at h; omega)
      rw [hpml.out] at hM ⊢
      replace hM := hid hM
      go_simp
      refine hK.out _ _ (HeldL.cons (fun _ => trivial) HeldL.nil) (fun hHeld' => ?_)
      clear hK K hHeld; have hHeld := hHeld'; clear hHeld'
      try simp only [Act.put, List.getElem_toArray, List.getElem_cons_succ, List.getElem_cons_zero, List.setIfInBounds_toArray, List.set_cons_zero, List.set_cons_succ]
      refine wpAnyL_ready (rs := [7]) (by kernel_rfl) (by simp) ?_
      refine AllReadyL.cons rfl (fun K hK => ?_) AllReadyL.nil
      go_simp
      (with_reducible refine (hpk.out _).mono ?_)
      rintro e w4 ⟨rfl, rfl⟩
      go_simp
      refine hK.out _ _ (HeldL.cons (fun h => absurd h (by decide +kernel)) HeldL.nil) (fun hHeld' => ?_)
      clear hK K hHeld; have hHeld := hHeld'; clear hHeld'
      try simp only [Act.put, List.getElem_toArray, List.getElem_cons_succ, List.getElem_cons_zero, List.setIfInBounds_toArray, List.set_cons_zero, List.set_cons_succ]
      have cg := rS.out.o1.cellAt _ _ hgk.out
      obtain ⟨rr, cr, hrO⟩ := hM.out.row _ _ hrow.out
      obtain ⟨gr, cpr, rfl, _, _⟩ := hrO.blk (fun e => by have h := congrArg List.length e; rw [hil.out, hrl] at h; simp at h; omega)
      rw [hil.out, hrl] at hrO cr
      have cx := hrO.cellAt _ _ hrx.out
      replace hrO := hid hrO
      refine wpAnyL_take0 (i := 8) (v := ?_) rfl (by kernel_rfl) (by kernel_rfl) (by kernel_rfl) (by rfl) (fun _ _ _ h => h) (Or.inl ⟨by rfl, ?_⟩) (by assumption) ?_
      rotate_left
      · (intro W _; go_simp; (with_reducible rfl))
      intro hHeld'
      clear hHeld; have hHeld := hHeld'; clear hHeld'
      try simp only [Act.put, List.getElem_toArray, List.getElem_cons_succ, List.getElem_cons_zero, List.setIfInBounds_toArray, List.set_cons_zero, List.set_cons_succ]
      refine wpAnyL_ready (rs := [9]) (by kernel_rfl) (by simp) ?_
      refine AllReadyL.cons rfl (fun K hK => ?_) AllReadyL.nil
      go_simp
      refine hK.out _ _ (HeldL.cons (fun h => absurd h (by decide +kernel)) HeldL.nil) (fun hHeld' => ?_)
      clear hK K hHeld; have hHeld := hHeld'; clear hHeld'
      try simp only [Act.put, List.getElem_toArray, List.getElem_cons_succ, List.getElem_cons_zero, List.setIfInBounds_toArray, List.set_cons_zero, List.set_cons_succ]
      refine wpAnyL_take0 (i := 10) (v := ?_) rfl (by kernel_rfl) (by kernel_rfl) (by kernel_rfl) (by rfl) (fun _ _ _ h => h) (Or.inl ⟨by rfl, ?_⟩) (by assumption) ?_
      rotate_left
      · (intro W _; go_simp; (with_reducible rfl))
      intro hHeld'
      clear hHeld; have hHeld := hHeld'; clear hHeld'
      try simp only [Act.put, List.getElem_toArray, List.getElem_cons_succ, List.getElem_cons_zero, List.setIfInBounds_toArray, List.set_cons_zero, List.set_cons_succ]
      refine wpAnyL_ready (rs := [11]) (by kernel_rfl) (by simp) ?_
      refine AllReadyL.cons rfl (fun K hK => ?_) AllReadyL.nil
      go_simp
      refine hK.out _ _ (HeldL.cons (fun h => absurd h (by decide +kernel)) HeldL.nil) (fun hHeld' => ?_)
      clear hK K hHeld; have hHeld := hHeld'; clear hHeld'
      try simp only [Act.put, List.getElem_toArray, List.getElem_cons_succ, List.getElem_cons_zero, List.setIfInBounds_toArray, List.set_cons_zero, List.set_cons_succ]
      refine wpAnyL_take0 (i := 12) (v := ?_) rfl (by kernel_rfl) (by kernel_rfl) (by kernel_rfl) (by rfl) (fun _ _ _ h => h) (Or.inl ⟨by rfl, ?_⟩) (by assumption) ?_
      rotate_left
      · (intro W _; go_simp; (with_reducible rfl))
      intro hHeld'
      clear hHeld; have hHeld := hHeld'; clear hHeld'
      try simp only [Act.put, List.getElem_toArray, List.getElem_cons_succ, List.getElem_cons_zero, List.setIfInBounds_toArray, List.set_cons_zero, List.set_cons_succ]
      refine wpAnyL_done (by kernel_rfl) ?_ _
      obtain ⟨c0, co, fo⟩ := hco.out _ rS.out.d0
      go_wp2_with (first
        | (go_at_call 183; (with_reducible refine (letter_any y (by omega) _).mono ?_); rintro e w5 ⟨rfl, rfl⟩))
      replace rS := hid (rS.out.setDig (Nat.le_of_eq rfl) y k hlk.out)
      rw [← hsn.out] at rS
      go_roundw
      case rel => exact ⟨k + 1, by omega, by go_num, rS.out⟩
      case measure => simp [intOf]; omega
    · obtain rfl : k = N := by omega
      have dk : decide ((k : Int) < (k : Int)) = false := decide_eq_false (by omega)
      have hconv := conv_dgs (hal.out k (Nat.le_refl _)) rS.out.d0
      go_wp2
      go_ret
      exact ⟨rfl, rS.out.bel⟩
end Go.Proofs.YthmcdfjijkecfaaGreat
