/- AreEqualAcross: what the program and the reference answer. -/
import Derived.Test.YtapbcfnlcnboeaaPair
import Derived.Test.YtapbcfnlcnboeaaEqM
namespace Go.Proofs.Ytapbcfnlcnboeaa
open Go.RowKit
set_option linter.unusedVariables false
set_option linter.unusedSimpArgs false

open Classical in
/-- What AreEqualAcross answers. -/
noncomputable def acrAns (m : Mach) (q : Int) (k : Mach) (r : Int) : Bool × Int := if pairI m q k r = 0 then (decide (mcells (fromM (tabOf m m.L.toNat m.S.toNat) q.toNat) = mcells (fromM (tabOf k k.L.toNat k.S.toNat) r.toNat)), 0) else (false, pairI m q k r)
open Classical in
/-- .. and what the comparison does. -/
theorem eq_from (m k : Mach) (l s s' q r : Nat) (g : Good m l s) (g' : Good k l s') (hq : q < s) (hr : r < s') (h : pairI m q k r = 0) :
    ∃ b : Bool, acrAns m q k r = (b, 0) ∧ ∀ W : World, (Op.equalIn 10000 31 (.agg (mcells (fromM (tabOf m l s) q))) (.agg (mcells (fromM (tabOf k l s') r)))).run Try.prog W = .ok b W := by
  have hl : l < 1000000 := by have := g.l3; omega
  obtain ⟨a, ha, la⟩ := fromM_L (tabOf m l s) q
  obtain ⟨b, hb, lb⟩ := fromM_S (tabOf m l s) q
  obtain ⟨a', ha', la'⟩ := fromM_L (tabOf k l s') r
  obtain ⟨b', hb', lb'⟩ := fromM_S (tabOf k l s') r
  have e1 : (tabOf m l s).L = l := rfl
  have e2 : (tabOf k l s').L = l := rfl
  have hA : acrAns m q k r = (decide (mcells (fromM (tabOf m l s) q) = mcells (fromM (tabOf k l s') r)), 0) := by
    unfold acrAns; rw [if_pos h, g.L, g.S, g'.L, g'.S]; rfl
  exact ⟨_, hA, fun W => eq_mach W _ _ (fromM_ok (tabOf_ok g) hq (ot256 g)) (fromM_ok (tabOf_ok g') hr (ot256 g')) a b a' b' ha hb ha' hb' (by omega) (by omega) (by omega) (by omega) _ decide_eq_true_iff⟩
theorem acrAns_n {m : Mach} {q : Int} {k : Mach} {r c : Int} (h : pairI m q k r = c) (hc : c ≠ 0) : acrAns m q k r = (false, c) := by
  unfold acrAns; rw [h, if_neg hc]

set_option maxHeartbeats 4000000 in
set_option maxRecDepth 4000 in
theorem specAcr_any (w : World) (m : Mach) (hkm : m.Ok) (q : Int) (k : Mach) (hkk : k.Ok) (r : Int) :
    Calls Try.prog 34 #[.agg (mcells m), .int .i64 q, .agg (mcells k), .int .i64 r] w fun e w' => e = .returned (.tuple #[.bool (acrAns m q k r).1, .int .i64 (acrAns m q k r).2]) ∧ Below w.heap.size w w' := by
  have hS := hid (((St.start w).newMB m 31).newMB k 31)
  rw [heap_alloc_size] at hS
  have hcode := hid (fun W => l07Both_any W m hkm q k hkk r)
  rcases pairI_cases m q k r with ⟨h, _⟩ | h | ⟨l, s, s', q, r, g, g', rfl, hq, rfl, hr, h⟩
  · rw [acrAns_n h (by decide)]
    rw [h] at hcode
    replace hkm := hid hkm; replace hkk := hid hkk; clear h
    go_enter Try.func34, Try.ntmps34
    go_wp2_with (first
      | ((with_reducible refine gate (N := 11) rfl ?_); refine load_mach rfl _ rfl w.heap.size rfl m hS.out.m1 ?_)
      | ((with_reducible refine gate (N := 13) rfl ?_); refine load_mach rfl _ rfl (w.heap.size + 1) rfl k hS.out.m0 ?_)
      | (go_at_call 68; (with_reducible refine (hcode.out _).mono ?_); rintro e w1 ⟨rfl, hb⟩; replace hS := hid (hS.out.call hb); clear hb hcode))
    go_ret2
    exact ⟨rfl, hS.out.bel⟩
  · rw [acrAns_n h (by decide)]
    rw [h] at hcode
    replace hkm := hid hkm; replace hkk := hid hkk; clear h
    go_enter Try.func34, Try.ntmps34
    go_wp2_with (first
      | ((with_reducible refine gate (N := 11) rfl ?_); refine load_mach rfl _ rfl w.heap.size rfl m hS.out.m1 ?_)
      | ((with_reducible refine gate (N := 13) rfl ?_); refine load_mach rfl _ rfl (w.heap.size + 1) rfl k hS.out.m0 ?_)
      | (go_at_call 68; (with_reducible refine (hcode.out _).mono ?_); rintro e w1 ⟨rfl, hb⟩; replace hS := hid (hS.out.call hb); clear hb hcode))
    go_ret2
    exact ⟨rfl, hS.out.bel⟩
  · obtain ⟨b, hans, heq'⟩ := eq_from m k l s s' q r g g' hq hr h
    rw [hans]
    rw [h] at hcode
    have hma := hid (fun W => l07Machine_any W m l s g q hq)
    have hmb := hid (fun W => l07Machine_any W k l s' g' r hr)
    have hgd := guard_mach
    replace hkm := hid hkm; replace hkk := hid hkk; clear h g g' hans
    generalize fromM (tabOf m l s) q = fm at *
    generalize fromM (tabOf k l s') r = fk at *
    go_enter Try.func34, Try.ntmps34
    go_upto_region 4 with (first
      | ((with_reducible refine gate (N := 11) rfl ?_); refine load_mach rfl _ rfl w.heap.size rfl m hS.out.m1 ?_)
      | ((with_reducible refine gate (N := 13) rfl ?_); refine load_mach rfl _ rfl (w.heap.size + 1) rfl k hS.out.m0 ?_)
      | (go_at_call 68; (with_reducible refine (hcode.out _).mono ?_); rintro e w1 ⟨rfl, hb⟩; replace hS := hid (hS.out.call hb); clear hb hcode))
    have hS2 := hid hS.out.drew; clear hS
    refine wp_region_heldL (L := [(5, (fun w' : World => MB w' 31 w.heap.size m ∧ MB w' 31 (w.heap.size + 1) k))]) (by kernel_rfl) (HeldL.cons (fun _ => ⟨hS2.out.m1, hS2.out.m0⟩) HeldL.nil) (fun hHeld => ?_)
    generalize w1.drew = wd at *
    refine wpAnyL_takeP (i := 0) 5 [2] (v := (.agg (mcells m))) (fun w' : World => MB w' 31 w.heap.size m ∧ MB w' 31 (w.heap.size + 1) k) rfl (by kernel_rfl) (by kernel_rfl) (by kernel_rfl) (by rfl) (by kernel_rfl) (by simp) (fun _ _ _ h => h) (Or.inl ⟨by rfl, ?_⟩) (by assumption) ?_
    · (intro W hW; exact exec_load _ rfl rfl (load_run hW.1))
    intro hHeld'
    clear hHeld; have hHeld := hHeld'; clear hHeld'
    try simp only [Act.put, List.setIfInBounds_toArray, List.set_cons_zero, List.set_cons_succ]
    refine wpAnyL_take0 (i := 1) (v := ?_) rfl (by kernel_rfl) (by kernel_rfl) (by kernel_rfl) (by rfl) (fun _ _ _ h => h) (Or.inl ⟨by rfl, ?_⟩) (by assumption) ?_
    rotate_left
    · (intro W _; go_simp; (with_reducible rfl))
    intro hHeld'
    clear hHeld; have hHeld := hHeld'; clear hHeld'
    try simp only [Act.put, List.setIfInBounds_toArray, List.set_cons_zero, List.set_cons_succ]
    refine wpAnyL_takeP (i := 3) 5 [] (v := (.agg (mcells k))) (fun w' : World => MB w' 31 w.heap.size m ∧ MB w' 31 (w.heap.size + 1) k) rfl (by kernel_rfl) (by kernel_rfl) (by kernel_rfl) (by rfl) (by kernel_rfl) (by simp) (fun _ _ _ h => h) (Or.inl ⟨by rfl, ?_⟩) (by assumption) ?_
    · (intro W hW; exact exec_load _ rfl rfl (load_run hW.2))
    intro hHeld'
    clear hHeld; have hHeld := hHeld'; clear hHeld'
    try simp only [Act.put, List.setIfInBounds_toArray, List.set_cons_zero, List.set_cons_succ]
    refine wpAnyL_take0 (i := 4) (v := ?_) rfl (by kernel_rfl) (by kernel_rfl) (by kernel_rfl) (by rfl) (fun _ _ _ h => h) (Or.inl ⟨by rfl, ?_⟩) (by assumption) ?_
    rotate_left
    · (intro W _; go_simp; (with_reducible rfl))
    intro hHeld'
    clear hHeld; have hHeld := hHeld'; clear hHeld'
    try simp only [Act.put, List.setIfInBounds_toArray, List.set_cons_zero, List.set_cons_succ]
    refine wpAnyL_ready (rs := [2]) (by kernel_rfl) (by simp) ?_
    refine AllReadyL.cons rfl (fun K hK => ?_) AllReadyL.nil
    go_simp
    go_at_call 69; (with_reducible refine (hma.out _).mono ?_); rintro e w2 ⟨rfl, hb⟩; replace hS2 := hid (hS2.out.call hb); clear hb
    go_simp
    refine hK.out _ _ (HeldL.cons (fun _ => ⟨hS2.out.m1, hS2.out.m0⟩) HeldL.nil) (fun hHeld' => ?_)
    clear hK K hHeld; have hHeld := hHeld'; clear hHeld'
    try simp only [Act.put, List.setIfInBounds_toArray, List.set_cons_zero, List.set_cons_succ]
    refine wpAnyL_ready (rs := [5]) (by kernel_rfl) (by simp) ?_
    refine AllReadyL.cons rfl (fun K hK => ?_) AllReadyL.nil
    go_simp
    go_at_call 69; (with_reducible refine (hmb.out _).mono ?_); rintro e w3 ⟨rfl, hb⟩; replace hS2 := hid (hS2.out.call hb); clear hb
    go_simp
    refine hK.out _ _ (HeldL.cons (fun h => absurd h (by decide +kernel)) HeldL.nil) (fun hHeld' => ?_)
    clear hK K hHeld; have hHeld := hHeld'; clear hHeld'
    try simp only [Act.put, List.setIfInBounds_toArray, List.set_cons_zero, List.set_cons_succ]
    refine wpAnyL_take0 (i := 6) (v := ?_) rfl (by kernel_rfl) (by kernel_rfl) (by kernel_rfl) (by rfl) (fun _ _ _ h => h) (Or.inl ⟨by rfl, ?_⟩) (by assumption) ?_
    rotate_left
    · (intro W _; go_simp; (with_reducible rfl))
    intro hHeld'
    clear hHeld; have hHeld := hHeld'; clear hHeld'
    try simp only [Act.put, List.setIfInBounds_toArray, List.set_cons_zero, List.set_cons_succ]
    refine wpAnyL_take0 (i := 7) (v := ?_) rfl (by kernel_rfl) (by kernel_rfl) (by kernel_rfl) (by rfl) (fun _ _ _ h => h) (Or.inl ⟨by rfl, ?_⟩) (by assumption) ?_
    rotate_left
    · (intro W _; go_simp; (with_reducible rfl))
    intro hHeld'
    clear hHeld; have hHeld := hHeld'; clear hHeld'
    try simp only [Act.put, List.setIfInBounds_toArray, List.set_cons_zero, List.set_cons_succ]
    refine wpAnyL_take0 (i := 8) (v := ?_) rfl (by kernel_rfl) (by kernel_rfl) (by kernel_rfl) (by rfl) (fun _ _ _ h => h) (Or.inl ⟨by rfl, ?_⟩) (by assumption) ?_
    rotate_left
    · (intro W _; go_simp; (with_reducible rfl))
    intro hHeld'
    clear hHeld; have hHeld := hHeld'; clear hHeld'
    try simp only [Act.put, List.setIfInBounds_toArray, List.set_cons_zero, List.set_cons_succ]
    refine wpAnyL_done (by kernel_rfl) ?_ _
    simp only [Act.put, List.getElem_toArray, List.getElem_cons_succ, List.getElem_cons_zero, List.setIfInBounds_toArray, List.set_cons_zero, List.set_cons_succ]
    go_wp2
    go_ret2
    exact ⟨rfl, hS2.out.bel⟩
set_option maxHeartbeats 4000000 in
set_option maxRecDepth 4000 in
theorem implAcr_any (w : World) (m : Mach) (hkm : m.Ok) (q : Int) (k : Mach) (hkk : k.Ok) (r : Int) :
    Calls Try.prog 35 #[.agg (mcells m), .int .i64 q, .agg (mcells k), .int .i64 r] w fun e w' => e = .returned (.tuple #[.bool (acrAns m q k r).1, .int .i64 (acrAns m q k r).2]) ∧ Below w.heap.size w w' := by
  have hS := hid (((St.start w).newMB m 31).newMB k 31)
  rw [heap_alloc_size] at hS
  have hcode := hid (fun W => pairCode_any W m hkm q k hkk r)
  rcases pairI_cases m q k r with ⟨h, _⟩ | h | ⟨l, s, s', q, r, g, g', rfl, hq, rfl, hr, h⟩
  · rw [acrAns_n h (by decide)]
    rw [h] at hcode
    replace hkm := hid hkm; replace hkk := hid hkk; clear h
    go_enter Try.func35, Try.ntmps35
    go_wp2_with (first
      | ((with_reducible refine gate (N := 11) rfl ?_); refine load_mach rfl _ rfl w.heap.size rfl m hS.out.m1 ?_)
      | ((with_reducible refine gate (N := 13) rfl ?_); refine load_mach rfl _ rfl (w.heap.size + 1) rfl k hS.out.m0 ?_)
      | (go_at_call 70; (with_reducible refine (hcode.out _).mono ?_); rintro e w1 ⟨rfl, hb⟩; replace hS := hid (hS.out.call hb); clear hb hcode))
    go_ret2
    exact ⟨rfl, hS.out.bel⟩
  · rw [acrAns_n h (by decide)]
    rw [h] at hcode
    replace hkm := hid hkm; replace hkk := hid hkk; clear h
    go_enter Try.func35, Try.ntmps35
    go_wp2_with (first
      | ((with_reducible refine gate (N := 11) rfl ?_); refine load_mach rfl _ rfl w.heap.size rfl m hS.out.m1 ?_)
      | ((with_reducible refine gate (N := 13) rfl ?_); refine load_mach rfl _ rfl (w.heap.size + 1) rfl k hS.out.m0 ?_)
      | (go_at_call 70; (with_reducible refine (hcode.out _).mono ?_); rintro e w1 ⟨rfl, hb⟩; replace hS := hid (hS.out.call hb); clear hb hcode))
    go_ret2
    exact ⟨rfl, hS.out.bel⟩
  · obtain ⟨b, hans, heq'⟩ := eq_from m k l s s' q r g g' hq hr h
    rw [hans]
    rw [h] at hcode
    have hma := hid (fun W hW => machineOf_any w.heap.size W m hW l s g q hq)
    have hmb := hid (fun W hW => machineOf_any (w.heap.size + 1) W k hW l s' g' r hr)
    have hgd := guard_mach
    replace hkm := hid hkm; replace hkk := hid hkk; clear h g g' hans
    generalize fromM (tabOf m l s) q = fm at *
    generalize fromM (tabOf k l s') r = fk at *
    go_enter Try.func35, Try.ntmps35
    go_wp2_with (first
      | ((with_reducible refine gate (N := 11) rfl ?_); refine load_mach rfl _ rfl w.heap.size rfl m hS.out.m1 ?_)
      | ((with_reducible refine gate (N := 13) rfl ?_); refine load_mach rfl _ rfl (w.heap.size + 1) rfl k hS.out.m0 ?_)
      | (go_at_call 70; (with_reducible refine (hcode.out _).mono ?_); rintro e w1 ⟨rfl, hb⟩; replace hS := hid (hS.out.call hb); clear hb hcode)
      | (go_at_call 71; (with_reducible refine (hma.out _ hS.out.m1).mono ?_); rintro e w1 ⟨rfl, hb⟩; replace hS := hid (hS.out.call hb); clear hb)
      | (go_at_call 71; (with_reducible refine (hmb.out _ hS.out.m0).mono ?_); rintro e w1 ⟨rfl, hb⟩; replace hS := hid (hS.out.call hb); clear hb))
    go_ret2
    exact ⟨rfl, hS.out.bel⟩
end Go.Proofs.Ytapbcfnlcnboeaa
