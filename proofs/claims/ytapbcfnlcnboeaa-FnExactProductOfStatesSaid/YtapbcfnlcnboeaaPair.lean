/- Two machines and a state of each: their code, in the program and in the reference. -/
import Derived.Test.YtapbcfnlcnboeaaMos
namespace Go.Proofs.Ytapbcfnlcnboeaa
open Go.RowKit
set_option linter.unusedVariables false
set_option linter.unusedSimpArgs false

open Classical in
/-- The code of states of two machines. -/
noncomputable def pairI (m : Mach) (q : Int) (k : Mach) (r : Int) : Int := if IsM m ∧ IsM k then if (0 ≤ q ∧ q < m.S) ∧ (0 ≤ r ∧ r < k.S) ∧ m.L = k.L then 0 else 2 else 1

theorem pairI_cases (m : Mach) (q : Int) (k : Mach) (r : Int) : (pairI m q k r = 1 ∧ ¬ (IsM m ∧ IsM k)) ∨ (pairI m q k r = 2) ∨ ∃ l s s' q' r', Good m l s ∧ Good k l s' ∧ q = ((q' : Nat) : Int) ∧ q' < s ∧ r = ((r' : Nat) : Int) ∧ r' < s' ∧ pairI m q k r = 0 := by
  unfold pairI
  by_cases h : IsM m ∧ IsM k
  · rw [if_pos h]
    by_cases hq : (0 ≤ q ∧ q < m.S) ∧ (0 ≤ r ∧ r < k.S) ∧ m.L = k.L
    · rw [if_pos hq]
      obtain ⟨l, s, g⟩ := h.1.good
      obtain ⟨l', s', g'⟩ := h.2.good
      obtain ⟨q', rfl⟩ := Int.eq_ofNat_of_zero_le hq.1.1
      obtain ⟨r', rfl⟩ := Int.eq_ofNat_of_zero_le hq.2.1.1
      have e := hq.2.2
      rw [g.L, g'.L] at e
      have e' : l' = l := by omega
      rw [e'] at g'
      have h1 := hq.1.2; have h2 := hq.2.1.2
      rw [g.S] at h1; rw [g'.S] at h2
      exact .inr (.inr ⟨l, s, s', q', r', g, g', rfl, by omega, rfl, by omega, rfl⟩)
    · rw [if_neg hq]; exact .inr (.inl rfl)
  · rw [if_neg h]; exact .inl ⟨rfl, h⟩

set_option maxHeartbeats 4000000 in
theorem pairCode_any (w : World) (m : Mach) (hkm : m.Ok) (q : Int) (k : Mach) (hkk : k.Ok) (r : Int) :
    Calls Try.prog 70 #[.agg (mcells m), .int .i64 q, .agg (mcells k), .int .i64 r] w fun e w' => e = .returned (.int .i64 (pairI m q k r)) ∧ Below w.heap.size w w' := by
  have hS := hid (((St.start w).newMB m 31).newMB k 31)
  rw [heap_alloc_size] at hS
  by_cases hm : IsM m
  · have hi := hid (show Tells true (IsM m) from ⟨fun _ => hm, fun _ => rfl⟩)
    by_cases hk : IsM k
    · have hi' := hid (show Tells true (IsM k) from ⟨fun _ => hk, fun _ => rfl⟩)
      obtain ⟨l, s, g⟩ := hm.good
      obtain ⟨l', s', g'⟩ := hk.good
      by_cases hq : 0 ≤ q ∧ q < (s : Int)
      · replace hq := hid (show true = decide (0 ≤ q ∧ q < (s : Int)) from (decide_eq_true (by omega)).symm)
        by_cases hr : 0 ≤ r ∧ r < (s' : Int)
        · replace hr := hid (show true = decide (0 ≤ r ∧ r < (s' : Int)) from (decide_eq_true (by omega)).symm)
          by_cases hl : l = l'
          · rw [show pairI m q k r = 0 by
              have h1 := of_decide_eq_true hq.out.symm; have h2 := of_decide_eq_true hr.out.symm
              unfold pairI; rw [if_pos ⟨hm, hk⟩, g.L, g.S, g'.L, g'.S, if_pos (by omega)]]
            replace hkm := hid hkm; replace hkk := hid hkk
            have gL := hid g.L; have gS := hid g.S; have gL' := hid g'.L; have gS' := hid g'.S; have l3 := g.l3; have l3' := g'.l3; have s16 := g.s16; have s16' := g'.s16; have s1 := g.s1; have s1' := g'.s1; clear hm hk; replace g := hid g; replace g' := hid g'
            have hne : ((l : Int) != (l' : Int)) = false := by simp [hl]
            clear hl
            go_enter Try.func70, Try.ntmps70
            go_wp2_with (first
              | ((with_reducible refine gate (N := 10) rfl ?_); refine load_mach rfl _ rfl w.heap.size rfl m hS.out.m1 ?_)
              | ((with_reducible refine gate (N := 14) rfl ?_); refine load_mach_g (by rfl) _ rfl (w.heap.size + 1) rfl k hS.out.m0 ?_)
              | (go_at_call 56; (with_reducible refine (IsMachine_any _ m hkm.out true hi.out.out).mono ?_); rintro e w1 ⟨rfl, hb⟩; replace hS := hid (hS.out.call hb); clear hb hi)
              | (go_at_call 56; (with_reducible refine (IsMachine_any _ k hkk.out true hi'.out.out).mono ?_); rintro e w1 ⟨rfl, hb⟩; replace hS := hid (hS.out.call hb); clear hb hi'; have cL := hS.out.m1.cL; have cL' := hS.out.m0.cL; rw [gL.out] at cL; rw [gL'.out] at cL'; have cS := hS.out.m1.cS; have cS' := hS.out.m0.cS; rw [gS.out] at cS; rw [gS'.out] at cS')
              | (go_at_call 92; (with_reducible refine (isState_any w.heap.size _ m hS.out.m1 l s g.out q true hq.out).mono ?_); rintro e w1 ⟨rfl, rfl⟩)
              | (go_at_call 92; (with_reducible refine (isState_any (w.heap.size + 1) _ k hS.out.m0 l' s' g'.out r true hr.out).mono ?_); rintro e w1 ⟨rfl, rfl⟩))
            go_ret
            exact ⟨rfl, hS.out.bel⟩
          · rw [show pairI m q k r = 2 by
              unfold pairI; rw [if_pos ⟨hm, hk⟩, g.L, g.S, g'.L, g'.S, if_neg (by omega)]]
            replace hkm := hid hkm; replace hkk := hid hkk
            have gL := hid g.L; have gS := hid g.S; have gL' := hid g'.L; have gS' := hid g'.S; have l3 := g.l3; have l3' := g'.l3; have s16 := g.s16; have s16' := g'.s16; have s1 := g.s1; have s1' := g'.s1; clear hm hk; replace g := hid g; replace g' := hid g'
            have hne : ((l : Int) != (l' : Int)) = true := by simp; omega
            clear hl
            go_enter Try.func70, Try.ntmps70
            go_wp2_with (first
              | ((with_reducible refine gate (N := 10) rfl ?_); refine load_mach rfl _ rfl w.heap.size rfl m hS.out.m1 ?_)
              | ((with_reducible refine gate (N := 14) rfl ?_); refine load_mach_g (by rfl) _ rfl (w.heap.size + 1) rfl k hS.out.m0 ?_)
              | (go_at_call 56; (with_reducible refine (IsMachine_any _ m hkm.out true hi.out.out).mono ?_); rintro e w1 ⟨rfl, hb⟩; replace hS := hid (hS.out.call hb); clear hb hi)
              | (go_at_call 56; (with_reducible refine (IsMachine_any _ k hkk.out true hi'.out.out).mono ?_); rintro e w1 ⟨rfl, hb⟩; replace hS := hid (hS.out.call hb); clear hb hi'; have cL := hS.out.m1.cL; have cL' := hS.out.m0.cL; rw [gL.out] at cL; rw [gL'.out] at cL'; have cS := hS.out.m1.cS; have cS' := hS.out.m0.cS; rw [gS.out] at cS; rw [gS'.out] at cS')
              | (go_at_call 92; (with_reducible refine (isState_any w.heap.size _ m hS.out.m1 l s g.out q true hq.out).mono ?_); rintro e w1 ⟨rfl, rfl⟩)
              | (go_at_call 92; (with_reducible refine (isState_any (w.heap.size + 1) _ k hS.out.m0 l' s' g'.out r true hr.out).mono ?_); rintro e w1 ⟨rfl, rfl⟩))
            go_ret
            exact ⟨rfl, hS.out.bel⟩
        · rw [show pairI m q k r = 2 by
            unfold pairI; rw [if_pos ⟨hm, hk⟩, g.L, g.S, g'.L, g'.S, if_neg (by omega)]]
          replace hkm := hid hkm; replace hkk := hid hkk
          replace hr := hid (show false = decide (0 ≤ r ∧ r < (s' : Int)) from (decide_eq_false (fun h => hr (by omega))).symm)
          have gL := hid g.L; have gS := hid g.S; have gL' := hid g'.L; have gS' := hid g'.S; have l3 := g.l3; have l3' := g'.l3; have s16 := g.s16; have s16' := g'.s16; have s1 := g.s1; have s1' := g'.s1; clear hm hk; replace g := hid g; replace g' := hid g'
          go_enter Try.func70, Try.ntmps70
          go_wp2_with (first
            | ((with_reducible refine gate (N := 10) rfl ?_); refine load_mach rfl _ rfl w.heap.size rfl m hS.out.m1 ?_)
            | ((with_reducible refine gate (N := 14) rfl ?_); refine load_mach_g (by rfl) _ rfl (w.heap.size + 1) rfl k hS.out.m0 ?_)
            | (go_at_call 56; (with_reducible refine (IsMachine_any _ m hkm.out true hi.out.out).mono ?_); rintro e w1 ⟨rfl, hb⟩; replace hS := hid (hS.out.call hb); clear hb hi)
            | (go_at_call 56; (with_reducible refine (IsMachine_any _ k hkk.out true hi'.out.out).mono ?_); rintro e w1 ⟨rfl, hb⟩; replace hS := hid (hS.out.call hb); clear hb hi'; have cL := hS.out.m1.cL; have cL' := hS.out.m0.cL; rw [gL.out] at cL; rw [gL'.out] at cL'; have cS := hS.out.m1.cS; have cS' := hS.out.m0.cS; rw [gS.out] at cS; rw [gS'.out] at cS')
            | (go_at_call 92; (with_reducible refine (isState_any w.heap.size _ m hS.out.m1 l s g.out q true hq.out).mono ?_); rintro e w1 ⟨rfl, rfl⟩)
            | (go_at_call 92; (with_reducible refine (isState_any (w.heap.size + 1) _ k hS.out.m0 l' s' g'.out r false hr.out).mono ?_); rintro e w1 ⟨rfl, rfl⟩))
          go_ret
          exact ⟨rfl, hS.out.bel⟩
      · rw [show pairI m q k r = 2 by
          unfold pairI; rw [if_pos ⟨hm, hk⟩, g.L, g.S, g'.L, g'.S, if_neg (by omega)]]
        replace hkm := hid hkm; replace hkk := hid hkk
        replace hq := hid (show false = decide (0 ≤ q ∧ q < (s : Int)) from (decide_eq_false (fun h => hq (by omega))).symm)
        have gL := hid g.L; have gS := hid g.S; have gL' := hid g'.L; have gS' := hid g'.S; have l3 := g.l3; have l3' := g'.l3; have s16 := g.s16; have s16' := g'.s16; have s1 := g.s1; have s1' := g'.s1; clear hm hk; replace g := hid g; replace g' := hid g'
        go_enter Try.func70, Try.ntmps70
        go_wp2_with (first
          | ((with_reducible refine gate (N := 10) rfl ?_); refine load_mach rfl _ rfl w.heap.size rfl m hS.out.m1 ?_)
          | ((with_reducible refine gate (N := 14) rfl ?_); refine load_mach_g (by rfl) _ rfl (w.heap.size + 1) rfl k hS.out.m0 ?_)
          | (go_at_call 56; (with_reducible refine (IsMachine_any _ m hkm.out true hi.out.out).mono ?_); rintro e w1 ⟨rfl, hb⟩; replace hS := hid (hS.out.call hb); clear hb hi)
          | (go_at_call 56; (with_reducible refine (IsMachine_any _ k hkk.out true hi'.out.out).mono ?_); rintro e w1 ⟨rfl, hb⟩; replace hS := hid (hS.out.call hb); clear hb hi'; have cL := hS.out.m1.cL; have cL' := hS.out.m0.cL; rw [gL.out] at cL; rw [gL'.out] at cL'; have cS := hS.out.m1.cS; have cS' := hS.out.m0.cS; rw [gS.out] at cS; rw [gS'.out] at cS')
          | (go_at_call 92; (with_reducible refine (isState_any w.heap.size _ m hS.out.m1 l s g.out q false hq.out).mono ?_); rintro e w1 ⟨rfl, rfl⟩))
        go_ret
        exact ⟨rfl, hS.out.bel⟩
    · rw [show pairI m q k r = 1 by unfold pairI; rw [if_neg (fun h => hk h.2)]]
      replace hkm := hid hkm; replace hkk := hid hkk
      have hi' := hid (show Tells false (IsM k) from ⟨fun h => (by cases h), fun h => absurd h hk⟩)
      clear hm hk
      go_enter Try.func70, Try.ntmps70
      go_wp2_with (first
        | ((with_reducible refine gate (N := 10) rfl ?_); refine load_mach rfl _ rfl w.heap.size rfl m hS.out.m1 ?_)
        | ((with_reducible refine gate (N := 14) rfl ?_); refine load_mach_g (by rfl) _ rfl (w.heap.size + 1) rfl k hS.out.m0 ?_)
        | (go_at_call 56; (with_reducible refine (IsMachine_any _ m hkm.out true hi.out.out).mono ?_); rintro e w1 ⟨rfl, hb⟩; replace hS := hid (hS.out.call hb); clear hb hi)
        | (go_at_call 56; (with_reducible refine (IsMachine_any _ k hkk.out false hi'.out.out).mono ?_); rintro e w1 ⟨rfl, hb⟩; replace hS := hid (hS.out.call hb); clear hb hi'))
      go_ret
      exact ⟨rfl, hS.out.bel⟩
  · rw [show pairI m q k r = 1 by unfold pairI; rw [if_neg (fun h => hm h.1)]]
    replace hkm := hid hkm; replace hkk := hid hkk
    have hi := hid (show Tells false (IsM m) from ⟨fun h => (by cases h), fun h => absurd h hm⟩)
    clear hm
    go_enter Try.func70, Try.ntmps70
    go_wp2_with (first
      | ((with_reducible refine gate (N := 10) rfl ?_); refine load_mach rfl _ rfl w.heap.size rfl m hS.out.m1 ?_)
      | ((with_reducible refine gate (N := 14) rfl ?_); refine load_mach_g (by rfl) _ rfl (w.heap.size + 1) rfl k hS.out.m0 ?_)
      | (go_at_call 56; (with_reducible refine (IsMachine_any _ m hkm.out false hi.out.out).mono ?_); rintro e w1 ⟨rfl, hb⟩; replace hS := hid (hS.out.call hb); clear hb hi))
    go_ret
    exact ⟨rfl, hS.out.bel⟩
set_option maxHeartbeats 4000000 in
theorem l07Both_any (w : World) (m : Mach) (hkm : m.Ok) (q : Int) (k : Mach) (hkk : k.Ok) (r : Int) :
    Calls Try.prog 68 #[.agg (mcells m), .int .i64 q, .agg (mcells k), .int .i64 r] w fun e w' => e = .returned (.int .i64 (pairI m q k r)) ∧ Below w.heap.size w w' := by
  have hS := hid (((St.start w).newMB m 31).newMB k 31)
  rw [heap_alloc_size] at hS
  by_cases hm : IsM m
  · have hi := hid (show Tells true (IsM m) from ⟨fun _ => hm, fun _ => rfl⟩)
    by_cases hk : IsM k
    · have hi' := hid (show Tells true (IsM k) from ⟨fun _ => hk, fun _ => rfl⟩)
      obtain ⟨l, s, g⟩ := hm.good
      obtain ⟨l', s', g'⟩ := hk.good
      by_cases hq : 0 ≤ q ∧ q < (s : Int)
      · replace hq := hid (show true = decide (0 ≤ q ∧ q ≤ (s : Int) - 1) from (decide_eq_true (by omega)).symm)
        by_cases hr : 0 ≤ r ∧ r < (s' : Int)
        · replace hr := hid (show true = decide (0 ≤ r ∧ r ≤ (s' : Int) - 1) from (decide_eq_true (by omega)).symm)
          by_cases hl : l = l'
          · rw [show pairI m q k r = 0 by
              have h1 := of_decide_eq_true hq.out.symm; have h2 := of_decide_eq_true hr.out.symm
              unfold pairI; rw [if_pos ⟨hm, hk⟩, g.L, g.S, g'.L, g'.S, if_pos (by omega)]]
            replace hkm := hid hkm; replace hkk := hid hkk
            have gL := hid g.L; have gS := hid g.S; have gL' := hid g'.L; have gS' := hid g'.S; have l3 := g.l3; have l3' := g'.l3; have s16 := g.s16; have s16' := g'.s16; have s1 := g.s1; have s1' := g'.s1; clear hm hk; replace g := hid g; replace g' := hid g'
            have hne : ((l : Int) != (l' : Int)) = false := by simp [hl]
            clear hl
            go_enter Try.func68, Try.ntmps68
            go_wp2_with (first
              | ((with_reducible refine gate (N := 10) rfl ?_); refine load_mach rfl _ rfl w.heap.size rfl m hS.out.m1 ?_)
              | ((with_reducible refine gate (N := 14) rfl ?_); refine load_mach_g (by rfl) _ rfl (w.heap.size + 1) rfl k hS.out.m0 ?_)
              | (go_at_call 53; (with_reducible refine (l01Is_any _ m hkm.out true hi.out.out).mono ?_); rintro e w1 ⟨rfl, hb⟩; replace hS := hid (hS.out.call hb); clear hb hi)
              | (go_at_call 53; (with_reducible refine (l01Is_any _ k hkk.out true hi'.out.out).mono ?_); rintro e w1 ⟨rfl, hb⟩; replace hS := hid (hS.out.call hb); clear hb hi'; have cL := hS.out.m1.cL; have cL' := hS.out.m0.cL; rw [gL.out] at cL; rw [gL'.out] at cL'; have cS := hS.out.m1.cS; have cS' := hS.out.m0.cS; rw [gS.out] at cS; rw [gS'.out] at cS')
              | (go_at_call 47; (with_reducible refine (l01In_any q 0 ((s : Int) - 1) true hq.out _).mono ?_); rintro e w1 ⟨rfl, rfl⟩)
              | (go_at_call 47; (with_reducible refine (l01In_any r 0 ((s' : Int) - 1) true hr.out _).mono ?_); rintro e w1 ⟨rfl, rfl⟩))
            go_ret
            exact ⟨rfl, hS.out.bel⟩
          · rw [show pairI m q k r = 2 by
              unfold pairI; rw [if_pos ⟨hm, hk⟩, g.L, g.S, g'.L, g'.S, if_neg (by omega)]]
            replace hkm := hid hkm; replace hkk := hid hkk
            have gL := hid g.L; have gS := hid g.S; have gL' := hid g'.L; have gS' := hid g'.S; have l3 := g.l3; have l3' := g'.l3; have s16 := g.s16; have s16' := g'.s16; have s1 := g.s1; have s1' := g'.s1; clear hm hk; replace g := hid g; replace g' := hid g'
            have hne : ((l : Int) != (l' : Int)) = true := by simp; omega
            clear hl
            go_enter Try.func68, Try.ntmps68
            go_wp2_with (first
              | ((with_reducible refine gate (N := 10) rfl ?_); refine load_mach rfl _ rfl w.heap.size rfl m hS.out.m1 ?_)
              | ((with_reducible refine gate (N := 14) rfl ?_); refine load_mach_g (by rfl) _ rfl (w.heap.size + 1) rfl k hS.out.m0 ?_)
              | (go_at_call 53; (with_reducible refine (l01Is_any _ m hkm.out true hi.out.out).mono ?_); rintro e w1 ⟨rfl, hb⟩; replace hS := hid (hS.out.call hb); clear hb hi)
              | (go_at_call 53; (with_reducible refine (l01Is_any _ k hkk.out true hi'.out.out).mono ?_); rintro e w1 ⟨rfl, hb⟩; replace hS := hid (hS.out.call hb); clear hb hi'; have cL := hS.out.m1.cL; have cL' := hS.out.m0.cL; rw [gL.out] at cL; rw [gL'.out] at cL'; have cS := hS.out.m1.cS; have cS' := hS.out.m0.cS; rw [gS.out] at cS; rw [gS'.out] at cS')
              | (go_at_call 47; (with_reducible refine (l01In_any q 0 ((s : Int) - 1) true hq.out _).mono ?_); rintro e w1 ⟨rfl, rfl⟩)
              | (go_at_call 47; (with_reducible refine (l01In_any r 0 ((s' : Int) - 1) true hr.out _).mono ?_); rintro e w1 ⟨rfl, rfl⟩))
            go_ret
            exact ⟨rfl, hS.out.bel⟩
        · rw [show pairI m q k r = 2 by
            unfold pairI; rw [if_pos ⟨hm, hk⟩, g.L, g.S, g'.L, g'.S, if_neg (by omega)]]
          replace hkm := hid hkm; replace hkk := hid hkk
          replace hr := hid (show false = decide (0 ≤ r ∧ r ≤ (s' : Int) - 1) from (decide_eq_false (fun h => hr (by omega))).symm)
          have gL := hid g.L; have gS := hid g.S; have gL' := hid g'.L; have gS' := hid g'.S; have l3 := g.l3; have l3' := g'.l3; have s16 := g.s16; have s16' := g'.s16; have s1 := g.s1; have s1' := g'.s1; clear hm hk; replace g := hid g; replace g' := hid g'
          go_enter Try.func68, Try.ntmps68
          go_wp2_with (first
            | ((with_reducible refine gate (N := 10) rfl ?_); refine load_mach rfl _ rfl w.heap.size rfl m hS.out.m1 ?_)
            | ((with_reducible refine gate (N := 14) rfl ?_); refine load_mach_g (by rfl) _ rfl (w.heap.size + 1) rfl k hS.out.m0 ?_)
            | (go_at_call 53; (with_reducible refine (l01Is_any _ m hkm.out true hi.out.out).mono ?_); rintro e w1 ⟨rfl, hb⟩; replace hS := hid (hS.out.call hb); clear hb hi)
            | (go_at_call 53; (with_reducible refine (l01Is_any _ k hkk.out true hi'.out.out).mono ?_); rintro e w1 ⟨rfl, hb⟩; replace hS := hid (hS.out.call hb); clear hb hi'; have cL := hS.out.m1.cL; have cL' := hS.out.m0.cL; rw [gL.out] at cL; rw [gL'.out] at cL'; have cS := hS.out.m1.cS; have cS' := hS.out.m0.cS; rw [gS.out] at cS; rw [gS'.out] at cS')
            | (go_at_call 47; (with_reducible refine (l01In_any q 0 ((s : Int) - 1) true hq.out _).mono ?_); rintro e w1 ⟨rfl, rfl⟩)
            | (go_at_call 47; (with_reducible refine (l01In_any r 0 ((s' : Int) - 1) false hr.out _).mono ?_); rintro e w1 ⟨rfl, rfl⟩))
          go_ret
          exact ⟨rfl, hS.out.bel⟩
      · rw [show pairI m q k r = 2 by
          unfold pairI; rw [if_pos ⟨hm, hk⟩, g.L, g.S, g'.L, g'.S, if_neg (by omega)]]
        replace hkm := hid hkm; replace hkk := hid hkk
        replace hq := hid (show false = decide (0 ≤ q ∧ q ≤ (s : Int) - 1) from (decide_eq_false (fun h => hq (by omega))).symm)
        have gL := hid g.L; have gS := hid g.S; have gL' := hid g'.L; have gS' := hid g'.S; have l3 := g.l3; have l3' := g'.l3; have s16 := g.s16; have s16' := g'.s16; have s1 := g.s1; have s1' := g'.s1; clear hm hk; replace g := hid g; replace g' := hid g'
        go_enter Try.func68, Try.ntmps68
        go_wp2_with (first
          | ((with_reducible refine gate (N := 10) rfl ?_); refine load_mach rfl _ rfl w.heap.size rfl m hS.out.m1 ?_)
          | ((with_reducible refine gate (N := 14) rfl ?_); refine load_mach_g (by rfl) _ rfl (w.heap.size + 1) rfl k hS.out.m0 ?_)
          | (go_at_call 53; (with_reducible refine (l01Is_any _ m hkm.out true hi.out.out).mono ?_); rintro e w1 ⟨rfl, hb⟩; replace hS := hid (hS.out.call hb); clear hb hi)
          | (go_at_call 53; (with_reducible refine (l01Is_any _ k hkk.out true hi'.out.out).mono ?_); rintro e w1 ⟨rfl, hb⟩; replace hS := hid (hS.out.call hb); clear hb hi'; have cL := hS.out.m1.cL; have cL' := hS.out.m0.cL; rw [gL.out] at cL; rw [gL'.out] at cL'; have cS := hS.out.m1.cS; have cS' := hS.out.m0.cS; rw [gS.out] at cS; rw [gS'.out] at cS')
          | (go_at_call 47; (with_reducible refine (l01In_any q 0 ((s : Int) - 1) false hq.out _).mono ?_); rintro e w1 ⟨rfl, rfl⟩))
        go_ret
        exact ⟨rfl, hS.out.bel⟩
    · rw [show pairI m q k r = 1 by unfold pairI; rw [if_neg (fun h => hk h.2)]]
      replace hkm := hid hkm; replace hkk := hid hkk
      have hi' := hid (show Tells false (IsM k) from ⟨fun h => (by cases h), fun h => absurd h hk⟩)
      clear hm hk
      go_enter Try.func68, Try.ntmps68
      go_wp2_with (first
        | ((with_reducible refine gate (N := 10) rfl ?_); refine load_mach rfl _ rfl w.heap.size rfl m hS.out.m1 ?_)
        | ((with_reducible refine gate (N := 14) rfl ?_); refine load_mach_g (by rfl) _ rfl (w.heap.size + 1) rfl k hS.out.m0 ?_)
        | (go_at_call 53; (with_reducible refine (l01Is_any _ m hkm.out true hi.out.out).mono ?_); rintro e w1 ⟨rfl, hb⟩; replace hS := hid (hS.out.call hb); clear hb hi)
        | (go_at_call 53; (with_reducible refine (l01Is_any _ k hkk.out false hi'.out.out).mono ?_); rintro e w1 ⟨rfl, hb⟩; replace hS := hid (hS.out.call hb); clear hb hi'))
      go_ret
      exact ⟨rfl, hS.out.bel⟩
  · rw [show pairI m q k r = 1 by unfold pairI; rw [if_neg (fun h => hm h.1)]]
    replace hkm := hid hkm; replace hkk := hid hkk
    have hi := hid (show Tells false (IsM m) from ⟨fun h => (by cases h), fun h => absurd h hm⟩)
    clear hm
    go_enter Try.func68, Try.ntmps68
    go_wp2_with (first
      | ((with_reducible refine gate (N := 10) rfl ?_); refine load_mach rfl _ rfl w.heap.size rfl m hS.out.m1 ?_)
      | ((with_reducible refine gate (N := 14) rfl ?_); refine load_mach_g (by rfl) _ rfl (w.heap.size + 1) rfl k hS.out.m0 ?_)
      | (go_at_call 53; (with_reducible refine (l01Is_any _ m hkm.out false hi.out.out).mono ?_); rintro e w1 ⟨rfl, hb⟩; replace hS := hid (hS.out.call hb); clear hb hi))
    go_ret
    exact ⟨rfl, hS.out.bel⟩
end Go.Proofs.Ytapbcfnlcnboeaa
