/- What the proof of FnLevels leans on, part 10 of 19. -/
import Derived.Test.YthmcdfjijkecfaaGreatZFnLevelsI
import Derived.Laws.CopyOwn
import Derived.Laws.MakeOwn
/- Two machines and a state of each: their code, in the program and in the reference. -/
namespace Go.Proofs.YthmcdfjijkecfaaGreat
open Go.RowKit
set_option linter.unusedVariables false
set_option linter.unusedSimpArgs false

open Classical in
/-- The code of states of two machines. -/
noncomputable def pairI (m : Mach) (q : Int) (k : Mach) (r : Int) : Int := if IsM m ∧ IsM k then if (0 ≤ q ∧ q < m.S) ∧ (0 ≤ r ∧ r < k.S) ∧ m.L = k.L then 0 else 2 else 1

theorem pairI_cases (m : Mach) (q : Int) (k : Mach) (r : Int) : (pairI m q k r = 1 ∧ ¬ (IsM m ∧ IsM k)) ∨ (pairI m q k r = 2) ∨ ∃ l s s' q' r', Good m l s ∧ Good k l s' ∧ q = ((q' : Nat) : Int) ∧ q' < s ∧ r = ((r' : Nat) : Int) ∧ r' < s' ∧ pairI m q k r = 0 := by
  unfold pairI
  by_cases h : IsM m ∧ IsM k
  · rw [if_pos h]
    by_cases hq : (0 ≤ q ∧ q < m.S) ∧ (0 ≤ r ∧ r < k.S) ∧ m.L = k.L
    · rw [if_pos hq]
      obtain ⟨l, s, g⟩ := h.1.good
      obtain ⟨l', s', g'⟩ := h.2.good
      obtain ⟨q', rfl⟩ := Int.eq_ofNat_of_zero_le hq.1.1
      obtain ⟨r', rfl⟩ := Int.eq_ofNat_of_zero_le hq.2.1.1
      have e := hq.2.2
      rw [g.L, g'.L] at e
      have e' : l' = l := by omega
      rw [e'] at g'
      have h1 := hq.1.2; have h2 := hq.2.1.2
      rw [g.S] at h1; rw [g'.S] at h2
      exact .inr (.inr ⟨l, s, s', q', r', g, g', rfl, by omega, rfl, by omega, rfl⟩)
    · rw [if_neg hq]; exact .inr (.inl rfl)
  · rw [if_neg h]; exact .inl ⟨rfl, h⟩

set_option maxHeartbeats 4000000 in
theorem pairCode_any (w : World) (m : Mach) (hkm : m.Ok) (q : Int) (k : Mach) (hkk : k.Ok) (r : Int) :
    Calls Tryz.prog 81 #[.agg (mcells m), .int .i64 q, .agg (mcells k), .int .i64 r] w fun e w' => e = .returned (.int .i64 (pairI m q k r)) ∧ Below w.heap.size w w' := by
  have hS := hid (((St.start w).newMB m 27).newMB k 27)
  rw [heap_alloc_size] at hS
  by_cases hm : IsM m
  · have hi := hid (show Tells true (IsM m) from ⟨fun _ => hm, fun _ => rfl⟩)
    by_cases hk : IsM k
    · have hi' := hid (show Tells true (IsM k) from ⟨fun _ => hk, fun _ => rfl⟩)
      obtain ⟨l, s, g⟩ := hm.good
      obtain ⟨l', s', g'⟩ := hk.good
      by_cases hq : 0 ≤ q ∧ q < (s : Int)
      · replace hq := hid (show true = decide (0 ≤ q ∧ q < (s : Int)) from (decide_eq_true (by omega)).symm)
        by_cases hr : 0 ≤ r ∧ r < (s' : Int)
        · replace hr := hid (show true = decide (0 ≤ r ∧ r < (s' : Int)) from (decide_eq_true (by omega)).symm)
          by_cases hl : l = l'
          · rw [show pairI m q k r = 0 by
              have h1 := of_decide_eq_true hq.out.symm; have h2 := of_decide_eq_true hr.out.symm
              unfold pairI; rw [if_pos ⟨hm, hk⟩, g.L, g.S, g'.L, g'.S, if_pos (by omega)]]
            replace hkm := hid hkm; replace hkk := hid hkk
            have gL := hid g.L; have gS := hid g.S; have gL' := hid g'.L; have gS' := hid g'.S; have l3 := g.l3; have l3' := g'.l3; have s16 := g.s16; have s16' := g'.s16; have s1 := g.s1; have s1' := g'.s1; clear hm hk; replace g := hid g; replace g' := hid g'
            have hne : ((l : Int) != (l' : Int)) = false := by simp [hl]
            clear hl
            go_enter Tryz.func81, Tryz.ntmps81
            go_wp2_with (first
              | ((with_reducible refine gate (N := 10) rfl ?_); refine load_mach rfl _ rfl w.heap.size rfl m hS.out.m1 ?_)
              | ((with_reducible refine gate (N := 14) rfl ?_); refine load_mach_g (by rfl) _ rfl (w.heap.size + 1) rfl k hS.out.m0 ?_)
              | (go_at_call 97; (with_reducible refine (IsMachine_any _ m hkm.out true hi.out.out).mono ?_); rintro e w1 ⟨rfl, hb⟩; replace hS := hid (hS.out.call hb); clear hb hi)
              | (go_at_call 97; (with_reducible refine (IsMachine_any _ k hkk.out true hi'.out.out).mono ?_); rintro e w1 ⟨rfl, hb⟩; replace hS := hid (hS.out.call hb); clear hb hi'; have cL := hS.out.m1.cL; have cL' := hS.out.m0.cL; rw [gL.out] at cL; rw [gL'.out] at cL'; have cS := hS.out.m1.cS; have cS' := hS.out.m0.cS; rw [gS.out] at cS; rw [gS'.out] at cS')
              | (go_at_call 175; (with_reducible refine (isState_any w.heap.size _ m hS.out.m1 l s g.out q true hq.out).mono ?_); rintro e w1 ⟨rfl, rfl⟩)
              | (go_at_call 175; (with_reducible refine (isState_any (w.heap.size + 1) _ k hS.out.m0 l' s' g'.out r true hr.out).mono ?_); rintro e w1 ⟨rfl, rfl⟩))
            go_ret
            exact ⟨rfl, hS.out.bel⟩
          · rw [show pairI m q k r = 2 by
              unfold pairI; rw [if_pos ⟨hm, hk⟩, g.L, g.S, g'.L, g'.S, if_neg (by omega)]]
            replace hkm := hid hkm; replace hkk := hid hkk
            have gL := hid g.L; have gS := hid g.S; have gL' := hid g'.L; have gS' := hid g'.S; have l3 := g.l3; have l3' := g'.l3; have s16 := g.s16; have s16' := g'.s16; have s1 := g.s1; have s1' := g'.s1; clear hm hk; replace g := hid g; replace g' := hid g'
            have hne : ((l : Int) != (l' : Int)) = true := by simp; omega
            clear hl
            go_enter Tryz.func81, Tryz.ntmps81
            go_wp2_with (first
              | ((with_reducible refine gate (N := 10) rfl ?_); refine load_mach rfl _ rfl w.heap.size rfl m hS.out.m1 ?_)
              | ((with_reducible refine gate (N := 14) rfl ?_); refine load_mach_g (by rfl) _ rfl (w.heap.size + 1) rfl k hS.out.m0 ?_)
              | (go_at_call 97; (with_reducible refine (IsMachine_any _ m hkm.out true hi.out.out).mono ?_); rintro e w1 ⟨rfl, hb⟩; replace hS := hid (hS.out.call hb); clear hb hi)
              | (go_at_call 97; (with_reducible refine (IsMachine_any _ k hkk.out true hi'.out.out).mono ?_); rintro e w1 ⟨rfl, hb⟩; replace hS := hid (hS.out.call hb); clear hb hi'; have cL := hS.out.m1.cL; have cL' := hS.out.m0.cL; rw [gL.out] at cL; rw [gL'.out] at cL'; have cS := hS.out.m1.cS; have cS' := hS.out.m0.cS; rw [gS.out] at cS; rw [gS'.out] at cS')
              | (go_at_call 175; (with_reducible refine (isState_any w.heap.size _ m hS.out.m1 l s g.out q true hq.out).mono ?_); rintro e w1 ⟨rfl, rfl⟩)
              | (go_at_call 175; (with_reducible refine (isState_any (w.heap.size + 1) _ k hS.out.m0 l' s' g'.out r true hr.out).mono ?_); rintro e w1 ⟨rfl, rfl⟩))
            go_ret
            exact ⟨rfl, hS.out.bel⟩
        · rw [show pairI m q k r = 2 by
            unfold pairI; rw [if_pos ⟨hm, hk⟩, g.L, g.S, g'.L, g'.S, if_neg (by omega)]]
          replace hkm := hid hkm; replace hkk := hid hkk
          replace hr := hid (show false = decide (0 ≤ r ∧ r < (s' : Int)) from (decide_eq_false (fun h => hr (by omega))).symm)
          have gL := hid g.L; have gS := hid g.S; have gL' := hid g'.L; have gS' := hid g'.S; have l3 := g.l3; have l3' := g'.l3; have s16 := g.s16; have s16' := g'.s16; have s1 := g.s1; have s1' := g'.s1; clear hm hk; replace g := hid g; replace g' := hid g'
          go_enter Tryz.func81, Tryz.ntmps81
          go_wp2_with (first
            | ((with_reducible refine gate (N := 10) rfl ?_); refine load_mach rfl _ rfl w.heap.size rfl m hS.out.m1 ?_)
            | ((with_reducible refine gate (N := 14) rfl ?_); refine load_mach_g (by rfl) _ rfl (w.heap.size + 1) rfl k hS.out.m0 ?_)
            | (go_at_call 97; (with_reducible refine (IsMachine_any _ m hkm.out true hi.out.out).mono ?_); rintro e w1 ⟨rfl, hb⟩; replace hS := hid (hS.out.call hb); clear hb hi)
            | (go_at_call 97; (with_reducible refine (IsMachine_any _ k hkk.out true hi'.out.out).mono ?_); rintro e w1 ⟨rfl, hb⟩; replace hS := hid (hS.out.call hb); clear hb hi'; have cL := hS.out.m1.cL; have cL' := hS.out.m0.cL; rw [gL.out] at cL; rw [gL'.out] at cL'; have cS := hS.out.m1.cS; have cS' := hS.out.m0.cS; rw [gS.out] at cS; rw [gS'.out] at cS')
            | (go_at_call 175; (with_reducible refine (isState_any w.heap.size _ m hS.out.m1 l s g.out q true hq.out).mono ?_); rintro e w1 ⟨rfl, rfl⟩)
            | (go_at_call 175; (with_reducible refine (isState_any (w.heap.size + 1) _ k hS.out.m0 l' s' g'.out r false hr.out).mono ?_); rintro e w1 ⟨rfl, rfl⟩))
          go_ret
          exact ⟨rfl, hS.out.bel⟩
      · rw [show pairI m q k r = 2 by
          unfold pairI; rw [if_pos ⟨hm, hk⟩, g.L, g.S, g'.L, g'.S, if_neg (by omega)]]
        replace hkm := hid hkm; replace hkk := hid hkk
        replace hq := hid (show false = decide (0 ≤ q ∧ q < (s : Int)) from (decide_eq_false (fun h => hq (by omega))).symm)
        have gL := hid g.L; have gS := hid g.S; have gL' := hid g'.L; have gS' := hid g'.S; have l3 := g.l3; have l3' := g'.l3; have s16 := g.s16; have s16' := g'.s16; have s1 := g.s1; have s1' := g'.s1; clear hm hk; replace g := hid g; replace g' := hid g'
        go_enter Tryz.func81, Tryz.ntmps81
        go_wp2_with (first
          | ((with_reducible refine gate (N := 10) rfl ?_); refine load_mach rfl _ rfl w.heap.size rfl m hS.out.m1 ?_)
          | ((with_reducible refine gate (N := 14) rfl ?_); refine load_mach_g (by rfl) _ rfl (w.heap.size + 1) rfl k hS.out.m0 ?_)
          | (go_at_call 97; (with_reducible refine (IsMachine_any _ m hkm.out true hi.out.out).mono ?_); rintro e w1 ⟨rfl, hb⟩; replace hS := hid (hS.out.call hb); clear hb hi)
          | (go_at_call 97; (with_reducible refine (IsMachine_any _ k hkk.out true hi'.out.out).mono ?_); rintro e w1 ⟨rfl, hb⟩; replace hS := hid (hS.out.call hb); clear hb hi'; have cL := hS.out.m1.cL; have cL' := hS.out.m0.cL; rw [gL.out] at cL; rw [gL'.out] at cL'; have cS := hS.out.m1.cS; have cS' := hS.out.m0.cS; rw [gS.out] at cS; rw [gS'.out] at cS')
          | (go_at_call 175; (with_reducible refine (isState_any w.heap.size _ m hS.out.m1 l s g.out q false hq.out).mono ?_); rintro e w1 ⟨rfl, rfl⟩))
        go_ret
        exact ⟨rfl, hS.out.bel⟩
    · rw [show pairI m q k r = 1 by unfold pairI; rw [if_neg (fun h => hk h.2)]]
      replace hkm := hid hkm; replace hkk := hid hkk
      have hi' := hid (show Tells false (IsM k) from ⟨fun h => (by cases h), fun h => absurd h hk⟩)
      clear hm hk
      go_enter Tryz.func81, Tryz.ntmps81
      go_wp2_with (first
        | ((with_reducible refine gate (N := 10) rfl ?_); refine load_mach rfl _ rfl w.heap.size rfl m hS.out.m1 ?_)
        | ((with_reducible refine gate (N := 14) rfl ?_); refine load_mach_g (by rfl) _ rfl (w.heap.size + 1) rfl k hS.out.m0 ?_)
        | (go_at_call 97; (with_reducible refine (IsMachine_any _ m hkm.out true hi.out.out).mono ?_); rintro e w1 ⟨rfl, hb⟩; replace hS := hid (hS.out.call hb); clear hb hi)
        | (go_at_call 97; (with_reducible refine (IsMachine_any _ k hkk.out false hi'.out.out).mono ?_); rintro e w1 ⟨rfl, hb⟩; replace hS := hid (hS.out.call hb); clear hb hi'))
      go_ret
      exact ⟨rfl, hS.out.bel⟩
  · rw [show pairI m q k r = 1 by unfold pairI; rw [if_neg (fun h => hm h.1)]]
    replace hkm := hid hkm; replace hkk := hid hkk
    have hi := hid (show Tells false (IsM m) from ⟨fun h => (by cases h), fun h => absurd h hm⟩)
    clear hm
    go_enter Tryz.func81, Tryz.ntmps81
    go_wp2_with (first
      | ((with_reducible refine gate (N := 10) rfl ?_); refine load_mach rfl _ rfl w.heap.size rfl m hS.out.m1 ?_)
      | ((with_reducible refine gate (N := 14) rfl ?_); refine load_mach_g (by rfl) _ rfl (w.heap.size + 1) rfl k hS.out.m0 ?_)
      | (go_at_call 97; (with_reducible refine (IsMachine_any _ m hkm.out false hi.out.out).mono ?_); rintro e w1 ⟨rfl, hb⟩; replace hS := hid (hS.out.call hb); clear hb hi))
    go_ret
    exact ⟨rfl, hS.out.bel⟩
set_option maxHeartbeats 4000000 in
theorem l07Both_any (w : World) (m : Mach) (hkm : m.Ok) (q : Int) (k : Mach) (hkk : k.Ok) (r : Int) :
    Calls Tryz.prog 83 #[.agg (mcells m), .int .i64 q, .agg (mcells k), .int .i64 r] w fun e w' => e = .returned (.int .i64 (pairI m q k r)) ∧ Below w.heap.size w w' := by
  have hS := hid (((St.start w).newMB m 27).newMB k 27)
  rw [heap_alloc_size] at hS
  by_cases hm : IsM m
  · have hi := hid (show Tells true (IsM m) from ⟨fun _ => hm, fun _ => rfl⟩)
    by_cases hk : IsM k
    · have hi' := hid (show Tells true (IsM k) from ⟨fun _ => hk, fun _ => rfl⟩)
      obtain ⟨l, s, g⟩ := hm.good
      obtain ⟨l', s', g'⟩ := hk.good
      by_cases hq : 0 ≤ q ∧ q < (s : Int)
      · replace hq := hid (show true = decide (0 ≤ q ∧ q ≤ (s : Int) - 1) from (decide_eq_true (by omega)).symm)
        by_cases hr : 0 ≤ r ∧ r < (s' : Int)
        · replace hr := hid (show true = decide (0 ≤ r ∧ r ≤ (s' : Int) - 1) from (decide_eq_true (by omega)).symm)
          by_cases hl : l = l'
          · rw [show pairI m q k r = 0 by
              have h1 := of_decide_eq_true hq.out.symm; have h2 := of_decide_eq_true hr.out.symm
              unfold pairI; rw [if_pos ⟨hm, hk⟩, g.L, g.S, g'.L, g'.S, if_pos (by omega)]]
            replace hkm := hid hkm; replace hkk := hid hkk
            have gL := hid g.L; have gS := hid g.S; have gL' := hid g'.L; have gS' := hid g'.S; have l3 := g.l3; have l3' := g'.l3; have s16 := g.s16; have s16' := g'.s16; have s1 := g.s1; have s1' := g'.s1; clear hm hk; replace g := hid g; replace g' := hid g'
            have hne : ((l : Int) != (l' : Int)) = false := by simp [hl]
            clear hl
            go_enter Tryz.func83, Tryz.ntmps83
            go_wp2_with (first
              | ((with_reducible refine gate (N := 10) rfl ?_); refine load_mach rfl _ rfl w.heap.size rfl m hS.out.m1 ?_)
              | ((with_reducible refine gate (N := 14) rfl ?_); refine load_mach_g (by rfl) _ rfl (w.heap.size + 1) rfl k hS.out.m0 ?_)
              | (go_at_call 141; (with_reducible refine (l01Is_any _ m hkm.out true hi.out.out).mono ?_); rintro e w1 ⟨rfl, hb⟩; replace hS := hid (hS.out.call hb); clear hb hi)
              | (go_at_call 141; (with_reducible refine (l01Is_any _ k hkk.out true hi'.out.out).mono ?_); rintro e w1 ⟨rfl, hb⟩; replace hS := hid (hS.out.call hb); clear hb hi'; have cL := hS.out.m1.cL; have cL' := hS.out.m0.cL; rw [gL.out] at cL; rw [gL'.out] at cL'; have cS := hS.out.m1.cS; have cS' := hS.out.m0.cS; rw [gS.out] at cS; rw [gS'.out] at cS')
              | (go_at_call 142; (with_reducible refine (l01In_any q 0 ((s : Int) - 1) true hq.out _).mono ?_); rintro e w1 ⟨rfl, rfl⟩)
              | (go_at_call 142; (with_reducible refine (l01In_any r 0 ((s' : Int) - 1) true hr.out _).mono ?_); rintro e w1 ⟨rfl, rfl⟩))
            go_ret
            exact ⟨rfl, hS.out.bel⟩
          · rw [show pairI m q k r = 2 by
              unfold pairI; rw [if_pos ⟨hm, hk⟩, g.L, g.S, g'.L, g'.S, if_neg (by omega)]]
            replace hkm := hid hkm; replace hkk := hid hkk
            have gL := hid g.L; have gS := hid g.S; have gL' := hid g'.L; have gS' := hid g'.S; have l3 := g.l3; have l3' := g'.l3; have s16 := g.s16; have s16' := g'.s16; have s1 := g.s1; have s1' := g'.s1; clear hm hk; replace g := hid g; replace g' := hid g'
            have hne : ((l : Int) != (l' : Int)) = true := by simp; omega
            clear hl
            go_enter Tryz.func83, Tryz.ntmps83
            go_wp2_with (first
              | ((with_reducible refine gate (N := 10) rfl ?_); refine load_mach rfl _ rfl w.heap.size rfl m hS.out.m1 ?_)
              | ((with_reducible refine gate (N := 14) rfl ?_); refine load_mach_g (by rfl) _ rfl (w.heap.size + 1) rfl k hS.out.m0 ?_)
              | (go_at_call 141; (with_reducible refine (l01Is_any _ m hkm.out true hi.out.out).mono ?_); rintro e w1 ⟨rfl, hb⟩; replace hS := hid (hS.out.call hb); clear hb hi)
              | (go_at_call 141; (with_reducible refine (l01Is_any _ k hkk.out true hi'.out.out).mono ?_); rintro e w1 ⟨rfl, hb⟩; replace hS := hid (hS.out.call hb); clear hb hi'; have cL := hS.out.m1.cL; have cL' := hS.out.m0.cL; rw [gL.out] at cL; rw [gL'.out] at cL'; have cS := hS.out.m1.cS; have cS' := hS.out.m0.cS; rw [gS.out] at cS; rw [gS'.out] at cS')
              | (go_at_call 142; (with_reducible refine (l01In_any q 0 ((s : Int) - 1) true hq.out _).mono ?_); rintro e w1 ⟨rfl, rfl⟩)
              | (go_at_call 142; (with_reducible refine (l01In_any r 0 ((s' : Int) - 1) true hr.out _).mono ?_); rintro e w1 ⟨rfl, rfl⟩))
            go_ret
            exact ⟨rfl, hS.out.bel⟩
        · rw [show pairI m q k r = 2 by
            unfold pairI; rw [if_pos ⟨hm, hk⟩, g.L, g.S, g'.L, g'.S, if_neg (by omega)]]
          replace hkm := hid hkm; replace hkk := hid hkk
          replace hr := hid (show false = decide (0 ≤ r ∧ r ≤ (s' : Int) - 1) from (decide_eq_false (fun h => hr (by omega))).symm)
          have gL := hid g.L; have gS := hid g.S; have gL' := hid g'.L; have gS' := hid g'.S; have l3 := g.l3; have l3' := g'.l3; have s16 := g.s16; have s16' := g'.s16; have s1 := g.s1; have s1' := g'.s1; clear hm hk; replace g := hid g; replace g' := hid g'
          go_enter Tryz.func83, Tryz.ntmps83
          go_wp2_with (first
            | ((with_reducible refine gate (N := 10) rfl ?_); refine load_mach rfl _ rfl w.heap.size rfl m hS.out.m1 ?_)
            | ((with_reducible refine gate (N := 14) rfl ?_); refine load_mach_g (by rfl) _ rfl (w.heap.size + 1) rfl k hS.out.m0 ?_)
            | (go_at_call 141; (with_reducible refine (l01Is_any _ m hkm.out true hi.out.out).mono ?_); rintro e w1 ⟨rfl, hb⟩; replace hS := hid (hS.out.call hb); clear hb hi)
            | (go_at_call 141; (with_reducible refine (l01Is_any _ k hkk.out true hi'.out.out).mono ?_); rintro e w1 ⟨rfl, hb⟩; replace hS := hid (hS.out.call hb); clear hb hi'; have cL := hS.out.m1.cL; have cL' := hS.out.m0.cL; rw [gL.out] at cL; rw [gL'.out] at cL'; have cS := hS.out.m1.cS; have cS' := hS.out.m0.cS; rw [gS.out] at cS; rw [gS'.out] at cS')
            | (go_at_call 142; (with_reducible refine (l01In_any q 0 ((s : Int) - 1) true hq.out _).mono ?_); rintro e w1 ⟨rfl, rfl⟩)
            | (go_at_call 142; (with_reducible refine (l01In_any r 0 ((s' : Int) - 1) false hr.out _).mono ?_); rintro e w1 ⟨rfl, rfl⟩))
          go_ret
          exact ⟨rfl, hS.out.bel⟩
      · rw [show pairI m q k r = 2 by
          unfold pairI; rw [if_pos ⟨hm, hk⟩, g.L, g.S, g'.L, g'.S, if_neg (by omega)]]
        replace hkm := hid hkm; replace hkk := hid hkk
        replace hq := hid (show false = decide (0 ≤ q ∧ q ≤ (s : Int) - 1) from (decide_eq_false (fun h => hq (by omega))).symm)
        have gL := hid g.L; have gS := hid g.S; have gL' := hid g'.L; have gS' := hid g'.S; have l3 := g.l3; have l3' := g'.l3; have s16 := g.s16; have s16' := g'.s16; have s1 := g.s1; have s1' := g'.s1; clear hm hk; replace g := hid g; replace g' := hid g'
        go_enter Tryz.func83, Tryz.ntmps83
        go_wp2_with (first
          | ((with_reducible refine gate (N := 10) rfl ?_); refine load_mach rfl _ rfl w.heap.size rfl m hS.out.m1 ?_)
          | ((with_reducible refine gate (N := 14) rfl ?_); refine load_mach_g (by rfl) _ rfl (w.heap.size + 1) rfl k hS.out.m0 ?_)
          | (go_at_call 141; (with_reducible refine (l01Is_any _ m hkm.out true hi.out.out).mono ?_); rintro e w1 ⟨rfl, hb⟩; replace hS := hid (hS.out.call hb); clear hb hi)
          | (go_at_call 141; (with_reducible refine (l01Is_any _ k hkk.out true hi'.out.out).mono ?_); rintro e w1 ⟨rfl, hb⟩; replace hS := hid (hS.out.call hb); clear hb hi'; have cL := hS.out.m1.cL; have cL' := hS.out.m0.cL; rw [gL.out] at cL; rw [gL'.out] at cL'; have cS := hS.out.m1.cS; have cS' := hS.out.m0.cS; rw [gS.out] at cS; rw [gS'.out] at cS')
          | (go_at_call 142; (with_reducible refine (l01In_any q 0 ((s : Int) - 1) false hq.out _).mono ?_); rintro e w1 ⟨rfl, rfl⟩))
        go_ret
        exact ⟨rfl, hS.out.bel⟩
    · rw [show pairI m q k r = 1 by unfold pairI; rw [if_neg (fun h => hk h.2)]]
      replace hkm := hid hkm; replace hkk := hid hkk
      have hi' := hid (show Tells false (IsM k) from ⟨fun h => (by cases h), fun h => absurd h hk⟩)
      clear hm hk
      go_enter Tryz.func83, Tryz.ntmps83
      go_wp2_with (first
        | ((with_reducible refine gate (N := 10) rfl ?_); refine load_mach rfl _ rfl w.heap.size rfl m hS.out.m1 ?_)
        | ((with_reducible refine gate (N := 14) rfl ?_); refine load_mach_g (by rfl) _ rfl (w.heap.size + 1) rfl k hS.out.m0 ?_)
        | (go_at_call 141; (with_reducible refine (l01Is_any _ m hkm.out true hi.out.out).mono ?_); rintro e w1 ⟨rfl, hb⟩; replace hS := hid (hS.out.call hb); clear hb hi)
        | (go_at_call 141; (with_reducible refine (l01Is_any _ k hkk.out false hi'.out.out).mono ?_); rintro e w1 ⟨rfl, hb⟩; replace hS := hid (hS.out.call hb); clear hb hi'))
      go_ret
      exact ⟨rfl, hS.out.bel⟩
  · rw [show pairI m q k r = 1 by unfold pairI; rw [if_neg (fun h => hm h.1)]]
    replace hkm := hid hkm; replace hkk := hid hkk
    have hi := hid (show Tells false (IsM m) from ⟨fun h => (by cases h), fun h => absurd h hm⟩)
    clear hm
    go_enter Tryz.func83, Tryz.ntmps83
    go_wp2_with (first
      | ((with_reducible refine gate (N := 10) rfl ?_); refine load_mach rfl _ rfl w.heap.size rfl m hS.out.m1 ?_)
      | ((with_reducible refine gate (N := 14) rfl ?_); refine load_mach_g (by rfl) _ rfl (w.heap.size + 1) rfl k hS.out.m0 ?_)
      | (go_at_call 141; (with_reducible refine (l01Is_any _ m hkm.out false hi.out.out).mono ?_); rintro e w1 ⟨rfl, hb⟩; replace hS := hid (hS.out.call hb); clear hb hi))
    go_ret
    exact ⟨rfl, hS.out.bel⟩
end Go.Proofs.YthmcdfjijkecfaaGreat

/- ProductOfStates: what the program and the reference answer. -/
namespace Go.Proofs.YthmcdfjijkecfaaGreat
open Go.RowKit
set_option linter.unusedVariables false
set_option linter.unusedSimpArgs false

open Classical in
/-- What ProductOfStates answers. -/
noncomputable def posAns (m : Mach) (q : Int) (k : Mach) (r : Int) : Mach × Int := if pairI m q k r = 0 then (fromM (prodT m k m.L.toNat m.S.toNat k.S.toNat) (q.toNat * k.S.toNat + r.toNat), fromC (prodT m k m.L.toNat m.S.toNat k.S.toNat) (q.toNat * k.S.toNat + r.toNat)) else (⟨0, 0, fun _ => 0, fun _ => 0⟩, pairI m q k r)
theorem posAns_0 {m k : Mach} {l s s' q r : Nat} (g : Good m l s) (g' : Good k l s') (h : pairI m q k r = 0) : posAns m q k r = (fromM (prodT m k l s s') (q * s' + r), fromC (prodT m k l s s') (q * s' + r)) := by
  unfold posAns; rw [if_pos h, g.L, g.S, g'.S]; rfl
theorem posAns_n {m : Mach} {q : Int} {k : Mach} {r c : Int} (h : pairI m q k r = c) (hc : c ≠ 0) : posAns m q k r = (⟨0, 0, fun _ => 0, fun _ => 0⟩, c) := by
  unfold posAns; rw [h, if_neg hc]
theorem from_cases (T : Tab) (q : Nat) : (fromB T q = true ∧ fromC T q = 0) ∨ (fromB T q = false ∧ fromC T q = 3 ∧ fromM T q = ⟨0, 0, fun _ => 0, fun _ => 0⟩) := by
  unfold fromB fromC fromM
  by_cases h : (fin T (fix T) q).length ≤ 16
  · exact .inl ⟨decide_eq_true h, if_pos h⟩
  · exact .inr ⟨decide_eq_false h, if_neg h, if_neg h⟩

set_option maxHeartbeats 4000000 in
set_option maxRecDepth 100000 in
theorem specPos_any (w : World) (m : Mach) (hkm : m.Ok) (q : Int) (k : Mach) (hkk : k.Ok) (r : Int) :
    Calls Tryz.prog 11 #[.agg (mcells m), .int .i64 q, .agg (mcells k), .int .i64 r] w fun e w' => e = .returned (.tuple #[.agg (mcells (posAns m q k r).1), .int .i64 (posAns m q k r).2]) ∧ Below w.heap.size w w' := by
  have hz := zero_mach
  have hS := hid ((((St.start w).newMB m 27).newMB k 27).newMB ⟨0, 0, fun _ => 0, fun _ => 0⟩ 27)
  simp only [heap_alloc_size] at hS
  have hcode := hid (fun W => l07Both_any W m hkm q k hkk r)
  rcases pairI_cases m q k r with ⟨h, _⟩ | h | ⟨l, s, s', q, r, g, g', rfl, hq, rfl, hr, h⟩
  · rw [posAns_n h (by decide)]
    rw [h] at hcode
    replace hkm := hid hkm; replace hkk := hid hkk; clear h
    generalize hzs : mcells ⟨0, 0, fun _ => 0, fun _ => 0⟩ = zs at *
    replace hzs := hid hzs
    go_enter Tryz.func11, Tryz.ntmps11
    go_wp2_with (first
      | ((with_reducible refine gate (N := 13) rfl ?_); refine load_mach rfl _ rfl w.heap.size rfl m hS.out.m2 ?_)
      | ((with_reducible refine gate (N := 15) rfl ?_); refine load_mach rfl _ rfl (w.heap.size + 1) rfl k hS.out.m1 ?_)
      | (go_at_call 83; (with_reducible refine (hcode.out _).mono ?_); rintro e w1 ⟨rfl, hb⟩; replace hS := hid (hS.out.call hb); clear hb hcode)
      | ((with_reducible refine gate (N := 20) rfl ?_); refine build_zero rfl rfl ?_)
      | ((with_reducible refine gateOp (op := .store 27 (.tmp 8) (.tmp 20)) rfl ?_); refine store_mach rfl _ _ rfl (w.heap.size + 1 + 1) rfl ⟨0, 0, fun _ => 0, fun _ => 0⟩ rfl 27 _ hS.out.m0 ?_; intro W3 p2 ho hsz hbl; have pB := hid (hbl _ _ (by omega) hS.out.bel); replace p2 := hid p2; clear ho hsz hbl))
    exact ret_mach_i rfl rfl rfl p2.out rfl ⟨by rw [hzs.out], pB.out⟩
  · rw [posAns_n h (by decide)]
    rw [h] at hcode
    replace hkm := hid hkm; replace hkk := hid hkk; clear h
    generalize hzs : mcells ⟨0, 0, fun _ => 0, fun _ => 0⟩ = zs at *
    replace hzs := hid hzs
    go_enter Tryz.func11, Tryz.ntmps11
    go_wp2_with (first
      | ((with_reducible refine gate (N := 13) rfl ?_); refine load_mach rfl _ rfl w.heap.size rfl m hS.out.m2 ?_)
      | ((with_reducible refine gate (N := 15) rfl ?_); refine load_mach rfl _ rfl (w.heap.size + 1) rfl k hS.out.m1 ?_)
      | (go_at_call 83; (with_reducible refine (hcode.out _).mono ?_); rintro e w1 ⟨rfl, hb⟩; replace hS := hid (hS.out.call hb); clear hb hcode)
      | ((with_reducible refine gate (N := 20) rfl ?_); refine build_zero rfl rfl ?_)
      | ((with_reducible refine gateOp (op := .store 27 (.tmp 8) (.tmp 20)) rfl ?_); refine store_mach rfl _ _ rfl (w.heap.size + 1 + 1) rfl ⟨0, 0, fun _ => 0, fun _ => 0⟩ rfl 27 _ hS.out.m0 ?_; intro W3 p2 ho hsz hbl; have pB := hid (hbl _ _ (by omega) hS.out.bel); replace p2 := hid p2; clear ho hsz hbl))
    exact ret_mach_i rfl rfl rfl p2.out rfl ⟨by rw [hzs.out], pB.out⟩
  · rw [posAns_0 g g' h]
    rw [h] at hcode
    have hma := hid (fun W => l07Product_any W m k l s s' g g' q r hq hr)
    have hN := hid (fun L W (h : St w.heap.size w L W) => h.newMB ⟨0, 0, fun _ => 0, fun _ => 0⟩ 27)
    have hcs := from_cases (prodT m k l s s') (q * s' + r)
    replace hkm := hid hkm; replace hkk := hid hkk; clear h g g'
    generalize fromC (prodT m k l s s') (q * s' + r) = fc at *
    generalize fromM (prodT m k l s s') (q * s' + r) = fm at *
    generalize fromB (prodT m k l s s') (q * s' + r) = fb at *
    rcases hcs with ⟨rfl, rfl⟩ | ⟨rfl, rfl, rfl⟩
    · generalize mcells ⟨0, 0, fun _ => 0, fun _ => 0⟩ = zs at *
      go_enter Tryz.func11, Tryz.ntmps11
      go_wp2_with (first
        | ((with_reducible refine gate (N := 13) rfl ?_); refine load_mach rfl _ rfl w.heap.size rfl m hS.out.m2 ?_)
        | ((with_reducible refine gate (N := 15) rfl ?_); refine load_mach rfl _ rfl (w.heap.size + 1) rfl k hS.out.m1 ?_)
        | (go_at_call 83; (with_reducible refine (hcode.out _).mono ?_); rintro e w1 ⟨rfl, hb⟩; replace hS := hid (hS.out.call hb); clear hb hcode)
        | ((with_reducible refine gate (N := 23) rfl ?_); refine load_mach rfl _ rfl w.heap.size rfl m hS.out.m2 ?_)
        | ((with_reducible refine gate (N := 25) rfl ?_); refine load_mach rfl _ rfl (w.heap.size + 1) rfl k hS.out.m1 ?_)
        | (go_at_call 84; (with_reducible refine (hma.out _).mono ?_); rintro e w2 ⟨rfl, hb⟩; have hle2 := hid (hS.out.call hb).le; replace hS := hid (hN.out _ _ (hS.out.call hb)); clear hb hma)
        | ((with_reducible refine gateOp (op := .store 27 (.tmp 11) (.tmp 28)) rfl ?_); refine store_mach rfl _ _ rfl w2.heap.size rfl fm rfl 27 _ hS.out.m0 ?_; intro W1 p3 ho hsz hbl; replace hS := hid (hS.out.setM hle2.out p3 ho hbl); clear p3 ho hsz hbl)
        | ((with_reducible refine gate (N := 33) rfl ?_); refine load_mach rfl _ rfl w2.heap.size rfl fm hS.out.m0 ?_)
        | ((with_reducible refine gateOp (op := .store 27 (.tmp 8) (.tmp 33)) rfl ?_); refine store_mach rfl _ _ rfl (w.heap.size + 1 + 1) rfl fm rfl 27 _ hS.out.m1 ?_; intro W3 p2 ho hsz hbl; have pB := hid (hbl _ _ (by omega) hS.out.bel); replace p2 := hid p2; clear ho hsz hbl))
      exact ret_mach_i rfl rfl rfl p2.out rfl ⟨rfl, pB.out⟩
    · generalize hzs : mcells ⟨0, 0, fun _ => 0, fun _ => 0⟩ = zs at *
      replace hzs := hid hzs
      go_enter Tryz.func11, Tryz.ntmps11
      go_wp2_with (first
        | ((with_reducible refine gate (N := 13) rfl ?_); refine load_mach rfl _ rfl w.heap.size rfl m hS.out.m2 ?_)
        | ((with_reducible refine gate (N := 15) rfl ?_); refine load_mach rfl _ rfl (w.heap.size + 1) rfl k hS.out.m1 ?_)
        | (go_at_call 83; (with_reducible refine (hcode.out _).mono ?_); rintro e w1 ⟨rfl, hb⟩; replace hS := hid (hS.out.call hb); clear hb hcode)
        | ((with_reducible refine gate (N := 23) rfl ?_); refine load_mach rfl _ rfl w.heap.size rfl m hS.out.m2 ?_)
        | ((with_reducible refine gate (N := 25) rfl ?_); refine load_mach rfl _ rfl (w.heap.size + 1) rfl k hS.out.m1 ?_)
        | (go_at_call 84; (with_reducible refine (hma.out _).mono ?_); rintro e w2 ⟨rfl, hb⟩; have hle2 := hid (hS.out.call hb).le; replace hS := hid (hN.out _ _ (hS.out.call hb)); clear hb hma)
        | ((with_reducible refine gateOp (op := .store 27 (.tmp 11) (.tmp 28)) rfl ?_); refine store_mach rfl _ _ rfl w2.heap.size rfl ⟨0, 0, fun _ => 0, fun _ => 0⟩ (by rw [hzs.out]; rfl) 27 _ hS.out.m0 ?_; intro W1 p3 ho hsz hbl; replace hS := hid (hS.out.setM hle2.out p3 ho hbl); clear p3 ho hsz hbl)
        | ((with_reducible refine gate (N := 32) rfl ?_); refine build_zero rfl rfl ?_)
        | ((with_reducible refine gateOp (op := .store 27 (.tmp 8) (.tmp 32)) rfl ?_); refine store_mach rfl _ _ rfl (w.heap.size + 1 + 1) rfl ⟨0, 0, fun _ => 0, fun _ => 0⟩ rfl 27 _ hS.out.m1 ?_; intro W3 p2 ho hsz hbl; have pB := hid (hbl _ _ (by omega) hS.out.bel); replace p2 := hid p2; clear ho hsz hbl))
      exact ret_mach_i rfl rfl rfl p2.out rfl ⟨by rw [hzs.out], pB.out⟩
set_option maxHeartbeats 4000000 in
set_option maxRecDepth 100000 in
theorem implPos_any (w : World) (m : Mach) (hkm : m.Ok) (q : Int) (k : Mach) (hkk : k.Ok) (r : Int) :
    Calls Tryz.prog 10 #[.agg (mcells m), .int .i64 q, .agg (mcells k), .int .i64 r] w fun e w' => e = .returned (.tuple #[.agg (mcells (posAns m q k r).1), .int .i64 (posAns m q k r).2]) ∧ Below w.heap.size w w' := by
  have hz := zero_mach
  have hS := hid ((((St.start w).newMB m 27).newMB k 27).newMB ⟨0, 0, fun _ => 0, fun _ => 0⟩ 27)
  simp only [heap_alloc_size] at hS
  have hcode := hid (fun W => pairCode_any W m hkm q k hkk r)
  rcases pairI_cases m q k r with ⟨h, _⟩ | h | ⟨l, s, s', q, r, g, g', rfl, hq, rfl, hr, h⟩
  · rw [posAns_n h (by decide)]
    rw [h] at hcode
    replace hkm := hid hkm; replace hkk := hid hkk; clear h
    generalize hzs : mcells ⟨0, 0, fun _ => 0, fun _ => 0⟩ = zs at *
    replace hzs := hid hzs
    go_enter Tryz.func10, Tryz.ntmps10
    go_wp2_with (first
      | ((with_reducible refine gate (N := 11) rfl ?_); refine load_mach rfl _ rfl w.heap.size rfl m hS.out.m2 ?_)
      | ((with_reducible refine gate (N := 13) rfl ?_); refine load_mach rfl _ rfl (w.heap.size + 1) rfl k hS.out.m1 ?_)
      | (go_at_call 81; (with_reducible refine (hcode.out _).mono ?_); rintro e w1 ⟨rfl, hb⟩; replace hS := hid (hS.out.call hb); clear hb hcode)
      | ((with_reducible refine gate (N := 18) rfl ?_); refine build_zero rfl rfl ?_)
      | ((with_reducible refine gateOp (op := .store 27 (.tmp 8) (.tmp 18)) rfl ?_); refine store_mach rfl _ _ rfl (w.heap.size + 1 + 1) rfl ⟨0, 0, fun _ => 0, fun _ => 0⟩ rfl 27 _ hS.out.m0 ?_; intro W3 p2 ho hsz hbl; have pB := hid (hbl _ _ (by omega) hS.out.bel); replace p2 := hid p2; clear ho hsz hbl))
    exact ret_mach_i rfl rfl rfl p2.out rfl ⟨by rw [hzs.out], pB.out⟩
  · rw [posAns_n h (by decide)]
    rw [h] at hcode
    replace hkm := hid hkm; replace hkk := hid hkk; clear h
    generalize hzs : mcells ⟨0, 0, fun _ => 0, fun _ => 0⟩ = zs at *
    replace hzs := hid hzs
    go_enter Tryz.func10, Tryz.ntmps10
    go_wp2_with (first
      | ((with_reducible refine gate (N := 11) rfl ?_); refine load_mach rfl _ rfl w.heap.size rfl m hS.out.m2 ?_)
      | ((with_reducible refine gate (N := 13) rfl ?_); refine load_mach rfl _ rfl (w.heap.size + 1) rfl k hS.out.m1 ?_)
      | (go_at_call 81; (with_reducible refine (hcode.out _).mono ?_); rintro e w1 ⟨rfl, hb⟩; replace hS := hid (hS.out.call hb); clear hb hcode)
      | ((with_reducible refine gate (N := 18) rfl ?_); refine build_zero rfl rfl ?_)
      | ((with_reducible refine gateOp (op := .store 27 (.tmp 8) (.tmp 18)) rfl ?_); refine store_mach rfl _ _ rfl (w.heap.size + 1 + 1) rfl ⟨0, 0, fun _ => 0, fun _ => 0⟩ rfl 27 _ hS.out.m0 ?_; intro W3 p2 ho hsz hbl; have pB := hid (hbl _ _ (by omega) hS.out.bel); replace p2 := hid p2; clear ho hsz hbl))
    exact ret_mach_i rfl rfl rfl p2.out rfl ⟨by rw [hzs.out], pB.out⟩
  · rw [posAns_0 g g' h]
    rw [h] at hcode
    have hma := hid (fun W hm hk => product_any w.heap.size (w.heap.size + 1) W m k hm hk l s s' g g' q r hq hr)
    replace hkm := hid hkm; replace hkk := hid hkk; clear h g g'
    generalize fromC (prodT m k l s s') (q * s' + r) = fc at *
    generalize fromM (prodT m k l s s') (q * s' + r) = fm at *
    generalize mcells ⟨0, 0, fun _ => 0, fun _ => 0⟩ = zs at *
    go_enter Tryz.func10, Tryz.ntmps10
    go_wp2_with (first
      | ((with_reducible refine gate (N := 11) rfl ?_); refine load_mach rfl _ rfl w.heap.size rfl m hS.out.m2 ?_)
      | ((with_reducible refine gate (N := 13) rfl ?_); refine load_mach rfl _ rfl (w.heap.size + 1) rfl k hS.out.m1 ?_)
      | (go_at_call 81; (with_reducible refine (hcode.out _).mono ?_); rintro e w1 ⟨rfl, hb⟩; replace hS := hid (hS.out.call hb); clear hb hcode)
      | (go_at_call 82; (with_reducible refine (hma.out _ hS.out.m2 hS.out.m1).mono ?_); rintro e w1 ⟨rfl, hb⟩; replace hS := hid (hS.out.call hb); clear hb hma)
      | ((with_reducible refine gateOp (op := .store 27 (.tmp 8) (.tmp 23)) rfl ?_); refine store_mach rfl _ _ rfl (w.heap.size + 1 + 1) rfl fm rfl 27 _ hS.out.m0 ?_; intro W3 p2 ho hsz hbl; have pB := hid (hbl _ _ (by omega) hS.out.bel); replace p2 := hid p2; clear ho hsz hbl))
    exact ret_mach_i rfl rfl rfl p2.out rfl ⟨rfl, pB.out⟩
end Go.Proofs.YthmcdfjijkecfaaGreat

/- OrderByPowers: what the program and the reference answer. -/
namespace Go.Proofs.YthmcdfjijkecfaaGreat
open Go.RowKit
set_option linter.unusedVariables false
set_option linter.unusedSimpArgs false

/-- The next power, and its code. -/
def nextM (m : Mach) (l s q : Nat) (now : Mach) : Mach := fromM (prodT now m l now.S.toNat s) (0 * s + q)
def nextC (m : Mach) (l s q : Nat) (now : Mach) : Int := fromC (prodT now m l now.S.toNat s) (0 * s + q)
open Classical in
/-- The search. -/
noncomputable def ordGo (m : Mach) (l s q : Nat) : Nat → Nat → Mach → Int × Int
  | 0, _, _ => (0, 4)
  | f + 1, k, now => if nextC m l s q now = 0 then (if mcells (nextM m l s q now) = mcells (trivM l) then ((k : Int), 0) else ordGo m l s q f (k + 1) (nextM m l s q now)) else (0, 3)
open Classical in
noncomputable def obpAns (m : Mach) (q n : Int) : Int × Int :=
  if codeI m { data := #[] } [q] = 0 then (if 1 ≤ n ∧ n ≤ 16 then ordGo m m.L.toNat m.S.toNat q.toNat n.toNat 1 (trivM m.L.toNat) else (0, 2)) else (0, codeI m { data := #[] } [q])
theorem obpAns_n {m : Mach} {q n c : Int} (h : codeI m { data := #[] } [q] = c) (hc : c ≠ 0) : obpAns m q n = (0, c) := by
  unfold obpAns; rw [h, if_neg hc]
theorem obpAns_r {m : Mach} {q n : Int} (h : codeI m { data := #[] } [q] = 0) (hn : ¬ (1 ≤ n ∧ n ≤ 16)) : obpAns m q n = (0, 2) := by
  unfold obpAns; rw [h, if_pos rfl, if_neg hn]
theorem obpAns_0 {m : Mach} {l s q : Nat} {n : Nat} (g : Good m l s) (h : codeI m { data := #[] } [(q : Int)] = 0) (hn : 1 ≤ n ∧ n ≤ 16) : obpAns m q n = ordGo m l s q n 1 (trivM l) := by
  unfold obpAns; rw [h, if_pos rfl, if_pos (by omega), g.L, g.S]; rfl
theorem next_cases (m : Mach) (l s q : Nat) (hq : q < s) (g : Good m l s) (now : Mach) (sN : Nat) (gN : Good now l sN) :
    (nextC m l s q now = 3 ∧ fromB (prodT now m l sN s) (0 * s + q) = false) ∨ (nextC m l s q now = 0 ∧ fromB (prodT now m l sN s) (0 * s + q) = true ∧ ∃ s2, Good (nextM m l s q now) l s2 ∧ (nextM m l s q now).Ok) := by
  have e : now.S.toNat = sN := by rw [gN.S]; rfl
  have hin := prod_in (s' := s) (show 0 < sN from gN.s1) hq
  rcases from_cases (prodT now m l sN s) (0 * s + q) with ⟨h1, h2⟩ | ⟨h1, h2, _⟩
  · refine .inr ⟨by unfold nextC; rw [e]; exact h2, h1, ?_⟩
    obtain ⟨s2, g2⟩ := fromM_good (prod_ok gN g) hin g.l2 g.l3 (prod_o gN g) (prod_inj gN g) h2
    exact ⟨s2, by unfold nextM; rw [e]; exact g2, by unfold nextM; rw [e]; exact fromM_ok (prod_ok gN g) hin (prod_o256 gN g)⟩
  · exact .inl ⟨by unfold nextC; rw [e]; exact h2, h1⟩
theorem next_M (m : Mach) (l s q : Nat) (now : Mach) (sN : Nat) (gN : Good now l sN) : fromM (prodT now m l sN s) (0 * s + q) = nextM m l s q now ∧ fromC (prodT now m l sN s) (0 * s + q) = nextC m l s q now := by
  have e : now.S.toNat = sN := by rw [gN.S]; rfl
  unfold nextM nextC; rw [e]; exact ⟨rfl, rfl⟩
open Classical in
theorem eq_triv (m : Mach) (l s2 : Nat) (g : Good m l s2) (hk : m.Ok) : ∃ b : Bool, Hid (b = true ↔ mcells m = mcells (trivM l)) ∧ ∀ W : World, (Op.equalIn 10000 27 (.agg (mcells m)) (.agg (mcells (trivM l)))).run Tryz.prog W = .ok b W := by
  have l3 := g.l3; have s16 := g.s16
  exact ⟨_, hid decide_eq_true_iff, fun W => eq_mach W m (trivM l) hk (trivM_ok l l3) l s2 l 1 g.L g.S rfl rfl (by omega) (by omega) (by omega) (by omega) _ decide_eq_true_iff⟩
theorem ordGo_3 {m : Mach} {l s q f k : Nat} {now : Mach} (h : nextC m l s q now = 3) : ordGo m l s q (f + 1) k now = (0, 3) := by
  unfold ordGo; rw [h, if_neg (by decide)]
theorem ordGo_t {m : Mach} {l s q f k : Nat} {now : Mach} (h : nextC m l s q now = 0) (he : mcells (nextM m l s q now) = mcells (trivM l)) : ordGo m l s q (f + 1) k now = ((k : Int), 0) := by
  unfold ordGo; rw [if_pos h, if_pos he]
theorem ordGo_n {m : Mach} {l s q f k : Nat} {now : Mach} (h : nextC m l s q now = 0) (he : ¬ mcells (nextM m l s q now) = mcells (trivM l)) : ordGo m l s q (f + 1) k now = ordGo m l s q f (k + 1) (nextM m l s q now) := by
  conv => lhs; unfold ordGo
  rw [if_pos h, if_neg he]

end Go.Proofs.YthmcdfjijkecfaaGreat

/- Products of lists of states: the program's productOf. -/
namespace Go.Proofs.YthmcdfjijkecfaaGreat
open Go.RowKit
set_option linter.unusedVariables false
set_option linter.unusedSimpArgs false

/-- The product of a list, from what has been made: fs i is (machine, its states, the state). -/
def chn (fs : Nat → Mach × Nat × Nat) (l : Nat) : Nat → Nat → Mach → Mach × Int
  | 0, _, now => (now, 0)
  | f + 1, i, now => if nextC (fs i).1 l (fs i).2.1 (fs i).2.2 now = 0 then chn fs l f (i + 1) (nextM (fs i).1 l (fs i).2.1 (fs i).2.2 now) else (⟨0, 0, fun _ => 0, fun _ => 0⟩, 3)
theorem chn_3 {fs : Nat → Mach × Nat × Nat} {l f i : Nat} {now : Mach} (h : nextC (fs i).1 l (fs i).2.1 (fs i).2.2 now = 3) : chn fs l (f + 1) i now = (⟨0, 0, fun _ => 0, fun _ => 0⟩, 3) := by
  unfold chn; rw [h, if_neg (by decide)]
theorem chn_0 {fs : Nat → Mach × Nat × Nat} {l f i : Nat} {now : Mach} (h : nextC (fs i).1 l (fs i).2.1 (fs i).2.2 now = 0) : chn fs l (f + 1) i now = chn fs l f (i + 1) (nextM (fs i).1 l (fs i).2.1 (fs i).2.2 now) := by
  conv => lhs; unfold chn
  rw [if_pos h]

end Go.Proofs.YthmcdfjijkecfaaGreat

/- Powers: the reference's l07Power. -/
namespace Go.Proofs.YthmcdfjijkecfaaGreat
open Go.RowKit
set_option linter.unusedVariables false
set_option linter.unusedSimpArgs false

/-- The machine whose powers are made. -/
def powB (m : Mach) (l s : Nat) (n : Int) : Mach := if n < 0 then inv m l s else m
theorem powB_good {m : Mach} {l s : Nat} (g : Good m l s) (n : Int) : Good (powB m l s n) l s := by
  unfold powB; split
  · exact inv_good g
  · exact g
/-- A power. -/
def powR (m : Mach) (l s q : Nat) (n : Int) : Mach × Int := chn (fun _ => (powB m l s n, s, q)) l n.natAbs 0 (trivM l)

end Go.Proofs.YthmcdfjijkecfaaGreat

/- copy of elements of any size, between rows. -/
namespace Go.Proofs.YthmcdfjijkecfaaGreat
open Go.RowKit
set_option linter.unusedVariables false
set_option linter.unusedSimpArgs false

/-- As many elements as the shorter of the two has go over, sz cells each. -/
theorem run_copy_N {P : Program} (w : World) (dT sT ty elem : TypeId) (sz g o dLen dCap : Nat) (a : Addr) (sLen sCap : Nat) (cur : Array Value) (t : TypeId) (cs : List Value)
    (hu : P.underlying dT = some (.slice elem)) (hs : (P.info? elem).map (·.size) = some sz)
    (hg : w.heap[g]? = some (.cells cur t (0, 0))) (hn : cs.length = Nat.min sLen dLen * sz)
    (hsrc : ∀ j v, cs[j]? = some v → w.cell? (a.add j) = some v) (hfit : o + cs.length ≤ cur.size) (h1 : ∀ v ∈ cs, v.oneCell' = true) :
    (Builtin.copy_ #[dT, sT] ty #[.slice (some ⟨g, o, none⟩) dLen dCap, .slice (some a) sLen sCap]).run P w =
      .ok (goInt (Nat.min sLen dLen)) (w.setRow g (cur.toList.take o ++ cs ++ cur.toList.drop (o + cs.length)).toArray) := by
  have hl := run_loadCells_list (P := P) w a cs hsrc
  have hst := run_storeCells_at P g o t cs 0 cur w hg (by simpa using hfit) h1
  cases hq : P.info? elem with
  | none => simp [hq] at hs
  | some i =>
    have hi : i.size = sz := by simpa [hq] using hs
    rw [hn] at hl
    simp [Builtin.copy_, run_underlying hu, Builtin.lenOf, Builtin.firstCells, sizeOf, typeInfo, hq, hi, hl, hst]

/-- .. as a law for the walk. -/
theorem wpList_copy_N {P : Program} {w : World} {ops : Array Oper} {rest : List Oper} {o : Oper} {a : Act} {Q : Exit → Act → World → Prop} (hgd : o.guard = none) (d s : Operand) (dT sT : TypeId)
    (ho : o.op = .call { callee := .builtin .copy, args := #[d, s], argTypes := #[dT, sT] }) (elem : TypeId) (sz : Nat) (hu : P.underlying dT = some (.slice elem)) (hsz : (P.info? elem).map (·.size) = some sz)
    (g off dLen dCap : Nat) (ad : Addr) (sLen sCap : Nat) (hd : a.eval d = .slice (some ⟨g, off, none⟩) dLen dCap) (hs : a.eval s = .slice (some ad) sLen sCap)
    (cur : List Value) (t : TypeId) (hg : w.heap[g]? = some (.cells cur.toArray t (0, 0))) (cs : List Value) (hn : cs.length = Nat.min sLen dLen * sz)
    (hsrc : ∀ j v, cs[j]? = some v → w.cell? (ad.add j) = some v) (hfit : off + cs.length ≤ cur.length) (h1 : ∀ v ∈ cs, v.oneCell' = true)
    (h : wpList P ops Q rest (a.put o.dst (goInt (Nat.min sLen dLen))) (w.setRow g (splice cur off cs).toArray)) : wpList P ops Q (o :: rest) a w := by
  refine wpList_plain hgd fun K hK => ?_
  have hrun := run_copy_N (P := P) w dT sT o.type elem sz g off dLen dCap ad sLen sCap cur.toArray t cs hu hsz hg hn hsrc (by simpa using hfit) h1
  unfold Oper.wp
  simp [execOp, ho, resolve, invoke, builtin, hd, hs, hrun, Result.andThen]
  have e : w.setRow g (splice cur off cs).toArray = w.setRow g (List.take off cur ++ (cs ++ List.drop (off + cs.length) cur)).toArray := rfl
  first
    | exact hK _ _ h
    | (rw [e] at h; simpa using hK _ _ h)
end Go.Proofs.YthmcdfjijkecfaaGreat

/- bits.Mul at 1 and small numbers. -/
namespace Go.Proofs.YthmcdfjijkecfaaGreat
open Go.RowKit
set_option linter.unusedVariables false
set_option linter.unusedSimpArgs false
set_option maxRecDepth 4000 in
theorem bitsMul64_small (w : World) (n : Nat) (hn : n ≤ 16) :
    Calls Tryz.prog 264 #[.int .u64 1, .int .u64 n] w fun e w' => e = .returned (.tuple #[.int .u64 0, .int .u64 n]) ∧ w = w' := by
  have h : n = 0 ∨ n = 1 ∨ n = 2 ∨ n = 3 ∨ n = 4 ∨ n = 5 ∨ n = 6 ∨ n = 7 ∨ n = 8 ∨ n = 9 ∨ n = 10 ∨ n = 11 ∨ n = 12 ∨ n = 13 ∨ n = 14 ∨ n = 15 ∨ n = 16 := by omega
  clear hn
  rcases h with rfl | rfl | rfl | rfl | rfl | rfl | rfl | rfl | rfl | rfl | rfl | rfl | rfl | rfl | rfl | rfl | rfl <;>
  · go_enter Tryz.func264, Tryz.ntmps264
    go_wp2
    go_ret2
    exact ⟨rfl, rfl⟩
theorem bitsMul_small (w : World) (n : Nat) (hn : n ≤ 16) :
    Calls Tryz.prog 238 #[.int .u64 1, .int .u64 n] w fun e w' => e = .returned (.tuple #[.int .u64 0, .int .u64 n]) ∧ w = w' := by
  have hm := hid (fun W => bitsMul64_small W n hn)
  have xn : (n : Int) % 18446744073709551616 = n := by omega
  clear hn
  go_enter Tryz.func238, Tryz.ntmps238
  go_wp2_with (first
    | (go_at_call 264; (with_reducible refine (hm.out _).mono ?_); rintro e w1 ⟨rfl, rfl⟩))
  go_ret2
  exact ⟨rfl, rfl⟩
end Go.Proofs.YthmcdfjijkecfaaGreat

/- slices.Repeat of one element, a few times. -/
namespace Go.Proofs.YthmcdfjijkecfaaGreat
open Go.RowKit
set_option linter.unusedVariables false
set_option linter.unusedSimpArgs false
-- @LONG

/-- The cells cs, n times. -/
def rp (cs : List Value) (n : Nat) : List Value := (List.range (n * cs.length)).map fun j => cs.getD (j % cs.length) undef
theorem rp_length (cs : List Value) (n : Nat) : (rp cs n).length = n * cs.length := by simp [rp]
theorem rp_get (cs : List Value) (n j : Nat) (h : j < n * cs.length) : (rp cs n)[j]? = some (cs.getD (j % cs.length) undef) := by simp [rp, h]
theorem rp_at (cs : List Value) (n i j : Nat) (u : Value) (hi : i < n) (hu : cs[j]? = some u) : (rp cs n)[i * cs.length + j]? = some u := by
  have hj := (List.getElem?_eq_some_iff.1 hu).1
  have h1 : i * cs.length + cs.length ≤ n * cs.length := by rw [← Nat.succ_mul]; exact Nat.mul_le_mul_right _ hi
  rw [rp_get _ _ _ (by omega), Nat.mul_comm i, Nat.mul_add_mod, Nat.mod_eq_of_lt hj, List.getD_eq_getElem?_getD, hu]; rfl
theorem rp_one (cs : List Value) (n : Nat) (h1 : ∀ v ∈ cs, v.oneCell' = true) : ∀ v ∈ rp cs n, v.oneCell' = true := fun v hv => by
  unfold rp at hv
  obtain ⟨j, hj, rfl⟩ := List.mem_map.1 hv
  have hj' := List.mem_range.1 hj
  have hpos : 0 < cs.length := Nat.pos_of_ne_zero (fun e => by rw [e] at hj'; simp at hj')
  have hlt := Nat.mod_lt j hpos
  rw [List.getD_eq_getElem?_getD, List.getElem?_eq_getElem hlt]
  exact h1 _ (List.getElem_mem hlt)
/-- What is in the row when k elements are there. -/
def Rep (cs : List Value) (n k : Nat) (cur : List Value) : Prop := cur.length = n * cs.length ∧ ∀ j, j < k * cs.length → cur[j]? = (rp cs n)[j]?
theorem Rep.all {cs cur : List Value} {n : Nat} (h : Rep cs n n cur) : cur = rp cs n := by
  apply List.ext_getElem?
  intro j
  by_cases hj : j < n * cs.length
  · exact h.2 j hj
  · rw [List.getElem?_eq_none (by rw [h.1]; omega), List.getElem?_eq_none (by rw [rp_length]; omega)]
theorem Rep.step {cs cur : List Value} {n k c : Nat} (h : Rep cs n k cur) (hc : k + c ≤ n) : Rep cs n (k + c) (splice cur (k * cs.length) ((rp cs n).take (c * cs.length))) := by
  have e1 : k * cs.length + c * cs.length = (k + c) * cs.length := (Nat.add_mul _ _ _).symm
  have e2 : (k + c) * cs.length ≤ n * cs.length := Nat.mul_le_mul_right _ hc
  have hl : ((rp cs n).take (c * cs.length)).length = c * cs.length := by rw [List.length_take, rp_length]; omega
  refine ⟨by rw [length_splice _ _ _ (by rw [hl, h.1]; omega)]; exact h.1, fun j hj => ?_⟩
  unfold splice
  have hk : (cur.take (k * cs.length)).length = k * cs.length := by rw [List.length_take, h.1]; omega
  by_cases hj1 : j < k * cs.length
  · rw [List.getElem?_append_left (by omega), List.getElem?_take_of_lt hj1]
    exact h.2 j hj1
  · rw [List.getElem?_append_right (by omega), hk, List.getElem?_append_left (by omega), List.getElem?_take_of_lt (by omega), rp_get _ _ _ (by omega), rp_get _ _ _ (by omega)]
    have e3 : j % cs.length = (j - k * cs.length) % cs.length := by
      conv => lhs; rw [show j = k * cs.length + (j - k * cs.length) by omega, Nat.mul_comm k, Nat.mul_add_mod]
      rw [Nat.mul_comm k]
    rw [e3]
theorem Rep.zero {cs Z : List Value} {n : Nat} (h : Z.length = n * cs.length) : Rep cs n 0 Z := ⟨h, fun j hj => by omega⟩

/-- A part that is one block, its row anew. -/
theorem St.setRow {base bn : Nat} {w0 w : World} {L : List Asn} {cs : Array Value} {t : Nat} (h : St base w0 (Asn.blk bn cs t :: L) w) (hb : base ≤ bn) (cs' : Array Value) : St base w0 (Asn.blk bn cs' t :: L) (w.setRow bn cs') :=
  h.turn (a' := Asn.blk bn cs' t) (setRow_heap w bn _ _ t _ h.star.1) (fun k hk => .inl hk) (fun k hk => (show k = bn from hk) ▸ hb) (below_setRow (Below.refl _ _) hb _)
    fun k _ hk => setRow_other w bn k _ hk
/-- copy as a step of a region that draws. -/
theorem step_copy_N {P : Program} {ops : Array Oper} {o : Oper} {a : Act} {w : World} {K : Act → World → Prop} {Q : Exit → Act → World → Prop} {E : Prop} (hgd : o.guard = none) (d s : Operand) (dT sT : TypeId)
    (ho : o.op = .call { callee := .builtin .copy, args := #[d, s], argTypes := #[dT, sT] }) (elem : TypeId) (sz : Nat) (hu : P.underlying dT = some (.slice elem)) (hsz : (P.info? elem).map (·.size) = some sz)
    (g off dLen dCap : Nat) (ad : Addr) (sLen sCap : Nat) (hd : a.eval d = .slice (some ⟨g, off, none⟩) dLen dCap) (hs : a.eval s = .slice (some ad) sLen sCap)
    (cur : List Value) (t : TypeId) (hg : w.heap[g]? = some (.cells cur.toArray t (0, 0))) (cs : List Value) (hn : cs.length = Nat.min sLen dLen * sz)
    (hsrc : ∀ j v, cs[j]? = some v → w.cell? (ad.add j) = some v) (hfit : off + cs.length ≤ cur.length) (h1 : ∀ v ∈ cs, v.oneCell' = true)
    (h : K (a.put o.dst (goInt (Nat.min sLen dLen))) (w.setRow g (splice cur off cs).toArray)) :
    if Region.wanted o (yielded ops a.tmps) = true then Oper.wp P o a w K Q else E := by
  have hw : Region.wanted o (yielded ops a.tmps) = true := by simp [Region.wanted, hgd]
  rw [if_pos hw]
  have hrun := run_copy_N (P := P) w dT sT o.type elem sz g off dLen dCap ad sLen sCap cur.toArray t cs hu hsz hg hn hsrc (by simpa using hfit) h1
  unfold Oper.wp
  simp [execOp, ho, resolve, invoke, builtin, hd, hs, hrun, Result.andThen]
  have e : w.setRow g (splice cur off cs).toArray = w.setRow g (List.take off cur ++ (cs ++ List.drop (off + cs.length) cur)).toArray := rfl
  first
    | exact h
    | (rw [e] at h; simpa using h)
/-- The numbers of times that are asked for. -/
def Few (n : Nat) : Prop := n ≤ 16 ∨ n = 27 ∨ n = 32 ∨ n = 81

end Go.Proofs.YthmcdfjijkecfaaGreat

/- bits.Mul at 1 and the sizes of levels. -/
namespace Go.Proofs.YthmcdfjijkecfaaGreat
open Go.RowKit
set_option linter.unusedVariables false
set_option linter.unusedSimpArgs false
theorem Few.le {n : Nat} (h : Few n) : n ≤ 81 := by rcases h with h | h | h | h <;> omega
set_option maxRecDepth 4000 in
theorem bitsMul64_few (w : World) (n : Nat) (hn : Few n) :
    Calls Tryz.prog 264 #[.int .u64 1, .int .u64 n] w fun e w' => e = .returned (.tuple #[.int .u64 0, .int .u64 n]) ∧ w = w' := by
  rcases hn with hn | rfl | rfl | rfl
  · exact bitsMul64_small w n hn
  all_goals
    go_enter Tryz.func264, Tryz.ntmps264
    go_wp2
    go_ret2
    exact ⟨rfl, rfl⟩
theorem bitsMul_few (w : World) (n : Nat) (hn : Few n) :
    Calls Tryz.prog 238 #[.int .u64 1, .int .u64 n] w fun e w' => e = .returned (.tuple #[.int .u64 0, .int .u64 n]) ∧ w = w' := by
  have hm := hid (fun W => bitsMul64_few W n hn)
  have h81 := hn.le
  have xn : (n : Int) % 18446744073709551616 = n := by omega
  clear hn
  go_enter Tryz.func238, Tryz.ntmps238
  go_wp2_with (first
    | (go_at_call 264; (with_reducible refine (hm.out _).mono ?_); rintro e w1 ⟨rfl, rfl⟩))
  go_ret2
  exact ⟨rfl, rfl⟩
end Go.Proofs.YthmcdfjijkecfaaGreat

/- slices.Repeat of one number, a few times. -/
namespace Go.Proofs.YthmcdfjijkecfaaGreat
open Go.RowKit
set_option linter.unusedVariables false
set_option linter.unusedSimpArgs false
-- @LONG
theorem sz_i64 : (Tryz.prog.info? 2).map (·.size) = some 1 := by kernel_rfl
set_option maxHeartbeats 2000000 in
set_option maxRecDepth 4000 in
theorem repInt_any (w : World) (gs cap n : Nat) (cs : List Value) (hc : cs.length = 1) (h1 : ∀ v ∈ cs, v.oneCell' = true) (hf : Few n)
    (hsrc : ∀ j v, cs[j]? = some v → w.cell? ⟨gs, j, none⟩ = some v) (hgs : gs < w.heap.size) :
    Calls Tryz.prog 202 #[.slice (some ⟨gs, 0, none⟩) 1 cap, .int .i64 n] w fun e w' => e = .returned (.slice (some ⟨w.heap.size, 0, none⟩) n n) ∧ St w.heap.size w [Asn.blk w.heap.size (rp cs n).toArray 2] w' := by
  have hn := hf.le
  have hmk := fun W : World => run_make_row' (P := Tryz.prog) 32 2 (.int .i64 0) 8 Tryz.underlying32 info_i64 rfl .i64 .i64 n (by omega) (by omega) W
  have hmc := hid (toList_madeCells_one (.int .i64 0) n)
  generalize madeCells #[.int .i64 0] n = mc at *
  obtain ⟨Z, rfl⟩ : ∃ Z : List Value, mc = Z.toArray := ⟨mc.toList, by simp⟩
  have hZl := hid (show Z.length = n * cs.length by have h := congrArg List.length hmc.out; simp at h; rw [hc, h]; omega)
  clear hmc
  have hb := hid (fun W => bitsMul_few W n hf)
  have xn : (n : Int) % 18446744073709551616 = n := by omega
  have hS := hid ((St.start w).newBlk Z.toArray 2)
  replace hsrc := hid hsrc; replace h1 := hid h1; replace hc := hid hc
  go_enter Tryz.func202, Tryz.ntmps202
  go_upto_region 7 with (first
    | (go_at_call 238; (with_reducible refine (hb.out _).mono ?_); rintro e w1 ⟨rfl, rfl⟩))
  have hpre : Hid (∃ k : Nat, k = Nat.min 1 n ∧ k ≤ n ∧ (0 < n → 0 < k)) := ⟨_, rfl, by simp only [Nat.min_def]; split <;> omega, fun h => by simp only [Nat.min_def]; split <;> omega⟩
  obtain ⟨k0, hk0, hk0n, hk0p⟩ := hpre.out
  replace hk0 := hid hk0
  have pl := hid (show ((rp cs n).take (k0 * cs.length)).length = Nat.min 1 n * 1 by
    have h2 : k0 * cs.length ≤ n * cs.length := Nat.mul_le_mul_right _ hk0n
    rw [List.length_take, rp_length, ← hk0.out, hc.out] at *; omega)
  have psrc := hid (fun (W : World) (hW : Below w.heap.size w W) => (show ∀ j v, ((rp cs n).take (k0 * cs.length))[j]? = some v → W.cell? ((⟨gs, 0, none⟩ : Addr).add j) = some v from fun j v hv => by
    have hj := (List.getElem?_eq_some_iff.1 hv).1
    rw [pl.out, ← hk0.out] at hj
    have h01 : k0 ≤ 1 := by rw [hk0.out]; exact Nat.min_le_left _ _
    have h2 : j < cs.length := by rw [hc.out]; omega
    have h3 : k0 * cs.length ≤ n * cs.length := Nat.mul_le_mul_right _ hk0n
    rw [hc.out] at h3
    rw [List.getElem?_take_of_lt (by rw [hc.out]; omega), rp_get _ _ _ (by rw [hc.out]; omega), Nat.mod_eq_of_lt h2] at hv
    rw [Addr.add_mid, Nat.zero_add]
    refine (hW.cell (p := ⟨gs, j, none⟩) hgs).trans (hsrc.out j v ?_)
    rw [List.getD_eq_getElem?_getD, List.getElem?_eq_getElem h2] at hv
    rw [List.getElem?_eq_getElem h2]; exact hv))
  have pfit := hid (show 0 + ((rp cs n).take (k0 * cs.length)).length ≤ Z.length by
    have h2 : k0 * cs.length ≤ n * cs.length := Nat.mul_le_mul_right _ hk0n
    rw [List.length_take, rp_length, hZl.out]; omega)
  have pone := hid (fun v (hv : v ∈ (rp cs n).take (k0 * cs.length)) => rp_one cs n h1.out v (List.mem_of_mem_take hv))
  go_wp2_with (first
    | ((with_reducible refine gate (N := 33) rfl ?_); refine wpList_copy_N rfl _ _ _ _ rfl 2 1 Tryz.underlying32 sz_i64 w.heap.size 0 n n ⟨gs, 0, none⟩ 1 cap rfl rfl Z _ hS.out.k0 ((rp cs n).take (k0 * cs.length)) pl.out (psrc.out _ hS.out.bel) pfit.out pone.out ?_; replace hS := hid (hS.out.setRow (Nat.le_refl _) (splice Z 0 ((rp cs n).take (k0 * cs.length))).toArray)))
  have hR := hid (show Rep cs n k0 (splice Z 0 ((rp cs n).take (k0 * cs.length))) from by have h := Rep.step (c := k0) (Rep.zero hZl.out) (show 0 + k0 ≤ n by omega); rw [Nat.zero_add, Nat.zero_mul] at h; exact h)
  go_loopw [8] (fun i wr => ∃ (k : Nat) (cur : List Value), k ≤ n ∧ (0 < n → 0 < k) ∧ i = .int .i64 k ∧ Hid (Rep cs n k cur) ∧ St w.heap.size w [Asn.blk w.heap.size cur.toArray 2] wr) (fun i _ => n - (intOf i).toNat)
  case atStart => exact ⟨k0, _, hk0n, hk0p, by rw [hk0.out], hR, hS.out⟩
  case round =>
    obtain ⟨k, cur, hk, hkp, rfl, hR2, rS⟩ := hrel
    clear hS hR pl psrc pfit pone
    replace rS := hid rS
    by_cases hkn : k < n
    · have dc : decide ((k : Int) < (n : Int)) = true := decide_eq_true (by omega)
      have i0 : (0 : Int) ≤ (k : Int) := Int.natCast_nonneg _
      have i1 : (k : Int) ≤ (n : Int) := by omega
      have hnk : ¬ n = k := by omega
      obtain ⟨c, hcc⟩ : ∃ c, c = Nat.min k (n - k) := ⟨_, rfl⟩
      have hcn : k + c ≤ n := by rw [hcc]; show k + min k (n - k) ≤ n; omega
      have hck : c ≤ k := by rw [hcc]; exact Nat.min_le_left _ _
      have hcp : 0 < c := by rw [hcc]; show 0 < min k (n - k); omega
      replace hcc := hid hcc
      have ew : IntKind.i64.wrap ((k : Int) + (c : Int)) = ((k + c : Nat) : Int) := by rw [IntWalk.i64_in _ (by omega)]; rfl
      have m1 : k * cs.length + c * cs.length = (k + c) * cs.length := (Nat.add_mul _ _ _).symm
      have m2 : (k + c) * cs.length ≤ n * cs.length := Nat.mul_le_mul_right _ hcn
      have m3 : c * cs.length ≤ k * cs.length := Nat.mul_le_mul_right _ hck
      replace m1 := hid m1; replace m2 := hid m2; replace m3 := hid m3
      have pl := hid (show ((rp cs n).take (c * cs.length)).length = Nat.min k (n - k) * 1 by rw [List.length_take, rp_length, ← hcc.out, ← hc.out]; have := m1.out; have := m2.out; omega)
      have psrc := hid (fun (W : World) (hW : W.heap[w.heap.size]? = some (.cells cur.toArray 2 (0, 0))) => (show ∀ j v, ((rp cs n).take (c * cs.length))[j]? = some v → W.cell? ((⟨w.heap.size, 0, none⟩ : Addr).add j) = some v from fun j v hv => by
        have hj := (List.getElem?_eq_some_iff.1 hv).1
        rw [List.length_take] at hj
        rw [List.getElem?_take_of_lt (by omega), ← hR2.out.2 j (by have := m3.out; omega)] at hv
        rw [Addr.add_mid, Nat.zero_add, cell_of_row W w.heap.size j _ _ _ hW]
        simpa using hv))
      have pfit := hid (show k + ((rp cs n).take (c * cs.length)).length ≤ cur.length by rw [List.length_take, rp_length, hR2.out.1]; have h1 := m1.out; have h2 := m2.out; have h3 := hc.out; have h4 : k * cs.length = k := (by rw [h3, Nat.mul_one]); rw [h4] at h1; omega)
      have pone := hid (fun v (hv : v ∈ (rp cs n).take (c * cs.length)) => rp_one cs n h1.out v (List.mem_of_mem_take hv))
      have hR3 := hid (show Rep cs n (k + c) (splice cur k ((rp cs n).take (c * cs.length))) from by have h := hR2.out.step hcn; rw [show k * cs.length = k by rw [hc.out, Nat.mul_one]] at h; exact h)
      go_upto_region 9 with (fail)
      refine wp_region_heldL (L := []) (by kernel_rfl) HeldL.nil (fun hHeld => ?_)
      replace rS := hid rS.out.drew
      generalize wr.drew = wd at *
      refine wpAnyL_take0 (i := 0) (v := ?_) rfl (by kernel_rfl) (by kernel_rfl) (by kernel_rfl) (by rfl) (fun _ _ _ h => h) (Or.inl ⟨by rfl, ?_⟩) (by assumption) ?_
      rotate_left
      · (intro W _; go_simp; (with_reducible rfl))
      intro hHeld'
      clear hHeld; have hHeld := hHeld'; clear hHeld'
      try simp only [Act.put, List.getElem_toArray, List.getElem_cons_succ, List.getElem_cons_zero, List.setIfInBounds_toArray, List.set_cons_zero, List.set_cons_succ]
      refine wpAnyL_take0 (i := 1) (v := ?_) rfl (by kernel_rfl) (by kernel_rfl) (by kernel_rfl) (by rfl) (fun _ _ _ h => h) (Or.inl ⟨by rfl, ?_⟩) (by assumption) ?_
      rotate_left
      · (intro W _; go_simp; (with_reducible rfl))
      intro hHeld'
      clear hHeld; have hHeld := hHeld'; clear hHeld'
      try simp only [Act.put, List.getElem_toArray, List.getElem_cons_succ, List.getElem_cons_zero, List.setIfInBounds_toArray, List.set_cons_zero, List.set_cons_succ]
      refine wpAnyL_take0 (i := 2) (v := ?_) rfl (by kernel_rfl) (by kernel_rfl) (by kernel_rfl) (by rfl) (fun _ _ _ h => h) (Or.inl ⟨by rfl, ?_⟩) (by assumption) ?_
      rotate_left
      · (intro W _; go_simp; (with_reducible rfl))
      intro hHeld'
      clear hHeld; have hHeld := hHeld'; clear hHeld'
      try simp only [Act.put, List.getElem_toArray, List.getElem_cons_succ, List.getElem_cons_zero, List.setIfInBounds_toArray, List.set_cons_zero, List.set_cons_succ]
      refine wpAnyL_take0 (i := 3) (v := ?_) rfl (by kernel_rfl) (by kernel_rfl) (by kernel_rfl) (by rfl) (fun _ _ _ h => h) (Or.inl ⟨by rfl, ?_⟩) (by assumption) ?_
      rotate_left
      · (intro W _; go_simp; (with_reducible rfl))
      intro hHeld'
      clear hHeld; have hHeld := hHeld'; clear hHeld'
      try simp only [Act.put, List.getElem_toArray, List.getElem_cons_succ, List.getElem_cons_zero, List.setIfInBounds_toArray, List.set_cons_zero, List.set_cons_succ]
      refine wpAnyL_take0 (i := 4) (v := ?_) rfl (by kernel_rfl) (by kernel_rfl) (by kernel_rfl) (by rfl) (fun _ _ _ h => h) (Or.inl ⟨by rfl, ?_⟩) (by assumption) ?_
      rotate_left
      · (intro W _; go_simp; (with_reducible rfl))
      intro hHeld'
      clear hHeld; have hHeld := hHeld'; clear hHeld'
      try simp only [Act.put, List.getElem_toArray, List.getElem_cons_succ, List.getElem_cons_zero, List.setIfInBounds_toArray, List.set_cons_zero, List.set_cons_succ]
      refine wpAnyL_take0 (i := 5) (v := ?_) rfl (by kernel_rfl) (by kernel_rfl) (by kernel_rfl) (by rfl) (fun _ _ _ h => h) (Or.inl ⟨by rfl, ?_⟩) (by assumption) ?_
      rotate_left
      · (intro W _; go_simp; (with_reducible rfl))
      intro hHeld'
      clear hHeld; have hHeld := hHeld'; clear hHeld'
      try simp only [Act.put, List.getElem_toArray, List.getElem_cons_succ, List.getElem_cons_zero, List.setIfInBounds_toArray, List.set_cons_zero, List.set_cons_succ]
      refine wpAnyL_take0 (i := 6) (v := ?_) rfl (by kernel_rfl) (by kernel_rfl) (by kernel_rfl) (by rfl) (fun _ _ _ h => h) (Or.inl ⟨by rfl, ?_⟩) (by assumption) ?_
      rotate_left
      · (intro W _; go_simp; (with_reducible rfl))
      intro hHeld'
      clear hHeld; have hHeld := hHeld'; clear hHeld'
      try simp only [Act.put, List.getElem_toArray, List.getElem_cons_succ, List.getElem_cons_zero, List.setIfInBounds_toArray, List.set_cons_zero, List.set_cons_succ]
      refine wpAnyL_ready (rs := [7]) (by kernel_rfl) (by simp) ?_
      refine AllReadyL.cons rfl (fun K hK => ?_) AllReadyL.nil
      refine step_copy_N rfl _ _ _ _ rfl 2 1 Tryz.underlying32 sz_i64 w.heap.size k (n - k) (n - k) ⟨w.heap.size, 0, none⟩ k n rfl rfl cur _ rS.out.k0 ((rp cs n).take (c * cs.length)) (by rw [pl.out]) (psrc.out _ rS.out.k0) pfit.out pone.out ?_
      replace rS := hid (rS.out.setRow (Nat.le_refl _) (splice cur k ((rp cs n).take (c * cs.length))).toArray)
      generalize wd.setRow w.heap.size (splice cur k ((rp cs n).take (c * cs.length))).toArray = we at *
      rw [← hcc.out]
      refine hK.out _ _ (HeldL.nil) (fun hHeld' => ?_)
      clear hK K hHeld; have hHeld := hHeld'; clear hHeld'
      try simp only [Act.put, List.getElem_toArray, List.getElem_cons_succ, List.getElem_cons_zero, List.setIfInBounds_toArray, List.set_cons_zero, List.set_cons_succ]
      refine wpAnyL_take0 (i := 8) (v := ?_) rfl (by kernel_rfl) (by kernel_rfl) (by kernel_rfl) (by rfl) (fun _ _ _ h => h) (Or.inl ⟨by rfl, ?_⟩) (by assumption) ?_
      rotate_left
      · (intro W _; go_simp; (with_reducible rfl))
      intro hHeld'
      clear hHeld; have hHeld := hHeld'; clear hHeld'
      try simp only [Act.put, List.getElem_toArray, List.getElem_cons_succ, List.getElem_cons_zero, List.setIfInBounds_toArray, List.set_cons_zero, List.set_cons_succ]
      refine wpAnyL_take0 (i := 9) (v := ?_) rfl (by kernel_rfl) (by kernel_rfl) (by kernel_rfl) (by rfl) (fun _ _ _ h => h) (Or.inl ⟨by rfl, ?_⟩) (by assumption) ?_
      rotate_left
      · (intro W _; go_simp; (with_reducible rfl))
      intro hHeld'
      clear hHeld; have hHeld := hHeld'; clear hHeld'
      try simp only [Act.put, List.getElem_toArray, List.getElem_cons_succ, List.getElem_cons_zero, List.setIfInBounds_toArray, List.set_cons_zero, List.set_cons_succ]
      refine wpAnyL_done (by kernel_rfl) ?_ _
      go_wp2
      go_roundw
      case rel => exact ⟨k + c, _, hcn, fun _ => by omega, by go_num, hR3, rS.out⟩
      case measure => simp [intOf]; omega
    · obtain rfl : k = n := by omega
      have dc : decide ((k : Int) < (k : Int)) = false := decide_eq_false (by omega)
      have hall := hid hR2.out.all
      go_wp2
      go_ret
      exact ⟨rfl, by rw [← hall.out]; exact rS.out⟩
end Go.Proofs.YthmcdfjijkecfaaGreat
