/- What the proof of FnProducts leans on, part 20 of 25. -/
import Derived.Test.YthmcdfjijkecfaaZFnProductsS
/- Two machines and a state of each: their code, in the program and in the reference. -/
namespace Go.Proofs.Ythmcdfjijkecfaa
open Go.RowKit
set_option linter.unusedVariables false
set_option linter.unusedSimpArgs false

open Classical in
/-- The code of states of two machines. -/
noncomputable def pairI (m : Mach) (q : Int) (k : Mach) (r : Int) : Int := if IsM m ∧ IsM k then if (0 ≤ q ∧ q < m.S) ∧ (0 ≤ r ∧ r < k.S) ∧ m.L = k.L then 0 else 2 else 1

theorem pairI_cases (m : Mach) (q : Int) (k : Mach) (r : Int) : (pairI m q k r = 1 ∧ ¬ (IsM m ∧ IsM k)) ∨ (pairI m q k r = 2) ∨ ∃ l s s' q' r', Good m l s ∧ Good k l s' ∧ q = ((q' : Nat) : Int) ∧ q' < s ∧ r = ((r' : Nat) : Int) ∧ r' < s' ∧ pairI m q k r = 0 := by
  unfold pairI
  by_cases h : IsM m ∧ IsM k
  · rw [if_pos h]
    by_cases hq : (0 ≤ q ∧ q < m.S) ∧ (0 ≤ r ∧ r < k.S) ∧ m.L = k.L
    · rw [if_pos hq]
      obtain ⟨l, s, g⟩ := h.1.good
      obtain ⟨l', s', g'⟩ := h.2.good
      obtain ⟨q', rfl⟩ := Int.eq_ofNat_of_zero_le hq.1.1
      obtain ⟨r', rfl⟩ := Int.eq_ofNat_of_zero_le hq.2.1.1
      have e := hq.2.2
      rw [g.L, g'.L] at e
      have e' : l' = l := by omega
      rw [e'] at g'
      have h1 := hq.1.2; have h2 := hq.2.1.2
      rw [g.S] at h1; rw [g'.S] at h2
      exact .inr (.inr ⟨l, s, s', q', r', g, g', rfl, by omega, rfl, by omega, rfl⟩)
    · rw [if_neg hq]; exact .inr (.inl rfl)
  · rw [if_neg h]; exact .inl ⟨rfl, h⟩

set_option maxHeartbeats 4000000 in
theorem pairCode_any (w : World) (m : Mach) (hkm : m.Ok) (q : Int) (k : Mach) (hkk : k.Ok) (r : Int) :
    Calls Try.prog 201 #[.agg (mcells m), .int .i64 q, .agg (mcells k), .int .i64 r] w fun e w' => e = .returned (.int .i64 (pairI m q k r)) ∧ Below w.heap.size w w' := by
  have hS := hid (((St.start w).newMB m 27).newMB k 27)
  rw [heap_alloc_size] at hS
  by_cases hm : IsM m
  · have hi := hid (show Tells true (IsM m) from ⟨fun _ => hm, fun _ => rfl⟩)
    by_cases hk : IsM k
    · have hi' := hid (show Tells true (IsM k) from ⟨fun _ => hk, fun _ => rfl⟩)
      obtain ⟨l, s, g⟩ := hm.good
      obtain ⟨l', s', g'⟩ := hk.good
      by_cases hq : 0 ≤ q ∧ q < (s : Int)
      · replace hq := hid (show true = decide (0 ≤ q ∧ q < (s : Int)) from (decide_eq_true (by omega)).symm)
        by_cases hr : 0 ≤ r ∧ r < (s' : Int)
        · replace hr := hid (show true = decide (0 ≤ r ∧ r < (s' : Int)) from (decide_eq_true (by omega)).symm)
          by_cases hl : l = l'
          · rw [show pairI m q k r = 0 by
              have h1 := of_decide_eq_true hq.out.symm; have h2 := of_decide_eq_true hr.out.symm
              unfold pairI; rw [if_pos ⟨hm, hk⟩, g.L, g.S, g'.L, g'.S, if_pos (by omega)]]
            replace hkm := hid hkm; replace hkk := hid hkk
            have gL := hid g.L; have gS := hid g.S; have gL' := hid g'.L; have gS' := hid g'.S; have l3 := g.l3; have l3' := g'.l3; have s16 := g.s16; have s16' := g'.s16; have s1 := g.s1; have s1' := g'.s1; clear hm hk; replace g := hid g; replace g' := hid g'
            have hne : ((l : Int) != (l' : Int)) = false := by simp [hl]
            clear hl
            go_enter Try.func201, Try.ntmps201
            go_wp2_with (first
              | ((with_reducible refine gate (N := 10) rfl ?_); refine load_mach rfl _ rfl w.heap.size rfl m hS.out.m1 ?_)
              | ((with_reducible refine gate (N := 14) rfl ?_); refine load_mach_g (by rfl) _ rfl (w.heap.size + 1) rfl k hS.out.m0 ?_)
              | (go_at_call 77; (with_reducible refine (IsMachine_any _ m hkm.out true hi.out.out).mono ?_); rintro e w1 ⟨rfl, hb⟩; replace hS := hid (hS.out.call hb); clear hb hi)
              | (go_at_call 77; (with_reducible refine (IsMachine_any _ k hkk.out true hi'.out.out).mono ?_); rintro e w1 ⟨rfl, hb⟩; replace hS := hid (hS.out.call hb); clear hb hi'; have cL := hS.out.m1.cL; have cL' := hS.out.m0.cL; rw [gL.out] at cL; rw [gL'.out] at cL'; have cS := hS.out.m1.cS; have cS' := hS.out.m0.cS; rw [gS.out] at cS; rw [gS'.out] at cS')
              | (go_at_call 214; (with_reducible refine (isState_any w.heap.size _ m hS.out.m1 l s g.out q true hq.out).mono ?_); rintro e w1 ⟨rfl, rfl⟩)
              | (go_at_call 214; (with_reducible refine (isState_any (w.heap.size + 1) _ k hS.out.m0 l' s' g'.out r true hr.out).mono ?_); rintro e w1 ⟨rfl, rfl⟩))
            go_ret
            exact ⟨rfl, hS.out.bel⟩
          · rw [show pairI m q k r = 2 by
              unfold pairI; rw [if_pos ⟨hm, hk⟩, g.L, g.S, g'.L, g'.S, if_neg (by omega)]]
            replace hkm := hid hkm; replace hkk := hid hkk
            have gL := hid g.L; have gS := hid g.S; have gL' := hid g'.L; have gS' := hid g'.S; have l3 := g.l3; have l3' := g'.l3; have s16 := g.s16; have s16' := g'.s16; have s1 := g.s1; have s1' := g'.s1; clear hm hk; replace g := hid g; replace g' := hid g'
            have hne : ((l : Int) != (l' : Int)) = true := by simp; omega
            clear hl
            go_enter Try.func201, Try.ntmps201
            go_wp2_with (first
              | ((with_reducible refine gate (N := 10) rfl ?_); refine load_mach rfl _ rfl w.heap.size rfl m hS.out.m1 ?_)
              | ((with_reducible refine gate (N := 14) rfl ?_); refine load_mach_g (by rfl) _ rfl (w.heap.size + 1) rfl k hS.out.m0 ?_)
              | (go_at_call 77; (with_reducible refine (IsMachine_any _ m hkm.out true hi.out.out).mono ?_); rintro e w1 ⟨rfl, hb⟩; replace hS := hid (hS.out.call hb); clear hb hi)
              | (go_at_call 77; (with_reducible refine (IsMachine_any _ k hkk.out true hi'.out.out).mono ?_); rintro e w1 ⟨rfl, hb⟩; replace hS := hid (hS.out.call hb); clear hb hi'; have cL := hS.out.m1.cL; have cL' := hS.out.m0.cL; rw [gL.out] at cL; rw [gL'.out] at cL'; have cS := hS.out.m1.cS; have cS' := hS.out.m0.cS; rw [gS.out] at cS; rw [gS'.out] at cS')
              | (go_at_call 214; (with_reducible refine (isState_any w.heap.size _ m hS.out.m1 l s g.out q true hq.out).mono ?_); rintro e w1 ⟨rfl, rfl⟩)
              | (go_at_call 214; (with_reducible refine (isState_any (w.heap.size + 1) _ k hS.out.m0 l' s' g'.out r true hr.out).mono ?_); rintro e w1 ⟨rfl, rfl⟩))
            go_ret
            exact ⟨rfl, hS.out.bel⟩
        · rw [show pairI m q k r = 2 by
            unfold pairI; rw [if_pos ⟨hm, hk⟩, g.L, g.S, g'.L, g'.S, if_neg (by omega)]]
          replace hkm := hid hkm; replace hkk := hid hkk
          replace hr := hid (show false = decide (0 ≤ r ∧ r < (s' : Int)) from (decide_eq_false (fun h => hr (by omega))).symm)
          have gL := hid g.L; have gS := hid g.S; have gL' := hid g'.L; have gS' := hid g'.S; have l3 := g.l3; have l3' := g'.l3; have s16 := g.s16; have s16' := g'.s16; have s1 := g.s1; have s1' := g'.s1; clear hm hk; replace g := hid g; replace g' := hid g'
          go_enter Try.func201, Try.ntmps201
          go_wp2_with (first
            | ((with_reducible refine gate (N := 10) rfl ?_); refine load_mach rfl _ rfl w.heap.size rfl m hS.out.m1 ?_)
            | ((with_reducible refine gate (N := 14) rfl ?_); refine load_mach_g (by rfl) _ rfl (w.heap.size + 1) rfl k hS.out.m0 ?_)
            | (go_at_call 77; (with_reducible refine (IsMachine_any _ m hkm.out true hi.out.out).mono ?_); rintro e w1 ⟨rfl, hb⟩; replace hS := hid (hS.out.call hb); clear hb hi)
            | (go_at_call 77; (with_reducible refine (IsMachine_any _ k hkk.out true hi'.out.out).mono ?_); rintro e w1 ⟨rfl, hb⟩; replace hS := hid (hS.out.call hb); clear hb hi'; have cL := hS.out.m1.cL; have cL' := hS.out.m0.cL; rw [gL.out] at cL; rw [gL'.out] at cL'; have cS := hS.out.m1.cS; have cS' := hS.out.m0.cS; rw [gS.out] at cS; rw [gS'.out] at cS')
            | (go_at_call 214; (with_reducible refine (isState_any w.heap.size _ m hS.out.m1 l s g.out q true hq.out).mono ?_); rintro e w1 ⟨rfl, rfl⟩)
            | (go_at_call 214; (with_reducible refine (isState_any (w.heap.size + 1) _ k hS.out.m0 l' s' g'.out r false hr.out).mono ?_); rintro e w1 ⟨rfl, rfl⟩))
          go_ret
          exact ⟨rfl, hS.out.bel⟩
      · rw [show pairI m q k r = 2 by
          unfold pairI; rw [if_pos ⟨hm, hk⟩, g.L, g.S, g'.L, g'.S, if_neg (by omega)]]
        replace hkm := hid hkm; replace hkk := hid hkk
        replace hq := hid (show false = decide (0 ≤ q ∧ q < (s : Int)) from (decide_eq_false (fun h => hq (by omega))).symm)
        have gL := hid g.L; have gS := hid g.S; have gL' := hid g'.L; have gS' := hid g'.S; have l3 := g.l3; have l3' := g'.l3; have s16 := g.s16; have s16' := g'.s16; have s1 := g.s1; have s1' := g'.s1; clear hm hk; replace g := hid g; replace g' := hid g'
        go_enter Try.func201, Try.ntmps201
        go_wp2_with (first
          | ((with_reducible refine gate (N := 10) rfl ?_); refine load_mach rfl _ rfl w.heap.size rfl m hS.out.m1 ?_)
          | ((with_reducible refine gate (N := 14) rfl ?_); refine load_mach_g (by rfl) _ rfl (w.heap.size + 1) rfl k hS.out.m0 ?_)
          | (go_at_call 77; (with_reducible refine (IsMachine_any _ m hkm.out true hi.out.out).mono ?_); rintro e w1 ⟨rfl, hb⟩; replace hS := hid (hS.out.call hb); clear hb hi)
          | (go_at_call 77; (with_reducible refine (IsMachine_any _ k hkk.out true hi'.out.out).mono ?_); rintro e w1 ⟨rfl, hb⟩; replace hS := hid (hS.out.call hb); clear hb hi'; have cL := hS.out.m1.cL; have cL' := hS.out.m0.cL; rw [gL.out] at cL; rw [gL'.out] at cL'; have cS := hS.out.m1.cS; have cS' := hS.out.m0.cS; rw [gS.out] at cS; rw [gS'.out] at cS')
          | (go_at_call 214; (with_reducible refine (isState_any w.heap.size _ m hS.out.m1 l s g.out q false hq.out).mono ?_); rintro e w1 ⟨rfl, rfl⟩))
        go_ret
        exact ⟨rfl, hS.out.bel⟩
    · rw [show pairI m q k r = 1 by unfold pairI; rw [if_neg (fun h => hk h.2)]]
      replace hkm := hid hkm; replace hkk := hid hkk
      have hi' := hid (show Tells false (IsM k) from ⟨fun h => (by cases h), fun h => absurd h hk⟩)
      clear hm hk
      go_enter Try.func201, Try.ntmps201
      go_wp2_with (first
        | ((with_reducible refine gate (N := 10) rfl ?_); refine load_mach rfl _ rfl w.heap.size rfl m hS.out.m1 ?_)
        | ((with_reducible refine gate (N := 14) rfl ?_); refine load_mach_g (by rfl) _ rfl (w.heap.size + 1) rfl k hS.out.m0 ?_)
        | (go_at_call 77; (with_reducible refine (IsMachine_any _ m hkm.out true hi.out.out).mono ?_); rintro e w1 ⟨rfl, hb⟩; replace hS := hid (hS.out.call hb); clear hb hi)
        | (go_at_call 77; (with_reducible refine (IsMachine_any _ k hkk.out false hi'.out.out).mono ?_); rintro e w1 ⟨rfl, hb⟩; replace hS := hid (hS.out.call hb); clear hb hi'))
      go_ret
      exact ⟨rfl, hS.out.bel⟩
  · rw [show pairI m q k r = 1 by unfold pairI; rw [if_neg (fun h => hm h.1)]]
    replace hkm := hid hkm; replace hkk := hid hkk
    have hi := hid (show Tells false (IsM m) from ⟨fun h => (by cases h), fun h => absurd h hm⟩)
    clear hm
    go_enter Try.func201, Try.ntmps201
    go_wp2_with (first
      | ((with_reducible refine gate (N := 10) rfl ?_); refine load_mach rfl _ rfl w.heap.size rfl m hS.out.m1 ?_)
      | ((with_reducible refine gate (N := 14) rfl ?_); refine load_mach_g (by rfl) _ rfl (w.heap.size + 1) rfl k hS.out.m0 ?_)
      | (go_at_call 77; (with_reducible refine (IsMachine_any _ m hkm.out false hi.out.out).mono ?_); rintro e w1 ⟨rfl, hb⟩; replace hS := hid (hS.out.call hb); clear hb hi))
    go_ret
    exact ⟨rfl, hS.out.bel⟩
set_option maxHeartbeats 4000000 in
theorem l07Both_any (w : World) (m : Mach) (hkm : m.Ok) (q : Int) (k : Mach) (hkk : k.Ok) (r : Int) :
    Calls Try.prog 202 #[.agg (mcells m), .int .i64 q, .agg (mcells k), .int .i64 r] w fun e w' => e = .returned (.int .i64 (pairI m q k r)) ∧ Below w.heap.size w w' := by
  have hS := hid (((St.start w).newMB m 27).newMB k 27)
  rw [heap_alloc_size] at hS
  by_cases hm : IsM m
  · have hi := hid (show Tells true (IsM m) from ⟨fun _ => hm, fun _ => rfl⟩)
    by_cases hk : IsM k
    · have hi' := hid (show Tells true (IsM k) from ⟨fun _ => hk, fun _ => rfl⟩)
      obtain ⟨l, s, g⟩ := hm.good
      obtain ⟨l', s', g'⟩ := hk.good
      by_cases hq : 0 ≤ q ∧ q < (s : Int)
      · replace hq := hid (show true = decide (0 ≤ q ∧ q ≤ (s : Int) - 1) from (decide_eq_true (by omega)).symm)
        by_cases hr : 0 ≤ r ∧ r < (s' : Int)
        · replace hr := hid (show true = decide (0 ≤ r ∧ r ≤ (s' : Int) - 1) from (decide_eq_true (by omega)).symm)
          by_cases hl : l = l'
          · rw [show pairI m q k r = 0 by
              have h1 := of_decide_eq_true hq.out.symm; have h2 := of_decide_eq_true hr.out.symm
              unfold pairI; rw [if_pos ⟨hm, hk⟩, g.L, g.S, g'.L, g'.S, if_pos (by omega)]]
            replace hkm := hid hkm; replace hkk := hid hkk
            have gL := hid g.L; have gS := hid g.S; have gL' := hid g'.L; have gS' := hid g'.S; have l3 := g.l3; have l3' := g'.l3; have s16 := g.s16; have s16' := g'.s16; have s1 := g.s1; have s1' := g'.s1; clear hm hk; replace g := hid g; replace g' := hid g'
            have hne : ((l : Int) != (l' : Int)) = false := by simp [hl]
            clear hl
            go_enter Try.func202, Try.ntmps202
            go_wp2_with (first
              | ((with_reducible refine gate (N := 10) rfl ?_); refine load_mach rfl _ rfl w.heap.size rfl m hS.out.m1 ?_)
              | ((with_reducible refine gate (N := 14) rfl ?_); refine load_mach_g (by rfl) _ rfl (w.heap.size + 1) rfl k hS.out.m0 ?_)
              | (go_at_call 106; (with_reducible refine (l01Is_any _ m hkm.out true hi.out.out).mono ?_); rintro e w1 ⟨rfl, hb⟩; replace hS := hid (hS.out.call hb); clear hb hi)
              | (go_at_call 106; (with_reducible refine (l01Is_any _ k hkk.out true hi'.out.out).mono ?_); rintro e w1 ⟨rfl, hb⟩; replace hS := hid (hS.out.call hb); clear hb hi'; have cL := hS.out.m1.cL; have cL' := hS.out.m0.cL; rw [gL.out] at cL; rw [gL'.out] at cL'; have cS := hS.out.m1.cS; have cS' := hS.out.m0.cS; rw [gS.out] at cS; rw [gS'.out] at cS')
              | (go_at_call 117; (with_reducible refine (l01In_any q 0 ((s : Int) - 1) true hq.out _).mono ?_); rintro e w1 ⟨rfl, rfl⟩)
              | (go_at_call 117; (with_reducible refine (l01In_any r 0 ((s' : Int) - 1) true hr.out _).mono ?_); rintro e w1 ⟨rfl, rfl⟩))
            go_ret
            exact ⟨rfl, hS.out.bel⟩
          · rw [show pairI m q k r = 2 by
              unfold pairI; rw [if_pos ⟨hm, hk⟩, g.L, g.S, g'.L, g'.S, if_neg (by omega)]]
            replace hkm := hid hkm; replace hkk := hid hkk
            have gL := hid g.L; have gS := hid g.S; have gL' := hid g'.L; have gS' := hid g'.S; have l3 := g.l3; have l3' := g'.l3; have s16 := g.s16; have s16' := g'.s16; have s1 := g.s1; have s1' := g'.s1; clear hm hk; replace g := hid g; replace g' := hid g'
            have hne : ((l : Int) != (l' : Int)) = true := by simp; omega
            clear hl
            go_enter Try.func202, Try.ntmps202
            go_wp2_with (first
              | ((with_reducible refine gate (N := 10) rfl ?_); refine load_mach rfl _ rfl w.heap.size rfl m hS.out.m1 ?_)
              | ((with_reducible refine gate (N := 14) rfl ?_); refine load_mach_g (by rfl) _ rfl (w.heap.size + 1) rfl k hS.out.m0 ?_)
              | (go_at_call 106; (with_reducible refine (l01Is_any _ m hkm.out true hi.out.out).mono ?_); rintro e w1 ⟨rfl, hb⟩; replace hS := hid (hS.out.call hb); clear hb hi)
              | (go_at_call 106; (with_reducible refine (l01Is_any _ k hkk.out true hi'.out.out).mono ?_); rintro e w1 ⟨rfl, hb⟩; replace hS := hid (hS.out.call hb); clear hb hi'; have cL := hS.out.m1.cL; have cL' := hS.out.m0.cL; rw [gL.out] at cL; rw [gL'.out] at cL'; have cS := hS.out.m1.cS; have cS' := hS.out.m0.cS; rw [gS.out] at cS; rw [gS'.out] at cS')
              | (go_at_call 117; (with_reducible refine (l01In_any q 0 ((s : Int) - 1) true hq.out _).mono ?_); rintro e w1 ⟨rfl, rfl⟩)
              | (go_at_call 117; (with_reducible refine (l01In_any r 0 ((s' : Int) - 1) true hr.out _).mono ?_); rintro e w1 ⟨rfl, rfl⟩))
            go_ret
            exact ⟨rfl, hS.out.bel⟩
        · rw [show pairI m q k r = 2 by
            unfold pairI; rw [if_pos ⟨hm, hk⟩, g.L, g.S, g'.L, g'.S, if_neg (by omega)]]
          replace hkm := hid hkm; replace hkk := hid hkk
          replace hr := hid (show false = decide (0 ≤ r ∧ r ≤ (s' : Int) - 1) from (decide_eq_false (fun h => hr (by omega))).symm)
          have gL := hid g.L; have gS := hid g.S; have gL' := hid g'.L; have gS' := hid g'.S; have l3 := g.l3; have l3' := g'.l3; have s16 := g.s16; have s16' := g'.s16; have s1 := g.s1; have s1' := g'.s1; clear hm hk; replace g := hid g; replace g' := hid g'
          go_enter Try.func202, Try.ntmps202
          go_wp2_with (first
            | ((with_reducible refine gate (N := 10) rfl ?_); refine load_mach rfl _ rfl w.heap.size rfl m hS.out.m1 ?_)
            | ((with_reducible refine gate (N := 14) rfl ?_); refine load_mach_g (by rfl) _ rfl (w.heap.size + 1) rfl k hS.out.m0 ?_)
            | (go_at_call 106; (with_reducible refine (l01Is_any _ m hkm.out true hi.out.out).mono ?_); rintro e w1 ⟨rfl, hb⟩; replace hS := hid (hS.out.call hb); clear hb hi)
            | (go_at_call 106; (with_reducible refine (l01Is_any _ k hkk.out true hi'.out.out).mono ?_); rintro e w1 ⟨rfl, hb⟩; replace hS := hid (hS.out.call hb); clear hb hi'; have cL := hS.out.m1.cL; have cL' := hS.out.m0.cL; rw [gL.out] at cL; rw [gL'.out] at cL'; have cS := hS.out.m1.cS; have cS' := hS.out.m0.cS; rw [gS.out] at cS; rw [gS'.out] at cS')
            | (go_at_call 117; (with_reducible refine (l01In_any q 0 ((s : Int) - 1) true hq.out _).mono ?_); rintro e w1 ⟨rfl, rfl⟩)
            | (go_at_call 117; (with_reducible refine (l01In_any r 0 ((s' : Int) - 1) false hr.out _).mono ?_); rintro e w1 ⟨rfl, rfl⟩))
          go_ret
          exact ⟨rfl, hS.out.bel⟩
      · rw [show pairI m q k r = 2 by
          unfold pairI; rw [if_pos ⟨hm, hk⟩, g.L, g.S, g'.L, g'.S, if_neg (by omega)]]
        replace hkm := hid hkm; replace hkk := hid hkk
        replace hq := hid (show false = decide (0 ≤ q ∧ q ≤ (s : Int) - 1) from (decide_eq_false (fun h => hq (by omega))).symm)
        have gL := hid g.L; have gS := hid g.S; have gL' := hid g'.L; have gS' := hid g'.S; have l3 := g.l3; have l3' := g'.l3; have s16 := g.s16; have s16' := g'.s16; have s1 := g.s1; have s1' := g'.s1; clear hm hk; replace g := hid g; replace g' := hid g'
        go_enter Try.func202, Try.ntmps202
        go_wp2_with (first
          | ((with_reducible refine gate (N := 10) rfl ?_); refine load_mach rfl _ rfl w.heap.size rfl m hS.out.m1 ?_)
          | ((with_reducible refine gate (N := 14) rfl ?_); refine load_mach_g (by rfl) _ rfl (w.heap.size + 1) rfl k hS.out.m0 ?_)
          | (go_at_call 106; (with_reducible refine (l01Is_any _ m hkm.out true hi.out.out).mono ?_); rintro e w1 ⟨rfl, hb⟩; replace hS := hid (hS.out.call hb); clear hb hi)
          | (go_at_call 106; (with_reducible refine (l01Is_any _ k hkk.out true hi'.out.out).mono ?_); rintro e w1 ⟨rfl, hb⟩; replace hS := hid (hS.out.call hb); clear hb hi'; have cL := hS.out.m1.cL; have cL' := hS.out.m0.cL; rw [gL.out] at cL; rw [gL'.out] at cL'; have cS := hS.out.m1.cS; have cS' := hS.out.m0.cS; rw [gS.out] at cS; rw [gS'.out] at cS')
          | (go_at_call 117; (with_reducible refine (l01In_any q 0 ((s : Int) - 1) false hq.out _).mono ?_); rintro e w1 ⟨rfl, rfl⟩))
        go_ret
        exact ⟨rfl, hS.out.bel⟩
    · rw [show pairI m q k r = 1 by unfold pairI; rw [if_neg (fun h => hk h.2)]]
      replace hkm := hid hkm; replace hkk := hid hkk
      have hi' := hid (show Tells false (IsM k) from ⟨fun h => (by cases h), fun h => absurd h hk⟩)
      clear hm hk
      go_enter Try.func202, Try.ntmps202
      go_wp2_with (first
        | ((with_reducible refine gate (N := 10) rfl ?_); refine load_mach rfl _ rfl w.heap.size rfl m hS.out.m1 ?_)
        | ((with_reducible refine gate (N := 14) rfl ?_); refine load_mach_g (by rfl) _ rfl (w.heap.size + 1) rfl k hS.out.m0 ?_)
        | (go_at_call 106; (with_reducible refine (l01Is_any _ m hkm.out true hi.out.out).mono ?_); rintro e w1 ⟨rfl, hb⟩; replace hS := hid (hS.out.call hb); clear hb hi)
        | (go_at_call 106; (with_reducible refine (l01Is_any _ k hkk.out false hi'.out.out).mono ?_); rintro e w1 ⟨rfl, hb⟩; replace hS := hid (hS.out.call hb); clear hb hi'))
      go_ret
      exact ⟨rfl, hS.out.bel⟩
  · rw [show pairI m q k r = 1 by unfold pairI; rw [if_neg (fun h => hm h.1)]]
    replace hkm := hid hkm; replace hkk := hid hkk
    have hi := hid (show Tells false (IsM m) from ⟨fun h => (by cases h), fun h => absurd h hm⟩)
    clear hm
    go_enter Try.func202, Try.ntmps202
    go_wp2_with (first
      | ((with_reducible refine gate (N := 10) rfl ?_); refine load_mach rfl _ rfl w.heap.size rfl m hS.out.m1 ?_)
      | ((with_reducible refine gate (N := 14) rfl ?_); refine load_mach_g (by rfl) _ rfl (w.heap.size + 1) rfl k hS.out.m0 ?_)
      | (go_at_call 106; (with_reducible refine (l01Is_any _ m hkm.out false hi.out.out).mono ?_); rintro e w1 ⟨rfl, hb⟩; replace hS := hid (hS.out.call hb); clear hb hi))
    go_ret
    exact ⟨rfl, hS.out.bel⟩
end Go.Proofs.Ythmcdfjijkecfaa

/- ProductOfStates: what the program and the reference answer. -/
namespace Go.Proofs.Ythmcdfjijkecfaa
open Go.RowKit
set_option linter.unusedVariables false
set_option linter.unusedSimpArgs false

open Classical in
/-- What ProductOfStates answers. -/
noncomputable def posAns (m : Mach) (q : Int) (k : Mach) (r : Int) : Mach × Int := if pairI m q k r = 0 then (fromM (prodT m k m.L.toNat m.S.toNat k.S.toNat) (q.toNat * k.S.toNat + r.toNat), fromC (prodT m k m.L.toNat m.S.toNat k.S.toNat) (q.toNat * k.S.toNat + r.toNat)) else (⟨0, 0, fun _ => 0, fun _ => 0⟩, pairI m q k r)
theorem posAns_0 {m k : Mach} {l s s' q r : Nat} (g : Good m l s) (g' : Good k l s') (h : pairI m q k r = 0) : posAns m q k r = (fromM (prodT m k l s s') (q * s' + r), fromC (prodT m k l s s') (q * s' + r)) := by
  unfold posAns; rw [if_pos h, g.L, g.S, g'.S]; rfl
theorem posAns_n {m : Mach} {q : Int} {k : Mach} {r c : Int} (h : pairI m q k r = c) (hc : c ≠ 0) : posAns m q k r = (⟨0, 0, fun _ => 0, fun _ => 0⟩, c) := by
  unfold posAns; rw [h, if_neg hc]
theorem from_cases (T : Tab) (q : Nat) : (fromB T q = true ∧ fromC T q = 0) ∨ (fromB T q = false ∧ fromC T q = 3 ∧ fromM T q = ⟨0, 0, fun _ => 0, fun _ => 0⟩) := by
  unfold fromB fromC fromM
  by_cases h : (fin T (fix T) q).length ≤ 16
  · exact .inl ⟨decide_eq_true h, if_pos h⟩
  · exact .inr ⟨decide_eq_false h, if_neg h, if_neg h⟩

set_option maxHeartbeats 4000000 in
set_option maxRecDepth 100000 in
theorem specPos_any (w : World) (m : Mach) (hkm : m.Ok) (q : Int) (k : Mach) (hkk : k.Ok) (r : Int) :
    Calls Try.prog 91 #[.agg (mcells m), .int .i64 q, .agg (mcells k), .int .i64 r] w fun e w' => e = .returned (.tuple #[.agg (mcells (posAns m q k r).1), .int .i64 (posAns m q k r).2]) ∧ Below w.heap.size w w' := by
  have hz := zero_mach
  have hS := hid ((((St.start w).newMB m 27).newMB k 27).newMB ⟨0, 0, fun _ => 0, fun _ => 0⟩ 27)
  simp only [heap_alloc_size] at hS
  have hcode := hid (fun W => l07Both_any W m hkm q k hkk r)
  rcases pairI_cases m q k r with ⟨h, _⟩ | h | ⟨l, s, s', q, r, g, g', rfl, hq, rfl, hr, h⟩
  · rw [posAns_n h (by decide)]
    rw [h] at hcode
    replace hkm := hid hkm; replace hkk := hid hkk; clear h
    generalize hzs : mcells ⟨0, 0, fun _ => 0, fun _ => 0⟩ = zs at *
    replace hzs := hid hzs
    go_enter Try.func91, Try.ntmps91
    go_wp2_with (first
      | ((with_reducible refine gate (N := 13) rfl ?_); refine load_mach rfl _ rfl w.heap.size rfl m hS.out.m2 ?_)
      | ((with_reducible refine gate (N := 15) rfl ?_); refine load_mach rfl _ rfl (w.heap.size + 1) rfl k hS.out.m1 ?_)
      | (go_at_call 202; (with_reducible refine (hcode.out _).mono ?_); rintro e w1 ⟨rfl, hb⟩; replace hS := hid (hS.out.call hb); clear hb hcode)
      | ((with_reducible refine gate (N := 20) rfl ?_); refine build_zero rfl rfl ?_)
      | ((with_reducible refine gateOp (op := .store 27 (.tmp 8) (.tmp 20)) rfl ?_); refine store_mach rfl _ _ rfl (w.heap.size + 1 + 1) rfl ⟨0, 0, fun _ => 0, fun _ => 0⟩ rfl 27 _ hS.out.m0 ?_; intro W3 p2 ho hsz hbl; have pB := hid (hbl _ _ (by omega) hS.out.bel); replace p2 := hid p2; clear ho hsz hbl))
    exact ret_mach_i rfl rfl rfl p2.out rfl ⟨by rw [hzs.out], pB.out⟩
  · rw [posAns_n h (by decide)]
    rw [h] at hcode
    replace hkm := hid hkm; replace hkk := hid hkk; clear h
    generalize hzs : mcells ⟨0, 0, fun _ => 0, fun _ => 0⟩ = zs at *
    replace hzs := hid hzs
    go_enter Try.func91, Try.ntmps91
    go_wp2_with (first
      | ((with_reducible refine gate (N := 13) rfl ?_); refine load_mach rfl _ rfl w.heap.size rfl m hS.out.m2 ?_)
      | ((with_reducible refine gate (N := 15) rfl ?_); refine load_mach rfl _ rfl (w.heap.size + 1) rfl k hS.out.m1 ?_)
      | (go_at_call 202; (with_reducible refine (hcode.out _).mono ?_); rintro e w1 ⟨rfl, hb⟩; replace hS := hid (hS.out.call hb); clear hb hcode)
      | ((with_reducible refine gate (N := 20) rfl ?_); refine build_zero rfl rfl ?_)
      | ((with_reducible refine gateOp (op := .store 27 (.tmp 8) (.tmp 20)) rfl ?_); refine store_mach rfl _ _ rfl (w.heap.size + 1 + 1) rfl ⟨0, 0, fun _ => 0, fun _ => 0⟩ rfl 27 _ hS.out.m0 ?_; intro W3 p2 ho hsz hbl; have pB := hid (hbl _ _ (by omega) hS.out.bel); replace p2 := hid p2; clear ho hsz hbl))
    exact ret_mach_i rfl rfl rfl p2.out rfl ⟨by rw [hzs.out], pB.out⟩
  · rw [posAns_0 g g' h]
    rw [h] at hcode
    have hma := hid (fun W => l07Product_any W m k l s s' g g' q r hq hr)
    have hN := hid (fun L W (h : St w.heap.size w L W) => h.newMB ⟨0, 0, fun _ => 0, fun _ => 0⟩ 27)
    have hcs := from_cases (prodT m k l s s') (q * s' + r)
    replace hkm := hid hkm; replace hkk := hid hkk; clear h g g'
    generalize fromC (prodT m k l s s') (q * s' + r) = fc at *
    generalize fromM (prodT m k l s s') (q * s' + r) = fm at *
    generalize fromB (prodT m k l s s') (q * s' + r) = fb at *
    rcases hcs with ⟨rfl, rfl⟩ | ⟨rfl, rfl, rfl⟩
    · generalize mcells ⟨0, 0, fun _ => 0, fun _ => 0⟩ = zs at *
      go_enter Try.func91, Try.ntmps91
      go_wp2_with (first
        | ((with_reducible refine gate (N := 13) rfl ?_); refine load_mach rfl _ rfl w.heap.size rfl m hS.out.m2 ?_)
        | ((with_reducible refine gate (N := 15) rfl ?_); refine load_mach rfl _ rfl (w.heap.size + 1) rfl k hS.out.m1 ?_)
        | (go_at_call 202; (with_reducible refine (hcode.out _).mono ?_); rintro e w1 ⟨rfl, hb⟩; replace hS := hid (hS.out.call hb); clear hb hcode)
        | ((with_reducible refine gate (N := 23) rfl ?_); refine load_mach rfl _ rfl w.heap.size rfl m hS.out.m2 ?_)
        | ((with_reducible refine gate (N := 25) rfl ?_); refine load_mach rfl _ rfl (w.heap.size + 1) rfl k hS.out.m1 ?_)
        | (go_at_call 194; (with_reducible refine (hma.out _).mono ?_); rintro e w2 ⟨rfl, hb⟩; have hle2 := hid (hS.out.call hb).le; replace hS := hid (hN.out _ _ (hS.out.call hb)); clear hb hma)
        | ((with_reducible refine gateOp (op := .store 27 (.tmp 11) (.tmp 28)) rfl ?_); refine store_mach rfl _ _ rfl w2.heap.size rfl fm rfl 27 _ hS.out.m0 ?_; intro W1 p3 ho hsz hbl; replace hS := hid (hS.out.setM hle2.out p3 ho hbl); clear p3 ho hsz hbl)
        | ((with_reducible refine gate (N := 33) rfl ?_); refine load_mach rfl _ rfl w2.heap.size rfl fm hS.out.m0 ?_)
        | ((with_reducible refine gateOp (op := .store 27 (.tmp 8) (.tmp 33)) rfl ?_); refine store_mach rfl _ _ rfl (w.heap.size + 1 + 1) rfl fm rfl 27 _ hS.out.m1 ?_; intro W3 p2 ho hsz hbl; have pB := hid (hbl _ _ (by omega) hS.out.bel); replace p2 := hid p2; clear ho hsz hbl))
      exact ret_mach_i rfl rfl rfl p2.out rfl ⟨rfl, pB.out⟩
    · generalize hzs : mcells ⟨0, 0, fun _ => 0, fun _ => 0⟩ = zs at *
      replace hzs := hid hzs
      go_enter Try.func91, Try.ntmps91
      go_wp2_with (first
        | ((with_reducible refine gate (N := 13) rfl ?_); refine load_mach rfl _ rfl w.heap.size rfl m hS.out.m2 ?_)
        | ((with_reducible refine gate (N := 15) rfl ?_); refine load_mach rfl _ rfl (w.heap.size + 1) rfl k hS.out.m1 ?_)
        | (go_at_call 202; (with_reducible refine (hcode.out _).mono ?_); rintro e w1 ⟨rfl, hb⟩; replace hS := hid (hS.out.call hb); clear hb hcode)
        | ((with_reducible refine gate (N := 23) rfl ?_); refine load_mach rfl _ rfl w.heap.size rfl m hS.out.m2 ?_)
        | ((with_reducible refine gate (N := 25) rfl ?_); refine load_mach rfl _ rfl (w.heap.size + 1) rfl k hS.out.m1 ?_)
        | (go_at_call 194; (with_reducible refine (hma.out _).mono ?_); rintro e w2 ⟨rfl, hb⟩; have hle2 := hid (hS.out.call hb).le; replace hS := hid (hN.out _ _ (hS.out.call hb)); clear hb hma)
        | ((with_reducible refine gateOp (op := .store 27 (.tmp 11) (.tmp 28)) rfl ?_); refine store_mach rfl _ _ rfl w2.heap.size rfl ⟨0, 0, fun _ => 0, fun _ => 0⟩ (by rw [hzs.out]; rfl) 27 _ hS.out.m0 ?_; intro W1 p3 ho hsz hbl; replace hS := hid (hS.out.setM hle2.out p3 ho hbl); clear p3 ho hsz hbl)
        | ((with_reducible refine gate (N := 32) rfl ?_); refine build_zero rfl rfl ?_)
        | ((with_reducible refine gateOp (op := .store 27 (.tmp 8) (.tmp 32)) rfl ?_); refine store_mach rfl _ _ rfl (w.heap.size + 1 + 1) rfl ⟨0, 0, fun _ => 0, fun _ => 0⟩ rfl 27 _ hS.out.m1 ?_; intro W3 p2 ho hsz hbl; have pB := hid (hbl _ _ (by omega) hS.out.bel); replace p2 := hid p2; clear ho hsz hbl))
      exact ret_mach_i rfl rfl rfl p2.out rfl ⟨by rw [hzs.out], pB.out⟩
set_option maxHeartbeats 4000000 in
set_option maxRecDepth 100000 in
theorem implPos_any (w : World) (m : Mach) (hkm : m.Ok) (q : Int) (k : Mach) (hkk : k.Ok) (r : Int) :
    Calls Try.prog 90 #[.agg (mcells m), .int .i64 q, .agg (mcells k), .int .i64 r] w fun e w' => e = .returned (.tuple #[.agg (mcells (posAns m q k r).1), .int .i64 (posAns m q k r).2]) ∧ Below w.heap.size w w' := by
  have hz := zero_mach
  have hS := hid ((((St.start w).newMB m 27).newMB k 27).newMB ⟨0, 0, fun _ => 0, fun _ => 0⟩ 27)
  simp only [heap_alloc_size] at hS
  have hcode := hid (fun W => pairCode_any W m hkm q k hkk r)
  rcases pairI_cases m q k r with ⟨h, _⟩ | h | ⟨l, s, s', q, r, g, g', rfl, hq, rfl, hr, h⟩
  · rw [posAns_n h (by decide)]
    rw [h] at hcode
    replace hkm := hid hkm; replace hkk := hid hkk; clear h
    generalize hzs : mcells ⟨0, 0, fun _ => 0, fun _ => 0⟩ = zs at *
    replace hzs := hid hzs
    go_enter Try.func90, Try.ntmps90
    go_wp2_with (first
      | ((with_reducible refine gate (N := 11) rfl ?_); refine load_mach rfl _ rfl w.heap.size rfl m hS.out.m2 ?_)
      | ((with_reducible refine gate (N := 13) rfl ?_); refine load_mach rfl _ rfl (w.heap.size + 1) rfl k hS.out.m1 ?_)
      | (go_at_call 201; (with_reducible refine (hcode.out _).mono ?_); rintro e w1 ⟨rfl, hb⟩; replace hS := hid (hS.out.call hb); clear hb hcode)
      | ((with_reducible refine gate (N := 18) rfl ?_); refine build_zero rfl rfl ?_)
      | ((with_reducible refine gateOp (op := .store 27 (.tmp 8) (.tmp 18)) rfl ?_); refine store_mach rfl _ _ rfl (w.heap.size + 1 + 1) rfl ⟨0, 0, fun _ => 0, fun _ => 0⟩ rfl 27 _ hS.out.m0 ?_; intro W3 p2 ho hsz hbl; have pB := hid (hbl _ _ (by omega) hS.out.bel); replace p2 := hid p2; clear ho hsz hbl))
    exact ret_mach_i rfl rfl rfl p2.out rfl ⟨by rw [hzs.out], pB.out⟩
  · rw [posAns_n h (by decide)]
    rw [h] at hcode
    replace hkm := hid hkm; replace hkk := hid hkk; clear h
    generalize hzs : mcells ⟨0, 0, fun _ => 0, fun _ => 0⟩ = zs at *
    replace hzs := hid hzs
    go_enter Try.func90, Try.ntmps90
    go_wp2_with (first
      | ((with_reducible refine gate (N := 11) rfl ?_); refine load_mach rfl _ rfl w.heap.size rfl m hS.out.m2 ?_)
      | ((with_reducible refine gate (N := 13) rfl ?_); refine load_mach rfl _ rfl (w.heap.size + 1) rfl k hS.out.m1 ?_)
      | (go_at_call 201; (with_reducible refine (hcode.out _).mono ?_); rintro e w1 ⟨rfl, hb⟩; replace hS := hid (hS.out.call hb); clear hb hcode)
      | ((with_reducible refine gate (N := 18) rfl ?_); refine build_zero rfl rfl ?_)
      | ((with_reducible refine gateOp (op := .store 27 (.tmp 8) (.tmp 18)) rfl ?_); refine store_mach rfl _ _ rfl (w.heap.size + 1 + 1) rfl ⟨0, 0, fun _ => 0, fun _ => 0⟩ rfl 27 _ hS.out.m0 ?_; intro W3 p2 ho hsz hbl; have pB := hid (hbl _ _ (by omega) hS.out.bel); replace p2 := hid p2; clear ho hsz hbl))
    exact ret_mach_i rfl rfl rfl p2.out rfl ⟨by rw [hzs.out], pB.out⟩
  · rw [posAns_0 g g' h]
    rw [h] at hcode
    have hma := hid (fun W hm hk => product_any w.heap.size (w.heap.size + 1) W m k hm hk l s s' g g' q r hq hr)
    replace hkm := hid hkm; replace hkk := hid hkk; clear h g g'
    generalize fromC (prodT m k l s s') (q * s' + r) = fc at *
    generalize fromM (prodT m k l s s') (q * s' + r) = fm at *
    generalize mcells ⟨0, 0, fun _ => 0, fun _ => 0⟩ = zs at *
    go_enter Try.func90, Try.ntmps90
    go_wp2_with (first
      | ((with_reducible refine gate (N := 11) rfl ?_); refine load_mach rfl _ rfl w.heap.size rfl m hS.out.m2 ?_)
      | ((with_reducible refine gate (N := 13) rfl ?_); refine load_mach rfl _ rfl (w.heap.size + 1) rfl k hS.out.m1 ?_)
      | (go_at_call 201; (with_reducible refine (hcode.out _).mono ?_); rintro e w1 ⟨rfl, hb⟩; replace hS := hid (hS.out.call hb); clear hb hcode)
      | (go_at_call 191; (with_reducible refine (hma.out _ hS.out.m2 hS.out.m1).mono ?_); rintro e w1 ⟨rfl, hb⟩; replace hS := hid (hS.out.call hb); clear hb hma)
      | ((with_reducible refine gateOp (op := .store 27 (.tmp 8) (.tmp 23)) rfl ?_); refine store_mach rfl _ _ rfl (w.heap.size + 1 + 1) rfl fm rfl 27 _ hS.out.m0 ?_; intro W3 p2 ho hsz hbl; have pB := hid (hbl _ _ (by omega) hS.out.bel); replace p2 := hid p2; clear ho hsz hbl))
    exact ret_mach_i rfl rfl rfl p2.out rfl ⟨rfl, pB.out⟩
end Go.Proofs.Ythmcdfjijkecfaa

/- OrderByPowers: what the program and the reference answer. -/
namespace Go.Proofs.Ythmcdfjijkecfaa
open Go.RowKit
set_option linter.unusedVariables false
set_option linter.unusedSimpArgs false

/-- The next power, and its code. -/
def nextM (m : Mach) (l s q : Nat) (now : Mach) : Mach := fromM (prodT now m l now.S.toNat s) (0 * s + q)
def nextC (m : Mach) (l s q : Nat) (now : Mach) : Int := fromC (prodT now m l now.S.toNat s) (0 * s + q)
open Classical in
/-- The search. -/
noncomputable def ordGo (m : Mach) (l s q : Nat) : Nat → Nat → Mach → Int × Int
  | 0, _, _ => (0, 4)
  | f + 1, k, now => if nextC m l s q now = 0 then (if mcells (nextM m l s q now) = mcells (trivM l) then ((k : Int), 0) else ordGo m l s q f (k + 1) (nextM m l s q now)) else (0, 3)
open Classical in
noncomputable def obpAns (m : Mach) (q n : Int) : Int × Int :=
  if codeI m { data := #[] } [q] = 0 then (if 1 ≤ n ∧ n ≤ 16 then ordGo m m.L.toNat m.S.toNat q.toNat n.toNat 1 (trivM m.L.toNat) else (0, 2)) else (0, codeI m { data := #[] } [q])
theorem obpAns_n {m : Mach} {q n c : Int} (h : codeI m { data := #[] } [q] = c) (hc : c ≠ 0) : obpAns m q n = (0, c) := by
  unfold obpAns; rw [h, if_neg hc]
theorem obpAns_r {m : Mach} {q n : Int} (h : codeI m { data := #[] } [q] = 0) (hn : ¬ (1 ≤ n ∧ n ≤ 16)) : obpAns m q n = (0, 2) := by
  unfold obpAns; rw [h, if_pos rfl, if_neg hn]
theorem obpAns_0 {m : Mach} {l s q : Nat} {n : Nat} (g : Good m l s) (h : codeI m { data := #[] } [(q : Int)] = 0) (hn : 1 ≤ n ∧ n ≤ 16) : obpAns m q n = ordGo m l s q n 1 (trivM l) := by
  unfold obpAns; rw [h, if_pos rfl, if_pos (by omega), g.L, g.S]; rfl
theorem next_cases (m : Mach) (l s q : Nat) (hq : q < s) (g : Good m l s) (now : Mach) (sN : Nat) (gN : Good now l sN) :
    (nextC m l s q now = 3 ∧ fromB (prodT now m l sN s) (0 * s + q) = false) ∨ (nextC m l s q now = 0 ∧ fromB (prodT now m l sN s) (0 * s + q) = true ∧ ∃ s2, Good (nextM m l s q now) l s2 ∧ (nextM m l s q now).Ok) := by
  have e : now.S.toNat = sN := by rw [gN.S]; rfl
  have hin := prod_in (s' := s) (show 0 < sN from gN.s1) hq
  rcases from_cases (prodT now m l sN s) (0 * s + q) with ⟨h1, h2⟩ | ⟨h1, h2, _⟩
  · refine .inr ⟨by unfold nextC; rw [e]; exact h2, h1, ?_⟩
    obtain ⟨s2, g2⟩ := fromM_good (prod_ok gN g) hin g.l2 g.l3 (prod_o gN g) (prod_inj gN g) h2
    exact ⟨s2, by unfold nextM; rw [e]; exact g2, by unfold nextM; rw [e]; exact fromM_ok (prod_ok gN g) hin (prod_o256 gN g)⟩
  · exact .inl ⟨by unfold nextC; rw [e]; exact h2, h1⟩
theorem next_M (m : Mach) (l s q : Nat) (now : Mach) (sN : Nat) (gN : Good now l sN) : fromM (prodT now m l sN s) (0 * s + q) = nextM m l s q now ∧ fromC (prodT now m l sN s) (0 * s + q) = nextC m l s q now := by
  have e : now.S.toNat = sN := by rw [gN.S]; rfl
  unfold nextM nextC; rw [e]; exact ⟨rfl, rfl⟩
open Classical in
theorem eq_triv (m : Mach) (l s2 : Nat) (g : Good m l s2) (hk : m.Ok) : ∃ b : Bool, Hid (b = true ↔ mcells m = mcells (trivM l)) ∧ ∀ W : World, (Op.equalIn 10000 27 (.agg (mcells m)) (.agg (mcells (trivM l)))).run Try.prog W = .ok b W := by
  have l3 := g.l3; have s16 := g.s16
  exact ⟨_, hid decide_eq_true_iff, fun W => eq_mach W m (trivM l) hk (trivM_ok l l3) l s2 l 1 g.L g.S rfl rfl (by omega) (by omega) (by omega) (by omega) _ decide_eq_true_iff⟩
theorem ordGo_3 {m : Mach} {l s q f k : Nat} {now : Mach} (h : nextC m l s q now = 3) : ordGo m l s q (f + 1) k now = (0, 3) := by
  unfold ordGo; rw [h, if_neg (by decide)]
theorem ordGo_t {m : Mach} {l s q f k : Nat} {now : Mach} (h : nextC m l s q now = 0) (he : mcells (nextM m l s q now) = mcells (trivM l)) : ordGo m l s q (f + 1) k now = ((k : Int), 0) := by
  unfold ordGo; rw [if_pos h, if_pos he]
theorem ordGo_n {m : Mach} {l s q f k : Nat} {now : Mach} (h : nextC m l s q now = 0) (he : ¬ mcells (nextM m l s q now) = mcells (trivM l)) : ordGo m l s q (f + 1) k now = ordGo m l s q f (k + 1) (nextM m l s q now) := by
  conv => lhs; unfold ordGo
  rw [if_pos h, if_neg he]

set_option maxHeartbeats 8000000 in
set_option maxRecDepth 4000 in
theorem implObp_any (w : World) (m : Mach) (hkm : m.Ok) (q n : Int) :
    Calls Try.prog 83 #[.agg (mcells m), .int .i64 q, .int .i64 n] w fun e w' => e = .returned (.tuple #[.int .i64 (obpAns m q n).1, .int .i64 (obpAns m q n).2]) ∧ Below w.heap.size w w' := by
  have hz := zero_mach
  have hS := hid ((St.start w).newMB m 27)
  have hcode := hid (fun W base v h => codeOf_any W m hkm { data := #[] } (by decide) base v [q] h (by simp))
  have hown := hid (hS.out.newOwn [Value.int .i64 q] 2 (by simp))
  simp only [heap_alloc_size] at hown
  rcases codeI_cases m q with h | h | ⟨l, s, q, g, rfl, hq, h⟩
  · rw [obpAns_n h (by decide)]
    rw [h] at hcode
    replace hkm := hid hkm; clear h
    go_enter Try.func83, Try.ntmps83
    go_wp2_with (first
      | ((with_reducible refine gate (N := 13) rfl ?_); refine load_mach rfl _ rfl w.heap.size rfl m hS.out.m0 ?_)
      | (go_at_call 113; (with_reducible refine (hcode.out _ _ _ hown.out.o0).mono ?_); rintro e w1 ⟨rfl, hb⟩; replace hS := hid (hown.out.call hb).drop; clear hb hcode hown))
    go_ret2
    exact ⟨rfl, hS.out.bel⟩
  · rw [obpAns_n h (by decide)]
    rw [h] at hcode
    replace hkm := hid hkm; clear h
    go_enter Try.func83, Try.ntmps83
    go_wp2_with (first
      | ((with_reducible refine gate (N := 13) rfl ?_); refine load_mach rfl _ rfl w.heap.size rfl m hS.out.m0 ?_)
      | (go_at_call 113; (with_reducible refine (hcode.out _ _ _ hown.out.o0).mono ?_); rintro e w1 ⟨rfl, hb⟩; replace hS := hid (hown.out.call hb).drop; clear hb hcode hown))
    go_ret2
    exact ⟨rfl, hS.out.bel⟩
  · by_cases hn : 1 ≤ n ∧ n ≤ 16
    · obtain ⟨n, rfl⟩ := Int.eq_ofNat_of_zero_le (show 0 ≤ n by omega)
      have hw := hid (show true = decide (1 ≤ (n : Int) ∧ (n : Int) ≤ 16) from (decide_eq_true hn).symm)
      rw [obpAns_0 g h (by omega)]
      rw [h] at hcode
      have gL := hid g.L
      have l2 := g.l2; have l3 := g.l3
      have htr := hid (fun W => trivialMachine_any W l l3)
      have hpr := hid (fun b W now sN (gN : Good now l sN) hb hm => (by have h := product_any b w.heap.size W now m hb hm l sN s gN g 0 q gN.s1 hq; rw [(next_M m l s q now sN gN).1, (next_M m l s q now sN gN).2] at h; exact h : Calls Try.prog 191 #[.pointer (some ⟨b, 0, none⟩), .int .i64 0, .pointer (some ⟨w.heap.size, 0, none⟩), .int .i64 (q : Nat)] W fun e w' => e = .returned (.tuple #[.agg (mcells (nextM m l s q now)), .int .i64 (nextC m l s q now)]) ∧ Below W.heap.size W w'))
      have hnc := hid (next_cases m l s q hq g)
      have htg := hid (trivM_good l l2 l3)
      have heqt := hid (fun M s2 (gM : Good M l s2) (hM : M.Ok) => eq_triv M l s2 gM hM)
      obtain ⟨ans, hans⟩ : ∃ a, a = ordGo m l s q n 1 (trivM l) := ⟨_, rfl⟩
      rw [← hans]
      replace hans := hid hans
      have hN := hid (fun L W M (h : St w.heap.size w L W) => h.newMB M 27)
      have hz2 := hid (fun L W (h : St w.heap.size w L W) => h.newMB ⟨0, 0, fun _ => 0, fun _ => 0⟩ 27)
      have hgd := guard_mach
      have hn1 : n ≤ 16 := by omega
      replace hkm := hid hkm; clear h; replace g := hid g; replace hn := hid hn
      generalize mcells ⟨0, 0, fun _ => 0, fun _ => 0⟩ = zs at *
      go_enter Try.func83, Try.ntmps83
      go_upto_region 6 with (first
        | ((with_reducible refine gate (N := 13) rfl ?_); refine load_mach rfl _ rfl w.heap.size rfl m hS.out.m0 ?_)
        | (go_at_call 113; (with_reducible refine (hcode.out _ _ _ hown.out.o0).mono ?_); rintro e w1 ⟨rfl, hb⟩; replace hS := hid (hown.out.call hb).drop; clear hb hcode hown)
        | (go_at_call 124; (with_reducible refine (within_any _ _ _ true hw.out _).mono ?_); rintro e w' ⟨rfl, rfl⟩))
      have cL := hS.out.m0.cL
      rw [gL.out] at cL
      go_upto_region 7 with (first
        | (go_at_call 190; (with_reducible refine (htr.out _).mono ?_); rintro e w2 ⟨rfl, hb⟩; have hle2 := hid (hS.out.call hb).le; replace hS := hid (hz2.out _ _ (hS.out.call hb)); clear hb cL)
        | ((with_reducible refine gateOp (op := .store 27 (.tmp 9) (.tmp 25)) rfl ?_); refine store_mach rfl _ _ rfl w2.heap.size rfl (trivM l) rfl 27 _ hS.out.m0 ?_; intro W1 p3 ho hsz hbl; replace hS := hid (hS.out.setM hle2.out p3 ho hbl); clear p3 ho hsz hbl))
      generalize w2.heap.size = b9 at *
      have hle3 := hid hS.out.le
      have hS0 := hS
      replace hS := hid (hz2.out _ _ hS.out)
      have hld := hid hS0.out.m0
      clear hS0
      go_upto_region 8 with (first
        | ((with_reducible refine gate (N := 26) rfl ?_); refine load_mach rfl _ rfl b9 rfl (trivM l) hld.out ?_)
        | ((with_reducible refine gateOp (op := .store 27 (.tmp 10) (.tmp 26)) rfl ?_); refine store_mach rfl _ _ rfl W1.heap.size rfl (trivM l) rfl 27 _ hS.out.m0 ?_; intro W2 p3 ho hsz hbl; replace hS := hid (hS.out.setM hle3.out p3 ho hbl); clear p3 ho hsz hbl hld))
      generalize W1.heap.size = b10 at *
      go_wp2
      go_loopw [11] (fun i wr => ∃ (c f : Nat) (now : Mach) (sN : Nat), i = .int .i64 c ∧ c + f = n + 1 ∧ Hid (Good now l sN) ∧ Hid (ans = ordGo m l s q f c now) ∧ St w.heap.size w [Asn.mb 27 b10 now, Asn.mb 27 b9 (trivM l), Asn.mb 27 w.heap.size m] wr) (fun i _ => n + 1 - (intOf i).toNat)
      case atStart => exact ⟨1, n, _, _, rfl, Nat.add_comm _ _, htg, hans, hS.out⟩
      case round =>
        obtain ⟨c, f, now, sN, rfl, hcf, gN, ha, rS⟩ := hrel
        clear hS hans
        replace rS := hid rS
        rcases f with _ | f
        · have dc : decide ((c : Int) ≤ (n : Int)) = false := decide_eq_false (by omega)
          have hA := hid (show ans = (0, 4) from ha.out)
          go_wp2
          go_ret2
          exact ⟨by first | (rw [hA.out]; done) | (rw [hA.out]; rfl), rS.out.bel⟩
        · have dc : decide ((c : Int) ≤ (n : Int)) = true := decide_eq_true (by omega)
          have hpn := hid (fun W hb hm => hpr.out b10 W now sN gN.out hb hm)
          rcases hnc.out now sN gN.out with ⟨h3, hB⟩ | ⟨h0, hB, s2, g2, k2⟩
          · have hA := hid (show ans = (0, 3) from ha.out.trans (ordGo_3 h3))
            rw [h3] at hpn
            clear h3 hB ha
            generalize nextM m l s q now = nx at *
            go_wp2_with (first
              | (go_at_call 191; (with_reducible refine (hpn.out _ rS.out.m0 rS.out.m2).mono ?_); rintro e w3 ⟨rfl, hb⟩; replace rS := hid (rS.out.call hb); clear hb hpn)
              | ((with_reducible refine gateOp (op := .store 27 (.tmp 10) (.tmp 35)) rfl ?_); refine store_mach rfl _ _ rfl b10 rfl nx rfl 27 _ rS.out.m0 ?_; intro W5 p3 ho hsz hbl; replace rS := hid (rS.out.setM hle3.out p3 ho hbl); clear p3 ho hsz hbl)
              | ((with_reducible refine gate (N := 42) rfl ?_); refine load_mach rfl _ rfl b10 rfl nx rS.out.m0 ?_)
              | ((with_reducible refine gate (N := 43) rfl ?_); refine load_mach rfl _ rfl b9 rfl (trivM l) rS.out.m1 ?_))
            go_ret2
            exact ⟨by first | (rw [hA.out]; done) | (rw [hA.out]; rfl), rS.out.bel⟩
          · obtain ⟨b, hb, heq⟩ := heqt.out _ _ g2 k2
            rw [h0] at hpn
            cases b with
            | true =>
              have hA := hid (show ans = ((c : Int), 0) from ha.out.trans (ordGo_t h0 (hb.out.1 rfl)))
              clear h0 hB ha hb g2 k2
              generalize nextM m l s q now = nx at *
              go_wp2_with (first
                | (go_at_call 191; (with_reducible refine (hpn.out _ rS.out.m0 rS.out.m2).mono ?_); rintro e w3 ⟨rfl, hb⟩; replace rS := hid (rS.out.call hb); clear hb hpn)
                | ((with_reducible refine gateOp (op := .store 27 (.tmp 10) (.tmp 35)) rfl ?_); refine store_mach rfl _ _ rfl b10 rfl nx rfl 27 _ rS.out.m0 ?_; intro W5 p3 ho hsz hbl; replace rS := hid (rS.out.setM hle3.out p3 ho hbl); clear p3 ho hsz hbl)
                | ((with_reducible refine gate (N := 42) rfl ?_); refine load_mach rfl _ rfl b10 rfl nx rS.out.m0 ?_)
                | ((with_reducible refine gate (N := 43) rfl ?_); refine load_mach rfl _ rfl b9 rfl (trivM l) rS.out.m1 ?_))
              go_ret2
              exact ⟨by first | (rw [hA.out]; done) | (rw [hA.out]; rfl), rS.out.bel⟩
            | false =>
              have hA := hid (ha.out.trans (ordGo_n h0 (fun h => by have := hb.out.2 h; cases this)))
              replace g2 := hid g2
              clear h0 hB ha hb k2
              generalize nextM m l s q now = nx at *
              go_wp2_with (first
                | (go_at_call 191; (with_reducible refine (hpn.out _ rS.out.m0 rS.out.m2).mono ?_); rintro e w3 ⟨rfl, hb⟩; replace rS := hid (rS.out.call hb); clear hb hpn)
                | ((with_reducible refine gateOp (op := .store 27 (.tmp 10) (.tmp 35)) rfl ?_); refine store_mach rfl _ _ rfl b10 rfl nx rfl 27 _ rS.out.m0 ?_; intro W5 p3 ho hsz hbl; replace rS := hid (rS.out.setM hle3.out p3 ho hbl); clear p3 ho hsz hbl)
                | ((with_reducible refine gate (N := 42) rfl ?_); refine load_mach rfl _ rfl b10 rfl nx rS.out.m0 ?_)
                | ((with_reducible refine gate (N := 43) rfl ?_); refine load_mach rfl _ rfl b9 rfl (trivM l) rS.out.m1 ?_))
              go_roundw
              case rel => exact ⟨c + 1, f, nx, s2, by go_num, by omega, g2, hA, rS.out⟩
              case measure => simp [intOf]; omega
    · rw [obpAns_r h hn]
      have hw := hid (show false = decide (1 ≤ n ∧ n ≤ 16) from (decide_eq_false hn).symm)
      rw [h] at hcode
      replace hkm := hid hkm; clear h hn; replace g := hid g
      go_enter Try.func83, Try.ntmps83
      go_wp2_with (first
        | ((with_reducible refine gate (N := 13) rfl ?_); refine load_mach rfl _ rfl w.heap.size rfl m hS.out.m0 ?_)
        | (go_at_call 113; (with_reducible refine (hcode.out _ _ _ hown.out.o0).mono ?_); rintro e w1 ⟨rfl, hb⟩; replace hS := hid (hown.out.call hb).drop; clear hb hcode hown)
        | (go_at_call 124; (with_reducible refine (within_any _ _ _ false hw.out _).mono ?_); rintro e w' ⟨rfl, rfl⟩))
      go_ret2
      exact ⟨rfl, hS.out.bel⟩
set_option maxHeartbeats 8000000 in
set_option maxRecDepth 4000 in
theorem specObp_any (w : World) (m : Mach) (hkm : m.Ok) (q n : Int) :
    Calls Try.prog 84 #[.agg (mcells m), .int .i64 q, .int .i64 n] w fun e w' => e = .returned (.tuple #[.int .i64 (obpAns m q n).1, .int .i64 (obpAns m q n).2]) ∧ Below w.heap.size w w' := by
  have hz := zero_mach
  have hS := hid ((St.start w).newMB m 27)
  have hcode := hid (fun W => l07State_any W m hkm q)
  rcases codeI_cases m q with h | h | ⟨l, s, q, g, rfl, hq, h⟩
  · rw [obpAns_n h (by decide)]
    rw [h] at hcode
    replace hkm := hid hkm; clear h
    go_enter Try.func84, Try.ntmps84
    go_wp2_with (first
      | ((with_reducible refine gate (N := 14) rfl ?_); refine load_mach rfl _ rfl w.heap.size rfl m hS.out.m0 ?_)
      | (go_at_call 192; (with_reducible refine (hcode.out _).mono ?_); rintro e w1 ⟨rfl, hb⟩; replace hS := hid (hS.out.call hb); clear hb hcode))
    go_ret2
    exact ⟨rfl, hS.out.bel⟩
  · rw [obpAns_n h (by decide)]
    rw [h] at hcode
    replace hkm := hid hkm; clear h
    go_enter Try.func84, Try.ntmps84
    go_wp2_with (first
      | ((with_reducible refine gate (N := 14) rfl ?_); refine load_mach rfl _ rfl w.heap.size rfl m hS.out.m0 ?_)
      | (go_at_call 192; (with_reducible refine (hcode.out _).mono ?_); rintro e w1 ⟨rfl, hb⟩; replace hS := hid (hS.out.call hb); clear hb hcode))
    go_ret2
    exact ⟨rfl, hS.out.bel⟩
  · by_cases hn : 1 ≤ n ∧ n ≤ 16
    · obtain ⟨n, rfl⟩ := Int.eq_ofNat_of_zero_le (show 0 ≤ n by omega)
      have hw := hid (show true = decide (1 ≤ (n : Int) ∧ (n : Int) ≤ 16) from (decide_eq_true hn).symm)
      rw [obpAns_0 g h (by omega)]
      rw [h] at hcode
      have gL := hid g.L
      have l2 := g.l2; have l3 := g.l3
      have htr := hid (fun W => l07Trivial_any W l l3)
      have hpr := hid (fun W now sN (gN : Good now l sN) => (by have h := l07Product_any W now m l sN s gN g 0 q gN.s1 hq; rw [(next_M m l s q now sN gN).1] at h; exact h : Calls Try.prog 194 #[.agg (mcells now), .int .i64 0, .agg (mcells m), .int .i64 (q : Nat)] W fun e w' => e = .returned (.tuple #[.agg (mcells (nextM m l s q now)), .bool (fromB (prodT now m l sN s) (0 * s + q))]) ∧ Below W.heap.size W w'))
      have hnc := hid (next_cases m l s q hq g)
      have htg := hid (trivM_good l l2 l3)
      have heqt := hid (fun M s2 (gM : Good M l s2) (hM : M.Ok) => eq_triv M l s2 gM hM)
      obtain ⟨ans, hans⟩ : ∃ a, a = ordGo m l s q n 1 (trivM l) := ⟨_, rfl⟩
      rw [← hans]
      replace hans := hid hans
      have hN := hid (fun L W M (h : St w.heap.size w L W) => h.newMB M 27)
      have hz2 := hid (fun L W (h : St w.heap.size w L W) => h.newMB ⟨0, 0, fun _ => 0, fun _ => 0⟩ 27)
      have hgd := guard_mach
      have hn1 : n ≤ 16 := by omega
      replace hkm := hid hkm; clear h; replace g := hid g; replace hn := hid hn
      generalize mcells ⟨0, 0, fun _ => 0, fun _ => 0⟩ = zs at *
      go_enter Try.func84, Try.ntmps84
      go_upto_region 6 with (first
        | ((with_reducible refine gate (N := 14) rfl ?_); refine load_mach rfl _ rfl w.heap.size rfl m hS.out.m0 ?_)
        | (go_at_call 192; (with_reducible refine (hcode.out _).mono ?_); rintro e w1 ⟨rfl, hb⟩; replace hS := hid (hS.out.call hb); clear hb hcode)
        | (go_at_call 117; (with_reducible refine (l01In_any n 1 16 true hw.out _).mono ?_); rintro e w' ⟨rfl, rfl⟩))
      have cL := hS.out.m0.cL
      rw [gL.out] at cL
      go_upto_region 7 with (first
        | (go_at_call 193; (with_reducible refine (htr.out _).mono ?_); rintro e w2 ⟨rfl, hb⟩; have hle2 := hid (hS.out.call hb).le; replace hS := hid (hz2.out _ _ (hS.out.call hb)); clear hb cL)
        | ((with_reducible refine gateOp (op := .store 27 (.tmp 9) (.tmp 29)) rfl ?_); refine store_mach rfl _ _ rfl w2.heap.size rfl (trivM l) rfl 27 _ hS.out.m0 ?_; intro W1 p3 ho hsz hbl; replace hS := hid (hS.out.setM hle2.out p3 ho hbl); clear p3 ho hsz hbl))
      generalize w2.heap.size = b9 at *
      have hle3 := hid hS.out.le
      have hS0 := hS
      replace hS := hid (hz2.out _ _ hS.out)
      have hld := hid hS0.out.m0
      clear hS0
      go_upto_region 8 with (first
        | ((with_reducible refine gate (N := 30) rfl ?_); refine load_mach rfl _ rfl b9 rfl (trivM l) hld.out ?_)
        | ((with_reducible refine gateOp (op := .store 27 (.tmp 10) (.tmp 30)) rfl ?_); refine store_mach rfl _ _ rfl W1.heap.size rfl (trivM l) rfl 27 _ hS.out.m0 ?_; intro W2 p3 ho hsz hbl; replace hS := hid (hS.out.setM hle3.out p3 ho hbl); clear p3 ho hsz hbl hld))
      generalize W1.heap.size = b10 at *
      go_wp2
      go_loopw [11] (fun i wr => ∃ (c f : Nat) (now : Mach) (sN : Nat), i = .int .i64 c ∧ c + f = n + 1 ∧ Hid (Good now l sN) ∧ Hid (ans = ordGo m l s q f c now) ∧ St w.heap.size w [Asn.mb 27 b10 now, Asn.mb 27 b9 (trivM l), Asn.mb 27 w.heap.size m] wr) (fun i _ => n + 1 - (intOf i).toNat)
      case atStart => exact ⟨1, n, _, _, rfl, Nat.add_comm _ _, htg, hans, hS.out⟩
      case round =>
        obtain ⟨c, f, now, sN, rfl, hcf, gN, ha, rS⟩ := hrel
        clear hS hans
        replace rS := hid rS
        rcases f with _ | f
        · have dc : decide ((c : Int) ≤ (n : Int)) = false := decide_eq_false (by omega)
          have hA := hid (show ans = (0, 4) from ha.out)
          go_wp2
          go_ret2
          exact ⟨by first | (rw [hA.out]; done) | (rw [hA.out]; rfl), rS.out.bel⟩
        · have dc : decide ((c : Int) ≤ (n : Int)) = true := decide_eq_true (by omega)
          have hpn := hid (fun W => hpr.out W now sN gN.out)
          rcases hnc.out now sN gN.out with ⟨h3, hB⟩ | ⟨h0, hB, s2, g2, k2⟩
          · have hA := hid (show ans = (0, 3) from ha.out.trans (ordGo_3 h3))
            rw [hB] at hpn
            clear h3 hB ha
            generalize nextM m l s q now = nx at *
            go_wp2_with (first
              | ((with_reducible refine gate (N := 37) rfl ?_); refine load_mach rfl _ rfl b10 rfl now rS.out.m0 ?_)
              | ((with_reducible refine gate (N := 38) rfl ?_); refine load_mach rfl _ rfl w.heap.size rfl m rS.out.m2 ?_)
              | (go_at_call 194; (with_reducible refine (hpn.out _).mono ?_); rintro e w3 ⟨rfl, hb⟩; have hle5 := hid (rS.out.call hb).le; replace rS := hid (hz2.out _ _ (rS.out.call hb)); clear hb hpn)
              | ((with_reducible refine gateOp (op := .store 27 (.tmp 12) (.tmp 41)) rfl ?_); refine store_mach rfl _ _ rfl w3.heap.size rfl nx rfl 27 _ rS.out.m0 ?_; intro W5 p3 ho hsz hbl; replace rS := hid (rS.out.setM hle5.out p3 ho hbl); clear p3 ho hsz hbl)
              | ((with_reducible refine gate (N := 45) rfl ?_); refine load_mach rfl _ rfl w3.heap.size rfl nx rS.out.m0 ?_)
              | ((with_reducible refine gate (N := 46) rfl ?_); refine load_mach rfl _ rfl b9 rfl (trivM l) rS.out.m2 ?_))
            go_ret2
            exact ⟨by first | (rw [hA.out]; done) | (rw [hA.out]; rfl), rS.out.bel⟩
          · obtain ⟨b, hb, heq⟩ := heqt.out _ _ g2 k2
            rw [hB] at hpn
            cases b with
            | true =>
              have hA := hid (show ans = ((c : Int), 0) from ha.out.trans (ordGo_t h0 (hb.out.1 rfl)))
              clear h0 hB ha hb g2 k2
              generalize nextM m l s q now = nx at *
              go_wp2_with (first
                | ((with_reducible refine gate (N := 37) rfl ?_); refine load_mach rfl _ rfl b10 rfl now rS.out.m0 ?_)
                | ((with_reducible refine gate (N := 38) rfl ?_); refine load_mach rfl _ rfl w.heap.size rfl m rS.out.m2 ?_)
                | (go_at_call 194; (with_reducible refine (hpn.out _).mono ?_); rintro e w3 ⟨rfl, hb⟩; have hle5 := hid (rS.out.call hb).le; replace rS := hid (hz2.out _ _ (rS.out.call hb)); clear hb hpn)
                | ((with_reducible refine gateOp (op := .store 27 (.tmp 12) (.tmp 41)) rfl ?_); refine store_mach rfl _ _ rfl w3.heap.size rfl nx rfl 27 _ rS.out.m0 ?_; intro W5 p3 ho hsz hbl; replace rS := hid (rS.out.setM hle5.out p3 ho hbl); clear p3 ho hsz hbl)
                | ((with_reducible refine gate (N := 45) rfl ?_); refine load_mach rfl _ rfl w3.heap.size rfl nx rS.out.m0 ?_)
                | ((with_reducible refine gate (N := 46) rfl ?_); refine load_mach rfl _ rfl b9 rfl (trivM l) rS.out.m2 ?_))
              go_ret2
              exact ⟨by first | (rw [hA.out]; done) | (rw [hA.out]; rfl), rS.out.bel⟩
            | false =>
              have hA := hid (ha.out.trans (ordGo_n h0 (fun h => by have := hb.out.2 h; cases this)))
              replace g2 := hid g2
              clear h0 hB ha hb k2
              generalize nextM m l s q now = nx at *
              go_wp2_with (first
                | ((with_reducible refine gate (N := 37) rfl ?_); refine load_mach rfl _ rfl b10 rfl now rS.out.m0 ?_)
                | ((with_reducible refine gate (N := 38) rfl ?_); refine load_mach rfl _ rfl w.heap.size rfl m rS.out.m2 ?_)
                | (go_at_call 194; (with_reducible refine (hpn.out _).mono ?_); rintro e w3 ⟨rfl, hb⟩; have hle5 := hid (rS.out.call hb).le; replace rS := hid (hz2.out _ _ (rS.out.call hb)); clear hb hpn)
                | ((with_reducible refine gateOp (op := .store 27 (.tmp 12) (.tmp 41)) rfl ?_); refine store_mach rfl _ _ rfl w3.heap.size rfl nx rfl 27 _ rS.out.m0 ?_; intro W5 p3 ho hsz hbl; replace rS := hid (rS.out.setM hle5.out p3 ho hbl); clear p3 ho hsz hbl)
                | ((with_reducible refine gate (N := 45) rfl ?_); refine load_mach rfl _ rfl w3.heap.size rfl nx rS.out.m0 ?_)
                | ((with_reducible refine gate (N := 46) rfl ?_); refine load_mach rfl _ rfl b9 rfl (trivM l) rS.out.m2 ?_)
                | ((with_reducible refine gate (N := 49) rfl ?_); refine load_mach rfl _ rfl w3.heap.size rfl nx rS.out.m0 ?_)
                | ((with_reducible refine gateOp (op := .store 27 (.tmp 10) (.tmp 49)) rfl ?_); refine store_mach rfl _ _ rfl b10 rfl nx rfl 27 _ rS.out.m1 ?_; intro W6 p3 ho hsz hbl; replace rS := hid (rS.out.drop.setM hle3.out p3 ho hbl); clear p3 ho hsz hbl))
              go_roundw
              case rel => exact ⟨c + 1, f, nx, s2, by go_num, by omega, g2, hA, rS.out⟩
              case measure => simp [intOf]; omega
    · rw [obpAns_r h hn]
      have hw := hid (show false = decide (1 ≤ n ∧ n ≤ 16) from (decide_eq_false hn).symm)
      rw [h] at hcode
      replace hkm := hid hkm; clear h hn; replace g := hid g
      go_enter Try.func84, Try.ntmps84
      go_wp2_with (first
        | ((with_reducible refine gate (N := 14) rfl ?_); refine load_mach rfl _ rfl w.heap.size rfl m hS.out.m0 ?_)
        | (go_at_call 192; (with_reducible refine (hcode.out _).mono ?_); rintro e w1 ⟨rfl, hb⟩; replace hS := hid (hS.out.call hb); clear hb hcode)
        | (go_at_call 117; (with_reducible refine (l01In_any n 1 16 false hw.out _).mono ?_); rintro e w' ⟨rfl, rfl⟩))
      go_ret2
      exact ⟨rfl, hS.out.bel⟩
end Go.Proofs.Ythmcdfjijkecfaa

/- Machines of states do not hang on the table: states that do the same have the same machine. -/
namespace Go.Proofs.Ythmcdfjijkecfaa
set_option linter.unusedVariables false
set_option linter.unusedSimpArgs false

/-- A relation between the states of two tables that goes on. -/
structure Bis (T U : Tab) (R : Nat → Nat → Prop) : Prop where
  L : T.L = U.L
  l : ∀ {a b}, R a b → a < T.n
  r : ∀ {a b}, R a b → b < U.n
  ot : ∀ {a b}, R a b → ∀ x, x < T.L → T.ot a x = U.ot b x
  nx : ∀ {a b}, R a b → ∀ x, x < T.L → R (T.nx a x) (U.nx b x)
/-- Two states that do the same. -/
def Sim (T : Tab) (p : Nat) (U : Tab) (q : Nat) : Prop := ∃ R, Bis T U R ∧ R p q

section
variable {T U V : Tab} {R : Nat → Nat → Prop}
theorem Sim.refl (hT : T.Ok) {q : Nat} (hq : q < T.n) : Sim T q T q :=
  ⟨fun a b => a = b ∧ a < T.n, ⟨rfl, fun h => h.2, fun h => h.1 ▸ h.2, fun h x _ => by rw [h.1], fun h x hx => ⟨by rw [h.1], hT.nx _ x h.2 hx⟩⟩, rfl, hq⟩
theorem Sim.symm {p q : Nat} (h : Sim T p U q) : Sim U q T p := by
  obtain ⟨R, h, hr⟩ := h
  exact ⟨fun a b => R b a, ⟨h.L.symm, fun k => h.r k, fun k => h.l k, fun k x hx => (h.ot k x (by rw [h.L]; exact hx)).symm, fun k x hx => h.nx k x (by rw [h.L]; exact hx)⟩, hr⟩
theorem Sim.trans {p q r : Nat} (h : Sim T p U q) (k : Sim U q V r) : Sim T p V r := by
  obtain ⟨R, h, hr⟩ := h
  obtain ⟨S, k, ks⟩ := k
  refine ⟨fun a c => ∃ b, R a b ∧ S b c, ⟨h.L.trans k.L, fun ⟨_, h1, _⟩ => h.l h1, fun ⟨_, _, h2⟩ => k.r h2, fun ⟨b, h1, h2⟩ x hx => ?_, fun ⟨b, h1, h2⟩ x hx => ?_⟩, q, hr, ks⟩
  · exact (h.ot h1 x hx).trans (k.ot h2 x (by rw [← h.L]; exact hx))
  · exact ⟨_, h.nx h1 x hx, k.nx h2 x (by rw [← h.L]; exact hx)⟩

theorem Bis.cls (h : Bis T U R) : ∀ k a b a' b', R a b → R a' b' → (cls T k a = cls T k a' ↔ cls U k b = cls U k b')
  | 0, _, _, _, _, _, _ => ⟨fun _ => rfl, fun _ => rfl⟩
  | k + 1, a, b, a', b', h1, h2 => by
    rw [cls_iff, cls_iff, like_iff, like_iff, Bis.cls h k _ _ _ _ h1 h2]
    constructor
    · rintro ⟨e1, e2, e3⟩
      refine ⟨e1, fun x hx => ?_, fun x hx => ?_⟩
      · have hx' : x < T.L := by rw [h.L]; exact hx
        rw [← h.ot h1 x hx', ← h.ot h2 x hx']; exact e2 x hx'
      · have hx' : x < T.L := by rw [h.L]; exact hx
        exact (Bis.cls h k _ _ _ _ (h.nx h1 x hx') (h.nx h2 x hx')).1 (e3 x hx')
    · rintro ⟨e1, e2, e3⟩
      refine ⟨e1, fun x hx => ?_, fun x hx => ?_⟩
      · rw [h.ot h1 x hx, h.ot h2 x hx]; exact e2 x (by rw [← h.L]; exact hx)
      · exact (Bis.cls h k _ _ _ _ (h.nx h1 x hx) (h.nx h2 x hx)).2 (e3 x (by rw [← h.L]; exact hx))

theorem stable_ex (hT : T.Ok) : ∃ k, k ≤ T.n ∧ Stable T k := by
  apply Classical.byContradiction
  intro hn
  have key : ∀ j, j ≤ T.n → j + 1 ≤ cnt1 T (j + 1) T.n := by
    intro j
    induction j with
    | zero => intro _; exact cnt1_pos T 0 T.n hT.pos
    | succ j ih =>
      intro hj
      have h1 := ih (by omega)
      have h2 := stable_or T j (fun hs => hn ⟨j + 1, hj, hs⟩)
      show j + 1 + 1 ≤ cnt1 T (j + 2) T.n
      omega
  have h1 := key T.n (Nat.le_refl _)
  have h2 := cnt1_le T (T.n + 1) T.n
  omega
theorem fix_big (hT : T.Ok) (d q : Nat) (hq : q < T.n) : Go.Proofs.Ythmcdfjijkecfaa.cls T (T.n + d) q = fix T q := by
  obtain ⟨k, hk, hs⟩ := stable_ex hT
  have h1 := stable_all hT hs (T.n + d - k) q hq
  rw [show k + (T.n + d - k) = T.n + d by omega] at h1
  rw [h1, fix_of hT hk hs q hq]
theorem fix_fix (T : Tab) (q : Nat) : fix T (fix T q) = fix T q := cls_cls T T.n q
theorem fix_ot (T : Tab) (q x : Nat) (hx : x < T.L) : T.ot (fix T q) x = T.ot q x := ((like_iff _ _ _ _).1 (cls_like T T.n q)).2.1 x hx
theorem fix_nx (hT : T.Ok) {q x : Nat} (hq : q < T.n) (hx : x < T.L) : fix T (T.nx (fix T q) x) = fix T (T.nx q x) := by
  have hf := fix_lt (T := T) q hq
  have h : Go.Proofs.Ythmcdfjijkecfaa.cls T (T.n + 1 + 1) (fix T q) = Go.Proofs.Ythmcdfjijkecfaa.cls T (T.n + 1 + 1) q := by
    have h1 := fix_big hT 2 _ hf
    have h2 := fix_big hT 2 _ hq
    rw [show T.n + 2 = T.n + 1 + 1 by omega] at h1 h2
    rw [h1, h2, fix_fix]
  exact ((like_iff _ _ _ _).1 ((cls_iff T (T.n + 1) _ _).1 h)).2.2 x hx
theorem Bis.fix (h : Bis T U R) (hT : T.Ok) (hU : U.Ok) {a b a' b' : Nat} (h1 : R a b) (h2 : R a' b') : fix T a = fix T a' ↔ fix U b = fix U b' := by
  rw [← fix_big hT U.n a (h.l h1), ← fix_big hT U.n a' (h.l h2), ← fix_big hU T.n b (h.r h1), ← fix_big hU T.n b' (h.r h2), Nat.add_comm U.n T.n]
  exact h.cls _ _ _ _ _ h1 h2

/-- Classes of states that do the same. -/
def Rc (T U : Tab) (R : Nat → Nat → Prop) (c d : Nat) : Prop := ∃ a b, R a b ∧ c = Go.Proofs.Ythmcdfjijkecfaa.fix T a ∧ d = Go.Proofs.Ythmcdfjijkecfaa.fix U b
theorem Rc.of {a b : Nat} (h : R a b) : Rc T U R (Go.Proofs.Ythmcdfjijkecfaa.fix T a) (Go.Proofs.Ythmcdfjijkecfaa.fix U b) := ⟨a, b, h, rfl, rfl⟩
theorem Rc.inj (h : Bis T U R) (hT : T.Ok) (hU : U.Ok) {c d c' d' : Nat} (h1 : Rc T U R c d) (h2 : Rc T U R c' d') : c = c' ↔ d = d' := by
  obtain ⟨a, b, hr, rfl, rfl⟩ := h1
  obtain ⟨a', b', hr', rfl, rfl⟩ := h2
  exact h.fix hT hU hr hr'
theorem Rc.nx (h : Bis T U R) (hT : T.Ok) (hU : U.Ok) {c d x : Nat} (h1 : Rc T U R c d) (hx : x < T.L) : Rc T U R (Go.Proofs.Ythmcdfjijkecfaa.fix T (T.nx c x)) (Go.Proofs.Ythmcdfjijkecfaa.fix U (U.nx d x)) := by
  obtain ⟨a, b, hr, rfl, rfl⟩ := h1
  rw [fix_nx hT (h.l hr) hx, fix_nx hU (h.r hr) (by rw [← h.L]; exact hx)]
  exact Rc.of (h.nx hr x hx)
theorem Rc.ot (h : Bis T U R) {c d x : Nat} (h1 : Rc T U R c d) (hx : x < T.L) : T.ot c x = U.ot d x := by
  obtain ⟨a, b, hr, rfl, rfl⟩ := h1
  rw [fix_ot T a x hx, fix_ot U b x (by rw [← h.L]; exact hx)]
  exact h.ot hr x hx

/-- Lists in step. -/
inductive Par (S : Nat → Nat → Prop) : List Nat → List Nat → Prop
  | nil : Par S [] []
  | cons {a b : Nat} {l m : List Nat} : S a b → Par S l m → Par S (a :: l) (b :: m)
section
variable {S : Nat → Nat → Prop} {l m : List Nat}
theorem Par.length (h : Par S l m) : l.length = m.length := by
  induction h with
  | nil => rfl
  | cons _ _ ih => simp [ih]
theorem Par.snoc {a b : Nat} (h : Par S l m) (hs : S a b) : Par S (l ++ [a]) (m ++ [b]) := by
  induction h with
  | nil => exact .cons hs .nil
  | cons h1 _ ih => exact .cons h1 ih
theorem Par.get (h : Par S l m) : ∀ {i a b : Nat}, l[i]? = some a → m[i]? = some b → S a b := by
  induction h with
  | nil => intro i a b h1; simp at h1
  | cons hs _ ih =>
    intro i a b h1 h2
    cases i with
    | zero => simp at h1 h2; subst h1; subst h2; exact hs
    | succ i => simp at h1 h2; exact ih h1 h2
theorem Par.mem (h : Par S l m) (hi : ∀ {c d c' d'}, S c d → S c' d' → (c = c' ↔ d = d')) {c d : Nat} (hs : S c d) : c ∈ l ↔ d ∈ m := by
  induction h with
  | nil => simp
  | cons h1 _ ih => rw [List.mem_cons, List.mem_cons, ih, hi hs h1]
theorem Par.idxOf (h : Par S l m) (hi : ∀ {c d c' d'}, S c d → S c' d' → (c = c' ↔ d = d')) {c d : Nat} (hs : S c d) : l.idxOf c = m.idxOf d := by
  induction h with
  | nil => rfl
  | @cons a b l m h1 _ ih =>
    rw [List.idxOf_cons, List.idxOf_cons, ih]
    have := hi h1 hs
    by_cases e : a = c
    · have e2 := this.1 e
      subst e; subst e2; simp
    · have e2 : ¬ b = d := fun k => e (this.2 k)
      have f1 : (a == c) = false := by simpa using e
      have f2 : (b == d) = false := by simpa using e2
      rw [f1, f2]
end
theorem par_meet (h : Bis T U R) (hT : T.Ok) (hU : U.Ok) {l m : List Nat} {c d : Nat} (hp : Par (Rc T U R) l m) (hs : Rc T U R c d) : Par (Rc T U R) (meet l c) (meet m d) := by
  have hm := hp.mem (fun h1 h2 => Rc.inj h hT hU h1 h2) hs
  unfold meet
  by_cases e : c ∈ l
  · rw [if_pos e, if_pos (hm.1 e)]; exact hp
  · rw [if_neg e, if_neg (fun k => e (hm.2 k))]; exact hp.snoc hs
theorem par_meets (h : Bis T U R) (hT : T.Ok) (hU : U.Ok) {l m : List Nat} {s t : Nat} (hp : Par (Rc T U R) l m) (hs : Rc T U R s t) : ∀ x, x ≤ T.L → Par (Rc T U R) (meets T (Go.Proofs.Ythmcdfjijkecfaa.fix T) s l x) (meets U (Go.Proofs.Ythmcdfjijkecfaa.fix U) t m x)
  | 0, _ => hp
  | x + 1, hx => par_meet h hT hU (par_meets h hT hU hp hs x (by omega)) (hs.nx h hT hU (by omega))
theorem par_bfs (h : Bis T U R) (hT : T.Ok) (hU : U.Ok) {p q : Nat} (hr : R p q) : ∀ i, Par (Rc T U R) (bfs T (Go.Proofs.Ythmcdfjijkecfaa.fix T) p i) (bfs U (Go.Proofs.Ythmcdfjijkecfaa.fix U) q i)
  | 0 => .cons (Rc.of hr) .nil
  | i + 1 => by
    have ih := par_bfs h hT hU hr i
    have hl := ih.length
    unfold bfs
    rcases Nat.lt_or_ge i (bfs T (Go.Proofs.Ythmcdfjijkecfaa.fix T) p i).length with hi | hi
    · rw [List.getElem?_eq_getElem hi, List.getElem?_eq_getElem (show i < (bfs U (Go.Proofs.Ythmcdfjijkecfaa.fix U) q i).length by omega)]
      dsimp only
      have hs := ih.get (List.getElem?_eq_getElem hi) (List.getElem?_eq_getElem (show i < (bfs U (Go.Proofs.Ythmcdfjijkecfaa.fix U) q i).length by omega))
      have := par_meets h hT hU ih hs T.L (Nat.le_refl _)
      rw [h.L] at this ⊢
      exact this
    · rw [List.getElem?_eq_none hi, List.getElem?_eq_none (show (bfs U (Go.Proofs.Ythmcdfjijkecfaa.fix U) q i).length ≤ i by omega)]
      exact ih
theorem fin_big (hT : T.Ok) {q : Nat} (hq : q < T.n) (d : Nat) : bfs T (Go.Proofs.Ythmcdfjijkecfaa.fix T) q (T.n + d) = fin T (Go.Proofs.Ythmcdfjijkecfaa.fix T) q :=
  bfs_stay T _ (bfs_uniq hT (fun r hr => fix_lt r hr) q hq T.n).len d
theorem par_fin (h : Bis T U R) (hT : T.Ok) (hU : U.Ok) {p q : Nat} (hr : R p q) : Par (Rc T U R) (fin T (Go.Proofs.Ythmcdfjijkecfaa.fix T) p) (fin U (Go.Proofs.Ythmcdfjijkecfaa.fix U) q) := by
  rw [← fin_big hT (h.l hr) U.n, ← fin_big hU (h.r hr) T.n, Nat.add_comm U.n T.n]
  exact par_bfs h hT hU hr _
theorem gth_eq (h : Bis T U R) (hT : T.Ok) (hU : U.Ok) {l m : List Nat} (hp : Par (Rc T U R) l m) : gth T (Go.Proofs.Ythmcdfjijkecfaa.fix T) l = gth U (Go.Proofs.Ythmcdfjijkecfaa.fix U) m := by
  have hl := hp.length
  have key : ∀ p, (p / 3 < l.length ∨ p / 3 = l.length ∧ p % 3 < 0) ∧ p % 3 < U.L → Rc T U R (l.getD (p / 3) 0) (m.getD (p / 3) 0) := fun p hp' => by
    have h1 : p / 3 < l.length := by omega
    have h2 : p / 3 < m.length := by omega
    rw [List.getD_eq_getElem?_getD, List.getD_eq_getElem?_getD, List.getElem?_eq_getElem h1, List.getElem?_eq_getElem h2]
    exact hp.get (List.getElem?_eq_getElem h1) (List.getElem?_eq_getElem h2)
  unfold gth gthP
  rw [← hl, h.L]
  congr 1
  · funext p
    by_cases e : (p / 3 < l.length ∨ p / 3 = l.length ∧ p % 3 < 0) ∧ p % 3 < U.L
    · rw [if_pos e, if_pos e]
      exact hp.idxOf (fun h1 h2 => Rc.inj h hT hU h1 h2) ((key p e).nx h hT hU (by rw [h.L]; exact e.2))
    · rw [if_neg e, if_neg e]
  · funext p
    by_cases e : (p / 3 < l.length ∨ p / 3 = l.length ∧ p % 3 < 0) ∧ p % 3 < U.L
    · rw [if_pos e, if_pos e]
      exact (key p e).ot h (by rw [h.L]; exact e.2)
    · rw [if_neg e, if_neg e]
/-- States that do the same have the same machine. -/
theorem Sim.canon {p q : Nat} (h : Sim T p U q) (hT : T.Ok) (hU : U.Ok) : fromM T p = fromM U q ∧ fromC T p = fromC U q := by
  obtain ⟨R, h, hr⟩ := h
  have hp := par_fin h hT hU hr
  have hl := hp.length
  unfold fromM fromC
  rw [hl, gth_eq h hT hU hp]
  exact ⟨rfl, rfl⟩
theorem fromC_eq (T : Tab) (q : Nat) : fromC T q = 0 ↔ (fin T (Go.Proofs.Ythmcdfjijkecfaa.fix T) q).length ≤ 16 := by
  unfold fromC
  by_cases h : (fin T (Go.Proofs.Ythmcdfjijkecfaa.fix T) q).length ≤ 16
  · rw [if_pos h]; exact ⟨fun _ => h, fun _ => rfl⟩
  · rw [if_neg h]; exact ⟨fun k => absurd k (by decide), fun k => absurd k h⟩
theorem fin_zero (T : Tab) (q : Nat) : (fin T (Go.Proofs.Ythmcdfjijkecfaa.fix T) q)[0]? = some (Go.Proofs.Ythmcdfjijkecfaa.fix T q) := by
  obtain ⟨r, hr⟩ := bfs_pre T (Go.Proofs.Ythmcdfjijkecfaa.fix T) q 0 T.n
  rw [Nat.zero_add] at hr
  unfold fin
  rw [hr]; simp [bfs]
/-- A table's few states are no limit. -/
theorem fromC_few (hT : T.Ok) {q : Nat} (hq : q < T.n) (hn : T.n ≤ 16) : fromC T q = 0 := by
  rw [fromC_eq]
  exact Nat.le_trans (bfs_uniq hT (fun r hr => fix_lt r hr) q hq T.n).len hn
/-- The machine of a state does what the state does. -/
theorem Sim.of_from (hT : T.Ok) {q : Nat} (hq : q < T.n) (h3 : T.L ≤ 3) (hc : fromC T q = 0) {s : Nat} (hs : (fromM T q).S = s) : Sim (tabOf (fromM T q) T.L s) 0 T q := by
  have h16 := (fromC_eq T q).1 hc
  have hM : fromM T q = gth T (Go.Proofs.Ythmcdfjijkecfaa.fix T) (fin T (Go.Proofs.Ythmcdfjijkecfaa.fix T) q) := by unfold fromM; rw [if_pos h16]
  rw [hM] at hs ⊢
  have hcl := fin_closed hT (c := Go.Proofs.Ythmcdfjijkecfaa.fix T) (fun r hr => fix_lt r hr) hq
  have hf0 := fin_zero T q
  generalize fin T (Go.Proofs.Ythmcdfjijkecfaa.fix T) q = st at *
  have hs' : s = st.length := by
    have : ((st.length : Nat) : Int) = s := hs
    omega
  subst hs'
  have lt : ∀ {i c : Nat}, st[i]? = some c → i < st.length := fun h => (List.getElem?_eq_some_iff.1 h).1
  refine ⟨fun i a => st[i]? = some (Go.Proofs.Ythmcdfjijkecfaa.fix T a) ∧ a < T.n, ⟨rfl, fun h => lt h.1, fun h => h.2, fun {i a} h x hx => ?_, fun {i a} h x hx => ⟨?_, hT.nx _ x h.2 hx⟩⟩, hf0, hq⟩
  · have hi := lt h.1
    have hx' : x < T.L := hx
    show (gth T (Go.Proofs.Ythmcdfjijkecfaa.fix T) st).ot (i * 3 + x) = _
    unfold gth gthP
    dsimp only
    rw [if_pos (by omega), show (i * 3 + x) / 3 = i by omega, show (i * 3 + x) % 3 = x by omega, List.getD_eq_getElem?_getD, h.1]
    exact fix_ot T a x hx'
  · have hi := lt h.1
    have hx' : x < T.L := hx
    show st[(gth T (Go.Proofs.Ythmcdfjijkecfaa.fix T) st).nx (i * 3 + x)]? = _
    have e : (gth T (Go.Proofs.Ythmcdfjijkecfaa.fix T) st).nx (i * 3 + x) = st.idxOf (Go.Proofs.Ythmcdfjijkecfaa.fix T (T.nx a x)) := by
      unfold gth gthP
      dsimp only
      rw [if_pos (by omega), show (i * 3 + x) / 3 = i by omega, show (i * 3 + x) % 3 = x by omega, List.getD_eq_getElem?_getD, h.1]
      show st.idxOf (Go.Proofs.Ythmcdfjijkecfaa.fix T (T.nx (Go.Proofs.Ythmcdfjijkecfaa.fix T a) x)) = _
      rw [fix_nx hT h.2 hx']
    have hmem : Go.Proofs.Ythmcdfjijkecfaa.fix T (T.nx a x) ∈ st := by
      have := hcl _ (List.mem_of_getElem? h.1) x hx'
      rwa [fix_nx hT h.2 hx'] at this
    rw [e]
    have hlt := List.idxOf_lt_length_of_mem hmem
    rw [List.getElem?_eq_getElem hlt, List.getElem_idxOf hlt]
end

section
variable {m m' k k' : Mach} {l s s' t t' : Nat}
theorem Sim.prod {a a' b b' : Nat} (g : Good m l s) (h : Sim (tabOf m l s) a (tabOf m' l s') a') (h' : Sim (tabOf k l t) b (tabOf k' l t') b') :
    Sim (prodT m k l s t) (a * t + b) (prodT m' k' l s' t') (a' * t' + b') := by
  obtain ⟨R, h, hr⟩ := h
  obtain ⟨S, h', hs⟩ := h'
  refine ⟨fun P P' => ∃ a b a' b', R a a' ∧ S b b' ∧ P = a * t + b ∧ P' = a' * t' + b', ⟨rfl, ?_, ?_, ?_, ?_⟩, a, b, a', b', hr, hs, rfl, rfl⟩
  · rintro P P' ⟨a, b, a', b', h1, h2, rfl, rfl⟩
    exact prod_in (h.l h1) (h'.l h2)
  · rintro P P' ⟨a, b, a', b', h1, h2, rfl, rfl⟩
    exact prod_in (h.r h1) (h'.r h2)
  · rintro P P' ⟨a, b, a', b', h1, h2, rfl, rfl⟩ x hx
    have hx' : x < l := hx
    have hb : b < t := h'.l h2
    have hb' : b' < t' := h'.r h2
    rw [prod_ot m k l s x hb rfl, prod_ot m' k' l s' x hb' rfl]
    have e : m.ot (a * 3 + x) = m'.ot (a' * 3 + x) := h.ot h1 x hx'
    rw [← e]
    exact h'.ot h2 _ (g.ot a x (h.l h1) hx')
  · rintro P P' ⟨a, b, a', b', h1, h2, rfl, rfl⟩ x hx
    have hx' : x < l := hx
    have hb : b < t := h'.l h2
    have hb' : b' < t' := h'.r h2
    rw [prod_nx m k l s x hb rfl, prod_nx m' k' l s' x hb' rfl]
    have e : m.ot (a * 3 + x) = m'.ot (a' * 3 + x) := h.ot h1 x hx'
    rw [← e]
    exact ⟨_, _, _, _, h.nx h1 x hx', h'.nx h2 _ (g.ot a x (h.l h1) hx'), rfl, rfl⟩
/-- Behind a trivial state comes the other one alone. -/
theorem Sim.triv {q : Nat} (g : Good k l t) (hq : q < t) : Sim (prodT (trivM l) k l 1 t) (0 * t + q) (tabOf k l t) q := by
  refine ⟨fun P b => P = 0 * t + b ∧ b < t, ⟨rfl, ?_, fun h => h.2, ?_, ?_⟩, rfl, hq⟩
  · rintro P b ⟨rfl, hb⟩
    exact prod_in (by omega) hb
  · rintro P b ⟨rfl, hb⟩ x hx
    have hx' : x < l := hx
    rw [prod_ot (trivM l) k l 1 x hb rfl]
    show k.ot (b * 3 + (if 0 * 3 + x < l then 0 * 3 + x else 0)) = k.ot (b * 3 + x)
    rw [if_pos (by omega), show 0 * 3 + x = x by omega]
  · rintro P b ⟨rfl, hb⟩ x hx
    have hx' : x < l := hx
    rw [prod_nx (trivM l) k l 1 x hb rfl]
    refine ⟨?_, g.nx b x hb hx'⟩
    show 0 * t + k.nx (b * 3 + (if 0 * 3 + x < l then 0 * 3 + x else 0)) = 0 * t + k.nx (b * 3 + x)
    rw [if_pos (by omega), show 0 * 3 + x = x by omega]
end
end Go.Proofs.Ythmcdfjijkecfaa

/- Products of lists of states: the program's productOf. -/
namespace Go.Proofs.Ythmcdfjijkecfaa
open Go.RowKit
set_option linter.unusedVariables false
set_option linter.unusedSimpArgs false

/-- The product of a list, from what has been made: fs i is (machine, its states, the state). -/
def chn (fs : Nat → Mach × Nat × Nat) (l : Nat) : Nat → Nat → Mach → Mach × Int
  | 0, _, now => (now, 0)
  | f + 1, i, now => if nextC (fs i).1 l (fs i).2.1 (fs i).2.2 now = 0 then chn fs l f (i + 1) (nextM (fs i).1 l (fs i).2.1 (fs i).2.2 now) else (⟨0, 0, fun _ => 0, fun _ => 0⟩, 3)
theorem chn_3 {fs : Nat → Mach × Nat × Nat} {l f i : Nat} {now : Mach} (h : nextC (fs i).1 l (fs i).2.1 (fs i).2.2 now = 3) : chn fs l (f + 1) i now = (⟨0, 0, fun _ => 0, fun _ => 0⟩, 3) := by
  unfold chn; rw [h, if_neg (by decide)]
theorem chn_0 {fs : Nat → Mach × Nat × Nat} {l f i : Nat} {now : Mach} (h : nextC (fs i).1 l (fs i).2.1 (fs i).2.2 now = 0) : chn fs l (f + 1) i now = chn fs l f (i + 1) (nextM (fs i).1 l (fs i).2.1 (fs i).2.2 now) := by
  conv => lhs; unfold chn
  rw [if_pos h]

theorem sz_factor : (Try.prog.info? 180).map (·.size) = some 2 := by kernel_rfl
set_option maxHeartbeats 4000000 in
set_option maxRecDepth 4000 in
theorem productOf_any (w : World) (g cap n l : Nat) (fs : Nat → Mach × Nat × Nat) (bs : Nat → Nat) (l2 : 2 ≤ l) (l3 : l ≤ 3) (hn : n ≤ 1000)
    (hrd : ∀ W, Below w.heap.size w W → ∀ i, i < n → W.rangeAt g (i * 2) [.pointer (some ⟨bs i, 0, none⟩), .int .i64 ((fs i).2.2 : Nat)] ∧ MB W 27 (bs i) (fs i).1)
    (hgd : ∀ i, i < n → Good (fs i).1 l (fs i).2.1 ∧ (fs i).2.2 < (fs i).2.1) :
    Calls Try.prog 195 #[.int .i64 l, .slice (some ⟨g, 0, none⟩) n cap] w fun e w' => e = .returned (.tuple #[.agg (mcells (chn fs l n 0 (trivM l)).1), .int .i64 (chn fs l n 0 (trivM l)).2]) ∧ Below w.heap.size w w' := by
  have hz := zero_mach
  have hS := hid ((St.start w).newMB ⟨0, 0, fun _ => 0, fun _ => 0⟩ 27)
  replace hrd := hid hrd
  replace hgd := hid hgd
  have htr := hid (fun W => trivialMachine_any W l l3)
  have hpr := hid (fun i (hi : i < n) b W now sN (gN : Good now l sN) hb hm => (by have h := product_any b (bs i) W now (fs i).1 hb hm l sN (fs i).2.1 gN (hgd.out i hi).1 0 (fs i).2.2 gN.s1 (hgd.out i hi).2; rw [(next_M (fs i).1 l (fs i).2.1 (fs i).2.2 now sN gN).1, (next_M (fs i).1 l (fs i).2.1 (fs i).2.2 now sN gN).2] at h; exact h : Calls Try.prog 191 #[.pointer (some ⟨b, 0, none⟩), .int .i64 0, .pointer (some ⟨bs i, 0, none⟩), .int .i64 ((fs i).2.2 : Nat)] W fun e w' => e = .returned (.tuple #[.agg (mcells (nextM (fs i).1 l (fs i).2.1 (fs i).2.2 now)), .int .i64 (nextC (fs i).1 l (fs i).2.1 (fs i).2.2 now)]) ∧ Below W.heap.size W w'))
  have hnc := hid (fun i (hi : i < n) now sN gN => next_cases (fs i).1 l (fs i).2.1 (fs i).2.2 (hgd.out i hi).2 (hgd.out i hi).1 now sN gN)
  have htg := hid (trivM_good l l2 l3)
  have hz2 := hid (fun L W (h : St w.heap.size w L W) => h.newMB ⟨0, 0, fun _ => 0, fun _ => 0⟩ 27)
  obtain ⟨ans, hans⟩ : ∃ a, a = chn fs l n 0 (trivM l) := ⟨_, rfl⟩
  rw [← hans]
  replace hans := hid hans
  generalize hzs : mcells ⟨0, 0, fun _ => 0, fun _ => 0⟩ = zs at *
  replace hzs := hid hzs
  go_enter Try.func195, Try.ntmps195
  go_upto_region 2 with (first
    | (go_at_call 190; (with_reducible refine (htr.out _).mono ?_); rintro e w2 ⟨rfl, hb⟩; have hle2 := hid (hS.out.call hb).le; replace hS := hid (hz2.out _ _ (hS.out.call hb)); clear hb)
    | ((with_reducible refine gateOp (op := .store 27 (.tmp 6) (.tmp 11)) rfl ?_); refine store_mach rfl _ _ rfl w2.heap.size rfl (trivM l) rfl 27 _ hS.out.m0 ?_; intro W1 p3 ho hsz hbl; replace hS := hid (hS.out.setM hle2.out p3 ho hbl); clear p3 ho hsz hbl))
  generalize w2.heap.size = b6 at *
  go_wp2
  go_loopw [14] (fun j wr => ∃ (i f : Nat) (now : Mach) (sN : Nat), j = .int .i64 i ∧ i + f = n ∧ Hid (Good now l sN) ∧ Hid (ans = chn fs l f i now) ∧ St w.heap.size w [Asn.mb 27 b6 now, Asn.mb 27 w.heap.size ⟨0, 0, fun _ => 0, fun _ => 0⟩] wr) (fun j _ => n - (intOf j).toNat)
  case atStart => exact ⟨0, n, _, _, rfl, Nat.zero_add _, htg, hans, hS.out⟩
  case round =>
    obtain ⟨i, f, now, sN, rfl, hcf, gN, ha, rS⟩ := hrel
    clear hS hans
    replace rS := hid rS
    rcases f with _ | f
    · have dc : decide ((i : Int) < (n : Int)) = false := decide_eq_false (by omega)
      have hA := hid (show ans = (now, 0) from ha.out)
      go_wp2_with (first
        | ((with_reducible refine gate (N := 31) rfl ?_); refine load_mach rfl _ rfl b6 rfl now rS.out.m0 ?_)
        | ((with_reducible refine gateOp (op := .store 27 (.tmp 4) (.tmp 31)) rfl ?_); refine store_mach rfl _ _ rfl w.heap.size rfl now rfl 27 _ rS.out.m1 ?_; intro W3 p2 ho hsz hbl; have pB := hid (hbl _ _ (Nat.le_refl _) rS.out.bel); replace p2 := hid p2; clear ho hsz hbl))
      exact ret_mach_i rfl rfl rfl p2.out rfl ⟨by rw [hA.out], pB.out⟩
    · have dc : decide ((i : Int) < (n : Int)) = true := decide_eq_true (by omega)
      have hin : i < n := by omega
      have i0 : (0 : Int) ≤ (i : Int) := Int.natCast_nonneg _
      have i1 : (i : Int) < (n : Int) := by omega
      have rg := hid (hrd.out _ rS.out.bel i hin).1
      have hmb := hid (fun W hW => (hrd.out W hW i hin).2)
      have hpn := hid (fun W hb hm => hpr.out i hin b6 W now sN gN.out hb hm)
      have hle6 := hid (show w.heap.size ≤ b6 from hle2.out)
      rcases hnc.out i hin now sN gN.out with ⟨h3, hB⟩ | ⟨h0, hB, s2, g2, k2⟩
      · have hA := hid (show ans = _ from ha.out.trans (chn_3 h3))
        rw [h3] at hpn
        clear h3 hB ha
        generalize nextM (fs i).1 l (fs i).2.1 (fs i).2.2 now = nx at *
        generalize (fs i).2.2 = qi at *
        generalize bs i = bi at *
        go_wp2_with (first
          | ((with_reducible refine gate (N := 17) rfl ?_); refine wpList_load_mid rfl 180 _ rfl g (i * 2) rfl _ _ rg.out Try.underlying180 rfl sz_factor ?_; replace rS := hid (rS.out.newBlk #[.pointer (some ⟨bi, 0, none⟩), .int .i64 (qi : Int)] 180); clear rg)
          | (go_at_call 191; (with_reducible refine (hpn.out _ rS.out.m1 (hmb.out _ rS.out.bel)).mono ?_); rintro e w3 ⟨rfl, hb⟩; replace rS := hid (rS.out.call hb).drop; clear hb hpn)
          | ((with_reducible refine gateOp (op := .store 27 (.tmp 6) (.tmp 24)) rfl ?_); refine store_mach rfl _ _ rfl b6 rfl nx rfl 27 _ rS.out.m0 ?_; intro W5 p3 ho hsz hbl; replace rS := hid (rS.out.setM hle6.out p3 ho hbl); clear p3 ho hsz hbl)
          | ((with_reducible refine gate (N := 28) rfl ?_); refine build_zero rfl rfl ?_)
          | ((with_reducible refine gateOp (op := .store 27 (.tmp 4) (.tmp 28)) rfl ?_); refine store_mach rfl _ _ rfl w.heap.size rfl ⟨0, 0, fun _ => 0, fun _ => 0⟩ rfl 27 _ rS.out.m1 ?_; intro W3 p2 ho hsz hbl; have pB := hid (hbl _ _ (Nat.le_refl _) rS.out.bel); replace p2 := hid p2; clear ho hsz hbl))
        exact ret_mach_i rfl rfl rfl p2.out rfl ⟨by rw [hA.out], pB.out⟩
      · have hA := hid (ha.out.trans (chn_0 h0))
        replace g2 := hid g2
        rw [h0] at hpn
        clear h0 hB ha k2
        generalize nextM (fs i).1 l (fs i).2.1 (fs i).2.2 now = nx at *
        generalize (fs i).2.2 = qi at *
        generalize bs i = bi at *
        go_wp2_with (first
          | ((with_reducible refine gate (N := 17) rfl ?_); refine wpList_load_mid rfl 180 _ rfl g (i * 2) rfl _ _ rg.out Try.underlying180 rfl sz_factor ?_; replace rS := hid (rS.out.newBlk #[.pointer (some ⟨bi, 0, none⟩), .int .i64 (qi : Int)] 180); clear rg)
          | (go_at_call 191; (with_reducible refine (hpn.out _ rS.out.m1 (hmb.out _ rS.out.bel)).mono ?_); rintro e w3 ⟨rfl, hb⟩; replace rS := hid (rS.out.call hb).drop; clear hb hpn)
          | ((with_reducible refine gateOp (op := .store 27 (.tmp 6) (.tmp 24)) rfl ?_); refine store_mach rfl _ _ rfl b6 rfl nx rfl 27 _ rS.out.m0 ?_; intro W5 p3 ho hsz hbl; replace rS := hid (rS.out.setM hle6.out p3 ho hbl); clear p3 ho hsz hbl))
        go_roundw
        case rel => exact ⟨i + 1, f, nx, s2, by go_num, by omega, g2, hA, rS.out⟩
        case measure => simp [intOf]; omega
end Go.Proofs.Ythmcdfjijkecfaa
