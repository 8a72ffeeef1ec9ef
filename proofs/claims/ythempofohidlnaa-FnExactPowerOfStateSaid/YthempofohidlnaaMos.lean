/- MachineOfState: what the program and the reference answer. -/
import Derived.Test.YthempofohidlnaaStart
import Derived.Test.YthempofohidlnaaLawLevel
namespace Go.Proofs.Ythempofohidlnaa
open Go.RowKit
set_option linter.unusedVariables false
set_option linter.unusedSimpArgs false


open Classical in
/-- What MachineOfState answers. -/
noncomputable def mosAns (m : Mach) (q : Int) : Mach × Int := if codeI m { data := #[] } [q] = 0 then (fromM (tabOf m m.L.toNat m.S.toNat) q.toNat, 0) else (⟨0, 0, fun _ => 0, fun _ => 0⟩, codeI m { data := #[] } [q])
theorem mosAns_0 {m : Mach} {l s q : Nat} (g : Good m l s) (hq : q < s) : mosAns m q = (fromM (tabOf m l s) q, 0) := by
  unfold mosAns; rw [if_pos (codeI_one g ⟨by omega, by omega⟩), g.L, g.S]; rfl
theorem mosAns_2 {m : Mach} {l s : Nat} {q : Int} (g : Good m l s) (hq : ¬ (0 ≤ q ∧ q < (s : Int))) : mosAns m q = (⟨0, 0, fun _ => 0, fun _ => 0⟩, 2) := by
  unfold mosAns; rw [codeI_bad g hq, if_neg (by decide)]
theorem mosAns_1 {m : Mach} {q : Int} (hm : ¬ IsM m) : mosAns m q = (⟨0, 0, fun _ => 0, fun _ => 0⟩, 1) := by
  unfold mosAns; rw [codeI_1 hm, if_neg (by decide)]

set_option maxHeartbeats 1000000 in
theorem l07State_any (w : World) (m : Mach) (hk : m.Ok) (q : Int) :
    Calls Try.prog 67 #[.agg (mcells m), .int .i64 q] w fun e w' => e = .returned (.int .i64 (codeI m { data := #[] } [q])) ∧ Below w.heap.size w w' := by
  have hS := hid ((St.start w).newMB m 34)
  by_cases hm : IsM m
  · obtain ⟨l, s, g⟩ := hm.good
    have hi := hid (show Tells true (IsM m) from ⟨fun _ => hm, fun _ => rfl⟩)
    have gS := hid g.S
    have s1 := g.s1
    have s16 := g.s16
    by_cases hq : 0 ≤ q ∧ q < (s : Int)
    · rw [codeI_one g hq]
      have hin := hid (fun W => l01In_any q 0 ((s : Int) - 1) true (decide_eq_true (by omega)).symm W)
      replace hk := hid hk; clear hm hq g
      go_enter Try.func67, Try.ntmps67
      go_wp2_with (first
        | ((with_reducible refine gate (N := 6) rfl ?_); refine load_mach rfl _ rfl w.heap.size rfl m hS.out.m0 ?_)
        | (go_at_call 57; (with_reducible refine (l01Is_any _ m hk.out true hi.out.out).mono ?_); rintro e w1 ⟨rfl, hb⟩; replace hS := hid (hS.out.call hb); have cS := hS.out.m0.cS; rw [gS.out] at cS; clear hb hi)
        | (go_at_call 58; (with_reducible refine (hin.out _).mono ?_); rintro e w3 ⟨rfl, rfl⟩))
      go_ret
      exact ⟨rfl, hS.out.bel⟩
    · rw [codeI_bad g hq]
      have hin := hid (fun W => l01In_any q 0 ((s : Int) - 1) false (decide_eq_false (fun h => hq (by omega))).symm W)
      replace hk := hid hk; clear hm hq g
      go_enter Try.func67, Try.ntmps67
      go_wp2_with (first
        | ((with_reducible refine gate (N := 6) rfl ?_); refine load_mach rfl _ rfl w.heap.size rfl m hS.out.m0 ?_)
        | (go_at_call 57; (with_reducible refine (l01Is_any _ m hk.out true hi.out.out).mono ?_); rintro e w1 ⟨rfl, hb⟩; replace hS := hid (hS.out.call hb); have cS := hS.out.m0.cS; rw [gS.out] at cS; clear hb hi)
        | (go_at_call 58; (with_reducible refine (hin.out _).mono ?_); rintro e w3 ⟨rfl, rfl⟩))
      go_ret
      exact ⟨rfl, hS.out.bel⟩
  · rw [codeI_1 hm]
    have hi := hid (show Tells false (IsM m) from ⟨fun h => (by cases h), fun h => absurd h hm⟩)
    replace hk := hid hk; clear hm
    go_enter Try.func67, Try.ntmps67
    go_wp2_with (first
      | ((with_reducible refine gate (N := 6) rfl ?_); refine load_mach rfl _ rfl w.heap.size rfl m hS.out.m0 ?_)
      | (go_at_call 57; (with_reducible refine (l01Is_any _ m hk.out false hi.out.out).mono ?_); rintro e w1 ⟨rfl, hb⟩; replace hS := hid (hS.out.call hb); clear hb hi))
    go_ret
    exact ⟨rfl, hS.out.bel⟩
theorem codeI_cases (m : Mach) (q : Int) : codeI m { data := #[] } [q] = 1 ∨ codeI m { data := #[] } [q] = 2 ∨ ∃ l s q', Good m l s ∧ q = ((q' : Nat) : Int) ∧ q' < s ∧ codeI m { data := #[] } [q] = 0 := by
  by_cases hm : IsM m
  · obtain ⟨l, s, g⟩ := hm.good
    by_cases hq : 0 ≤ q ∧ q < (s : Int)
    · obtain ⟨q', rfl⟩ := Int.eq_ofNat_of_zero_le hq.1
      exact .inr (.inr ⟨l, s, q', g, rfl, by omega, codeI_one g hq⟩)
    · exact .inr (.inl (codeI_bad g hq))
  · exact .inl (codeI_1 hm)


end Go.Proofs.Ythempofohidlnaa
