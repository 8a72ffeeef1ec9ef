/- The program's IsMachine and the reference's l01Is answer whether IsM holds. -/
import Derived.Test.YthempofohidlnaaSmall
namespace Go.Proofs.Ythempofohidlnaa
open Go.RowKit
set_option linter.unusedVariables false
set_option linter.unusedSimpArgs false

theorem below_drewN {B : Nat} {a w : World} (h : Below B a w) (n : Nat) : Below B a (w.drewN n) := ⟨h.os, h.tape, h.output, h.size, h.block⟩
theorem below_alloc {B : Nat} {a w : World} (h : Below B a w) (hB : B ≤ a.heap.size) (o : Obj) : Below B a (w.alloc o) := h.alloc (Nat.le_trans hB h.size) o

set_option maxHeartbeats 1000000 in
theorem IsMachine_any (w : World) (m : Mach) (hk : m.Ok) (r : Bool) (hr : r = true ↔ IsM m) :
    Calls Try.prog 113 #[.agg (mcells m)] w fun e w' => e = .returned (.bool r) ∧ Below w.heap.size w w' := by
  have hK := hid hk; clear hk
  have hR := hid hr; clear hr
  have cL := mcells_L m
  have cS := mcells_S m
  by_cases hL : 2 ≤ m.L ∧ m.L ≤ 3
  · by_cases hS : 1 ≤ m.S ∧ m.S ≤ 16
    · have hM := hid (MB.new w m 34)
      have hB := hid ((Below.refl w.heap.size w).alloc (Nat.le_refl _) (.cells (mcells m) 34))
      go_enter Try.func113, Try.ntmps113
      go_wp2_with (first | (go_at_call 120; refine (areLetters_any _ true (decide_eq_true hL).symm _).mono ?_; rintro e w' ⟨rfl, rfl⟩) | (go_at_call 62; refine (within_any _ _ _ true (decide_eq_true hS).symm _).mono ?_; rintro e w' ⟨rfl, rfl⟩))
      go_loopw [14] (fun i wr => ∃ (q : Nat) (n : Nat), q ≤ 16 ∧ wr = (w.alloc (.cells (mcells m) 34)).drewN n ∧ i = .int .i64 q ∧ ∀ p, p < q → RowOk m p) (fun i _ => 16 - (intOf i).toNat)
      case atStart => exact ⟨0, 0, by omega, rfl, rfl, fun y hy => by omega⟩
      case round =>
        obtain ⟨q, n, hq, rfl, rfl, hall⟩ := hrel
        replace hall := hid hall
        by_cases hx : q < 16
        · by_cases hrow : RowOk m q
          · replace hrow := hid hrow
            go_wp2_with (go_at_call 150; refine (isRow_any _ _ m (hM.out.drewN n) hK.out q hx hL.1 hL.2 true ⟨fun _ => hrow.out, fun _ => rfl⟩).mono ?_; rintro e w' ⟨rfl, k, rfl⟩)
            go_roundw
            case rel =>
              refine ⟨q + 1, _, by omega, rfl, by go_num, fun p hp => ?_⟩
              by_cases e : p = q
              · rw [e]; exact hrow.out
              · exact hall.out p (by omega)
            case measure => simp [intOf]; omega
          · have hf := hid (show r = false by
              cases r
              · rfl
              · exact absurd ((hR.out.1 rfl).2.2.2.2 q hx) hrow)
            have hbad := hid (show false = true ↔ RowOk m q from ⟨fun h => (by cases h), fun h => absurd h hrow⟩)
            clear hrow
            go_wp2_with (go_at_call 150; refine (isRow_any _ _ m (hM.out.drewN n) hK.out q hx hL.1 hL.2 false hbad.out).mono ?_; rintro e w' ⟨rfl, k, rfl⟩)
            go_ret
            exact ⟨retB hf.out.symm, below_drewN hB.out _⟩
        · obtain rfl : q = 16 := by omega
          have hf := hid (hR.out.2 ⟨hL.1, hL.2, hS.1, hS.2, hall.out⟩)
          go_wp2
          go_ret
          exact ⟨retB hf.out.symm, below_drewN hB.out _⟩
    · have hf := hid (show r = false by
        cases r
        · rfl
        · have := hR.out.1 rfl; exact absurd ⟨this.2.2.1, this.2.2.2.1⟩ hS)
      have hS' := hid hS; clear hS
      have hB := hid ((Below.refl w.heap.size w).alloc (Nat.le_refl _) (.cells (mcells m) 34))
      go_enter Try.func113, Try.ntmps113
      go_wp2_with (first | (go_at_call 120; refine (areLetters_any _ true (decide_eq_true hL).symm _).mono ?_; rintro e w' ⟨rfl, rfl⟩) | (go_at_call 62; refine (within_any _ _ _ false (decide_eq_false hS'.out).symm _).mono ?_; rintro e w' ⟨rfl, rfl⟩))
      go_ret
      exact ⟨retB hf.out.symm, hB.out⟩
  · have hf := hid (show r = false by
      cases r
      · rfl
      · have := hR.out.1 rfl; exact absurd ⟨this.1, this.2.1⟩ hL)
    have hL' := hid hL; clear hL
    have hB := hid ((Below.refl w.heap.size w).alloc (Nat.le_refl _) (.cells (mcells m) 34))
    go_enter Try.func113, Try.ntmps113
    go_wp2_with (first | (go_at_call 120; refine (areLetters_any _ false (decide_eq_false hL'.out).symm _).mono ?_; rintro e w' ⟨rfl, rfl⟩))
    go_ret
    exact ⟨retB hf.out.symm, hB.out⟩
end Go.Proofs.Ythempofohidlnaa
