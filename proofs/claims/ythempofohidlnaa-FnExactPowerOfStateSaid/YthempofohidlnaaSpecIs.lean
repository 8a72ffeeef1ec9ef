/- The reference's l01Is answers whether IsM holds. -/
import Derived.Test.YthempofohidlnaaIsM
namespace Go.Proofs.Ythempofohidlnaa
open Go.RowKit
set_option linter.unusedVariables false
set_option linter.unusedSimpArgs false

/-- The letters put out so far, as marks. -/
def met (m : Mach) (q : Nat) : Nat → Nat → Bool
  | 0, _ => false
  | x + 1, j => if (q : Int) < m.S ∧ (x : Int) < m.L then (if j = m.ot (q * 3 + x) then true else met m q x j) else met m q x j

theorem met_bits (m : Mach) (q : Nat) : ∀ x k, (met m q x k = true ↔ ∃ y, y < x ∧ (q : Int) < m.S ∧ (y : Int) < m.L ∧ m.ot (q * 3 + y) = k)
  | 0, k => by simp [met]
  | x + 1, k => by
    have h2 := met_bits m q x k
    unfold met
    by_cases hq : (q : Int) < m.S ∧ (x : Int) < m.L
    · rw [if_pos hq]
      by_cases hk : k = m.ot (q * 3 + x)
      · rw [if_pos hk]; exact ⟨fun _ => ⟨x, by omega, hq.1, hq.2, hk.symm⟩, fun _ => rfl⟩
      · rw [if_neg hk, h2]
        refine ⟨fun ⟨y, hy, r⟩ => ⟨y, by omega, r⟩, fun ⟨y, hy, r1, r2, r3⟩ => ⟨y, ?_, r1, r2, r3⟩⟩
        by_cases e : y = x
        · subst e; exact absurd r3.symm hk
        · omega
    · rw [if_neg hq, h2]
      refine ⟨fun ⟨y, hy, r⟩ => ⟨y, by omega, r⟩, fun ⟨y, hy, r1, r2, r3⟩ => ⟨y, ?_, r1, r2, r3⟩⟩
      by_cases e : y = x
      · subst e; exact absurd ⟨r1, r2⟩ hq
      · omega

/-- A row of marks. -/
def bools (f : Nat → Bool) (i : Nat) : Value := .bool (f i)

set_option maxHeartbeats 2000000 in
set_option maxRecDepth 100000 in
theorem l01Is_any (w : World) (m : Mach) (hk : m.Ok) (r : Bool) (hr : r = true ↔ IsM m) :
    Calls Try.prog 57 #[.agg (mcells m)] w fun e w' => e = .returned (.bool r) ∧ Below w.heap.size w w' := by
  have hK := hid hk; clear hk
  have hR := hid hr; clear hr
  have cL := mcells_L m
  have cS := mcells_S m
  by_cases hL : 2 ≤ m.L ∧ m.L ≤ 3
  · by_cases hS : 1 ≤ m.S ∧ m.S ≤ 16
    · have hM := hid (MB.new w m 34)
      have hB := hid ((Below.refl w.heap.size w).alloc (Nat.le_refl _) (.cells (mcells m) 34))
      go_enter Try.func57, Try.ntmps57
      go_wp2_with (go_at_call 58; (with_reducible refine (l01In_any _ _ _ true (decide_eq_true (by omega)).symm _).mono ?_); rintro e w' ⟨rfl, rfl⟩)
      clear cL cS
      go_loopw [3] (fun i wr => ∃ (q : Nat), q ≤ 16 ∧ i = .int .i64 q ∧ MB wr 34 w.heap.size m ∧ Below w.heap.size w wr ∧ ∀ p, p < q → RowOk m p) (fun i _ => 16 - (intOf i).toNat)
      case atStart => exact ⟨0, by omega, rfl, hM.out, hB.out, fun y hy => by omega⟩
      case round =>
        obtain ⟨q, hq, rfl, hM2, hB2, hall⟩ := hrel
        replace hall := hid hall
        replace hM2 := hid hM2
        replace hB2 := hid hB2
        clear hM hB
        by_cases hx : q < 16
        · have dq : decide ((q : Int) < 16) = true := decide_eq_true (by omega)
          obtain ⟨wo, rfl⟩ : ∃ wo : World, wo = wr := ⟨_, rfl⟩
          go_wp2
          go_loopw [5] (fun i wr => ∃ x : Nat, x ≤ 3 ∧ i = .int .i64 x ∧ MB wr 34 w.heap.size m ∧ wr.rowIs wo.heap.size 126 3 (bools (met m q x)) ∧ Below w.heap.size w wr ∧ ∀ y, y < x → CellOk m q y) (fun i _ => 3 - (intOf i).toNat)
          case atStart =>
            refine ⟨0, by omega, rfl, hM2.out.alloc _, ?_, below_alloc hB2.out (Nat.le_refl _) _, fun y hy => by omega⟩
            refine World.rowIs_alloc _ _ _ _ (fun i hi => ?_)
            have h3 : i < 3 := hi
            have : i = 0 ∨ i = 1 ∨ i = 2 := by omega
            rcases this with rfl | rfl | rfl <;> rfl
          case round =>
            obtain ⟨x, hx3, rfl, hM3, hrow, hB3, hcs⟩ := hrel
            have hne := hid (show w.heap.size < wo.heap.size from hM2.out.lt)
            have cL := hM3.cL
            have cS := hM3.cS
            replace hM3 := hid hM3
            replace hrow := hid hrow
            replace hB3 := hid hB3
            replace hcs := hid hcs
            by_cases hx' : x < 3
            · have dx : decide ((x : Int) < 3) = true := decide_eq_true (by omega)
              have h1 := hM3.out.cnx q x hx hx'
              have h2 := hM3.out.cot q x hx hx'
              have hn := (hK.out (q * 3 + x)).1
              have ho := (hK.out (q * 3 + x)).2
              have hbits := hid (met_bits m q x (m.ot (q * 3 + x)))
              have hms := hid (show ∀ j, met m q (x + 1) j = if (q : Int) < m.S ∧ (x : Int) < m.L then (if j = m.ot (q * 3 + x) then true else met m q x j) else met m q x j from fun _ => rfl)
              have hmark : m.ot (q * 3 + x) < 3 → wr.cell? ⟨wo.heap.size, m.ot (q * 3 + x), none⟩ = some (.bool (met m q x (m.ot (q * 3 + x)))) := fun h => hrow.out.cell h
              have hcell := hid (show CellOk m q x ↔ if (q : Int) < m.S ∧ (x : Int) < m.L then
                  (m.nx (q * 3 + x) : Int) < m.S ∧ (m.ot (q * 3 + x) : Int) < m.L ∧ ∀ y, y < x → m.ot (q * 3 + y) ≠ m.ot (q * 3 + x)
                else m.nx (q * 3 + x) = 0 ∧ m.ot (q * 3 + x) = 0 from Iff.rfl)
              replace hmark := hid hmark
              generalize m.nx (q * 3 + x) = nx at *
              generalize m.ot (q * 3 + x) = ot at *
              have hfz : wr.frozen? ⟨wo.heap.size, ot, none⟩ = false := hrow.out.frozen ot
              have no := hid (show ¬ CellOk m q x → r = false from fun h => by
                cases r
                · rfl
                · exact absurd ((hR.out.1 rfl).2.2.2.2 q hx x hx') h)
              have nxt := hid (show CellOk m q x → ∀ y, y < x + 1 → CellOk m q y from fun h y hy => by
                by_cases e : y = x
                · subst e; exact h
                · exact hcs.out y (by omega))
              by_cases hin : (q : Int) < m.S ∧ (x : Int) < m.L
              · have hc2 := hid (hcell.out.trans (by rw [if_pos hin]))
                have hm2 := hid (show ∀ j, met m q (x + 1) j = (if j = ot then true else met m q x j) from fun j => (hms.out j).trans (by rw [if_pos hin]))
                obtain ⟨hqS, hxL⟩ := hin
                have d1 : decide (m.S ≤ (q : Int)) = false := decide_eq_false (by omega)
                have d2 : decide (m.L ≤ (x : Int)) = false := decide_eq_false (by omega)
                by_cases a1 : (nx : Int) < m.S
                · have d3 : decide (m.S ≤ (nx : Int)) = false := decide_eq_false (by omega)
                  by_cases a2 : (ot : Int) < m.L
                  · have d4 : decide (m.L ≤ (ot : Int)) = false := decide_eq_false (by omega)
                    have hot3 : ot < 3 := by omega
                    have hmk := hmark.out hot3
                    cases hb : met m q x ot with
                    | true =>
                      rw [hb] at hmk
                      have hf := hid (no.out fun hc => by
                        obtain ⟨y, hy, _, _, e⟩ := hbits.out.1 hb
                        exact (hc2.out.1 hc).2.2 y hy e)
                      clear hb
                      go_wp2
                      go_quiet (fail)
                      go_wp2
                      go_ret
                      exact ⟨retB hf.out.symm, below_drewN hB3.out _⟩
                    | false =>
                      rw [hb] at hmk
                      have hf := hid (nxt.out (hc2.out.2 ⟨a1, a2, fun y hy e => by
                        have := hbits.out.2 ⟨y, hy, hqS, by omega, e⟩
                        rw [hb] at this
                        cases this⟩))
                      clear hb
                      go_wp2
                      go_quiet (fail)
                      go_wp2
                      go_roundw
                      case rel =>
                        refine ⟨x + 1, by omega, by go_num, (hM3.out.drewN _).setOther (by have := hne.out; simp; omega) _, ?_, (below_drewN hB3.out _).setCell (by have := hne.out; simp; omega) _, hf.out⟩
                        refine World.rowIs.congr (World.rowIs.set (f := bools (met m q x)) hrow.out ot _) (fun i hi => ?_)
                        unfold bools
                        rw [hm2.out i]
                        split <;> rfl
                      case measure => simp [intOf]; omega
                  · have hf := hid (no.out fun hc => a2 (hc2.out.1 hc).2.1)
                    go_wp2
                    go_quiet (fail)
                    go_wp2
                    go_ret
                    exact ⟨retB hf.out.symm, below_drewN hB3.out _⟩
                · have hf := hid (no.out fun hc => a1 (hc2.out.1 hc).1)
                  go_wp2
                  go_quiet (fail)
                  go_wp2
                  go_ret
                  exact ⟨retB hf.out.symm, below_drewN hB3.out _⟩
              · have hc2 := hid (hcell.out.trans (by rw [if_neg hin]))
                have hm2 := hid (show ∀ j, met m q (x + 1) j = met m q x j from fun j => (hms.out j).trans (by rw [if_neg hin]))
                have fin : (q : Int) < m.S ∨ m.S ≤ (q : Int) := by omega
                rcases fin with hqS | hqS
                all_goals
                  by_cases z1 : nx = 0
                  · by_cases z2 : ot = 0
                    · have hf := hid (nxt.out (hc2.out.2 ⟨z1, z2⟩))
                      subst z1; subst z2
                      go_wp2
                      go_quiet (fail)
                      go_wp2
                      go_roundw
                      case rel => exact ⟨x + 1, by omega, by go_num, hM3.out.drewN _, World.rowIs.congr (f := bools (met m q x)) hrow.out (fun i hi => by unfold bools; rw [hm2.out i]), below_drewN hB3.out _, hf.out⟩
                      case measure => simp [intOf]; omega
                    · have hrf := hid (no.out fun hc => z2 (hc2.out.1 hc).2)
                      have z3 : ((ot : Int) != 0) = true := by rw [bne_iff_ne]; omega
                      go_wp2
                      go_quiet (fail)
                      go_wp2
                      go_ret
                      exact ⟨retB hrf.out.symm, below_drewN hB3.out _⟩
                  · have hrf := hid (no.out fun hc => z1 (hc2.out.1 hc).1)
                    have z3 : ((nx : Int) != 0) = true := by rw [bne_iff_ne]; omega
                    go_wp2
                    go_quiet (fail)
                    go_wp2
                    go_ret
                    exact ⟨retB hrf.out.symm, below_drewN hB3.out _⟩
            · obtain rfl : x = 3 := by omega
              go_wp2
              go_roundw
              case rel =>
                refine ⟨q + 1, by omega, by go_num, hM3.out, hB3.out, fun p hp => ?_⟩
                by_cases e : p = q
                · rw [e]; exact hcs.out
                · exact hall.out p (by omega)
              case measure => simp [intOf]; omega
        · obtain rfl : q = 16 := by omega
          have hf := hid (hR.out.2 ⟨hL.1, hL.2, hS.1, hS.2, hall.out⟩)
          go_wp2
          go_ret
          exact ⟨retB hf.out.symm, hB2.out⟩
    · have hf := hid (show r = false by
        cases r
        · rfl
        · have := hR.out.1 rfl; exact absurd ⟨this.2.2.1, this.2.2.2.1⟩ hS)
      have hS' := hid hS; clear hS
      have hB := hid ((Below.refl w.heap.size w).alloc (Nat.le_refl _) (.cells (mcells m) 34))
      go_enter Try.func57, Try.ntmps57
      go_wp2_with (first | (go_at_call 58; (with_reducible refine (l01In_any m.L 2 3 true (decide_eq_true hL).symm _).mono ?_); rintro e w' ⟨rfl, rfl⟩) | (go_at_call 58; (with_reducible refine (l01In_any m.S 1 16 false (decide_eq_false hS'.out).symm _).mono ?_); rintro e w' ⟨rfl, rfl⟩))
      go_ret
      exact ⟨retB hf.out.symm, hB.out⟩
  · have hf := hid (show r = false by
      cases r
      · rfl
      · have := hR.out.1 rfl; exact absurd ⟨this.1, this.2.1⟩ hL)
    have hL' := hid hL; clear hL
    have hB := hid ((Below.refl w.heap.size w).alloc (Nat.le_refl _) (.cells (mcells m) 34))
    go_enter Try.func57, Try.ntmps57
    go_wp2_with (go_at_call 58; (with_reducible refine (l01In_any m.L 2 3 false (decide_eq_false hL'.out).symm _).mono ?_); rintro e w' ⟨rfl, rfl⟩)
    go_ret
    exact ⟨retB hf.out.symm, hB.out⟩
end Go.Proofs.Ythempofohidlnaa
