/- What is a machine: the program's isRow and IsMachine and the reference's l01Is say the same. -/
import Derived.Test.YthempofohidlnaaProg
import Derived.Test.YthempofohidlnaaMach
import Derived.WalkKit
import Derived.Deep.QuietTactic
import Derived.BigQuiet
import Derived.Outline
import Derived.WideLaws
namespace Go.Proofs.Ythempofohidlnaa
open Go.RowKit
set_option linter.unusedVariables false
set_option linter.unusedSimpArgs false

theorem bit_test : ∀ s : Nat, s < 8 → ∀ o : Nat, o < 3 → (bits BinOp.and IntKind.i64 ((s : Int) / 2 ^ o) 1 == 1) = s.testBit o := by decide +kernel
theorem bit_or : ∀ s : Nat, s < 8 → ∀ o : Nat, o < 3 → bits BinOp.or IntKind.i64 (s : Int) (wrap64 (2 ^ o)) = ((s ||| (1 <<< o) : Nat) : Int) := by decide +kernel
theorem bit_lt : ∀ s : Nat, s < 8 → ∀ o : Nat, o < 3 → s ||| (1 <<< o) < 8 := by decide +kernel
theorem bit_new : ∀ s : Nat, s < 8 → ∀ o : Nat, o < 3 → ∀ k : Nat, k < 3 → (s ||| (1 <<< o)).testBit k = (s.testBit k || decide (k = o)) := by decide +kernel

/-- What is asked of the letter x of the state q. -/
def CellOk (m : Mach) (q x : Nat) : Prop :=
  if (q : Int) < m.S ∧ (x : Int) < m.L then
    (m.nx (q * 3 + x) : Int) < m.S ∧ (m.ot (q * 3 + x) : Int) < m.L ∧ ∀ y, y < x → m.ot (q * 3 + y) ≠ m.ot (q * 3 + x)
  else m.nx (q * 3 + x) = 0 ∧ m.ot (q * 3 + x) = 0
def RowOk (m : Mach) (q : Nat) : Prop := ∀ x, x < 3 → CellOk m q x
/-- What a machine is. -/
def IsM (m : Mach) : Prop := 2 ≤ m.L ∧ m.L ≤ 3 ∧ 1 ≤ m.S ∧ m.S ≤ 16 ∧ ∀ q, q < 16 → RowOk m q

/-- The letters put out so far, as bits. -/
def mask (m : Mach) (q : Nat) : Nat → Nat
  | 0 => 0
  | x + 1 => if (q : Int) < m.S ∧ (x : Int) < m.L then mask m q x ||| (1 <<< m.ot (q * 3 + x)) else mask m q x

theorem mask_bits (m : Mach) (q : Nat) (hL : m.L ≤ 3) : ∀ x, x ≤ 3 → (∀ y, y < x → CellOk m q y) →
    mask m q x < 8 ∧ ∀ k, k < 3 → ((mask m q x).testBit k = true ↔ ∃ y, y < x ∧ (q : Int) < m.S ∧ (y : Int) < m.L ∧ m.ot (q * 3 + y) = k)
  | 0, _, _ => ⟨by simp [mask], fun k _ => by simp [mask]⟩
  | x + 1, hx, h => by
    obtain ⟨h1, h2⟩ := mask_bits m q hL x (by omega) (fun y hy => h y (by omega))
    have hc := h x (by omega)
    unfold CellOk at hc
    unfold mask
    by_cases hq : (q : Int) < m.S ∧ (x : Int) < m.L
    · rw [if_pos hq] at hc ⊢
      refine ⟨bit_lt _ h1 _ (by omega), fun k hk => ?_⟩
      rw [bit_new _ h1 _ (by omega) k hk, Bool.or_eq_true, h2 k hk, decide_eq_true_eq]
      constructor
      · rintro (⟨y, hy, r⟩ | rfl)
        · exact ⟨y, by omega, r⟩
        · exact ⟨x, by omega, hq.1, hq.2, rfl⟩
      · rintro ⟨y, hy, r1, r2, r3⟩
        by_cases e : y = x
        · subst e; exact .inr r3.symm
        · exact .inl ⟨y, by omega, r1, r2, r3⟩
    · rw [if_neg hq]
      refine ⟨h1, fun k hk => (h2 k hk).trans ⟨fun ⟨y, hy, r⟩ => ⟨y, by omega, r⟩, fun ⟨y, hy, r1, r2, r3⟩ => ⟨y, ?_, r1, r2, r3⟩⟩⟩
      by_cases e : y = x
      · subst e; exact absurd ⟨r1, r2⟩ hq
      · omega

set_option maxHeartbeats 1000000 in
theorem isRow_any (b : Nat) (w : World) (m : Mach) (hm : MB w 34 b m) (hk : m.Ok) (q : Nat) (hq : q < 16) (hL2 : 2 ≤ m.L) (hL3 : m.L ≤ 3) (r : Bool) (hr : r = true ↔ RowOk m q) :
    Calls Try.prog 150 #[.pointer (some ⟨b,0,none⟩), .int .i64 q] w fun e w' => e = .returned (.bool r) ∧ ∃ n, w' = w.drewN n := by
  have cL := hm.cL
  have cS := hm.cS
  have hM := hid hm; clear hm
  have hK := hid hk; clear hk
  have hR := hid hr; clear hr
  go_enter Try.func150, Try.ntmps150
  go_wp2
  go_loopw [5, 9] (fun s i wr => ∃ (x : Nat) (n : Nat), x ≤ 3 ∧ wr = w.drewN n ∧ i = .int .i64 x ∧ s = .int .i64 (mask m q x : Nat) ∧ ∀ y, y < x → CellOk m q y) (fun _ i _ => 3 - (intOf i).toNat)
  case atStart => exact ⟨0, 0, by omega, rfl, rfl, rfl, fun y hy => by omega⟩
  case round =>
    obtain ⟨x, n, hx3, rfl, rfl, rfl, hall⟩ := hrel
    replace hall := hid hall
    by_cases hx : x < 3
    · have h1 := hM.out.cnx q x hq hx
      have h2 := hM.out.cot q x hq hx
      have hn := (hK.out (q * 3 + x)).1
      have ho := (hK.out (q * 3 + x)).2
      have hmask := hid (mask_bits m q hL3 x hx3 hall.out)
      have hms := hid (show mask m q (x + 1) = if (q : Int) < m.S ∧ (x : Int) < m.L then mask m q x ||| (1 <<< m.ot (q * 3 + x)) else mask m q x from rfl)
      have hcell := hid (show CellOk m q x ↔ if (q : Int) < m.S ∧ (x : Int) < m.L then
          (m.nx (q * 3 + x) : Int) < m.S ∧ (m.ot (q * 3 + x) : Int) < m.L ∧ ∀ y, y < x → m.ot (q * 3 + y) ≠ m.ot (q * 3 + x)
        else m.nx (q * 3 + x) = 0 ∧ m.ot (q * 3 + x) = 0 from Iff.rfl)
      generalize m.nx (q * 3 + x) = nx at *
      generalize m.ot (q * 3 + x) = ot at *
      generalize mask m q x = s at *
      have no := hid (show ¬ CellOk m q x → r = false from fun h => by
        cases r
        · rfl
        · exact absurd (hR.out.1 rfl x hx) h)
      have nxt := hid (show CellOk m q x → ∀ y, y < x + 1 → CellOk m q y from fun h y hy => by
        by_cases e : y = x
        · subst e; exact h
        · exact hall.out y (by omega))
      by_cases hin : (q : Int) < m.S ∧ (x : Int) < m.L
      · have hc2 := hid (hcell.out.trans (by rw [if_pos hin]))
        have hm2 := hid (hms.out.trans (by rw [if_pos hin]))
        obtain ⟨hqS, hxL⟩ := hin
        have d1 : decide (m.S ≤ (q : Int)) = false := decide_eq_false (by omega)
        have d2 : decide (m.L ≤ (x : Int)) = false := decide_eq_false (by omega)
        by_cases a1 : (nx : Int) < m.S
        · have d3 : decide (m.S ≤ (nx : Int)) = false := decide_eq_false (by omega)
          by_cases a2 : (ot : Int) < m.L
          · have d4 : decide (m.L ≤ (ot : Int)) = false := decide_eq_false (by omega)
            have hot3 : ot < 3 := by omega
            have bo := hid (bit_or s hmask.out.1 ot hot3)
            cases hb : s.testBit ot with
            | true =>
              have bt := (bit_test s hmask.out.1 ot hot3).trans hb
              replace hb := hid hb
              go_wp2
              go_quiet (fail)
              go_wp2
              go_ret
              have hf : r = false := no.out fun hc => by
                obtain ⟨y, hy, _, _, e⟩ := (hmask.out.2 ot hot3).1 hb.out
                exact (hc2.out.1 hc).2.2 y hy e
              exact ⟨retB hf.symm, _, rfl⟩
            | false =>
              have bt := (bit_test s hmask.out.1 ot hot3).trans hb
              replace hb := hid hb
              go_wp2
              go_quiet (fail)
              go_wp2
              go_roundw
              case rel =>
                refine ⟨x + 1, _, by omega, rfl, by go_num, by rw [bo.out, hm2.out], nxt.out (hc2.out.2 ⟨a1, a2, fun y hy e => ?_⟩)⟩
                have := (hmask.out.2 ot hot3).2 ⟨y, hy, hqS, by omega, e⟩
                rw [hb.out] at this
                cases this
              case measure => simp [intOf]; omega
          · go_wp2
            go_quiet (fail)
            go_wp2
            go_ret
            exact ⟨retB (no.out fun hc => by have := (hc2.out.1 hc).2.1; omega).symm, _, rfl⟩
        · go_wp2
          go_quiet (fail)
          go_wp2
          go_ret
          exact ⟨retB (no.out fun hc => by have := (hc2.out.1 hc).1; omega).symm, _, rfl⟩
      · have hc2 := hid (hcell.out.trans (by rw [if_neg hin]))
        have hm2 := hid (hms.out.trans (by rw [if_neg hin]))
        have fin : (q : Int) < m.S ∨ m.S ≤ (q : Int) := by omega
        rcases fin with hqS | hqS
        all_goals
          by_cases z1 : nx = 0
          · by_cases z2 : ot = 0
            · have hnx := hid (nxt.out (hc2.out.2 ⟨z1, z2⟩))
              subst z1; subst z2
              go_wp2
              go_quiet (fail)
              go_wp2
              go_roundw
              case rel => exact ⟨x + 1, _, by omega, rfl, by go_num, by rw [hm2.out], hnx.out⟩
              case measure => simp [intOf]; omega
            · have hrf := hid (no.out fun hc => z2 (hc2.out.1 hc).2)
              have z3 : ((ot : Int) != 0) = true := by rw [bne_iff_ne]; omega
              go_wp2
              go_quiet (fail)
              go_wp2
              go_ret
              exact ⟨retB hrf.out.symm, _, rfl⟩
          · have hrf := hid (no.out fun hc => z1 (hc2.out.1 hc).1)
            have z3 : ((nx : Int) != 0) = true := by rw [bne_iff_ne]; omega
            go_wp2
            go_quiet (fail)
            go_wp2
            go_ret
            exact ⟨retB hrf.out.symm, _, rfl⟩
    · obtain rfl : x = 3 := by omega
      go_wp2
      go_ret
      exact ⟨retB (hR.out.2 hall.out).symm, _, rfl⟩
end Go.Proofs.Ythempofohidlnaa
