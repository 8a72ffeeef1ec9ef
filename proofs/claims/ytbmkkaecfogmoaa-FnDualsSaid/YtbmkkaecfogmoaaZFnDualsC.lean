/- What the proof of FnDuals leans on, part 3 of 26. -/
import Derived.Test.YtbmkkaecfogmoaaZFnDualsB
import Derived.Test.YtbmkkaecfogmoaaProg
import Derived.WalkKit
import Derived.Deep.QuietTactic
import Derived.BigQuiet
import Derived.Outline
import Derived.WideLaws
/- What is a machine: the program's isRow and IsMachine and the reference's l01Is say the same. -/
namespace Go.Proofs.Ytbmkkaecfogmoaa
open Go.RowKit
set_option linter.unusedVariables false
set_option linter.unusedSimpArgs false

theorem bit_test : ∀ s : Nat, s < 8 → ∀ o : Nat, o < 3 → (bits BinOp.and IntKind.i64 ((s : Int) / 2 ^ o) 1 == 1) = s.testBit o := by decide +kernel
theorem bit_or : ∀ s : Nat, s < 8 → ∀ o : Nat, o < 3 → bits BinOp.or IntKind.i64 (s : Int) (wrap64 (2 ^ o)) = ((s ||| (1 <<< o) : Nat) : Int) := by decide +kernel
theorem bit_lt : ∀ s : Nat, s < 8 → ∀ o : Nat, o < 3 → s ||| (1 <<< o) < 8 := by decide +kernel
theorem bit_new : ∀ s : Nat, s < 8 → ∀ o : Nat, o < 3 → ∀ k : Nat, k < 3 → (s ||| (1 <<< o)).testBit k = (s.testBit k || decide (k = o)) := by decide +kernel

/-- What is asked of the letter x of the state q. -/
def CellOk (m : Mach) (q x : Nat) : Prop :=
  if (q : Int) < m.S ∧ (x : Int) < m.L then
    (m.nx (q * 3 + x) : Int) < m.S ∧ (m.ot (q * 3 + x) : Int) < m.L ∧ ∀ y, y < x → m.ot (q * 3 + y) ≠ m.ot (q * 3 + x)
  else m.nx (q * 3 + x) = 0 ∧ m.ot (q * 3 + x) = 0
def RowOk (m : Mach) (q : Nat) : Prop := ∀ x, x < 3 → CellOk m q x
/-- What a machine is. -/
def IsM (m : Mach) : Prop := 2 ≤ m.L ∧ m.L ≤ 3 ∧ 1 ≤ m.S ∧ m.S ≤ 16 ∧ ∀ q, q < 16 → RowOk m q

/-- The letters put out so far, as bits. -/
def mask (m : Mach) (q : Nat) : Nat → Nat
  | 0 => 0
  | x + 1 => if (q : Int) < m.S ∧ (x : Int) < m.L then mask m q x ||| (1 <<< m.ot (q * 3 + x)) else mask m q x

theorem mask_bits (m : Mach) (q : Nat) (hL : m.L ≤ 3) : ∀ x, x ≤ 3 → (∀ y, y < x → CellOk m q y) →
    mask m q x < 8 ∧ ∀ k, k < 3 → ((mask m q x).testBit k = true ↔ ∃ y, y < x ∧ (q : Int) < m.S ∧ (y : Int) < m.L ∧ m.ot (q * 3 + y) = k)
  | 0, _, _ => ⟨by simp [mask], fun k _ => by simp [mask]⟩
  | x + 1, hx, h => by
    obtain ⟨h1, h2⟩ := mask_bits m q hL x (by omega) (fun y hy => h y (by omega))
    have hc := h x (by omega)
    unfold CellOk at hc
    unfold mask
    by_cases hq : (q : Int) < m.S ∧ (x : Int) < m.L
    · rw [if_pos hq] at hc ⊢
      refine ⟨bit_lt _ h1 _ (by omega), fun k hk => ?_⟩
      rw [bit_new _ h1 _ (by omega) k hk, Bool.or_eq_true, h2 k hk, decide_eq_true_eq]
      constructor
      · rintro (⟨y, hy, r⟩ | rfl)
        · exact ⟨y, by omega, r⟩
        · exact ⟨x, by omega, hq.1, hq.2, rfl⟩
      · rintro ⟨y, hy, r1, r2, r3⟩
        by_cases e : y = x
        · subst e; exact .inr r3.symm
        · exact .inl ⟨y, by omega, r1, r2, r3⟩
    · rw [if_neg hq]
      refine ⟨h1, fun k hk => (h2 k hk).trans ⟨fun ⟨y, hy, r⟩ => ⟨y, by omega, r⟩, fun ⟨y, hy, r1, r2, r3⟩ => ⟨y, ?_, r1, r2, r3⟩⟩⟩
      by_cases e : y = x
      · subst e; exact absurd ⟨r1, r2⟩ hq
      · omega

set_option maxHeartbeats 1000000 in
theorem isRow_any (b : Nat) (w : World) (m : Mach) (hm : MB w 27 b m) (hk : m.Ok) (q : Nat) (hq : q < 16) (hL2 : 2 ≤ m.L) (hL3 : m.L ≤ 3) (r : Bool) (hr : r = true ↔ RowOk m q) :
    Calls Try.prog 166 #[.pointer (some ⟨b,0,none⟩), .int .i64 q] w fun e w' => e = .returned (.bool r) ∧ ∃ n, w' = w.drewN n := by
  have cL := hm.cL
  have cS := hm.cS
  have hM := hid hm; clear hm
  have hK := hid hk; clear hk
  have hR := hid hr; clear hr
  go_enter Try.func166, Try.ntmps166
  go_wp2
  go_loopw [5, 9] (fun s i wr => ∃ (x : Nat) (n : Nat), x ≤ 3 ∧ wr = w.drewN n ∧ i = .int .i64 x ∧ s = .int .i64 (mask m q x : Nat) ∧ ∀ y, y < x → CellOk m q y) (fun _ i _ => 3 - (intOf i).toNat)
  case atStart => exact ⟨0, 0, by omega, rfl, rfl, rfl, fun y hy => by omega⟩
  case round =>
    obtain ⟨x, n, hx3, rfl, rfl, rfl, hall⟩ := hrel
    replace hall := hid hall
    by_cases hx : x < 3
    · have h1 := hM.out.cnx q x hq hx
      have h2 := hM.out.cot q x hq hx
      have hn := (hK.out (q * 3 + x)).1
      have ho := (hK.out (q * 3 + x)).2
      have hmask := hid (mask_bits m q hL3 x hx3 hall.out)
      have hms := hid (show mask m q (x + 1) = if (q : Int) < m.S ∧ (x : Int) < m.L then mask m q x ||| (1 <<< m.ot (q * 3 + x)) else mask m q x from rfl)
      have hcell := hid (show CellOk m q x ↔ if (q : Int) < m.S ∧ (x : Int) < m.L then
          (m.nx (q * 3 + x) : Int) < m.S ∧ (m.ot (q * 3 + x) : Int) < m.L ∧ ∀ y, y < x → m.ot (q * 3 + y) ≠ m.ot (q * 3 + x)
        else m.nx (q * 3 + x) = 0 ∧ m.ot (q * 3 + x) = 0 from Iff.rfl)
      generalize m.nx (q * 3 + x) = nx at *
      generalize m.ot (q * 3 + x) = ot at *
      generalize mask m q x = s at *
      have no := hid (show ¬ CellOk m q x → r = false from fun h => by
        cases r
        · rfl
        · exact absurd (hR.out.1 rfl x hx) h)
      have nxt := hid (show CellOk m q x → ∀ y, y < x + 1 → CellOk m q y from fun h y hy => by
        by_cases e : y = x
        · subst e; exact h
        · exact hall.out y (by omega))
      by_cases hin : (q : Int) < m.S ∧ (x : Int) < m.L
      · have hc2 := hid (hcell.out.trans (by rw [if_pos hin]))
        have hm2 := hid (hms.out.trans (by rw [if_pos hin]))
        obtain ⟨hqS, hxL⟩ := hin
        have d1 : decide (m.S ≤ (q : Int)) = false := decide_eq_false (by omega)
        have d2 : decide (m.L ≤ (x : Int)) = false := decide_eq_false (by omega)
        by_cases a1 : (nx : Int) < m.S
        · have d3 : decide (m.S ≤ (nx : Int)) = false := decide_eq_false (by omega)
          by_cases a2 : (ot : Int) < m.L
          · have d4 : decide (m.L ≤ (ot : Int)) = false := decide_eq_false (by omega)
            have hot3 : ot < 3 := by omega
            have bo := hid (bit_or s hmask.out.1 ot hot3)
            cases hb : s.testBit ot with
            | true =>
              have bt := (bit_test s hmask.out.1 ot hot3).trans hb
              replace hb := hid hb
              go_wp2
              go_quiet (fail)
              go_wp2
              go_ret
              have hf : r = false := no.out fun hc => by
                obtain ⟨y, hy, _, _, e⟩ := (hmask.out.2 ot hot3).1 hb.out
                exact (hc2.out.1 hc).2.2 y hy e
              exact ⟨retB hf.symm, _, rfl⟩
            | false =>
              have bt := (bit_test s hmask.out.1 ot hot3).trans hb
              replace hb := hid hb
              go_wp2
              go_quiet (fail)
              go_wp2
              go_roundw
              case rel =>
                refine ⟨x + 1, _, by omega, rfl, by go_num, by rw [bo.out, hm2.out], nxt.out (hc2.out.2 ⟨a1, a2, fun y hy e => ?_⟩)⟩
                have := (hmask.out.2 ot hot3).2 ⟨y, hy, hqS, by omega, e⟩
                rw [hb.out] at this
                cases this
              case measure => simp [intOf]; omega
          · go_wp2
            go_quiet (fail)
            go_wp2
            go_ret
            exact ⟨retB (no.out fun hc => by have := (hc2.out.1 hc).2.1; omega).symm, _, rfl⟩
        · go_wp2
          go_quiet (fail)
          go_wp2
          go_ret
          exact ⟨retB (no.out fun hc => by have := (hc2.out.1 hc).1; omega).symm, _, rfl⟩
      · have hc2 := hid (hcell.out.trans (by rw [if_neg hin]))
        have hm2 := hid (hms.out.trans (by rw [if_neg hin]))
        have fin : (q : Int) < m.S ∨ m.S ≤ (q : Int) := by omega
        rcases fin with hqS | hqS
        all_goals
          by_cases z1 : nx = 0
          · by_cases z2 : ot = 0
            · have hnx := hid (nxt.out (hc2.out.2 ⟨z1, z2⟩))
              subst z1; subst z2
              go_wp2
              go_quiet (fail)
              go_wp2
              go_roundw
              case rel => exact ⟨x + 1, _, by omega, rfl, by go_num, by rw [hm2.out], hnx.out⟩
              case measure => simp [intOf]; omega
            · have hrf := hid (no.out fun hc => z2 (hc2.out.1 hc).2)
              have z3 : ((ot : Int) != 0) = true := by rw [bne_iff_ne]; omega
              go_wp2
              go_quiet (fail)
              go_wp2
              go_ret
              exact ⟨retB hrf.out.symm, _, rfl⟩
          · have hrf := hid (no.out fun hc => z1 (hc2.out.1 hc).1)
            have z3 : ((nx : Int) != 0) = true := by rw [bne_iff_ne]; omega
            go_wp2
            go_quiet (fail)
            go_wp2
            go_ret
            exact ⟨retB hrf.out.symm, _, rfl⟩
    · obtain rfl : x = 3 := by omega
      go_wp2
      go_ret
      exact ⟨retB (hR.out.2 hall.out).symm, _, rfl⟩
end Go.Proofs.Ytbmkkaecfogmoaa

/- Small functions: ranges, letters, entries of machines, powers. -/
namespace Go.Proofs.Ytbmkkaecfogmoaa
open Go.RowKit
set_option linter.unusedVariables false
set_option linter.unusedSimpArgs false

theorem within_any (n lo hi : Int) (r : Bool) (hr : r = decide (lo ≤ n ∧ n ≤ hi)) (w : World) :
    Calls Try.prog 124 #[.int .i64 n, .int .i64 lo, .int .i64 hi] w fun e w' => e = .returned (.bool r) ∧ w = w' := by
  have H := hid hr; clear hr
  by_cases h1 : lo ≤ n
  · have d1 : decide (lo ≤ n) = true := decide_eq_true h1
    go_enter Try.func124, Try.ntmps124
    go_wp2
    go_ret
    exact ⟨retB (by rw [H.out]; simp [h1]), rfl⟩
  · have d1 : decide (lo ≤ n) = false := decide_eq_false h1
    have H' := hid (H.out.trans (decide_eq_false (fun h => h1 h.1)))
    go_enter Try.func124, Try.ntmps124
    go_wp2
    go_ret
    exact ⟨retB H'.out.symm, rfl⟩

theorem l01In_any (n lo hi : Int) (r : Bool) (hr : r = decide (lo ≤ n ∧ n ≤ hi)) (w : World) :
    Calls Try.prog 91 #[.int .i64 n, .int .i64 lo, .int .i64 hi] w fun e w' => e = .returned (.bool r) ∧ w = w' := by
  have H := hid hr; clear hr
  by_cases h1 : lo ≤ n
  · have d1 : decide (lo ≤ n) = true := decide_eq_true h1
    go_enter Try.func91, Try.ntmps91
    go_wp2
    go_ret
    exact ⟨retB (by rw [H.out]; simp [h1]), rfl⟩
  · have d1 : decide (lo ≤ n) = false := decide_eq_false h1
    have H' := hid (H.out.trans (decide_eq_false (fun h => h1 h.1)))
    go_enter Try.func91, Try.ntmps91
    go_wp2
    go_ret
    exact ⟨retB H'.out.symm, rfl⟩

theorem areLetters_any (d : Int) (r : Bool) (hr : r = decide (2 ≤ d ∧ d ≤ 3)) (w : World) :
    Calls Try.prog 165 #[.int .i64 d] w fun e w' => e = .returned (.bool r) ∧ w = w' := by
  have H := hid hr; clear hr
  go_enter Try.func165, Try.ntmps165
  go_wp2_with (go_at_call 124; refine (within_any _ _ _ r H.out _).mono ?_; rintro e w' ⟨rfl, rfl⟩)
  go_ret
  exact ⟨rfl, rfl⟩

theorem letter_any (x : Nat) (hx : x < 208) (w : World) :
    Calls Try.prog 189 #[.int .i64 x] w fun e w' => e = .returned (.int .u8 ((48 + x : Nat) : Int)) ∧ w = w' := by
  have e1 : ((x : Int) % 256) = x := by omega
  have e2 : ((48 + (x : Int)) % 256) = 48 + x := by omega
  go_enter Try.func189, Try.ntmps189
  go_wp2
  go_ret
  exact ⟨retI (by omega), rfl⟩

theorem next_any (b : Nat) (w : World) (m : Mach) (hm : MB w 27 b m) (q x : Nat) (hq : q < 16) (hx : x < 3) (hk : m.nx (q * 3 + x) < 256) :
    Calls Try.prog 184 #[.pointer (some ⟨b,0,none⟩), .int .i64 q, .int .i64 x] w fun e w' => e = .returned (.int .i64 (m.nx (q * 3 + x) : Nat)) ∧ w = w' := by
  have h1 := hm.cnx q x hq hx
  generalize m.nx (q * 3 + x) = nx at *
  go_enter Try.func184, Try.ntmps184
  go_wp2
  go_ret
  exact ⟨rfl, rfl⟩

theorem out_any (b : Nat) (w : World) (m : Mach) (hm : MB w 27 b m) (q x : Nat) (hq : q < 16) (hx : x < 3) (hk : m.ot (q * 3 + x) < 256) :
    Calls Try.prog 185 #[.pointer (some ⟨b,0,none⟩), .int .i64 q, .int .i64 x] w fun e w' => e = .returned (.int .i64 (m.ot (q * 3 + x) : Nat)) ∧ w = w' := by
  have h1 := hm.cot q x hq hx
  generalize m.ot (q * 3 + x) = nx at *
  go_enter Try.func185, Try.ntmps185
  go_wp2
  go_ret
  exact ⟨rfl, rfl⟩

/-- d to the power n. -/
def pw (d : Nat) : Nat → Nat
  | 0 => 1
  | n + 1 => pw d n * d
theorem pw_pos (d : Nat) (h : 0 < d) : ∀ n, 0 < pw d n
  | 0 => Nat.one_pos
  | n + 1 => Nat.mul_pos (pw_pos d h n) h
theorem pw_mono (d : Nat) (h : 0 < d) (n : Nat) : ∀ k, pw d n ≤ pw d (n + k)
  | 0 => Nat.le_refl _
  | k + 1 => Nat.le_trans (pw_mono d h n k) (Nat.le_mul_of_pos_right _ h)
theorem pw_le (d : Nat) (h : 0 < d) {n k : Nat} (hk : n ≤ k) : pw d n ≤ pw d k := by
  have := pw_mono d h n (k - n); rwa [show n + (k - n) = k by omega] at this

theorem w64 {x : Int} (h : -9223372036854775808 ≤ x) (h' : x ≤ 9223372036854775807) : wrap64 x = x := by unfold wrap64; omega
theorem i64_eq {a b : Int} (h : a = b) : Value.int .i64 a = Value.int .i64 b := by rw [h]

/-- One factor more, in range. -/
theorem pw_step (d n i : Nat) (hd : 0 < d) (hb : pw d n < 9223372036854775808) (hi : i < n) : wrap64 ((pw d i : Nat) * (d : Int)) = (pw d (i + 1) : Nat) := by
  have h := pw_le d hd (show i + 1 ≤ n by omega)
  have e : ((pw d i : Nat) : Int) * (d : Int) = ((pw d (i + 1) : Nat) : Int) := by simp [pw]
  rw [e, w64 (by omega) (by omega)]

theorem power_any (d n : Nat) (hd : 0 < d) (hb : pw d n < 9223372036854775808) (hn : n < 9223372036854775807) (w : World) :
    Calls Try.prog 176 #[.int .i64 d, .int .i64 n] w fun e w' => e = .returned (.int .i64 (pw d n : Nat)) ∧ w = w' := by
  go_enter Try.func176, Try.ntmps176
  go_wp2
  go_loop [5, 7] (fun p i => ∃ k : Nat, k ≤ n ∧ i = .int .i64 k ∧ p = .int .i64 (pw d k : Nat)) (fun _ i => n - (intOf i).toNat)
  case atStart => exact ⟨0, by omega, rfl, rfl⟩
  case round =>
    obtain ⟨k, hk, rfl, rfl⟩ := hrel
    by_cases hlt : k < n
    · have hs := hid (pw_step d n k hd hb hlt)
      generalize pw d k = p at *
      go_wp2
      go_round
      case rel => exact ⟨k + 1, by omega, by go_num, i64_eq (by first | exact hs.out | (rw [← hs.out]; simp))⟩
      case measure => simp [intOf]; omega
    · obtain rfl : k = n := by omega
      go_wp2
      go_ret
      exact ⟨rfl, rfl⟩

theorem l01Power_any (d n : Nat) (hd : 0 < d) (hb : pw d n < 9223372036854775808) (hn : n < 9223372036854775807) (w : World) :
    Calls Try.prog 196 #[.int .i64 d, .int .i64 n] w fun e w' => e = .returned (.int .i64 (pw d n : Nat)) ∧ w = w' := by
  go_enter Try.func196, Try.ntmps196
  go_wp2
  go_loop [1, 5] (fun i p => ∃ k : Nat, k ≤ n ∧ i = .int .i64 (n - k : Nat) ∧ p = .int .i64 (pw d k : Nat)) (fun i _ => (intOf i).toNat)
  case atStart => exact ⟨0, by omega, rfl, rfl⟩
  case round =>
    obtain ⟨k, hk, rfl, rfl⟩ := hrel
    by_cases hlt : k < n
    · have hs := hid (pw_step d n k hd hb hlt)
      generalize pw d k = p at *
      obtain ⟨j, hj⟩ : ∃ j : Nat, n - k = j + 1 := ⟨n - k - 1, by omega⟩
      have hj2 := hid (show n - (k + 1) = j by omega)
      have hjb : j < 9223372036854775807 := by omega
      rw [hj]
      clear hj
      go_wp2
      go_round
      case rel => exact ⟨k + 1, by omega, by rw [hj2.out], i64_eq (by first | exact hs.out | (rw [← hs.out]; simp))⟩
      case measure => simp [intOf]
    · obtain rfl : k = n := by omega
      simp only [Nat.sub_self]
      go_wp2
      go_ret
      exact ⟨rfl, rfl⟩
end Go.Proofs.Ytbmkkaecfogmoaa

/- The program's IsMachine and the reference's l01Is answer whether IsM holds. -/
namespace Go.Proofs.Ytbmkkaecfogmoaa
open Go.RowKit
set_option linter.unusedVariables false
set_option linter.unusedSimpArgs false

theorem below_drewN {B : Nat} {a w : World} (h : Below B a w) (n : Nat) : Below B a (w.drewN n) := ⟨h.os, h.tape, h.output, h.size, h.block⟩
theorem below_alloc {B : Nat} {a w : World} (h : Below B a w) (hB : B ≤ a.heap.size) (o : Obj) : Below B a (w.alloc o) := h.alloc (Nat.le_trans hB h.size) o

set_option maxHeartbeats 1000000 in
theorem IsMachine_any (w : World) (m : Mach) (hk : m.Ok) (r : Bool) (hr : r = true ↔ IsM m) :
    Calls Try.prog 65 #[.agg (mcells m)] w fun e w' => e = .returned (.bool r) ∧ Below w.heap.size w w' := by
  have hK := hid hk; clear hk
  have hR := hid hr; clear hr
  have cL := mcells_L m
  have cS := mcells_S m
  by_cases hL : 2 ≤ m.L ∧ m.L ≤ 3
  · by_cases hS : 1 ≤ m.S ∧ m.S ≤ 16
    · have hM := hid (MB.new w m 27)
      have hB := hid ((Below.refl w.heap.size w).alloc (Nat.le_refl _) (.cells (mcells m) 27))
      go_enter Try.func65, Try.ntmps65
      go_wp2_with (first | (go_at_call 165; refine (areLetters_any _ true (decide_eq_true hL).symm _).mono ?_; rintro e w' ⟨rfl, rfl⟩) | (go_at_call 124; refine (within_any _ _ _ true (decide_eq_true hS).symm _).mono ?_; rintro e w' ⟨rfl, rfl⟩))
      go_loopw [14] (fun i wr => ∃ (q : Nat) (n : Nat), q ≤ 16 ∧ wr = (w.alloc (.cells (mcells m) 27)).drewN n ∧ i = .int .i64 q ∧ ∀ p, p < q → RowOk m p) (fun i _ => 16 - (intOf i).toNat)
      case atStart => exact ⟨0, 0, by omega, rfl, rfl, fun y hy => by omega⟩
      case round =>
        obtain ⟨q, n, hq, rfl, rfl, hall⟩ := hrel
        replace hall := hid hall
        by_cases hx : q < 16
        · by_cases hrow : RowOk m q
          · replace hrow := hid hrow
            go_wp2_with (go_at_call 166; refine (isRow_any _ _ m (hM.out.drewN n) hK.out q hx hL.1 hL.2 true ⟨fun _ => hrow.out, fun _ => rfl⟩).mono ?_; rintro e w' ⟨rfl, k, rfl⟩)
            go_roundw
            case rel =>
              refine ⟨q + 1, _, by omega, rfl, by go_num, fun p hp => ?_⟩
              by_cases e : p = q
              · rw [e]; exact hrow.out
              · exact hall.out p (by omega)
            case measure => simp [intOf]; omega
          · have hf := hid (show r = false by
              cases r
              · rfl
              · exact absurd ((hR.out.1 rfl).2.2.2.2 q hx) hrow)
            have hbad := hid (show false = true ↔ RowOk m q from ⟨fun h => (by cases h), fun h => absurd h hrow⟩)
            clear hrow
            go_wp2_with (go_at_call 166; refine (isRow_any _ _ m (hM.out.drewN n) hK.out q hx hL.1 hL.2 false hbad.out).mono ?_; rintro e w' ⟨rfl, k, rfl⟩)
            go_ret
            exact ⟨retB hf.out.symm, below_drewN hB.out _⟩
        · obtain rfl : q = 16 := by omega
          have hf := hid (hR.out.2 ⟨hL.1, hL.2, hS.1, hS.2, hall.out⟩)
          go_wp2
          go_ret
          exact ⟨retB hf.out.symm, below_drewN hB.out _⟩
    · have hf := hid (show r = false by
        cases r
        · rfl
        · have := hR.out.1 rfl; exact absurd ⟨this.2.2.1, this.2.2.2.1⟩ hS)
      have hS' := hid hS; clear hS
      have hB := hid ((Below.refl w.heap.size w).alloc (Nat.le_refl _) (.cells (mcells m) 27))
      go_enter Try.func65, Try.ntmps65
      go_wp2_with (first | (go_at_call 165; refine (areLetters_any _ true (decide_eq_true hL).symm _).mono ?_; rintro e w' ⟨rfl, rfl⟩) | (go_at_call 124; refine (within_any _ _ _ false (decide_eq_false hS'.out).symm _).mono ?_; rintro e w' ⟨rfl, rfl⟩))
      go_ret
      exact ⟨retB hf.out.symm, hB.out⟩
  · have hf := hid (show r = false by
      cases r
      · rfl
      · have := hR.out.1 rfl; exact absurd ⟨this.1, this.2.1⟩ hL)
    have hL' := hid hL; clear hL
    have hB := hid ((Below.refl w.heap.size w).alloc (Nat.le_refl _) (.cells (mcells m) 27))
    go_enter Try.func65, Try.ntmps65
    go_wp2_with (first | (go_at_call 165; refine (areLetters_any _ false (decide_eq_false hL'.out).symm _).mono ?_; rintro e w' ⟨rfl, rfl⟩))
    go_ret
    exact ⟨retB hf.out.symm, hB.out⟩
end Go.Proofs.Ytbmkkaecfogmoaa

/- The reference's l01Is answers whether IsM holds. -/
namespace Go.Proofs.Ytbmkkaecfogmoaa
open Go.RowKit
set_option linter.unusedVariables false
set_option linter.unusedSimpArgs false

/-- The letters put out so far, as marks. -/
def met (m : Mach) (q : Nat) : Nat → Nat → Bool
  | 0, _ => false
  | x + 1, j => if (q : Int) < m.S ∧ (x : Int) < m.L then (if j = m.ot (q * 3 + x) then true else met m q x j) else met m q x j

theorem met_bits (m : Mach) (q : Nat) : ∀ x k, (met m q x k = true ↔ ∃ y, y < x ∧ (q : Int) < m.S ∧ (y : Int) < m.L ∧ m.ot (q * 3 + y) = k)
  | 0, k => by simp [met]
  | x + 1, k => by
    have h2 := met_bits m q x k
    unfold met
    by_cases hq : (q : Int) < m.S ∧ (x : Int) < m.L
    · rw [if_pos hq]
      by_cases hk : k = m.ot (q * 3 + x)
      · rw [if_pos hk]; exact ⟨fun _ => ⟨x, by omega, hq.1, hq.2, hk.symm⟩, fun _ => rfl⟩
      · rw [if_neg hk, h2]
        refine ⟨fun ⟨y, hy, r⟩ => ⟨y, by omega, r⟩, fun ⟨y, hy, r1, r2, r3⟩ => ⟨y, ?_, r1, r2, r3⟩⟩
        by_cases e : y = x
        · subst e; exact absurd r3.symm hk
        · omega
    · rw [if_neg hq, h2]
      refine ⟨fun ⟨y, hy, r⟩ => ⟨y, by omega, r⟩, fun ⟨y, hy, r1, r2, r3⟩ => ⟨y, ?_, r1, r2, r3⟩⟩
      by_cases e : y = x
      · subst e; exact absurd ⟨r1, r2⟩ hq
      · omega

/-- A row of marks. -/
def bools (f : Nat → Bool) (i : Nat) : Value := .bool (f i)

set_option maxHeartbeats 2000000 in
set_option maxRecDepth 100000 in
theorem l01Is_any (w : World) (m : Mach) (hk : m.Ok) (r : Bool) (hr : r = true ↔ IsM m) :
    Calls Try.prog 80 #[.agg (mcells m)] w fun e w' => e = .returned (.bool r) ∧ Below w.heap.size w w' := by
  have hK := hid hk; clear hk
  have hR := hid hr; clear hr
  have cL := mcells_L m
  have cS := mcells_S m
  by_cases hL : 2 ≤ m.L ∧ m.L ≤ 3
  · by_cases hS : 1 ≤ m.S ∧ m.S ≤ 16
    · have hM := hid (MB.new w m 27)
      have hB := hid ((Below.refl w.heap.size w).alloc (Nat.le_refl _) (.cells (mcells m) 27))
      go_enter Try.func80, Try.ntmps80
      go_wp2_with (go_at_call 91; (with_reducible refine (l01In_any _ _ _ true (decide_eq_true (by omega)).symm _).mono ?_); rintro e w' ⟨rfl, rfl⟩)
      clear cL cS
      go_loopw [3] (fun i wr => ∃ (q : Nat), q ≤ 16 ∧ i = .int .i64 q ∧ MB wr 27 w.heap.size m ∧ Below w.heap.size w wr ∧ ∀ p, p < q → RowOk m p) (fun i _ => 16 - (intOf i).toNat)
      case atStart => exact ⟨0, by omega, rfl, hM.out, hB.out, fun y hy => by omega⟩
      case round =>
        obtain ⟨q, hq, rfl, hM2, hB2, hall⟩ := hrel
        replace hall := hid hall
        replace hM2 := hid hM2
        replace hB2 := hid hB2
        clear hM hB
        by_cases hx : q < 16
        · have dq : decide ((q : Int) < 16) = true := decide_eq_true (by omega)
          obtain ⟨wo, rfl⟩ : ∃ wo : World, wo = wr := ⟨_, rfl⟩
          go_wp2
          go_loopw [5] (fun i wr => ∃ x : Nat, x ≤ 3 ∧ i = .int .i64 x ∧ MB wr 27 w.heap.size m ∧ wr.rowIs wo.heap.size 150 3 (bools (met m q x)) ∧ Below w.heap.size w wr ∧ ∀ y, y < x → CellOk m q y) (fun i _ => 3 - (intOf i).toNat)
          case atStart =>
            refine ⟨0, by omega, rfl, hM2.out.alloc _, ?_, below_alloc hB2.out (Nat.le_refl _) _, fun y hy => by omega⟩
            refine World.rowIs_alloc _ _ _ _ (fun i hi => ?_)
            have h3 : i < 3 := hi
            have : i = 0 ∨ i = 1 ∨ i = 2 := by omega
            rcases this with rfl | rfl | rfl <;> rfl
          case round =>
            obtain ⟨x, hx3, rfl, hM3, hrow, hB3, hcs⟩ := hrel
            have hne := hid (show w.heap.size < wo.heap.size from hM2.out.lt)
            have cL := hM3.cL
            have cS := hM3.cS
            replace hM3 := hid hM3
            replace hrow := hid hrow
            replace hB3 := hid hB3
            replace hcs := hid hcs
            by_cases hx' : x < 3
            · have dx : decide ((x : Int) < 3) = true := decide_eq_true (by omega)
              have h1 := hM3.out.cnx q x hx hx'
              have h2 := hM3.out.cot q x hx hx'
              have hn := (hK.out (q * 3 + x)).1
              have ho := (hK.out (q * 3 + x)).2
              have hbits := hid (met_bits m q x (m.ot (q * 3 + x)))
              have hms := hid (show ∀ j, met m q (x + 1) j = if (q : Int) < m.S ∧ (x : Int) < m.L then (if j = m.ot (q * 3 + x) then true else met m q x j) else met m q x j from fun _ => rfl)
              have hmark : m.ot (q * 3 + x) < 3 → wr.cell? ⟨wo.heap.size, m.ot (q * 3 + x), none⟩ = some (.bool (met m q x (m.ot (q * 3 + x)))) := fun h => hrow.out.cell h
              have hcell := hid (show CellOk m q x ↔ if (q : Int) < m.S ∧ (x : Int) < m.L then
                  (m.nx (q * 3 + x) : Int) < m.S ∧ (m.ot (q * 3 + x) : Int) < m.L ∧ ∀ y, y < x → m.ot (q * 3 + y) ≠ m.ot (q * 3 + x)
                else m.nx (q * 3 + x) = 0 ∧ m.ot (q * 3 + x) = 0 from Iff.rfl)
              replace hmark := hid hmark
              generalize m.nx (q * 3 + x) = nx at *
              generalize m.ot (q * 3 + x) = ot at *
              have hfz : wr.frozen? ⟨wo.heap.size, ot, none⟩ = false := hrow.out.frozen ot
              have no := hid (show ¬ CellOk m q x → r = false from fun h => by
                cases r
                · rfl
                · exact absurd ((hR.out.1 rfl).2.2.2.2 q hx x hx') h)
              have nxt := hid (show CellOk m q x → ∀ y, y < x + 1 → CellOk m q y from fun h y hy => by
                by_cases e : y = x
                · subst e; exact h
                · exact hcs.out y (by omega))
              by_cases hin : (q : Int) < m.S ∧ (x : Int) < m.L
              · have hc2 := hid (hcell.out.trans (by rw [if_pos hin]))
                have hm2 := hid (show ∀ j, met m q (x + 1) j = (if j = ot then true else met m q x j) from fun j => (hms.out j).trans (by rw [if_pos hin]))
                obtain ⟨hqS, hxL⟩ := hin
                have d1 : decide (m.S ≤ (q : Int)) = false := decide_eq_false (by omega)
                have d2 : decide (m.L ≤ (x : Int)) = false := decide_eq_false (by omega)
                by_cases a1 : (nx : Int) < m.S
                · have d3 : decide (m.S ≤ (nx : Int)) = false := decide_eq_false (by omega)
                  by_cases a2 : (ot : Int) < m.L
                  · have d4 : decide (m.L ≤ (ot : Int)) = false := decide_eq_false (by omega)
                    have hot3 : ot < 3 := by omega
                    have hmk := hmark.out hot3
                    cases hb : met m q x ot with
                    | true =>
                      rw [hb] at hmk
                      have hf := hid (no.out fun hc => by
                        obtain ⟨y, hy, _, _, e⟩ := hbits.out.1 hb
                        exact (hc2.out.1 hc).2.2 y hy e)
                      clear hb
                      go_wp2
                      go_quiet (fail)
                      go_wp2
                      go_ret
                      exact ⟨retB hf.out.symm, below_drewN hB3.out _⟩
                    | false =>
                      rw [hb] at hmk
                      have hf := hid (nxt.out (hc2.out.2 ⟨a1, a2, fun y hy e => by
                        have := hbits.out.2 ⟨y, hy, hqS, by omega, e⟩
                        rw [hb] at this
                        cases this⟩))
                      clear hb
                      go_wp2
                      go_quiet (fail)
                      go_wp2
                      go_roundw
                      case rel =>
                        refine ⟨x + 1, by omega, by go_num, (hM3.out.drewN _).setOther (by have := hne.out; simp; omega) _, ?_, (below_drewN hB3.out _).setCell (by have := hne.out; simp; omega) _, hf.out⟩
                        refine World.rowIs.congr (World.rowIs.set (f := bools (met m q x)) hrow.out ot _) (fun i hi => ?_)
                        unfold bools
                        rw [hm2.out i]
                        split <;> rfl
                      case measure => simp [intOf]; omega
                  · have hf := hid (no.out fun hc => a2 (hc2.out.1 hc).2.1)
                    go_wp2
                    go_quiet (fail)
                    go_wp2
                    go_ret
                    exact ⟨retB hf.out.symm, below_drewN hB3.out _⟩
                · have hf := hid (no.out fun hc => a1 (hc2.out.1 hc).1)
                  go_wp2
                  go_quiet (fail)
                  go_wp2
                  go_ret
                  exact ⟨retB hf.out.symm, below_drewN hB3.out _⟩
              · have hc2 := hid (hcell.out.trans (by rw [if_neg hin]))
                have hm2 := hid (show ∀ j, met m q (x + 1) j = met m q x j from fun j => (hms.out j).trans (by rw [if_neg hin]))
                have fin : (q : Int) < m.S ∨ m.S ≤ (q : Int) := by omega
                rcases fin with hqS | hqS
                all_goals
                  by_cases z1 : nx = 0
                  · by_cases z2 : ot = 0
                    · have hf := hid (nxt.out (hc2.out.2 ⟨z1, z2⟩))
                      subst z1; subst z2
                      go_wp2
                      go_quiet (fail)
                      go_wp2
                      go_roundw
                      case rel => exact ⟨x + 1, by omega, by go_num, hM3.out.drewN _, World.rowIs.congr (f := bools (met m q x)) hrow.out (fun i hi => by unfold bools; rw [hm2.out i]), below_drewN hB3.out _, hf.out⟩
                      case measure => simp [intOf]; omega
                    · have hrf := hid (no.out fun hc => z2 (hc2.out.1 hc).2)
                      have z3 : ((ot : Int) != 0) = true := by rw [bne_iff_ne]; omega
                      go_wp2
                      go_quiet (fail)
                      go_wp2
                      go_ret
                      exact ⟨retB hrf.out.symm, below_drewN hB3.out _⟩
                  · have hrf := hid (no.out fun hc => z1 (hc2.out.1 hc).1)
                    have z3 : ((nx : Int) != 0) = true := by rw [bne_iff_ne]; omega
                    go_wp2
                    go_quiet (fail)
                    go_wp2
                    go_ret
                    exact ⟨retB hrf.out.symm, below_drewN hB3.out _⟩
            · obtain rfl : x = 3 := by omega
              go_wp2
              go_roundw
              case rel =>
                refine ⟨q + 1, by omega, by go_num, hM3.out, hB3.out, fun p hp => ?_⟩
                by_cases e : p = q
                · rw [e]; exact hcs.out
                · exact hall.out p (by omega)
              case measure => simp [intOf]; omega
        · obtain rfl : q = 16 := by omega
          have hf := hid (hR.out.2 ⟨hL.1, hL.2, hS.1, hS.2, hall.out⟩)
          go_wp2
          go_ret
          exact ⟨retB hf.out.symm, hB2.out⟩
    · have hf := hid (show r = false by
        cases r
        · rfl
        · have := hR.out.1 rfl; exact absurd ⟨this.2.2.1, this.2.2.2.1⟩ hS)
      have hS' := hid hS; clear hS
      have hB := hid ((Below.refl w.heap.size w).alloc (Nat.le_refl _) (.cells (mcells m) 27))
      go_enter Try.func80, Try.ntmps80
      go_wp2_with (first | (go_at_call 91; (with_reducible refine (l01In_any m.L 2 3 true (decide_eq_true hL).symm _).mono ?_); rintro e w' ⟨rfl, rfl⟩) | (go_at_call 91; (with_reducible refine (l01In_any m.S 1 16 false (decide_eq_false hS'.out).symm _).mono ?_); rintro e w' ⟨rfl, rfl⟩))
      go_ret
      exact ⟨retB hf.out.symm, hB.out⟩
  · have hf := hid (show r = false by
      cases r
      · rfl
      · have := hR.out.1 rfl; exact absurd ⟨this.1, this.2.1⟩ hL)
    have hL' := hid hL; clear hL
    have hB := hid ((Below.refl w.heap.size w).alloc (Nat.le_refl _) (.cells (mcells m) 27))
    go_enter Try.func80, Try.ntmps80
    go_wp2_with (go_at_call 91; (with_reducible refine (l01In_any m.L 2 3 false (decide_eq_false hL'.out).symm _).mono ?_); rintro e w' ⟨rfl, rfl⟩)
    go_ret
    exact ⟨retB hf.out.symm, hB.out⟩
end Go.Proofs.Ytbmkkaecfogmoaa
