/- Small functions: ranges, letters, entries of machines, powers. -/
import Derived.Test.YthempofohidlnaaIs
namespace Go.Proofs.Ythempofohidlnaa
open Go.RowKit
set_option linter.unusedVariables false
set_option linter.unusedSimpArgs false

theorem within_any (n lo hi : Int) (r : Bool) (hr : r = decide (lo ≤ n ∧ n ≤ hi)) (w : World) :
    Calls Try.prog 62 #[.int .i64 n, .int .i64 lo, .int .i64 hi] w fun e w' => e = .returned (.bool r) ∧ w = w' := by
  have H := hid hr; clear hr
  by_cases h1 : lo ≤ n
  · have d1 : decide (lo ≤ n) = true := decide_eq_true h1
    go_enter Try.func62, Try.ntmps62
    go_wp2
    go_ret
    exact ⟨retB (by rw [H.out]; simp [h1]), rfl⟩
  · have d1 : decide (lo ≤ n) = false := decide_eq_false h1
    have H' := hid (H.out.trans (decide_eq_false (fun h => h1 h.1)))
    go_enter Try.func62, Try.ntmps62
    go_wp2
    go_ret
    exact ⟨retB H'.out.symm, rfl⟩

theorem l01In_any (n lo hi : Int) (r : Bool) (hr : r = decide (lo ≤ n ∧ n ≤ hi)) (w : World) :
    Calls Try.prog 58 #[.int .i64 n, .int .i64 lo, .int .i64 hi] w fun e w' => e = .returned (.bool r) ∧ w = w' := by
  have H := hid hr; clear hr
  by_cases h1 : lo ≤ n
  · have d1 : decide (lo ≤ n) = true := decide_eq_true h1
    go_enter Try.func58, Try.ntmps58
    go_wp2
    go_ret
    exact ⟨retB (by rw [H.out]; simp [h1]), rfl⟩
  · have d1 : decide (lo ≤ n) = false := decide_eq_false h1
    have H' := hid (H.out.trans (decide_eq_false (fun h => h1 h.1)))
    go_enter Try.func58, Try.ntmps58
    go_wp2
    go_ret
    exact ⟨retB H'.out.symm, rfl⟩

theorem areLetters_any (d : Int) (r : Bool) (hr : r = decide (2 ≤ d ∧ d ≤ 3)) (w : World) :
    Calls Try.prog 120 #[.int .i64 d] w fun e w' => e = .returned (.bool r) ∧ w = w' := by
  have H := hid hr; clear hr
  go_enter Try.func120, Try.ntmps120
  go_wp2_with (go_at_call 62; refine (within_any _ _ _ r H.out _).mono ?_; rintro e w' ⟨rfl, rfl⟩)
  go_ret
  exact ⟨rfl, rfl⟩

theorem letter_any (x : Nat) (hx : x < 208) (w : World) :
    Calls Try.prog 119 #[.int .i64 x] w fun e w' => e = .returned (.int .u8 ((48 + x : Nat) : Int)) ∧ w = w' := by
  have e1 : ((x : Int) % 256) = x := by omega
  have e2 : ((48 + (x : Int)) % 256) = 48 + x := by omega
  go_enter Try.func119, Try.ntmps119
  go_wp2
  go_ret
  exact ⟨retI (by omega), rfl⟩

theorem next_any (b : Nat) (w : World) (m : Mach) (hm : MB w 34 b m) (q x : Nat) (hq : q < 16) (hx : x < 3) (hk : m.nx (q * 3 + x) < 256) :
    Calls Try.prog 117 #[.pointer (some ⟨b,0,none⟩), .int .i64 q, .int .i64 x] w fun e w' => e = .returned (.int .i64 (m.nx (q * 3 + x) : Nat)) ∧ w = w' := by
  have h1 := hm.cnx q x hq hx
  generalize m.nx (q * 3 + x) = nx at *
  go_enter Try.func117, Try.ntmps117
  go_wp2
  go_ret
  exact ⟨rfl, rfl⟩

theorem out_any (b : Nat) (w : World) (m : Mach) (hm : MB w 34 b m) (q x : Nat) (hq : q < 16) (hx : x < 3) (hk : m.ot (q * 3 + x) < 256) :
    Calls Try.prog 118 #[.pointer (some ⟨b,0,none⟩), .int .i64 q, .int .i64 x] w fun e w' => e = .returned (.int .i64 (m.ot (q * 3 + x) : Nat)) ∧ w = w' := by
  have h1 := hm.cot q x hq hx
  generalize m.ot (q * 3 + x) = nx at *
  go_enter Try.func118, Try.ntmps118
  go_wp2
  go_ret
  exact ⟨rfl, rfl⟩

/-- d to the power n. -/
def pw (d : Nat) : Nat → Nat
  | 0 => 1
  | n + 1 => pw d n * d
theorem pw_pos (d : Nat) (h : 0 < d) : ∀ n, 0 < pw d n
  | 0 => Nat.one_pos
  | n + 1 => Nat.mul_pos (pw_pos d h n) h
theorem pw_mono (d : Nat) (h : 0 < d) (n : Nat) : ∀ k, pw d n ≤ pw d (n + k)
  | 0 => Nat.le_refl _
  | k + 1 => Nat.le_trans (pw_mono d h n k) (Nat.le_mul_of_pos_right _ h)
theorem pw_le (d : Nat) (h : 0 < d) {n k : Nat} (hk : n ≤ k) : pw d n ≤ pw d k := by
  have := pw_mono d h n (k - n); rwa [show n + (k - n) = k by omega] at this

theorem w64 {x : Int} (h : -9223372036854775808 ≤ x) (h' : x ≤ 9223372036854775807) : wrap64 x = x := by unfold wrap64; omega
theorem i64_eq {a b : Int} (h : a = b) : Value.int .i64 a = Value.int .i64 b := by rw [h]

/-- One factor more, in range. -/
theorem pw_step (d n i : Nat) (hd : 0 < d) (hb : pw d n < 9223372036854775808) (hi : i < n) : wrap64 ((pw d i : Nat) * (d : Int)) = (pw d (i + 1) : Nat) := by
  have h := pw_le d hd (show i + 1 ≤ n by omega)
  have e : ((pw d i : Nat) : Int) * (d : Int) = ((pw d (i + 1) : Nat) : Int) := by simp [pw]
  rw [e, w64 (by omega) (by omega)]

theorem power_any (d n : Nat) (hd : 0 < d) (hb : pw d n < 9223372036854775808) (hn : n < 9223372036854775807) (w : World) :
    Calls Try.prog 139 #[.int .i64 d, .int .i64 n] w fun e w' => e = .returned (.int .i64 (pw d n : Nat)) ∧ w = w' := by
  go_enter Try.func139, Try.ntmps139
  go_wp2
  go_loop [5, 7] (fun p i => ∃ k : Nat, k ≤ n ∧ i = .int .i64 k ∧ p = .int .i64 (pw d k : Nat)) (fun _ i => n - (intOf i).toNat)
  case atStart => exact ⟨0, by omega, rfl, rfl⟩
  case round =>
    obtain ⟨k, hk, rfl, rfl⟩ := hrel
    by_cases hlt : k < n
    · have hs := hid (pw_step d n k hd hb hlt)
      generalize pw d k = p at *
      go_wp2
      go_round
      case rel => exact ⟨k + 1, by omega, by go_num, i64_eq (by first | exact hs.out | (rw [← hs.out]; simp))⟩
      case measure => simp [intOf]; omega
    · obtain rfl : k = n := by omega
      go_wp2
      go_ret
      exact ⟨rfl, rfl⟩

theorem l01Power_any (d n : Nat) (hd : 0 < d) (hb : pw d n < 9223372036854775808) (hn : n < 9223372036854775807) (w : World) :
    Calls Try.prog 49 #[.int .i64 d, .int .i64 n] w fun e w' => e = .returned (.int .i64 (pw d n : Nat)) ∧ w = w' := by
  go_enter Try.func49, Try.ntmps49
  go_wp2
  go_loop [1, 5] (fun i p => ∃ k : Nat, k ≤ n ∧ i = .int .i64 (n - k : Nat) ∧ p = .int .i64 (pw d k : Nat)) (fun i _ => (intOf i).toNat)
  case atStart => exact ⟨0, by omega, rfl, rfl⟩
  case round =>
    obtain ⟨k, hk, rfl, rfl⟩ := hrel
    by_cases hlt : k < n
    · have hs := hid (pw_step d n k hd hb hlt)
      generalize pw d k = p at *
      obtain ⟨j, hj⟩ : ∃ j : Nat, n - k = j + 1 := ⟨n - k - 1, by omega⟩
      have hj2 := hid (show n - (k + 1) = j by omega)
      have hjb : j < 9223372036854775807 := by omega
      rw [hj]
      clear hj
      go_wp2
      go_round
      case rel => exact ⟨k + 1, by omega, by rw [hj2.out], i64_eq (by first | exact hs.out | (rw [← hs.out]; simp))⟩
      case measure => simp [intOf]
    · obtain rfl : k = n := by omega
      simp only [Nat.sub_self]
      go_wp2
      go_ret
      exact ⟨rfl, rfl⟩
end Go.Proofs.Ythempofohidlnaa
