/- bits.Mul at 1 and small numbers. -/
import Derived.Test.YthempofohidlnaaCopy
namespace Go.Proofs.Ythempofohidlnaa
open Go.RowKit
set_option linter.unusedVariables false
set_option linter.unusedSimpArgs false
set_option maxRecDepth 4000 in
theorem bitsMul64_small (w : World) (n : Nat) (hn : n ≤ 16) :
    Calls Try.prog 157 #[.int .u64 1, .int .u64 n] w fun e w' => e = .returned (.tuple #[.int .u64 0, .int .u64 n]) ∧ w = w' := by
  have h : n = 0 ∨ n = 1 ∨ n = 2 ∨ n = 3 ∨ n = 4 ∨ n = 5 ∨ n = 6 ∨ n = 7 ∨ n = 8 ∨ n = 9 ∨ n = 10 ∨ n = 11 ∨ n = 12 ∨ n = 13 ∨ n = 14 ∨ n = 15 ∨ n = 16 := by omega
  clear hn
  rcases h with rfl | rfl | rfl | rfl | rfl | rfl | rfl | rfl | rfl | rfl | rfl | rfl | rfl | rfl | rfl | rfl | rfl <;>
  · go_enter Try.func157, Try.ntmps157
    go_wp2
    go_ret2
    exact ⟨rfl, rfl⟩
theorem bitsMul_small (w : World) (n : Nat) (hn : n ≤ 16) :
    Calls Try.prog 128 #[.int .u64 1, .int .u64 n] w fun e w' => e = .returned (.tuple #[.int .u64 0, .int .u64 n]) ∧ w = w' := by
  have hm := hid (fun W => bitsMul64_small W n hn)
  have xn : (n : Int) % 18446744073709551616 = n := by omega
  clear hn
  go_enter Try.func128, Try.ntmps128
  go_wp2_with (first
    | (go_at_call 157; (with_reducible refine (hm.out _).mono ?_); rintro e w1 ⟨rfl, rfl⟩))
  go_ret2
  exact ⟨rfl, rfl⟩
end Go.Proofs.Ythempofohidlnaa
