/- What the proof of FnDuals leans on, part 6 of 26. -/
import Derived.Test.YtbmkkaecfogmoaaZFnDualsE
import Derived.DeepKeys
import Derived.Laws.StructEq
/- Arrays of bytes and machines, compared by ==. -/
namespace Go.Proofs.Ytbmkkaecfogmoaa
open Go.RowKit
set_option linter.unusedVariables false
set_option linter.unusedSimpArgs false

theorem guard_b3 : Try.prog.eqGuardType Try.prog.depth 24 = false := by kernel_rfl
theorem guard_mach : Try.prog.eqGuardType Try.prog.depth 27 = false := by kernel_rfl
theorem key_b3 : Try.prog.keyTypeAt 2 24 = true := by kernel_rfl
theorem key_mach : Try.prog.keyTypeAt 5 27 = true := by kernel_rfl
theorem cells_b3 : Try.prog.cellsOf 24 = 3 := by kernel_rfl
theorem cells_u8 : Try.prog.cellsOf 5 = 1 := by kernel_rfl
theorem wf_u8 (a : Nat) (h : a < 256) : (Lit.int .u8 (a : Int)).wf = true := by
  have h0 : IntKind.u8.min = 0 := by decide
  have h1 : IntKind.u8.max = 255 := by decide
  simp [Lit.wf, IntKind.has, h0, h1]; omega
/-- The literals of a row of bytes. -/
theorem lits_u8 (d : Nat) (a : Nat) (h : a < 256) : Try.prog.keyLits (d + 1) 5 [.int .u8 (a : Int)] = some [.int .u8 (a : Int)] := by
  unfold Program.keyLits
  rw [Try.underlying5]
  simp [wf_u8 a h]
theorem lits_b3 (d : Nat) (a b c : Nat) (ha : a < 256) (hb : b < 256) (hc : c < 256) : Try.prog.keyLits (d + 2) 24 [.int .u8 (a : Int), .int .u8 (b : Int), .int .u8 (c : Int)] = some [.int .u8 (a : Int), .int .u8 (b : Int), .int .u8 (c : Int)] := by
  unfold Program.keyLits
  rw [Try.underlying24]
  simp only [cells_b3, List.length_cons, List.length_nil, cells_u8, Nat.mul_one]
  rw [if_pos trivial]
  have e : List.range 3 = [0, 1, 2] := rfl
  rw [e]
  simp [List.mapM_cons, lits_u8, ha, hb, hc]
/-- Two rows of bytes. -/
theorem eq_b3 (w : World) (a b c a' b' c' : Nat) (h : a < 256 ∧ b < 256 ∧ c < 256) (h' : a' < 256 ∧ b' < 256 ∧ c' < 256) (r : Bool) (hr : Tells r (a = a' ∧ b = b' ∧ c = c')) :
    (Op.equalIn 10000 24 (.agg #[.int .u8 (a : Int), .int .u8 (b : Int), .int .u8 (c : Int)]) (.agg #[.int .u8 (a' : Int), .int .u8 (b' : Int), .int .u8 (c' : Int)])).run Try.prog w = .ok r w := by
  have hf : ∀ x y z : Nat, (Value.agg #[.int .u8 (x : Int), .int .u8 (y : Int), .int .u8 (z : Int)]).formed Try.prog 24 = true := fun x y z => by
    simp [Value.formed, Try.underlying24, cells_b3]
  obtain ⟨q, hq, hi⟩ := run_equalIn_deep (P := Try.prog) 9998 2 24 key_b3 w 2 2 _ _ _ _ (hf a b c) (hf a' b' c') (lits_b3 0 a b c h.1 h.2.1 h.2.2) (lits_b3 0 a' b' c' h'.1 h'.2.1 h'.2.2)
  have e : q = r := by
    rw [Bool.eq_iff_iff, hi, hr.out]
    simp
    omega
  rw [← e]
  exact hq
end Go.Proofs.Ytbmkkaecfogmoaa
