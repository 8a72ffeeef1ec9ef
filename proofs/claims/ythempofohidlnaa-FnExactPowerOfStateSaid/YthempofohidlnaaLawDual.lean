/- The two DualMachine answer alike; the statement's walk. -/
import Derived.Test.YthempofohidlnaaDual
namespace Go.Proofs.Ythempofohidlnaa
open Go.RowKit
set_option linter.unusedVariables false
set_option linter.unusedSimpArgs false

/-- A machine and a number handed back. -/
theorem ret_mach_i {fn : Func} {R : Ending → World → Prop} {a : Act} {w : World} {p q : Nat} (h : fn.results = #[.cell p 34, .tmp q]) {g t : Nat} {m : Mach} {n : Int}
    (hp : a.tmps.getD p undef = .pointer (some ⟨g, 0, none⟩)) (hq : a.tmps.getD q undef = .int .i64 n) (hm : MB w t g m) (hdf : a.defers = []) (hR : R (.returned (.tuple #[.agg (mcells m), .int .i64 n])) w) : bodyPost Try.prog fn R .ret a w := by
  refine bodyPost_ret (v := .tuple #[.agg (mcells m), .int .i64 n]) ?_ hdf hR
  have hp' : a.tmps[p]?.getD undef = .pointer (some ⟨g, 0, none⟩) := by simpa using hp
  have hq' : a.tmps[q]?.getD undef = .int .i64 n := by simpa using hq
  have := run_loadVar_row (P := Try.prog) w g t 34 (mcells m) (0, 0) _ hm.heap Try.underlying34 rfl (by rw [size_mcells]; exact sz_mach)
  simp [results, h, hp', hq', asAddr, this]

/-- One entry of the dual. -/
def stepD (m : Mach) (x q : Nat) (o : Mach) : Mach :=
  { o with nx := upd o.nx (x * 3 + q) (m.ot (q * 3 + x)), ot := upd o.ot (x * 3 + q) (m.nx (q * 3 + x)) }
def rowD (m : Mach) (x : Nat) : Nat → Mach → Mach
  | 0, o => o
  | q + 1, o => stepD m x q (rowD m x q o)
def allD (m : Mach) (s : Nat) : Nat → Mach
  | 0 => ⟨m.S, m.L, fun _ => 0, fun _ => 0⟩
  | x + 1 => rowD m x s (allD m s x)
def dual (m : Mach) (l s : Nat) : Mach := allD m s l

open Classical in
/-- What DualMachine answers. -/
noncomputable def dualAns (m : Mach) : Mach × Int :=
  if IsM m then (if 2 ≤ m.S ∧ m.S ≤ 3 then (if ∀ l s, Good m l s → RevP m l s then (dual m m.L.toNat m.S.toNat, 0) else (zeroM, 5)) else (zeroM, 2)) else (zeroM, 1)

theorem good_uniq {m : Mach} {l s l' s' : Nat} (g : Good m l s) (g' : Good m l' s') : l' = l ∧ s' = s := by
  have := g.L; have := g.S; have := g'.L; have := g'.S; omega

open Classical in
theorem dualAns_good {m : Mach} {l s : Nat} (g : Good m l s) : dualAns m = if s ≤ 3 ∧ 2 ≤ s then (if RevP m l s then (dual m l s, 0) else (zeroM, 5)) else (zeroM, 2) := by
  unfold dualAns
  rw [if_pos g.isM]
  have hS := g.S
  have hL := g.L
  by_cases h : s ≤ 3 ∧ 2 ≤ s
  · rw [if_pos (by omega), if_pos h]
    by_cases hr : RevP m l s
    · rw [if_pos hr, if_pos (fun l' s' g' => by obtain ⟨rfl, rfl⟩ := good_uniq g g'; exact hr), hS, hL]
      rfl
    · rw [if_neg hr, if_neg (fun hh => hr (hh l s g))]
  · rw [if_neg (by omega), if_neg h]

end Go.Proofs.Ythempofohidlnaa
