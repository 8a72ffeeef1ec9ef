/- ProductOfStates: what the program and the reference answer. -/
import Derived.Test.YthempofohidlnaaProdS
import Derived.Test.YthempofohidlnaaPair
namespace Go.Proofs.Ythempofohidlnaa
open Go.RowKit
set_option linter.unusedVariables false
set_option linter.unusedSimpArgs false

open Classical in
/-- What ProductOfStates answers. -/
noncomputable def posAns (m : Mach) (q : Int) (k : Mach) (r : Int) : Mach × Int := if pairI m q k r = 0 then (fromM (prodT m k m.L.toNat m.S.toNat k.S.toNat) (q.toNat * k.S.toNat + r.toNat), fromC (prodT m k m.L.toNat m.S.toNat k.S.toNat) (q.toNat * k.S.toNat + r.toNat)) else (⟨0, 0, fun _ => 0, fun _ => 0⟩, pairI m q k r)
theorem posAns_0 {m k : Mach} {l s s' q r : Nat} (g : Good m l s) (g' : Good k l s') (h : pairI m q k r = 0) : posAns m q k r = (fromM (prodT m k l s s') (q * s' + r), fromC (prodT m k l s s') (q * s' + r)) := by
  unfold posAns; rw [if_pos h, g.L, g.S, g'.S]; rfl
theorem posAns_n {m : Mach} {q : Int} {k : Mach} {r c : Int} (h : pairI m q k r = c) (hc : c ≠ 0) : posAns m q k r = (⟨0, 0, fun _ => 0, fun _ => 0⟩, c) := by
  unfold posAns; rw [h, if_neg hc]
theorem from_cases (T : Tab) (q : Nat) : (fromB T q = true ∧ fromC T q = 0) ∨ (fromB T q = false ∧ fromC T q = 3 ∧ fromM T q = ⟨0, 0, fun _ => 0, fun _ => 0⟩) := by
  unfold fromB fromC fromM
  by_cases h : (fin T (fix T) q).length ≤ 16
  · exact .inl ⟨decide_eq_true h, if_pos h⟩
  · exact .inr ⟨decide_eq_false h, if_neg h, if_neg h⟩

end Go.Proofs.Ythempofohidlnaa
