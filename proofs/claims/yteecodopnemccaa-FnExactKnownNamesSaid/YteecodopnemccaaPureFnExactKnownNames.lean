/- Proved: the program's KnownNames returns just what the reference's KnownNames returns, in memory of its own at each call; no conditions. -/
import Derived.Test.YteecodopnemccaaPFnExactKnownNamesx2
namespace Go.Proofs.Yteecodopnemccaa.Pure
open Go.RowKit Go.Proofs.Yteecodopnemccaa.PFnExactKnownNames Go.Proofs.YteecodopnemccaaW.PrintWords Go.Proofs.YteecodopnemccaaW.PrintLast
theorem FnExactKnownNames : laws_FnExactKnownNames.Pure := ⟨30, by decide +kernel⟩
end Go.Proofs.Yteecodopnemccaa.Pure
