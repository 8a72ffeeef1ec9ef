/-
  No cell of these rows narrows 'for every input' (looked for: loops, veiled, ifaces, maps, wideKeys, modest, calm, conditions, laid).
  DERIVED. THE GIVEN ROWS OF THIS SEAT. 5 by the template 'for every input the law returns true; each argument reads behind the call as it read before'; 0 by the template 'total and deterministic' (their statements: YteecodopnemccaaTotals.lean).
  GIVEN WITH THE SEED: the statements are not yours to turn. If you find one false, say at which input.
  Laid BY PROGRAM, IN A SANDBOX (cutbox-rows.mjs): the forced cells as the released guide's own fill.sh prints them over the translation c661069cd2e9db48… (all of the seat's roots in one cut). By AI agents, Wed Nov 11 2026. No macro, syntax, notation, axiom, sorry.
-/
import Derived.Test.YteecodopnemccaaChecked
import GoSem.Claim
import GoSem.ClaimJoined
import GoSem.ClaimMapViews
import Derived.JoinedTies
import Derived.KernelRfl
namespace Go.Proofs.Yteecodopnemccaa
/- THE CELL 'sum', in the pinned program and in every row, IS THE sha256 OF THE DUMP (.gsa) THAT YteecodopnemccaaProg.lean LOADS. Nothing in Lean hashes anything: it is a label: what it is worth is what the hold of that sum in a sandbox is worth. -/
noncomputable def Try.pinned : Pinned := { name := "yteecodopnemccaa", sum := "c661069cd2e9db48aff4846e5ccddeda5aeac062b574d093e80932cfc5c713c6", checked := Try.checked }
namespace Rows
def none {H : Type} : Left H := { results := [], args := [] }

/-- 'laws.FnExactDigitsOfNumber': WHATEVER THE INPUT: true; the input reads as it did. -/
def fnExactDigitsOfNumberSpec : ChangeSpec := { name := "fnExactDigitsOfNumber", fn := fun _ => fun
  | [d1, d2, d3] => { results := [.lit (.bool true)], args := [d1, d2, d3] }
  | _ => none }
def fnExactDigitsOfNumberRow : OpenClaim := { program := "yteecodopnemccaa", sum := "c661069cd2e9db48aff4846e5ccddeda5aeac062b574d093e80932cfc5c713c6", func := "loop.example/g01244/laws.FnExactDigitsOfNumber", spec := "fnExactDigitsOfNumber", apart := false }
def FnExactDigitsOfNumberSaid : Prop := fnExactDigitsOfNumberRow.holds Try.pinned (OpenSpec.ofChange fnExactDigitsOfNumberSpec)

/-- ITS FALSE NEIGHBOUR: 'it returns false'. Refute it at one input. -/
def fnExactDigitsOfNumberWrong : ChangeSpec := { name := "fnExactDigitsOfNumber", fn := fun _ => fun
  | [d1, d2, d3] => { results := [.lit (.bool false)], args := [d1, d2, d3] }
  | _ => none }
def FnExactDigitsOfNumberWrongFalsely : Prop := fnExactDigitsOfNumberRow.holds Try.pinned (OpenSpec.ofChange fnExactDigitsOfNumberWrong)

/-- 'laws.FnExactNumberOfDigits': WHATEVER THE INPUT: true; the input reads as it did. -/
def fnExactNumberOfDigitsSpec : ChangeSpec := { name := "fnExactNumberOfDigits", fn := fun _ => fun
  | [d1, d2] => { results := [.lit (.bool true)], args := [d1, d2] }
  | _ => none }
def fnExactNumberOfDigitsRow : OpenClaim := { program := "yteecodopnemccaa", sum := "c661069cd2e9db48aff4846e5ccddeda5aeac062b574d093e80932cfc5c713c6", func := "loop.example/g01244/laws.FnExactNumberOfDigits", spec := "fnExactNumberOfDigits", apart := false }
def FnExactNumberOfDigitsSaid : Prop := fnExactNumberOfDigitsRow.holds Try.pinned (OpenSpec.ofChange fnExactNumberOfDigitsSpec)

/-- ITS FALSE NEIGHBOUR: 'it returns false'. Refute it at one input. -/
def fnExactNumberOfDigitsWrong : ChangeSpec := { name := "fnExactNumberOfDigits", fn := fun _ => fun
  | [d1, d2] => { results := [.lit (.bool false)], args := [d1, d2] }
  | _ => none }
def FnExactNumberOfDigitsWrongFalsely : Prop := fnExactNumberOfDigitsRow.holds Try.pinned (OpenSpec.ofChange fnExactNumberOfDigitsWrong)

/-- 'laws.FnExactKnownNames': WHATEVER THE INPUT: true; the input reads as it did. -/
def fnExactKnownNamesSpec : ChangeSpec := { name := "fnExactKnownNames", fn := fun _ => fun
  | [] => { results := [.lit (.bool true)], args := [] }
  | _ => none }
def fnExactKnownNamesRow : OpenClaim := { program := "yteecodopnemccaa", sum := "c661069cd2e9db48aff4846e5ccddeda5aeac062b574d093e80932cfc5c713c6", func := "loop.example/g01244/laws.FnExactKnownNames", spec := "fnExactKnownNames", apart := false }
def FnExactKnownNamesSaid : Prop := fnExactKnownNamesRow.holds Try.pinned (OpenSpec.ofChange fnExactKnownNamesSpec)

/-- ITS FALSE NEIGHBOUR: 'it returns false'. Refute it at one input. -/
def fnExactKnownNamesWrong : ChangeSpec := { name := "fnExactKnownNames", fn := fun _ => fun
  | [] => { results := [.lit (.bool false)], args := [] }
  | _ => none }
def FnExactKnownNamesWrongFalsely : Prop := fnExactKnownNamesRow.holds Try.pinned (OpenSpec.ofChange fnExactKnownNamesWrong)

/-- 'laws.FnExactIsReversible': WHATEVER THE INPUT: true; the input reads as it did. -/
def fnExactIsReversibleSpec : ChangeSpec := { name := "fnExactIsReversible", fn := fun _ => fun
  | [d] => { results := [.lit (.bool true)], args := [d] }
  | _ => none }
def fnExactIsReversibleRow : OpenClaim := { program := "yteecodopnemccaa", sum := "c661069cd2e9db48aff4846e5ccddeda5aeac062b574d093e80932cfc5c713c6", func := "loop.example/g01244/laws.FnExactIsReversible", spec := "fnExactIsReversible", apart := false }
def FnExactIsReversibleSaid : Prop := fnExactIsReversibleRow.holds Try.pinned (OpenSpec.ofChange fnExactIsReversibleSpec)

/-- ITS FALSE NEIGHBOUR: 'it returns false'. Refute it at one input. -/
def fnExactIsReversibleWrong : ChangeSpec := { name := "fnExactIsReversible", fn := fun _ => fun
  | [d] => { results := [.lit (.bool false)], args := [d] }
  | _ => none }
def FnExactIsReversibleWrongFalsely : Prop := fnExactIsReversibleRow.holds Try.pinned (OpenSpec.ofChange fnExactIsReversibleWrong)

/-- 'laws.FnExactIsBireversible': WHATEVER THE INPUT: true; the input reads as it did. -/
def fnExactIsBireversibleSpec : ChangeSpec := { name := "fnExactIsBireversible", fn := fun _ => fun
  | [d] => { results := [.lit (.bool true)], args := [d] }
  | _ => none }
def fnExactIsBireversibleRow : OpenClaim := { program := "yteecodopnemccaa", sum := "c661069cd2e9db48aff4846e5ccddeda5aeac062b574d093e80932cfc5c713c6", func := "loop.example/g01244/laws.FnExactIsBireversible", spec := "fnExactIsBireversible", apart := false }
def FnExactIsBireversibleSaid : Prop := fnExactIsBireversibleRow.holds Try.pinned (OpenSpec.ofChange fnExactIsBireversibleSpec)

/-- ITS FALSE NEIGHBOUR: 'it returns false'. Refute it at one input. -/
def fnExactIsBireversibleWrong : ChangeSpec := { name := "fnExactIsBireversible", fn := fun _ => fun
  | [d] => { results := [.lit (.bool false)], args := [d] }
  | _ => none }
def FnExactIsBireversibleWrongFalsely : Prop := fnExactIsBireversibleRow.holds Try.pinned (OpenSpec.ofChange fnExactIsBireversibleWrong)

/- THE SECOND FORM. 'bulk': how many values and letters a reading holds, each counted each time it is reached (what is shared counts as often as it is met; a slice's spare places count too). A statement '..UptoSaid' is the law's where the arguments, and the package variables that the reading takes, are together of bulk at most 1048576: NARROWER than '..Said'. Prove '..Said' where nothing that the law and all that it calls make is longer than what came in: it says more and counts as full. Else prove '..UptoSaid'. A law counts once. -/
mutual
def uptoBulk {H : Type} : DataW H → Nat
  | .lit (.string bytes) => bytes.length + 1
  | .lit _ => 1
  | .nil => 1
  | .ptr d => uptoBulk d + 1
  | .slice elems spare => uptoBulkAll elems + uptoBulkAll spare + 1
  | .agg parts => uptoBulkAll parts + 1
  | .iface _ d => uptoBulk d + 1
  | .map entries => uptoBulkEntries entries + 1
  | .held _ => 1
def uptoBulkAll {H : Type} : List (DataW H) → Nat
  | [] => 0
  | d :: r => uptoBulk d + uptoBulkAll r
def uptoBulkEntries {H : Type} : List (Lit × DataW H) → Nat
  | [] => 0
  | x :: r => uptoBulkEntry x + uptoBulkEntries r
def uptoBulkEntry {H : Type} : Lit × DataW H → Nat
  | (.string bytes, d) => bytes.length + uptoBulk d + 1
  | (_, d) => uptoBulk d + 1
 end
def uptoSmall : (H : Type) → List (DataW H) → Bool := fun _ ds => decide (uptoBulkAll ds ≤ 1048576)
def OpenSpec.upto (s : _root_.Go.ChangeSpec) : _root_.Go.OpenSpec := { _root_.Go.OpenSpec.ofChange s with cond := some uptoSmall }

/-- 'laws.FnExactDigitsOfNumber', WHERE WHAT IT READS IS OF BULK AT MOST 1048576: true; the input reads as it did. -/
def fnExactDigitsOfNumberUptoRow : OpenClaim := { program := "yteecodopnemccaa", sum := "c661069cd2e9db48aff4846e5ccddeda5aeac062b574d093e80932cfc5c713c6", func := "loop.example/g01244/laws.FnExactDigitsOfNumber", spec := "fnExactDigitsOfNumber", apart := false, narrowed := true }
def FnExactDigitsOfNumberUptoSaid : Prop := fnExactDigitsOfNumberUptoRow.holds Try.pinned (OpenSpec.upto fnExactDigitsOfNumberSpec)

/-- 'laws.FnExactNumberOfDigits', WHERE WHAT IT READS IS OF BULK AT MOST 1048576: true; the input reads as it did. -/
def fnExactNumberOfDigitsUptoRow : OpenClaim := { program := "yteecodopnemccaa", sum := "c661069cd2e9db48aff4846e5ccddeda5aeac062b574d093e80932cfc5c713c6", func := "loop.example/g01244/laws.FnExactNumberOfDigits", spec := "fnExactNumberOfDigits", apart := false, narrowed := true }
def FnExactNumberOfDigitsUptoSaid : Prop := fnExactNumberOfDigitsUptoRow.holds Try.pinned (OpenSpec.upto fnExactNumberOfDigitsSpec)

/-- 'laws.FnExactKnownNames', WHERE WHAT IT READS IS OF BULK AT MOST 1048576: true; the input reads as it did. -/
def fnExactKnownNamesUptoRow : OpenClaim := { program := "yteecodopnemccaa", sum := "c661069cd2e9db48aff4846e5ccddeda5aeac062b574d093e80932cfc5c713c6", func := "loop.example/g01244/laws.FnExactKnownNames", spec := "fnExactKnownNames", apart := false, narrowed := true }
def FnExactKnownNamesUptoSaid : Prop := fnExactKnownNamesUptoRow.holds Try.pinned (OpenSpec.upto fnExactKnownNamesSpec)

/-- 'laws.FnExactIsReversible', WHERE WHAT IT READS IS OF BULK AT MOST 1048576: true; the input reads as it did. -/
def fnExactIsReversibleUptoRow : OpenClaim := { program := "yteecodopnemccaa", sum := "c661069cd2e9db48aff4846e5ccddeda5aeac062b574d093e80932cfc5c713c6", func := "loop.example/g01244/laws.FnExactIsReversible", spec := "fnExactIsReversible", apart := false, narrowed := true }
def FnExactIsReversibleUptoSaid : Prop := fnExactIsReversibleUptoRow.holds Try.pinned (OpenSpec.upto fnExactIsReversibleSpec)

/-- 'laws.FnExactIsBireversible', WHERE WHAT IT READS IS OF BULK AT MOST 1048576: true; the input reads as it did. -/
def fnExactIsBireversibleUptoRow : OpenClaim := { program := "yteecodopnemccaa", sum := "c661069cd2e9db48aff4846e5ccddeda5aeac062b574d093e80932cfc5c713c6", func := "loop.example/g01244/laws.FnExactIsBireversible", spec := "fnExactIsBireversible", apart := false, narrowed := true }
def FnExactIsBireversibleUptoSaid : Prop := fnExactIsBireversibleUptoRow.holds Try.pinned (OpenSpec.upto fnExactIsBireversibleSpec)

end Rows
end Go.Proofs.Yteecodopnemccaa
