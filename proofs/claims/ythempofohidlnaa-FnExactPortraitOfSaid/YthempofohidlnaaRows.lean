/-
  No cell of these rows narrows 'for every input' (looked for: loops, veiled, ifaces, maps, wideKeys, modest, calm, conditions, laid).
  DERIVED. THE GIVEN ROWS OF THIS SEAT. 12 by the template 'for every input the law returns true; each argument reads behind the call as it read before'; 0 by the template 'total and deterministic' (their statements: YthempofohidlnaaTotals.lean).
  GIVEN WITH THE SEED: the statements are not yours to turn. If you find one false, say at which input.
  Laid BY PROGRAM, IN A SANDBOX (cutbox-rows.mjs): the forced cells as the released guide's own fill.sh prints them over the translation ef58e883fae33a07… (all of the seat's roots in one cut). By AI agents, Wed Nov 11 2026. No macro, syntax, notation, axiom, sorry.
-/
import Derived.Test.YthempofohidlnaaChecked
import GoSem.Claim
import GoSem.ClaimJoined
import GoSem.ClaimMapViews
import Derived.JoinedTies
import Derived.KernelRfl
namespace Go.Proofs.Ythempofohidlnaa
/- THE CELL 'sum', in the pinned program and in every row, IS THE sha256 OF THE DUMP (.gsa) THAT YthempofohidlnaaProg.lean LOADS. Nothing in Lean hashes anything: it is a label: what it is worth is what the hold of that sum in a sandbox is worth. -/
noncomputable def Try.pinned : Pinned := { name := "ythempofohidlnaa", sum := "ef58e883fae33a071e4fb1d647c76c78d6d12a99a7760762478069088f3d4d06", checked := Try.checked }
namespace Rows
def none {H : Type} : Left H := { results := [], args := [] }

/-- 'laws.FnExactSectionOfPortrait': WHATEVER THE INPUT: true; the input reads as it did. -/
def fnExactSectionOfPortraitSpec : ChangeSpec := { name := "fnExactSectionOfPortrait", fn := fun _ => fun
  | [d1, d2, d3, d4] => { results := [.lit (.bool true)], args := [d1, d2, d3, d4] }
  | _ => none }
def fnExactSectionOfPortraitRow : OpenClaim := { program := "ythempofohidlnaa", sum := "ef58e883fae33a071e4fb1d647c76c78d6d12a99a7760762478069088f3d4d06", func := "loop.example/g01244/laws.FnExactSectionOfPortrait", spec := "fnExactSectionOfPortrait", unfollowed := true, recurses := true, apart := false }
def FnExactSectionOfPortraitSaid : Prop := fnExactSectionOfPortraitRow.holds Try.pinned (OpenSpec.ofChange fnExactSectionOfPortraitSpec)

/-- ITS FALSE NEIGHBOUR: 'it returns false'. Refute it at one input. -/
def fnExactSectionOfPortraitWrong : ChangeSpec := { name := "fnExactSectionOfPortrait", fn := fun _ => fun
  | [d1, d2, d3, d4] => { results := [.lit (.bool false)], args := [d1, d2, d3, d4] }
  | _ => none }
def FnExactSectionOfPortraitWrongFalsely : Prop := fnExactSectionOfPortraitRow.holds Try.pinned (OpenSpec.ofChange fnExactSectionOfPortraitWrong)

/-- 'laws.FnExactPortraitOf': WHATEVER THE INPUT: true; the input reads as it did. -/
def fnExactPortraitOfSpec : ChangeSpec := { name := "fnExactPortraitOf", fn := fun _ => fun
  | [d1, d2, d3] => { results := [.lit (.bool true)], args := [d1, d2, d3] }
  | _ => none }
def fnExactPortraitOfRow : OpenClaim := { program := "ythempofohidlnaa", sum := "ef58e883fae33a071e4fb1d647c76c78d6d12a99a7760762478069088f3d4d06", func := "loop.example/g01244/laws.FnExactPortraitOf", spec := "fnExactPortraitOf", unfollowed := true, recurses := true, apart := false }
def FnExactPortraitOfSaid : Prop := fnExactPortraitOfRow.holds Try.pinned (OpenSpec.ofChange fnExactPortraitOfSpec)

/-- ITS FALSE NEIGHBOUR: 'it returns false'. Refute it at one input. -/
def fnExactPortraitOfWrong : ChangeSpec := { name := "fnExactPortraitOf", fn := fun _ => fun
  | [d1, d2, d3] => { results := [.lit (.bool false)], args := [d1, d2, d3] }
  | _ => none }
def FnExactPortraitOfWrongFalsely : Prop := fnExactPortraitOfRow.holds Try.pinned (OpenSpec.ofChange fnExactPortraitOfWrong)

/-- 'laws.FnExactOrderByPowers': WHATEVER THE INPUT: true; the input reads as it did. -/
def fnExactOrderByPowersSpec : ChangeSpec := { name := "fnExactOrderByPowers", fn := fun _ => fun
  | [d1, d2, d3] => { results := [.lit (.bool true)], args := [d1, d2, d3] }
  | _ => none }
def fnExactOrderByPowersRow : OpenClaim := { program := "ythempofohidlnaa", sum := "ef58e883fae33a071e4fb1d647c76c78d6d12a99a7760762478069088f3d4d06", func := "loop.example/g01244/laws.FnExactOrderByPowers", spec := "fnExactOrderByPowers", unfollowed := true, recurses := true, apart := false }
def FnExactOrderByPowersSaid : Prop := fnExactOrderByPowersRow.holds Try.pinned (OpenSpec.ofChange fnExactOrderByPowersSpec)

/-- ITS FALSE NEIGHBOUR: 'it returns false'. Refute it at one input. -/
def fnExactOrderByPowersWrong : ChangeSpec := { name := "fnExactOrderByPowers", fn := fun _ => fun
  | [d1, d2, d3] => { results := [.lit (.bool false)], args := [d1, d2, d3] }
  | _ => none }
def FnExactOrderByPowersWrongFalsely : Prop := fnExactOrderByPowersRow.holds Try.pinned (OpenSpec.ofChange fnExactOrderByPowersWrong)

/-- 'laws.FnExactCommutatorOfStates': WHATEVER THE INPUT: true; the input reads as it did. -/
def fnExactCommutatorOfStatesSpec : ChangeSpec := { name := "fnExactCommutatorOfStates", fn := fun _ => fun
  | [d1, d2, d3] => { results := [.lit (.bool true)], args := [d1, d2, d3] }
  | _ => none }
def fnExactCommutatorOfStatesRow : OpenClaim := { program := "ythempofohidlnaa", sum := "ef58e883fae33a071e4fb1d647c76c78d6d12a99a7760762478069088f3d4d06", func := "loop.example/g01244/laws.FnExactCommutatorOfStates", spec := "fnExactCommutatorOfStates", unfollowed := true, recurses := true, apart := false }
def FnExactCommutatorOfStatesSaid : Prop := fnExactCommutatorOfStatesRow.holds Try.pinned (OpenSpec.ofChange fnExactCommutatorOfStatesSpec)

/-- ITS FALSE NEIGHBOUR: 'it returns false'. Refute it at one input. -/
def fnExactCommutatorOfStatesWrong : ChangeSpec := { name := "fnExactCommutatorOfStates", fn := fun _ => fun
  | [d1, d2, d3] => { results := [.lit (.bool false)], args := [d1, d2, d3] }
  | _ => none }
def FnExactCommutatorOfStatesWrongFalsely : Prop := fnExactCommutatorOfStatesRow.holds Try.pinned (OpenSpec.ofChange fnExactCommutatorOfStatesWrong)

/-- 'laws.FnExactPowerOfState': WHATEVER THE INPUT: true; the input reads as it did. -/
def fnExactPowerOfStateSpec : ChangeSpec := { name := "fnExactPowerOfState", fn := fun _ => fun
  | [d1, d2, d3] => { results := [.lit (.bool true)], args := [d1, d2, d3] }
  | _ => none }
def fnExactPowerOfStateRow : OpenClaim := { program := "ythempofohidlnaa", sum := "ef58e883fae33a071e4fb1d647c76c78d6d12a99a7760762478069088f3d4d06", func := "loop.example/g01244/laws.FnExactPowerOfState", spec := "fnExactPowerOfState", unfollowed := true, recurses := true, apart := false }
def FnExactPowerOfStateSaid : Prop := fnExactPowerOfStateRow.holds Try.pinned (OpenSpec.ofChange fnExactPowerOfStateSpec)

/-- ITS FALSE NEIGHBOUR: 'it returns false'. Refute it at one input. -/
def fnExactPowerOfStateWrong : ChangeSpec := { name := "fnExactPowerOfState", fn := fun _ => fun
  | [d1, d2, d3] => { results := [.lit (.bool false)], args := [d1, d2, d3] }
  | _ => none }
def FnExactPowerOfStateWrongFalsely : Prop := fnExactPowerOfStateRow.holds Try.pinned (OpenSpec.ofChange fnExactPowerOfStateWrong)

/-- 'laws.FnExactImageOf': WHATEVER THE INPUT: true; the input reads as it did. -/
def fnExactImageOfSpec : ChangeSpec := { name := "fnExactImageOf", fn := fun _ => fun
  | [d1, d2, d3] => { results := [.lit (.bool true)], args := [d1, d2, d3] }
  | _ => none }
def fnExactImageOfRow : OpenClaim := { program := "ythempofohidlnaa", sum := "ef58e883fae33a071e4fb1d647c76c78d6d12a99a7760762478069088f3d4d06", func := "loop.example/g01244/laws.FnExactImageOf", spec := "fnExactImageOf", unfollowed := true, recurses := true, apart := false }
def FnExactImageOfSaid : Prop := fnExactImageOfRow.holds Try.pinned (OpenSpec.ofChange fnExactImageOfSpec)

/-- ITS FALSE NEIGHBOUR: 'it returns false'. Refute it at one input. -/
def fnExactImageOfWrong : ChangeSpec := { name := "fnExactImageOf", fn := fun _ => fun
  | [d1, d2, d3] => { results := [.lit (.bool false)], args := [d1, d2, d3] }
  | _ => none }
def FnExactImageOfWrongFalsely : Prop := fnExactImageOfRow.holds Try.pinned (OpenSpec.ofChange fnExactImageOfWrong)

/-- 'laws.FnExactSectionOf': WHATEVER THE INPUT: true; the input reads as it did. -/
def fnExactSectionOfSpec : ChangeSpec := { name := "fnExactSectionOf", fn := fun _ => fun
  | [d1, d2, d3] => { results := [.lit (.bool true)], args := [d1, d2, d3] }
  | _ => none }
def fnExactSectionOfRow : OpenClaim := { program := "ythempofohidlnaa", sum := "ef58e883fae33a071e4fb1d647c76c78d6d12a99a7760762478069088f3d4d06", func := "loop.example/g01244/laws.FnExactSectionOf", spec := "fnExactSectionOf", unfollowed := true, recurses := true, apart := false }
def FnExactSectionOfSaid : Prop := fnExactSectionOfRow.holds Try.pinned (OpenSpec.ofChange fnExactSectionOfSpec)

/-- ITS FALSE NEIGHBOUR: 'it returns false'. Refute it at one input. -/
def fnExactSectionOfWrong : ChangeSpec := { name := "fnExactSectionOf", fn := fun _ => fun
  | [d1, d2, d3] => { results := [.lit (.bool false)], args := [d1, d2, d3] }
  | _ => none }
def FnExactSectionOfWrongFalsely : Prop := fnExactSectionOfRow.holds Try.pinned (OpenSpec.ofChange fnExactSectionOfWrong)

/-- 'laws.FnExactPeriodOfWord': WHATEVER THE INPUT: true; the input reads as it did. -/
def fnExactPeriodOfWordSpec : ChangeSpec := { name := "fnExactPeriodOfWord", fn := fun _ => fun
  | [d1, d2, d3] => { results := [.lit (.bool true)], args := [d1, d2, d3] }
  | _ => none }
def fnExactPeriodOfWordRow : OpenClaim := { program := "ythempofohidlnaa", sum := "ef58e883fae33a071e4fb1d647c76c78d6d12a99a7760762478069088f3d4d06", func := "loop.example/g01244/laws.FnExactPeriodOfWord", spec := "fnExactPeriodOfWord", unfollowed := true, recurses := true, apart := false }
def FnExactPeriodOfWordSaid : Prop := fnExactPeriodOfWordRow.holds Try.pinned (OpenSpec.ofChange fnExactPeriodOfWordSpec)

/-- ITS FALSE NEIGHBOUR: 'it returns false'. Refute it at one input. -/
def fnExactPeriodOfWordWrong : ChangeSpec := { name := "fnExactPeriodOfWord", fn := fun _ => fun
  | [d1, d2, d3] => { results := [.lit (.bool false)], args := [d1, d2, d3] }
  | _ => none }
def FnExactPeriodOfWordWrongFalsely : Prop := fnExactPeriodOfWordRow.holds Try.pinned (OpenSpec.ofChange fnExactPeriodOfWordWrong)

/-- 'laws.FnExactDistancesFrom': WHATEVER THE INPUT: true; the input reads as it did. -/
def fnExactDistancesFromSpec : ChangeSpec := { name := "fnExactDistancesFrom", fn := fun _ => fun
  | [d1, d2, d3] => { results := [.lit (.bool true)], args := [d1, d2, d3] }
  | _ => none }
def fnExactDistancesFromRow : OpenClaim := { program := "ythempofohidlnaa", sum := "ef58e883fae33a071e4fb1d647c76c78d6d12a99a7760762478069088f3d4d06", func := "loop.example/g01244/laws.FnExactDistancesFrom", spec := "fnExactDistancesFrom", unfollowed := true, recurses := true, apart := false }
def FnExactDistancesFromSaid : Prop := fnExactDistancesFromRow.holds Try.pinned (OpenSpec.ofChange fnExactDistancesFromSpec)

/-- ITS FALSE NEIGHBOUR: 'it returns false'. Refute it at one input. -/
def fnExactDistancesFromWrong : ChangeSpec := { name := "fnExactDistancesFrom", fn := fun _ => fun
  | [d1, d2, d3] => { results := [.lit (.bool false)], args := [d1, d2, d3] }
  | _ => none }
def FnExactDistancesFromWrongFalsely : Prop := fnExactDistancesFromRow.holds Try.pinned (OpenSpec.ofChange fnExactDistancesFromWrong)

/-- 'laws.FnExactDiameterOf': WHATEVER THE INPUT: true; the input reads as it did. -/
def fnExactDiameterOfSpec : ChangeSpec := { name := "fnExactDiameterOf", fn := fun _ => fun
  | [d1, d2] => { results := [.lit (.bool true)], args := [d1, d2] }
  | _ => none }
def fnExactDiameterOfRow : OpenClaim := { program := "ythempofohidlnaa", sum := "ef58e883fae33a071e4fb1d647c76c78d6d12a99a7760762478069088f3d4d06", func := "loop.example/g01244/laws.FnExactDiameterOf", spec := "fnExactDiameterOf", unfollowed := true, recurses := true, apart := false }
def FnExactDiameterOfSaid : Prop := fnExactDiameterOfRow.holds Try.pinned (OpenSpec.ofChange fnExactDiameterOfSpec)

/-- ITS FALSE NEIGHBOUR: 'it returns false'. Refute it at one input. -/
def fnExactDiameterOfWrong : ChangeSpec := { name := "fnExactDiameterOf", fn := fun _ => fun
  | [d1, d2] => { results := [.lit (.bool false)], args := [d1, d2] }
  | _ => none }
def FnExactDiameterOfWrongFalsely : Prop := fnExactDiameterOfRow.holds Try.pinned (OpenSpec.ofChange fnExactDiameterOfWrong)

/-- 'laws.FnExactWayTo': WHATEVER THE INPUT: true; the input reads as it did. -/
def fnExactWayToSpec : ChangeSpec := { name := "fnExactWayTo", fn := fun _ => fun
  | [d1, d2, d3, d4] => { results := [.lit (.bool true)], args := [d1, d2, d3, d4] }
  | _ => none }
def fnExactWayToRow : OpenClaim := { program := "ythempofohidlnaa", sum := "ef58e883fae33a071e4fb1d647c76c78d6d12a99a7760762478069088f3d4d06", func := "loop.example/g01244/laws.FnExactWayTo", spec := "fnExactWayTo", unfollowed := true, recurses := true, apart := false }
def FnExactWayToSaid : Prop := fnExactWayToRow.holds Try.pinned (OpenSpec.ofChange fnExactWayToSpec)

/-- ITS FALSE NEIGHBOUR: 'it returns false'. Refute it at one input. -/
def fnExactWayToWrong : ChangeSpec := { name := "fnExactWayTo", fn := fun _ => fun
  | [d1, d2, d3, d4] => { results := [.lit (.bool false)], args := [d1, d2, d3, d4] }
  | _ => none }
def FnExactWayToWrongFalsely : Prop := fnExactWayToRow.holds Try.pinned (OpenSpec.ofChange fnExactWayToWrong)

/-- 'laws.FnExactFixedOfLevel': WHATEVER THE INPUT: true; the input reads as it did. -/
def fnExactFixedOfLevelSpec : ChangeSpec := { name := "fnExactFixedOfLevel", fn := fun _ => fun
  | [d1, d2, d3] => { results := [.lit (.bool true)], args := [d1, d2, d3] }
  | _ => none }
def fnExactFixedOfLevelRow : OpenClaim := { program := "ythempofohidlnaa", sum := "ef58e883fae33a071e4fb1d647c76c78d6d12a99a7760762478069088f3d4d06", func := "loop.example/g01244/laws.FnExactFixedOfLevel", spec := "fnExactFixedOfLevel", unfollowed := true, recurses := true, apart := false }
def FnExactFixedOfLevelSaid : Prop := fnExactFixedOfLevelRow.holds Try.pinned (OpenSpec.ofChange fnExactFixedOfLevelSpec)

/-- ITS FALSE NEIGHBOUR: 'it returns false'. Refute it at one input. -/
def fnExactFixedOfLevelWrong : ChangeSpec := { name := "fnExactFixedOfLevel", fn := fun _ => fun
  | [d1, d2, d3] => { results := [.lit (.bool false)], args := [d1, d2, d3] }
  | _ => none }
def FnExactFixedOfLevelWrongFalsely : Prop := fnExactFixedOfLevelRow.holds Try.pinned (OpenSpec.ofChange fnExactFixedOfLevelWrong)

/- THE SECOND FORM. 'bulk': how many values and letters a reading holds, each counted each time it is reached (what is shared counts as often as it is met; a slice's spare places count too). A statement '..UptoSaid' is the law's where the arguments, and the package variables that the reading takes, are together of bulk at most 1048576: NARROWER than '..Said'. Prove '..Said' where nothing that the law and all that it calls make is longer than what came in: it says more and counts as full. Else prove '..UptoSaid'. A law counts once. -/
mutual
def uptoBulk {H : Type} : DataW H → Nat
  | .lit (.string bytes) => bytes.length + 1
  | .lit _ => 1
  | .nil => 1
  | .ptr d => uptoBulk d + 1
  | .slice elems spare => uptoBulkAll elems + uptoBulkAll spare + 1
  | .agg parts => uptoBulkAll parts + 1
  | .iface _ d => uptoBulk d + 1
  | .map entries => uptoBulkEntries entries + 1
  | .held _ => 1
def uptoBulkAll {H : Type} : List (DataW H) → Nat
  | [] => 0
  | d :: r => uptoBulk d + uptoBulkAll r
def uptoBulkEntries {H : Type} : List (Lit × DataW H) → Nat
  | [] => 0
  | x :: r => uptoBulkEntry x + uptoBulkEntries r
def uptoBulkEntry {H : Type} : Lit × DataW H → Nat
  | (.string bytes, d) => bytes.length + uptoBulk d + 1
  | (_, d) => uptoBulk d + 1
 end
def uptoSmall : (H : Type) → List (DataW H) → Bool := fun _ ds => decide (uptoBulkAll ds ≤ 1048576)
def OpenSpec.upto (s : _root_.Go.ChangeSpec) : _root_.Go.OpenSpec := { _root_.Go.OpenSpec.ofChange s with cond := some uptoSmall }

/-- 'laws.FnExactSectionOfPortrait', WHERE WHAT IT READS IS OF BULK AT MOST 1048576: true; the input reads as it did. -/
def fnExactSectionOfPortraitUptoRow : OpenClaim := { program := "ythempofohidlnaa", sum := "ef58e883fae33a071e4fb1d647c76c78d6d12a99a7760762478069088f3d4d06", func := "loop.example/g01244/laws.FnExactSectionOfPortrait", spec := "fnExactSectionOfPortrait", unfollowed := true, recurses := true, apart := false, narrowed := true }
def FnExactSectionOfPortraitUptoSaid : Prop := fnExactSectionOfPortraitUptoRow.holds Try.pinned (OpenSpec.upto fnExactSectionOfPortraitSpec)

/-- 'laws.FnExactPortraitOf', WHERE WHAT IT READS IS OF BULK AT MOST 1048576: true; the input reads as it did. -/
def fnExactPortraitOfUptoRow : OpenClaim := { program := "ythempofohidlnaa", sum := "ef58e883fae33a071e4fb1d647c76c78d6d12a99a7760762478069088f3d4d06", func := "loop.example/g01244/laws.FnExactPortraitOf", spec := "fnExactPortraitOf", unfollowed := true, recurses := true, apart := false, narrowed := true }
def FnExactPortraitOfUptoSaid : Prop := fnExactPortraitOfUptoRow.holds Try.pinned (OpenSpec.upto fnExactPortraitOfSpec)

/-- 'laws.FnExactOrderByPowers', WHERE WHAT IT READS IS OF BULK AT MOST 1048576: true; the input reads as it did. -/
def fnExactOrderByPowersUptoRow : OpenClaim := { program := "ythempofohidlnaa", sum := "ef58e883fae33a071e4fb1d647c76c78d6d12a99a7760762478069088f3d4d06", func := "loop.example/g01244/laws.FnExactOrderByPowers", spec := "fnExactOrderByPowers", unfollowed := true, recurses := true, apart := false, narrowed := true }
def FnExactOrderByPowersUptoSaid : Prop := fnExactOrderByPowersUptoRow.holds Try.pinned (OpenSpec.upto fnExactOrderByPowersSpec)

/-- 'laws.FnExactCommutatorOfStates', WHERE WHAT IT READS IS OF BULK AT MOST 1048576: true; the input reads as it did. -/
def fnExactCommutatorOfStatesUptoRow : OpenClaim := { program := "ythempofohidlnaa", sum := "ef58e883fae33a071e4fb1d647c76c78d6d12a99a7760762478069088f3d4d06", func := "loop.example/g01244/laws.FnExactCommutatorOfStates", spec := "fnExactCommutatorOfStates", unfollowed := true, recurses := true, apart := false, narrowed := true }
def FnExactCommutatorOfStatesUptoSaid : Prop := fnExactCommutatorOfStatesUptoRow.holds Try.pinned (OpenSpec.upto fnExactCommutatorOfStatesSpec)

/-- 'laws.FnExactPowerOfState', WHERE WHAT IT READS IS OF BULK AT MOST 1048576: true; the input reads as it did. -/
def fnExactPowerOfStateUptoRow : OpenClaim := { program := "ythempofohidlnaa", sum := "ef58e883fae33a071e4fb1d647c76c78d6d12a99a7760762478069088f3d4d06", func := "loop.example/g01244/laws.FnExactPowerOfState", spec := "fnExactPowerOfState", unfollowed := true, recurses := true, apart := false, narrowed := true }
def FnExactPowerOfStateUptoSaid : Prop := fnExactPowerOfStateUptoRow.holds Try.pinned (OpenSpec.upto fnExactPowerOfStateSpec)

/-- 'laws.FnExactImageOf', WHERE WHAT IT READS IS OF BULK AT MOST 1048576: true; the input reads as it did. -/
def fnExactImageOfUptoRow : OpenClaim := { program := "ythempofohidlnaa", sum := "ef58e883fae33a071e4fb1d647c76c78d6d12a99a7760762478069088f3d4d06", func := "loop.example/g01244/laws.FnExactImageOf", spec := "fnExactImageOf", unfollowed := true, recurses := true, apart := false, narrowed := true }
def FnExactImageOfUptoSaid : Prop := fnExactImageOfUptoRow.holds Try.pinned (OpenSpec.upto fnExactImageOfSpec)

/-- 'laws.FnExactSectionOf', WHERE WHAT IT READS IS OF BULK AT MOST 1048576: true; the input reads as it did. -/
def fnExactSectionOfUptoRow : OpenClaim := { program := "ythempofohidlnaa", sum := "ef58e883fae33a071e4fb1d647c76c78d6d12a99a7760762478069088f3d4d06", func := "loop.example/g01244/laws.FnExactSectionOf", spec := "fnExactSectionOf", unfollowed := true, recurses := true, apart := false, narrowed := true }
def FnExactSectionOfUptoSaid : Prop := fnExactSectionOfUptoRow.holds Try.pinned (OpenSpec.upto fnExactSectionOfSpec)

/-- 'laws.FnExactPeriodOfWord', WHERE WHAT IT READS IS OF BULK AT MOST 1048576: true; the input reads as it did. -/
def fnExactPeriodOfWordUptoRow : OpenClaim := { program := "ythempofohidlnaa", sum := "ef58e883fae33a071e4fb1d647c76c78d6d12a99a7760762478069088f3d4d06", func := "loop.example/g01244/laws.FnExactPeriodOfWord", spec := "fnExactPeriodOfWord", unfollowed := true, recurses := true, apart := false, narrowed := true }
def FnExactPeriodOfWordUptoSaid : Prop := fnExactPeriodOfWordUptoRow.holds Try.pinned (OpenSpec.upto fnExactPeriodOfWordSpec)

/-- 'laws.FnExactDistancesFrom', WHERE WHAT IT READS IS OF BULK AT MOST 1048576: true; the input reads as it did. -/
def fnExactDistancesFromUptoRow : OpenClaim := { program := "ythempofohidlnaa", sum := "ef58e883fae33a071e4fb1d647c76c78d6d12a99a7760762478069088f3d4d06", func := "loop.example/g01244/laws.FnExactDistancesFrom", spec := "fnExactDistancesFrom", unfollowed := true, recurses := true, apart := false, narrowed := true }
def FnExactDistancesFromUptoSaid : Prop := fnExactDistancesFromUptoRow.holds Try.pinned (OpenSpec.upto fnExactDistancesFromSpec)

/-- 'laws.FnExactDiameterOf', WHERE WHAT IT READS IS OF BULK AT MOST 1048576: true; the input reads as it did. -/
def fnExactDiameterOfUptoRow : OpenClaim := { program := "ythempofohidlnaa", sum := "ef58e883fae33a071e4fb1d647c76c78d6d12a99a7760762478069088f3d4d06", func := "loop.example/g01244/laws.FnExactDiameterOf", spec := "fnExactDiameterOf", unfollowed := true, recurses := true, apart := false, narrowed := true }
def FnExactDiameterOfUptoSaid : Prop := fnExactDiameterOfUptoRow.holds Try.pinned (OpenSpec.upto fnExactDiameterOfSpec)

/-- 'laws.FnExactWayTo', WHERE WHAT IT READS IS OF BULK AT MOST 1048576: true; the input reads as it did. -/
def fnExactWayToUptoRow : OpenClaim := { program := "ythempofohidlnaa", sum := "ef58e883fae33a071e4fb1d647c76c78d6d12a99a7760762478069088f3d4d06", func := "loop.example/g01244/laws.FnExactWayTo", spec := "fnExactWayTo", unfollowed := true, recurses := true, apart := false, narrowed := true }
def FnExactWayToUptoSaid : Prop := fnExactWayToUptoRow.holds Try.pinned (OpenSpec.upto fnExactWayToSpec)

/-- 'laws.FnExactFixedOfLevel', WHERE WHAT IT READS IS OF BULK AT MOST 1048576: true; the input reads as it did. -/
def fnExactFixedOfLevelUptoRow : OpenClaim := { program := "ythempofohidlnaa", sum := "ef58e883fae33a071e4fb1d647c76c78d6d12a99a7760762478069088f3d4d06", func := "loop.example/g01244/laws.FnExactFixedOfLevel", spec := "fnExactFixedOfLevel", unfollowed := true, recurses := true, apart := false, narrowed := true }
def FnExactFixedOfLevelUptoSaid : Prop := fnExactFixedOfLevelUptoRow.holds Try.pinned (OpenSpec.upto fnExactFixedOfLevelSpec)

end Rows
end Go.Proofs.Ythempofohidlnaa
