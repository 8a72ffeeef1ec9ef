/-
  No cell of these rows narrows 'for every input' (looked for: loops, veiled, ifaces, maps, wideKeys, modest, calm, conditions, laid).
  DERIVED. THE GIVEN ROWS OF THIS SEAT. 5 by the template 'for every input the law returns true; each argument reads behind the call as it read before'; 0 by the template 'total and deterministic' (their statements: YtbmkkaecfogmoaaTotals.lean).
  GIVEN WITH THE SEED: the statements are not yours to turn. If you find one false, say at which input.
  Laid BY PROGRAM, IN A SANDBOX (cutbox-rows.mjs): the forced cells as the released guide's own fill.sh prints them over the translation cbd9d72430f04438… (all of the seat's roots in one cut). By AI agents, Wed Nov 11 2026. No macro, syntax, notation, axiom, sorry.
-/
import Derived.Test.YtbmkkaecfogmoaaChecked
import GoSem.Claim
import GoSem.ClaimJoined
import GoSem.ClaimMapViews
import Derived.JoinedTies
import Derived.KernelRfl
namespace Go.Proofs.Ytbmkkaecfogmoaa
/- THE CELL 'sum', in the pinned program and in every row, IS THE sha256 OF THE DUMP (.gsa) THAT YtbmkkaecfogmoaaProg.lean LOADS. Nothing in Lean hashes anything: it is a label: what it is worth is what the hold of that sum in a sandbox is worth. -/
noncomputable def Try.pinned : Pinned := { name := "ytbmkkaecfogmoaa", sum := "cbd9d72430f0443898ec68ddcef5b7c1076d87902110387e10763337db7ca0ba", checked := Try.checked }
namespace Rows
def none {H : Type} : Left H := { results := [], args := [] }

/-- 'laws.FnMinimal': WHATEVER THE INPUT: true; the input reads as it did. -/
def fnMinimalSpec : ChangeSpec := { name := "fnMinimal", fn := fun _ => fun
  | [d] => { results := [.lit (.bool true)], args := [d] }
  | _ => none }
def fnMinimalRow : OpenClaim := { program := "ytbmkkaecfogmoaa", sum := "cbd9d72430f0443898ec68ddcef5b7c1076d87902110387e10763337db7ca0ba", func := "loop.example/g01244/laws.FnMinimal", spec := "fnMinimal", unfollowed := true, recurses := true, apart := false }
def FnMinimalSaid : Prop := fnMinimalRow.holds Try.pinned (OpenSpec.ofChange fnMinimalSpec)

/-- ITS FALSE NEIGHBOUR: 'it returns false'. Refute it at one input. -/
def fnMinimalWrong : ChangeSpec := { name := "fnMinimal", fn := fun _ => fun
  | [d] => { results := [.lit (.bool false)], args := [d] }
  | _ => none }
def FnMinimalWrongFalsely : Prop := fnMinimalRow.holds Try.pinned (OpenSpec.ofChange fnMinimalWrong)

/-- 'laws.FnExactLoopsOf': WHATEVER THE INPUT: true; the input reads as it did. -/
def fnExactLoopsOfSpec : ChangeSpec := { name := "fnExactLoopsOf", fn := fun _ => fun
  | [d1, d2, d3] => { results := [.lit (.bool true)], args := [d1, d2, d3] }
  | _ => none }
def fnExactLoopsOfRow : OpenClaim := { program := "ytbmkkaecfogmoaa", sum := "cbd9d72430f0443898ec68ddcef5b7c1076d87902110387e10763337db7ca0ba", func := "loop.example/g01244/laws.FnExactLoopsOf", spec := "fnExactLoopsOf", unfollowed := true, recurses := true, apart := false }
def FnExactLoopsOfSaid : Prop := fnExactLoopsOfRow.holds Try.pinned (OpenSpec.ofChange fnExactLoopsOfSpec)

/-- ITS FALSE NEIGHBOUR: 'it returns false'. Refute it at one input. -/
def fnExactLoopsOfWrong : ChangeSpec := { name := "fnExactLoopsOf", fn := fun _ => fun
  | [d1, d2, d3] => { results := [.lit (.bool false)], args := [d1, d2, d3] }
  | _ => none }
def FnExactLoopsOfWrongFalsely : Prop := fnExactLoopsOfRow.holds Try.pinned (OpenSpec.ofChange fnExactLoopsOfWrong)

/-- 'laws.FnPortraits': WHATEVER THE INPUT: true; the input reads as it did. -/
def fnPortraitsSpec : ChangeSpec := { name := "fnPortraits", fn := fun _ => fun
  | [d] => { results := [.lit (.bool true)], args := [d] }
  | _ => none }
def fnPortraitsRow : OpenClaim := { program := "ytbmkkaecfogmoaa", sum := "cbd9d72430f0443898ec68ddcef5b7c1076d87902110387e10763337db7ca0ba", func := "loop.example/g01244/laws.FnPortraits", spec := "fnPortraits", unfollowed := true, recurses := true, apart := false }
def FnPortraitsSaid : Prop := fnPortraitsRow.holds Try.pinned (OpenSpec.ofChange fnPortraitsSpec)

/-- ITS FALSE NEIGHBOUR: 'it returns false'. Refute it at one input. -/
def fnPortraitsWrong : ChangeSpec := { name := "fnPortraits", fn := fun _ => fun
  | [d] => { results := [.lit (.bool false)], args := [d] }
  | _ => none }
def FnPortraitsWrongFalsely : Prop := fnPortraitsRow.holds Try.pinned (OpenSpec.ofChange fnPortraitsWrong)

/-- 'laws.FnGroupImages': WHATEVER THE INPUT: true; the input reads as it did. -/
def fnGroupImagesSpec : ChangeSpec := { name := "fnGroupImages", fn := fun _ => fun
  | [d] => { results := [.lit (.bool true)], args := [d] }
  | _ => none }
def fnGroupImagesRow : OpenClaim := { program := "ytbmkkaecfogmoaa", sum := "cbd9d72430f0443898ec68ddcef5b7c1076d87902110387e10763337db7ca0ba", func := "loop.example/g01244/laws.FnGroupImages", spec := "fnGroupImages", unfollowed := true, recurses := true, apart := false }
def FnGroupImagesSaid : Prop := fnGroupImagesRow.holds Try.pinned (OpenSpec.ofChange fnGroupImagesSpec)

/-- ITS FALSE NEIGHBOUR: 'it returns false'. Refute it at one input. -/
def fnGroupImagesWrong : ChangeSpec := { name := "fnGroupImages", fn := fun _ => fun
  | [d] => { results := [.lit (.bool false)], args := [d] }
  | _ => none }
def FnGroupImagesWrongFalsely : Prop := fnGroupImagesRow.holds Try.pinned (OpenSpec.ofChange fnGroupImagesWrong)

/-- 'laws.FnDuals': WHATEVER THE INPUT: true; the input reads as it did. -/
def fnDualsSpec : ChangeSpec := { name := "fnDuals", fn := fun _ => fun
  | [d] => { results := [.lit (.bool true)], args := [d] }
  | _ => none }
def fnDualsRow : OpenClaim := { program := "ytbmkkaecfogmoaa", sum := "cbd9d72430f0443898ec68ddcef5b7c1076d87902110387e10763337db7ca0ba", func := "loop.example/g01244/laws.FnDuals", spec := "fnDuals", unfollowed := true, recurses := true, apart := false }
def FnDualsSaid : Prop := fnDualsRow.holds Try.pinned (OpenSpec.ofChange fnDualsSpec)

/-- ITS FALSE NEIGHBOUR: 'it returns false'. Refute it at one input. -/
def fnDualsWrong : ChangeSpec := { name := "fnDuals", fn := fun _ => fun
  | [d] => { results := [.lit (.bool false)], args := [d] }
  | _ => none }
def FnDualsWrongFalsely : Prop := fnDualsRow.holds Try.pinned (OpenSpec.ofChange fnDualsWrong)

/- THE SECOND FORM. 'bulk': how many values and letters a reading holds, each counted each time it is reached (what is shared counts as often as it is met; a slice's spare places count too). A statement '..UptoSaid' is the law's where the arguments, and the package variables that the reading takes, are together of bulk at most 1048576: NARROWER than '..Said'. Prove '..Said' where nothing that the law and all that it calls make is longer than what came in: it says more and counts as full. Else prove '..UptoSaid'. A law counts once. -/
mutual
def uptoBulk {H : Type} : DataW H → Nat
  | .lit (.string bytes) => bytes.length + 1
  | .lit _ => 1
  | .nil => 1
  | .ptr d => uptoBulk d + 1
  | .slice elems spare => uptoBulkAll elems + uptoBulkAll spare + 1
  | .agg parts => uptoBulkAll parts + 1
  | .iface _ d => uptoBulk d + 1
  | .map entries => uptoBulkEntries entries + 1
  | .held _ => 1
def uptoBulkAll {H : Type} : List (DataW H) → Nat
  | [] => 0
  | d :: r => uptoBulk d + uptoBulkAll r
def uptoBulkEntries {H : Type} : List (Lit × DataW H) → Nat
  | [] => 0
  | x :: r => uptoBulkEntry x + uptoBulkEntries r
def uptoBulkEntry {H : Type} : Lit × DataW H → Nat
  | (.string bytes, d) => bytes.length + uptoBulk d + 1
  | (_, d) => uptoBulk d + 1
 end
def uptoSmall : (H : Type) → List (DataW H) → Bool := fun _ ds => decide (uptoBulkAll ds ≤ 1048576)
def OpenSpec.upto (s : _root_.Go.ChangeSpec) : _root_.Go.OpenSpec := { _root_.Go.OpenSpec.ofChange s with cond := some uptoSmall }

/-- 'laws.FnMinimal', WHERE WHAT IT READS IS OF BULK AT MOST 1048576: true; the input reads as it did. -/
def fnMinimalUptoRow : OpenClaim := { program := "ytbmkkaecfogmoaa", sum := "cbd9d72430f0443898ec68ddcef5b7c1076d87902110387e10763337db7ca0ba", func := "loop.example/g01244/laws.FnMinimal", spec := "fnMinimal", unfollowed := true, recurses := true, apart := false, narrowed := true }
def FnMinimalUptoSaid : Prop := fnMinimalUptoRow.holds Try.pinned (OpenSpec.upto fnMinimalSpec)

/-- 'laws.FnExactLoopsOf', WHERE WHAT IT READS IS OF BULK AT MOST 1048576: true; the input reads as it did. -/
def fnExactLoopsOfUptoRow : OpenClaim := { program := "ytbmkkaecfogmoaa", sum := "cbd9d72430f0443898ec68ddcef5b7c1076d87902110387e10763337db7ca0ba", func := "loop.example/g01244/laws.FnExactLoopsOf", spec := "fnExactLoopsOf", unfollowed := true, recurses := true, apart := false, narrowed := true }
def FnExactLoopsOfUptoSaid : Prop := fnExactLoopsOfUptoRow.holds Try.pinned (OpenSpec.upto fnExactLoopsOfSpec)

/-- 'laws.FnPortraits', WHERE WHAT IT READS IS OF BULK AT MOST 1048576: true; the input reads as it did. -/
def fnPortraitsUptoRow : OpenClaim := { program := "ytbmkkaecfogmoaa", sum := "cbd9d72430f0443898ec68ddcef5b7c1076d87902110387e10763337db7ca0ba", func := "loop.example/g01244/laws.FnPortraits", spec := "fnPortraits", unfollowed := true, recurses := true, apart := false, narrowed := true }
def FnPortraitsUptoSaid : Prop := fnPortraitsUptoRow.holds Try.pinned (OpenSpec.upto fnPortraitsSpec)

/-- 'laws.FnGroupImages', WHERE WHAT IT READS IS OF BULK AT MOST 1048576: true; the input reads as it did. -/
def fnGroupImagesUptoRow : OpenClaim := { program := "ytbmkkaecfogmoaa", sum := "cbd9d72430f0443898ec68ddcef5b7c1076d87902110387e10763337db7ca0ba", func := "loop.example/g01244/laws.FnGroupImages", spec := "fnGroupImages", unfollowed := true, recurses := true, apart := false, narrowed := true }
def FnGroupImagesUptoSaid : Prop := fnGroupImagesUptoRow.holds Try.pinned (OpenSpec.upto fnGroupImagesSpec)

/-- 'laws.FnDuals', WHERE WHAT IT READS IS OF BULK AT MOST 1048576: true; the input reads as it did. -/
def fnDualsUptoRow : OpenClaim := { program := "ytbmkkaecfogmoaa", sum := "cbd9d72430f0443898ec68ddcef5b7c1076d87902110387e10763337db7ca0ba", func := "loop.example/g01244/laws.FnDuals", spec := "fnDuals", unfollowed := true, recurses := true, apart := false, narrowed := true }
def FnDualsUptoSaid : Prop := fnDualsUptoRow.holds Try.pinned (OpenSpec.upto fnDualsSpec)

end Rows
end Go.Proofs.Ytbmkkaecfogmoaa
