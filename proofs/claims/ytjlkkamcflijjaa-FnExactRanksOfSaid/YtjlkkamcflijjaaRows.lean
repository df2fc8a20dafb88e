/-
  No cell of these rows narrows 'for every input' (looked for: loops, veiled, ifaces, maps, wideKeys, modest, calm, conditions, laid).
  DERIVED. THE GIVEN ROWS OF THIS SEAT. 10 by the template 'for every input the law returns true; each argument reads behind the call as it read before'; 0 by the template 'total and deterministic' (their statements: YtjlkkamcflijjaaTotals.lean).
  GIVEN WITH THE SEED: the statements are not yours to turn. If you find one false, say at which input.
  Laid BY PROGRAM, IN A SANDBOX (cutbox-rows.mjs): the forced cells as the released guide's own fill.sh prints them over the translation b03c6dc1d5248fe7… (all of the seat's roots in one cut). By AI agents, Wed Nov 11 2026. No macro, syntax, notation, axiom, sorry.
-/
import Derived.Test.YtjlkkamcflijjaaChecked
import GoSem.Claim
import GoSem.ClaimJoined
import GoSem.ClaimMapViews
import Derived.JoinedTies
import Derived.KernelRfl
namespace Go.Proofs.Ytjlkkamcflijjaa
/- THE CELL 'sum', in the pinned program and in every row, IS THE sha256 OF THE DUMP (.gsa) THAT YtjlkkamcflijjaaProg.lean LOADS. Nothing in Lean hashes anything: it is a label: what it is worth is what the hold of that sum in a sandbox is worth. -/
noncomputable def Try.pinned : Pinned := { name := "ytjlkkamcflijjaa", sum := "b03c6dc1d5248fe7cc3a60327d313299924730ff518e6906f8e783fb5e50f4a9", checked := Try.checked }
namespace Rows
def none {H : Type} : Left H := { results := [], args := [] }

/-- 'laws.FnExactDotNumbers': WHATEVER THE INPUT: true; the input reads as it did. -/
def fnExactDotNumbersSpec : ChangeSpec := { name := "fnExactDotNumbers", fn := fun _ => fun
  | [d1, d2] => { results := [.lit (.bool true)], args := [d1, d2] }
  | _ => none }
def fnExactDotNumbersRow : OpenClaim := { program := "ytjlkkamcflijjaa", sum := "b03c6dc1d5248fe7cc3a60327d313299924730ff518e6906f8e783fb5e50f4a9", func := "loop.example/g01375/laws.FnExactDotNumbers", spec := "fnExactDotNumbers", apart := false }
def FnExactDotNumbersSaid : Prop := fnExactDotNumbersRow.holds Try.pinned (OpenSpec.ofChange fnExactDotNumbersSpec)

/-- ITS FALSE NEIGHBOUR: 'it returns false'. Refute it at one input. -/
def fnExactDotNumbersWrong : ChangeSpec := { name := "fnExactDotNumbers", fn := fun _ => fun
  | [d1, d2] => { results := [.lit (.bool false)], args := [d1, d2] }
  | _ => none }
def FnExactDotNumbersWrongFalsely : Prop := fnExactDotNumbersRow.holds Try.pinned (OpenSpec.ofChange fnExactDotNumbersWrong)

/-- 'laws.FnExactSumNumbers': WHATEVER THE INPUT: true; the input reads as it did. -/
def fnExactSumNumbersSpec : ChangeSpec := { name := "fnExactSumNumbers", fn := fun _ => fun
  | [d] => { results := [.lit (.bool true)], args := [d] }
  | _ => none }
def fnExactSumNumbersRow : OpenClaim := { program := "ytjlkkamcflijjaa", sum := "b03c6dc1d5248fe7cc3a60327d313299924730ff518e6906f8e783fb5e50f4a9", func := "loop.example/g01375/laws.FnExactSumNumbers", spec := "fnExactSumNumbers", apart := false }
def FnExactSumNumbersSaid : Prop := fnExactSumNumbersRow.holds Try.pinned (OpenSpec.ofChange fnExactSumNumbersSpec)

/-- ITS FALSE NEIGHBOUR: 'it returns false'. Refute it at one input. -/
def fnExactSumNumbersWrong : ChangeSpec := { name := "fnExactSumNumbers", fn := fun _ => fun
  | [d] => { results := [.lit (.bool false)], args := [d] }
  | _ => none }
def FnExactSumNumbersWrongFalsely : Prop := fnExactSumNumbersRow.holds Try.pinned (OpenSpec.ofChange fnExactSumNumbersWrong)

/-- 'laws.FnExactIsSeries': WHATEVER THE INPUT: true; the input reads as it did. -/
def fnExactIsSeriesSpec : ChangeSpec := { name := "fnExactIsSeries", fn := fun _ => fun
  | [d] => { results := [.lit (.bool true)], args := [d] }
  | _ => none }
def fnExactIsSeriesRow : OpenClaim := { program := "ytjlkkamcflijjaa", sum := "b03c6dc1d5248fe7cc3a60327d313299924730ff518e6906f8e783fb5e50f4a9", func := "loop.example/g01375/laws.FnExactIsSeries", spec := "fnExactIsSeries", unfollowed := true, recurses := true, apart := false }
def FnExactIsSeriesSaid : Prop := fnExactIsSeriesRow.holds Try.pinned (OpenSpec.ofChange fnExactIsSeriesSpec)

/-- ITS FALSE NEIGHBOUR: 'it returns false'. Refute it at one input. -/
def fnExactIsSeriesWrong : ChangeSpec := { name := "fnExactIsSeries", fn := fun _ => fun
  | [d] => { results := [.lit (.bool false)], args := [d] }
  | _ => none }
def FnExactIsSeriesWrongFalsely : Prop := fnExactIsSeriesRow.holds Try.pinned (OpenSpec.ofChange fnExactIsSeriesWrong)

/-- 'laws.FnExactMeanOf': WHATEVER THE INPUT: true; the input reads as it did. -/
def fnExactMeanOfSpec : ChangeSpec := { name := "fnExactMeanOf", fn := fun _ => fun
  | [d] => { results := [.lit (.bool true)], args := [d] }
  | _ => none }
def fnExactMeanOfRow : OpenClaim := { program := "ytjlkkamcflijjaa", sum := "b03c6dc1d5248fe7cc3a60327d313299924730ff518e6906f8e783fb5e50f4a9", func := "loop.example/g01375/laws.FnExactMeanOf", spec := "fnExactMeanOf", unfollowed := true, recurses := true, apart := false }
def FnExactMeanOfSaid : Prop := fnExactMeanOfRow.holds Try.pinned (OpenSpec.ofChange fnExactMeanOfSpec)

/-- ITS FALSE NEIGHBOUR: 'it returns false'. Refute it at one input. -/
def fnExactMeanOfWrong : ChangeSpec := { name := "fnExactMeanOf", fn := fun _ => fun
  | [d] => { results := [.lit (.bool false)], args := [d] }
  | _ => none }
def FnExactMeanOfWrongFalsely : Prop := fnExactMeanOfRow.holds Try.pinned (OpenSpec.ofChange fnExactMeanOfWrong)

/-- 'laws.FnExactThinSteps': WHATEVER THE INPUT: true; the input reads as it did. -/
def fnExactThinStepsSpec : ChangeSpec := { name := "fnExactThinSteps", fn := fun _ => fun
  | [d1, d2] => { results := [.lit (.bool true)], args := [d1, d2] }
  | _ => none }
def fnExactThinStepsRow : OpenClaim := { program := "ytjlkkamcflijjaa", sum := "b03c6dc1d5248fe7cc3a60327d313299924730ff518e6906f8e783fb5e50f4a9", func := "loop.example/g01375/laws.FnExactThinSteps", spec := "fnExactThinSteps", unfollowed := true, recurses := true, apart := false }
def FnExactThinStepsSaid : Prop := fnExactThinStepsRow.holds Try.pinned (OpenSpec.ofChange fnExactThinStepsSpec)

/-- ITS FALSE NEIGHBOUR: 'it returns false'. Refute it at one input. -/
def fnExactThinStepsWrong : ChangeSpec := { name := "fnExactThinSteps", fn := fun _ => fun
  | [d1, d2] => { results := [.lit (.bool false)], args := [d1, d2] }
  | _ => none }
def FnExactThinStepsWrongFalsely : Prop := fnExactThinStepsRow.holds Try.pinned (OpenSpec.ofChange fnExactThinStepsWrong)

/-- 'laws.FnExactRunningSums': WHATEVER THE INPUT: true; the input reads as it did. -/
def fnExactRunningSumsSpec : ChangeSpec := { name := "fnExactRunningSums", fn := fun _ => fun
  | [d] => { results := [.lit (.bool true)], args := [d] }
  | _ => none }
def fnExactRunningSumsRow : OpenClaim := { program := "ytjlkkamcflijjaa", sum := "b03c6dc1d5248fe7cc3a60327d313299924730ff518e6906f8e783fb5e50f4a9", func := "loop.example/g01375/laws.FnExactRunningSums", spec := "fnExactRunningSums", unfollowed := true, recurses := true, apart := false }
def FnExactRunningSumsSaid : Prop := fnExactRunningSumsRow.holds Try.pinned (OpenSpec.ofChange fnExactRunningSumsSpec)

/-- ITS FALSE NEIGHBOUR: 'it returns false'. Refute it at one input. -/
def fnExactRunningSumsWrong : ChangeSpec := { name := "fnExactRunningSums", fn := fun _ => fun
  | [d] => { results := [.lit (.bool false)], args := [d] }
  | _ => none }
def FnExactRunningSumsWrongFalsely : Prop := fnExactRunningSumsRow.holds Try.pinned (OpenSpec.ofChange fnExactRunningSumsWrong)

/-- 'laws.FnExactLagDifferences': WHATEVER THE INPUT: true; the input reads as it did. -/
def fnExactLagDifferencesSpec : ChangeSpec := { name := "fnExactLagDifferences", fn := fun _ => fun
  | [d1, d2] => { results := [.lit (.bool true)], args := [d1, d2] }
  | _ => none }
def fnExactLagDifferencesRow : OpenClaim := { program := "ytjlkkamcflijjaa", sum := "b03c6dc1d5248fe7cc3a60327d313299924730ff518e6906f8e783fb5e50f4a9", func := "loop.example/g01375/laws.FnExactLagDifferences", spec := "fnExactLagDifferences", unfollowed := true, recurses := true, apart := false }
def FnExactLagDifferencesSaid : Prop := fnExactLagDifferencesRow.holds Try.pinned (OpenSpec.ofChange fnExactLagDifferencesSpec)

/-- ITS FALSE NEIGHBOUR: 'it returns false'. Refute it at one input. -/
def fnExactLagDifferencesWrong : ChangeSpec := { name := "fnExactLagDifferences", fn := fun _ => fun
  | [d1, d2] => { results := [.lit (.bool false)], args := [d1, d2] }
  | _ => none }
def FnExactLagDifferencesWrongFalsely : Prop := fnExactLagDifferencesRow.holds Try.pinned (OpenSpec.ofChange fnExactLagDifferencesWrong)

/-- 'laws.FnExactUndoDifferences': WHATEVER THE INPUT: true; the input reads as it did. -/
def fnExactUndoDifferencesSpec : ChangeSpec := { name := "fnExactUndoDifferences", fn := fun _ => fun
  | [d1, d2] => { results := [.lit (.bool true)], args := [d1, d2] }
  | _ => none }
def fnExactUndoDifferencesRow : OpenClaim := { program := "ytjlkkamcflijjaa", sum := "b03c6dc1d5248fe7cc3a60327d313299924730ff518e6906f8e783fb5e50f4a9", func := "loop.example/g01375/laws.FnExactUndoDifferences", spec := "fnExactUndoDifferences", unfollowed := true, recurses := true, apart := false }
def FnExactUndoDifferencesSaid : Prop := fnExactUndoDifferencesRow.holds Try.pinned (OpenSpec.ofChange fnExactUndoDifferencesSpec)

/-- ITS FALSE NEIGHBOUR: 'it returns false'. Refute it at one input. -/
def fnExactUndoDifferencesWrong : ChangeSpec := { name := "fnExactUndoDifferences", fn := fun _ => fun
  | [d1, d2] => { results := [.lit (.bool false)], args := [d1, d2] }
  | _ => none }
def FnExactUndoDifferencesWrongFalsely : Prop := fnExactUndoDifferencesRow.holds Try.pinned (OpenSpec.ofChange fnExactUndoDifferencesWrong)

/-- 'laws.FnExactRanksOf': WHATEVER THE INPUT: true; the input reads as it did. -/
def fnExactRanksOfSpec : ChangeSpec := { name := "fnExactRanksOf", fn := fun _ => fun
  | [d] => { results := [.lit (.bool true)], args := [d] }
  | _ => none }
def fnExactRanksOfRow : OpenClaim := { program := "ytjlkkamcflijjaa", sum := "b03c6dc1d5248fe7cc3a60327d313299924730ff518e6906f8e783fb5e50f4a9", func := "loop.example/g01375/laws.FnExactRanksOf", spec := "fnExactRanksOf", unfollowed := true, recurses := true, apart := false }
def FnExactRanksOfSaid : Prop := fnExactRanksOfRow.holds Try.pinned (OpenSpec.ofChange fnExactRanksOfSpec)

/-- ITS FALSE NEIGHBOUR: 'it returns false'. Refute it at one input. -/
def fnExactRanksOfWrong : ChangeSpec := { name := "fnExactRanksOf", fn := fun _ => fun
  | [d] => { results := [.lit (.bool false)], args := [d] }
  | _ => none }
def FnExactRanksOfWrongFalsely : Prop := fnExactRanksOfRow.holds Try.pinned (OpenSpec.ofChange fnExactRanksOfWrong)

/-- 'laws.FnExactJoinSteps': WHATEVER THE INPUT: true; the input reads as it did. -/
def fnExactJoinStepsSpec : ChangeSpec := { name := "fnExactJoinSteps", fn := fun _ => fun
  | [d1, d2] => { results := [.lit (.bool true)], args := [d1, d2] }
  | _ => none }
def fnExactJoinStepsRow : OpenClaim := { program := "ytjlkkamcflijjaa", sum := "b03c6dc1d5248fe7cc3a60327d313299924730ff518e6906f8e783fb5e50f4a9", func := "loop.example/g01375/laws.FnExactJoinSteps", spec := "fnExactJoinSteps", unfollowed := true, recurses := true, apart := false }
def FnExactJoinStepsSaid : Prop := fnExactJoinStepsRow.holds Try.pinned (OpenSpec.ofChange fnExactJoinStepsSpec)

/-- ITS FALSE NEIGHBOUR: 'it returns false'. Refute it at one input. -/
def fnExactJoinStepsWrong : ChangeSpec := { name := "fnExactJoinSteps", fn := fun _ => fun
  | [d1, d2] => { results := [.lit (.bool false)], args := [d1, d2] }
  | _ => none }
def FnExactJoinStepsWrongFalsely : Prop := fnExactJoinStepsRow.holds Try.pinned (OpenSpec.ofChange fnExactJoinStepsWrong)

/- THE SECOND FORM. 'bulk': how many values and letters a reading holds, each counted each time it is reached (what is shared counts as often as it is met; a slice's spare places count too). A statement '..UptoSaid' is the law's where the arguments, and the package variables that the reading takes, are together of bulk at most 1048576: NARROWER than '..Said'. Prove '..Said' where nothing that the law and all that it calls make is longer than what came in: it says more and counts as full. Else prove '..UptoSaid'. A law counts once. -/
mutual
def uptoBulk {H : Type} : DataW H → Nat
  | .lit (.string bytes) => bytes.length + 1
  | .lit _ => 1
  | .nil => 1
  | .ptr d => uptoBulk d + 1
  | .slice elems spare => uptoBulkAll elems + uptoBulkAll spare + 1
  | .agg parts => uptoBulkAll parts + 1
  | .iface _ d => uptoBulk d + 1
  | .map entries => uptoBulkEntries entries + 1
  | .held _ => 1
def uptoBulkAll {H : Type} : List (DataW H) → Nat
  | [] => 0
  | d :: r => uptoBulk d + uptoBulkAll r
def uptoBulkEntries {H : Type} : List (Lit × DataW H) → Nat
  | [] => 0
  | x :: r => uptoBulkEntry x + uptoBulkEntries r
def uptoBulkEntry {H : Type} : Lit × DataW H → Nat
  | (.string bytes, d) => bytes.length + uptoBulk d + 1
  | (_, d) => uptoBulk d + 1
 end
def uptoSmall : (H : Type) → List (DataW H) → Bool := fun _ ds => decide (uptoBulkAll ds ≤ 1048576)
def OpenSpec.upto (s : _root_.Go.ChangeSpec) : _root_.Go.OpenSpec := { _root_.Go.OpenSpec.ofChange s with cond := some uptoSmall }

/-- 'laws.FnExactDotNumbers', WHERE WHAT IT READS IS OF BULK AT MOST 1048576: true; the input reads as it did. -/
def fnExactDotNumbersUptoRow : OpenClaim := { program := "ytjlkkamcflijjaa", sum := "b03c6dc1d5248fe7cc3a60327d313299924730ff518e6906f8e783fb5e50f4a9", func := "loop.example/g01375/laws.FnExactDotNumbers", spec := "fnExactDotNumbers", apart := false, narrowed := true }
def FnExactDotNumbersUptoSaid : Prop := fnExactDotNumbersUptoRow.holds Try.pinned (OpenSpec.upto fnExactDotNumbersSpec)

/-- 'laws.FnExactSumNumbers', WHERE WHAT IT READS IS OF BULK AT MOST 1048576: true; the input reads as it did. -/
def fnExactSumNumbersUptoRow : OpenClaim := { program := "ytjlkkamcflijjaa", sum := "b03c6dc1d5248fe7cc3a60327d313299924730ff518e6906f8e783fb5e50f4a9", func := "loop.example/g01375/laws.FnExactSumNumbers", spec := "fnExactSumNumbers", apart := false, narrowed := true }
def FnExactSumNumbersUptoSaid : Prop := fnExactSumNumbersUptoRow.holds Try.pinned (OpenSpec.upto fnExactSumNumbersSpec)

/-- 'laws.FnExactIsSeries', WHERE WHAT IT READS IS OF BULK AT MOST 1048576: true; the input reads as it did. -/
def fnExactIsSeriesUptoRow : OpenClaim := { program := "ytjlkkamcflijjaa", sum := "b03c6dc1d5248fe7cc3a60327d313299924730ff518e6906f8e783fb5e50f4a9", func := "loop.example/g01375/laws.FnExactIsSeries", spec := "fnExactIsSeries", unfollowed := true, recurses := true, apart := false, narrowed := true }
def FnExactIsSeriesUptoSaid : Prop := fnExactIsSeriesUptoRow.holds Try.pinned (OpenSpec.upto fnExactIsSeriesSpec)

/-- 'laws.FnExactMeanOf', WHERE WHAT IT READS IS OF BULK AT MOST 1048576: true; the input reads as it did. -/
def fnExactMeanOfUptoRow : OpenClaim := { program := "ytjlkkamcflijjaa", sum := "b03c6dc1d5248fe7cc3a60327d313299924730ff518e6906f8e783fb5e50f4a9", func := "loop.example/g01375/laws.FnExactMeanOf", spec := "fnExactMeanOf", unfollowed := true, recurses := true, apart := false, narrowed := true }
def FnExactMeanOfUptoSaid : Prop := fnExactMeanOfUptoRow.holds Try.pinned (OpenSpec.upto fnExactMeanOfSpec)

/-- 'laws.FnExactThinSteps', WHERE WHAT IT READS IS OF BULK AT MOST 1048576: true; the input reads as it did. -/
def fnExactThinStepsUptoRow : OpenClaim := { program := "ytjlkkamcflijjaa", sum := "b03c6dc1d5248fe7cc3a60327d313299924730ff518e6906f8e783fb5e50f4a9", func := "loop.example/g01375/laws.FnExactThinSteps", spec := "fnExactThinSteps", unfollowed := true, recurses := true, apart := false, narrowed := true }
def FnExactThinStepsUptoSaid : Prop := fnExactThinStepsUptoRow.holds Try.pinned (OpenSpec.upto fnExactThinStepsSpec)

/-- 'laws.FnExactRunningSums', WHERE WHAT IT READS IS OF BULK AT MOST 1048576: true; the input reads as it did. -/
def fnExactRunningSumsUptoRow : OpenClaim := { program := "ytjlkkamcflijjaa", sum := "b03c6dc1d5248fe7cc3a60327d313299924730ff518e6906f8e783fb5e50f4a9", func := "loop.example/g01375/laws.FnExactRunningSums", spec := "fnExactRunningSums", unfollowed := true, recurses := true, apart := false, narrowed := true }
def FnExactRunningSumsUptoSaid : Prop := fnExactRunningSumsUptoRow.holds Try.pinned (OpenSpec.upto fnExactRunningSumsSpec)

/-- 'laws.FnExactLagDifferences', WHERE WHAT IT READS IS OF BULK AT MOST 1048576: true; the input reads as it did. -/
def fnExactLagDifferencesUptoRow : OpenClaim := { program := "ytjlkkamcflijjaa", sum := "b03c6dc1d5248fe7cc3a60327d313299924730ff518e6906f8e783fb5e50f4a9", func := "loop.example/g01375/laws.FnExactLagDifferences", spec := "fnExactLagDifferences", unfollowed := true, recurses := true, apart := false, narrowed := true }
def FnExactLagDifferencesUptoSaid : Prop := fnExactLagDifferencesUptoRow.holds Try.pinned (OpenSpec.upto fnExactLagDifferencesSpec)

/-- 'laws.FnExactUndoDifferences', WHERE WHAT IT READS IS OF BULK AT MOST 1048576: true; the input reads as it did. -/
def fnExactUndoDifferencesUptoRow : OpenClaim := { program := "ytjlkkamcflijjaa", sum := "b03c6dc1d5248fe7cc3a60327d313299924730ff518e6906f8e783fb5e50f4a9", func := "loop.example/g01375/laws.FnExactUndoDifferences", spec := "fnExactUndoDifferences", unfollowed := true, recurses := true, apart := false, narrowed := true }
def FnExactUndoDifferencesUptoSaid : Prop := fnExactUndoDifferencesUptoRow.holds Try.pinned (OpenSpec.upto fnExactUndoDifferencesSpec)

/-- 'laws.FnExactRanksOf', WHERE WHAT IT READS IS OF BULK AT MOST 1048576: true; the input reads as it did. -/
def fnExactRanksOfUptoRow : OpenClaim := { program := "ytjlkkamcflijjaa", sum := "b03c6dc1d5248fe7cc3a60327d313299924730ff518e6906f8e783fb5e50f4a9", func := "loop.example/g01375/laws.FnExactRanksOf", spec := "fnExactRanksOf", unfollowed := true, recurses := true, apart := false, narrowed := true }
def FnExactRanksOfUptoSaid : Prop := fnExactRanksOfUptoRow.holds Try.pinned (OpenSpec.upto fnExactRanksOfSpec)

/-- 'laws.FnExactJoinSteps', WHERE WHAT IT READS IS OF BULK AT MOST 1048576: true; the input reads as it did. -/
def fnExactJoinStepsUptoRow : OpenClaim := { program := "ytjlkkamcflijjaa", sum := "b03c6dc1d5248fe7cc3a60327d313299924730ff518e6906f8e783fb5e50f4a9", func := "loop.example/g01375/laws.FnExactJoinSteps", spec := "fnExactJoinSteps", unfollowed := true, recurses := true, apart := false, narrowed := true }
def FnExactJoinStepsUptoSaid : Prop := fnExactJoinStepsUptoRow.holds Try.pinned (OpenSpec.upto fnExactJoinStepsSpec)

end Rows
end Go.Proofs.Ytjlkkamcflijjaa
