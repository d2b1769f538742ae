/-
  No cell of these rows narrows 'for every input' (looked for: loops, veiled, ifaces, maps, wideKeys, modest, calm, conditions, laid).
  DERIVED. THE GIVEN ROWS OF THIS SEAT. 5 by the template 'for every input the law returns true; each argument reads behind the call as it read before'; 0 by the template 'total and deterministic' (their statements: YtcjiipbppkdkaaaTotals.lean).
  GIVEN WITH THE SEED: the statements are not yours to turn. If you find one false, say at which input.
  Laid BY PROGRAM, IN A SANDBOX (cutbox-rows.mjs): the forced cells as the released guide's own fill.sh prints them over the translation ad2096138991b681… (all of the seat's roots in one cut). By AI agents, Wed Nov 11 2026. No macro, syntax, notation, axiom, sorry.
-/
import Derived.Test.YtcjiipbppkdkaaaChecked
import GoSem.Claim
import GoSem.ClaimJoined
import GoSem.ClaimMapViews
import Derived.JoinedTies
import Derived.KernelRfl
namespace Go.Proofs.Ytcjiipbppkdkaaa
/- THE CELL 'sum', in the pinned program and in every row, IS THE sha256 OF THE DUMP (.gsa) THAT YtcjiipbppkdkaaaProg.lean LOADS. Nothing in Lean hashes anything: it is a label: what it is worth is what the hold of that sum in a sandbox is worth. -/
noncomputable def Try.pinned : Pinned := { name := "ytcjiipbppkdkaaa", sum := "ad2096138991b68177262903dd03a09f794ea5ec9351321be83777f9b71e12c1", checked := Try.checked }
namespace Rows
def none {H : Type} : Left H := { results := [], args := [] }

/-- 'chartularylaw17.FindChecks': WHATEVER THE INPUT: true; the input reads as it did. -/
def findChecksSpec : ChangeSpec := { name := "findChecks", fn := fun _ => fun
  | [d1, d2] => { results := [.lit (.bool true)], args := [d1, d2] }
  | _ => none }
def findChecksRow : OpenClaim := { program := "ytcjiipbppkdkaaa", sum := "ad2096138991b68177262903dd03a09f794ea5ec9351321be83777f9b71e12c1", func := "chartulary/chartularylaw17.FindChecks", spec := "findChecks", inPlace := ["internal/bytealg.abigen_runtime_cmpstring"], unfollowed := true, recurses := true, apart := false }
def FindChecksSaid : Prop := findChecksRow.holds Try.pinned (OpenSpec.ofChange findChecksSpec)

/-- ITS FALSE NEIGHBOUR: 'it returns false'. Refute it at one input. -/
def findChecksWrong : ChangeSpec := { name := "findChecks", fn := fun _ => fun
  | [d1, d2] => { results := [.lit (.bool false)], args := [d1, d2] }
  | _ => none }
def FindChecksWrongFalsely : Prop := findChecksRow.holds Try.pinned (OpenSpec.ofChange findChecksWrong)

/-- 'chartularylaw17.FindRuns': WHATEVER THE INPUT: true; the input reads as it did. -/
def findRunsSpec : ChangeSpec := { name := "findRuns", fn := fun _ => fun
  | [d1, d2] => { results := [.lit (.bool true)], args := [d1, d2] }
  | _ => none }
def findRunsRow : OpenClaim := { program := "ytcjiipbppkdkaaa", sum := "ad2096138991b68177262903dd03a09f794ea5ec9351321be83777f9b71e12c1", func := "chartulary/chartularylaw17.FindRuns", spec := "findRuns", inPlace := ["internal/bytealg.abigen_runtime_cmpstring"], unfollowed := true, recurses := true, apart := false }
def FindRunsSaid : Prop := findRunsRow.holds Try.pinned (OpenSpec.ofChange findRunsSpec)

/-- ITS FALSE NEIGHBOUR: 'it returns false'. Refute it at one input. -/
def findRunsWrong : ChangeSpec := { name := "findRuns", fn := fun _ => fun
  | [d1, d2] => { results := [.lit (.bool false)], args := [d1, d2] }
  | _ => none }
def FindRunsWrongFalsely : Prop := findRunsRow.holds Try.pinned (OpenSpec.ofChange findRunsWrong)

/-- 'chartularylaw17.FindMore': WHATEVER THE INPUT: true; the input reads as it did. -/
def findMoreSpec : ChangeSpec := { name := "findMore", fn := fun _ => fun
  | [d1, d2, d3] => { results := [.lit (.bool true)], args := [d1, d2, d3] }
  | _ => none }
def findMoreRow : OpenClaim := { program := "ytcjiipbppkdkaaa", sum := "ad2096138991b68177262903dd03a09f794ea5ec9351321be83777f9b71e12c1", func := "chartulary/chartularylaw17.FindMore", spec := "findMore", inPlace := ["internal/bytealg.abigen_runtime_cmpstring"], unfollowed := true, recurses := true, apart := false }
def FindMoreSaid : Prop := findMoreRow.holds Try.pinned (OpenSpec.ofChange findMoreSpec)

/-- ITS FALSE NEIGHBOUR: 'it returns false'. Refute it at one input. -/
def findMoreWrong : ChangeSpec := { name := "findMore", fn := fun _ => fun
  | [d1, d2, d3] => { results := [.lit (.bool false)], args := [d1, d2, d3] }
  | _ => none }
def FindMoreWrongFalsely : Prop := findMoreRow.holds Try.pinned (OpenSpec.ofChange findMoreWrong)

/-- 'chartularylaw17.FindMeans': WHATEVER THE INPUT: true; the input reads as it did. -/
def findMeansSpec : ChangeSpec := { name := "findMeans", fn := fun _ => fun
  | [d] => { results := [.lit (.bool true)], args := [d] }
  | _ => none }
def findMeansRow : OpenClaim := { program := "ytcjiipbppkdkaaa", sum := "ad2096138991b68177262903dd03a09f794ea5ec9351321be83777f9b71e12c1", func := "chartulary/chartularylaw17.FindMeans", spec := "findMeans", inPlace := ["math.Float64frombits", "math.Float64bits", "internal/bytealg.abigen_runtime_cmpstring"], unfollowed := true, recurses := true, apart := false }
def FindMeansSaid : Prop := findMeansRow.holds Try.pinned (OpenSpec.ofChange findMeansSpec)

/-- ITS FALSE NEIGHBOUR: 'it returns false'. Refute it at one input. -/
def findMeansWrong : ChangeSpec := { name := "findMeans", fn := fun _ => fun
  | [d] => { results := [.lit (.bool false)], args := [d] }
  | _ => none }
def FindMeansWrongFalsely : Prop := findMeansRow.holds Try.pinned (OpenSpec.ofChange findMeansWrong)

/-- 'chartularylaw17.FindGroups': WHATEVER THE INPUT: true; the input reads as it did. -/
def findGroupsSpec : ChangeSpec := { name := "findGroups", fn := fun _ => fun
  | [d1, d2, d3] => { results := [.lit (.bool true)], args := [d1, d2, d3] }
  | _ => none }
def findGroupsRow : OpenClaim := { program := "ytcjiipbppkdkaaa", sum := "ad2096138991b68177262903dd03a09f794ea5ec9351321be83777f9b71e12c1", func := "chartulary/chartularylaw17.FindGroups", spec := "findGroups", inPlace := ["internal/bytealg.abigen_runtime_cmpstring", "slices.overlaps[chartulary/find.Group]", "math.Float64frombits", "math.archTrunc", "math.Float64bits"], unfollowed := true, recurses := true, apart := false }
def FindGroupsSaid : Prop := findGroupsRow.holds Try.pinned (OpenSpec.ofChange findGroupsSpec)

/-- ITS FALSE NEIGHBOUR: 'it returns false'. Refute it at one input. -/
def findGroupsWrong : ChangeSpec := { name := "findGroups", fn := fun _ => fun
  | [d1, d2, d3] => { results := [.lit (.bool false)], args := [d1, d2, d3] }
  | _ => none }
def FindGroupsWrongFalsely : Prop := findGroupsRow.holds Try.pinned (OpenSpec.ofChange findGroupsWrong)

/- THE SECOND FORM. 'bulk': how many values and letters a reading holds, each counted each time it is reached (what is shared counts as often as it is met; a slice's spare places count too). A statement '..UptoSaid' is the law's where the arguments, and the package variables that the reading takes, are together of bulk at most 1048576: NARROWER than '..Said'. Prove '..Said' where nothing that the law and all that it calls make is longer than what came in: it says more and counts as full. Else prove '..UptoSaid'. A law counts once. -/
mutual
def uptoBulk {H : Type} : DataW H → Nat
  | .lit (.string bytes) => bytes.length + 1
  | .lit _ => 1
  | .nil => 1
  | .ptr d => uptoBulk d + 1
  | .slice elems spare => uptoBulkAll elems + uptoBulkAll spare + 1
  | .agg parts => uptoBulkAll parts + 1
  | .iface _ d => uptoBulk d + 1
  | .map entries => uptoBulkEntries entries + 1
  | .held _ => 1
def uptoBulkAll {H : Type} : List (DataW H) → Nat
  | [] => 0
  | d :: r => uptoBulk d + uptoBulkAll r
def uptoBulkEntries {H : Type} : List (Lit × DataW H) → Nat
  | [] => 0
  | x :: r => uptoBulkEntry x + uptoBulkEntries r
def uptoBulkEntry {H : Type} : Lit × DataW H → Nat
  | (.string bytes, d) => bytes.length + uptoBulk d + 1
  | (_, d) => uptoBulk d + 1
 end
def uptoSmall : (H : Type) → List (DataW H) → Bool := fun _ ds => decide (uptoBulkAll ds ≤ 1048576)
def OpenSpec.upto (s : _root_.Go.ChangeSpec) : _root_.Go.OpenSpec := { _root_.Go.OpenSpec.ofChange s with cond := some uptoSmall }

/-- 'chartularylaw17.FindChecks', WHERE WHAT IT READS IS OF BULK AT MOST 1048576: true; the input reads as it did. -/
def findChecksUptoRow : OpenClaim := { program := "ytcjiipbppkdkaaa", sum := "ad2096138991b68177262903dd03a09f794ea5ec9351321be83777f9b71e12c1", func := "chartulary/chartularylaw17.FindChecks", spec := "findChecks", inPlace := ["internal/bytealg.abigen_runtime_cmpstring"], unfollowed := true, recurses := true, apart := false, narrowed := true }
def FindChecksUptoSaid : Prop := findChecksUptoRow.holds Try.pinned (OpenSpec.upto findChecksSpec)

/-- 'chartularylaw17.FindRuns', WHERE WHAT IT READS IS OF BULK AT MOST 1048576: true; the input reads as it did. -/
def findRunsUptoRow : OpenClaim := { program := "ytcjiipbppkdkaaa", sum := "ad2096138991b68177262903dd03a09f794ea5ec9351321be83777f9b71e12c1", func := "chartulary/chartularylaw17.FindRuns", spec := "findRuns", inPlace := ["internal/bytealg.abigen_runtime_cmpstring"], unfollowed := true, recurses := true, apart := false, narrowed := true }
def FindRunsUptoSaid : Prop := findRunsUptoRow.holds Try.pinned (OpenSpec.upto findRunsSpec)

/-- 'chartularylaw17.FindMore', WHERE WHAT IT READS IS OF BULK AT MOST 1048576: true; the input reads as it did. -/
def findMoreUptoRow : OpenClaim := { program := "ytcjiipbppkdkaaa", sum := "ad2096138991b68177262903dd03a09f794ea5ec9351321be83777f9b71e12c1", func := "chartulary/chartularylaw17.FindMore", spec := "findMore", inPlace := ["internal/bytealg.abigen_runtime_cmpstring"], unfollowed := true, recurses := true, apart := false, narrowed := true }
def FindMoreUptoSaid : Prop := findMoreUptoRow.holds Try.pinned (OpenSpec.upto findMoreSpec)

/-- 'chartularylaw17.FindMeans', WHERE WHAT IT READS IS OF BULK AT MOST 1048576: true; the input reads as it did. -/
def findMeansUptoRow : OpenClaim := { program := "ytcjiipbppkdkaaa", sum := "ad2096138991b68177262903dd03a09f794ea5ec9351321be83777f9b71e12c1", func := "chartulary/chartularylaw17.FindMeans", spec := "findMeans", inPlace := ["math.Float64frombits", "math.Float64bits", "internal/bytealg.abigen_runtime_cmpstring"], unfollowed := true, recurses := true, apart := false, narrowed := true }
def FindMeansUptoSaid : Prop := findMeansUptoRow.holds Try.pinned (OpenSpec.upto findMeansSpec)

/-- 'chartularylaw17.FindGroups', WHERE WHAT IT READS IS OF BULK AT MOST 1048576: true; the input reads as it did. -/
def findGroupsUptoRow : OpenClaim := { program := "ytcjiipbppkdkaaa", sum := "ad2096138991b68177262903dd03a09f794ea5ec9351321be83777f9b71e12c1", func := "chartulary/chartularylaw17.FindGroups", spec := "findGroups", inPlace := ["internal/bytealg.abigen_runtime_cmpstring", "slices.overlaps[chartulary/find.Group]", "math.Float64frombits", "math.archTrunc", "math.Float64bits"], unfollowed := true, recurses := true, apart := false, narrowed := true }
def FindGroupsUptoSaid : Prop := findGroupsUptoRow.holds Try.pinned (OpenSpec.upto findGroupsSpec)

end Rows
end Go.Proofs.Ytcjiipbppkdkaaa
