/-
  No cell of these rows narrows 'for every input' (looked for: loops, veiled, ifaces, maps, wideKeys, modest, calm, conditions, laid).
  DERIVED. THE GIVEN ROWS OF THIS SEAT. 8 by the template 'for every input the law returns true; each argument reads behind the call as it read before'; 0 by the template 'total and deterministic' (their statements: YtoceopdoedmgoaaTotals.lean).
  GIVEN WITH THE SEED: the statements are not yours to turn. If you find one false, say at which input.
  Laid BY PROGRAM, IN A SANDBOX (cutbox-rows.mjs): the forced cells as the released guide's own fill.sh prints them over the translation 405e51bacde37061… (all of the seat's roots in one cut). By AI agents, Wed Nov 11 2026. No macro, syntax, notation, axiom, sorry.
-/
import Derived.Test.YtoceopdoedmgoaaChecked
import GoSem.Claim
import GoSem.ClaimJoined
import GoSem.ClaimMapViews
import Derived.JoinedTies
import Derived.KernelRfl
namespace Go.Proofs.Ytoceopdoedmgoaa
/- THE CELL 'sum', in the pinned program and in every row, IS THE sha256 OF THE DUMP (.gsa) THAT YtoceopdoedmgoaaProg.lean LOADS. Nothing in Lean hashes anything: it is a label: what it is worth is what the hold of that sum in a sandbox is worth. -/
noncomputable def Try.pinned : Pinned := { name := "ytoceopdoedmgoaa", sum := "405e51bacde37061e92387c81c18985d443c8aa3e1e94e2acd1a8556a4af4485", checked := Try.checked }
namespace Rows
def none {H : Type} : Left H := { results := [], args := [] }

/-- 'chartularylaw07.MerklePaths': WHATEVER THE INPUT: true; the input reads as it did. -/
def merklePathsSpec : ChangeSpec := { name := "merklePaths", fn := fun _ => fun
  | [d1, d2] => { results := [.lit (.bool true)], args := [d1, d2] }
  | _ => none }
def merklePathsRow : OpenClaim := { program := "ytoceopdoedmgoaa", sum := "405e51bacde37061e92387c81c18985d443c8aa3e1e94e2acd1a8556a4af4485", func := "chartulary/chartularylaw07.MerklePaths", spec := "merklePaths", recurses := true, apart := false }
def MerklePathsSaid : Prop := merklePathsRow.holds Try.pinned (OpenSpec.ofChange merklePathsSpec)

/-- ITS FALSE NEIGHBOUR: 'it returns false'. Refute it at one input. -/
def merklePathsWrong : ChangeSpec := { name := "merklePaths", fn := fun _ => fun
  | [d1, d2] => { results := [.lit (.bool false)], args := [d1, d2] }
  | _ => none }
def MerklePathsWrongFalsely : Prop := merklePathsRow.holds Try.pinned (OpenSpec.ofChange merklePathsWrong)

/-- 'chartularylaw07.MerkleClimbs': WHATEVER THE INPUT: true; the input reads as it did. -/
def merkleClimbsSpec : ChangeSpec := { name := "merkleClimbs", fn := fun _ => fun
  | [d1, d2, d3, d4] => { results := [.lit (.bool true)], args := [d1, d2, d3, d4] }
  | _ => none }
def merkleClimbsRow : OpenClaim := { program := "ytoceopdoedmgoaa", sum := "405e51bacde37061e92387c81c18985d443c8aa3e1e94e2acd1a8556a4af4485", func := "chartulary/chartularylaw07.MerkleClimbs", spec := "merkleClimbs", recurses := true, apart := false }
def MerkleClimbsSaid : Prop := merkleClimbsRow.holds Try.pinned (OpenSpec.ofChange merkleClimbsSpec)

/-- ITS FALSE NEIGHBOUR: 'it returns false'. Refute it at one input. -/
def merkleClimbsWrong : ChangeSpec := { name := "merkleClimbs", fn := fun _ => fun
  | [d1, d2, d3, d4] => { results := [.lit (.bool false)], args := [d1, d2, d3, d4] }
  | _ => none }
def MerkleClimbsWrongFalsely : Prop := merkleClimbsRow.holds Try.pinned (OpenSpec.ofChange merkleClimbsWrong)

/-- 'chartularylaw07.MerkleRoots': WHATEVER THE INPUT: true; the input reads as it did. -/
def merkleRootsSpec : ChangeSpec := { name := "merkleRoots", fn := fun _ => fun
  | [d] => { results := [.lit (.bool true)], args := [d] }
  | _ => none }
def merkleRootsRow : OpenClaim := { program := "ytoceopdoedmgoaa", sum := "405e51bacde37061e92387c81c18985d443c8aa3e1e94e2acd1a8556a4af4485", func := "chartulary/chartularylaw07.MerkleRoots", spec := "merkleRoots", recurses := true, apart := false }
def MerkleRootsSaid : Prop := merkleRootsRow.holds Try.pinned (OpenSpec.ofChange merkleRootsSpec)

/-- ITS FALSE NEIGHBOUR: 'it returns false'. Refute it at one input. -/
def merkleRootsWrong : ChangeSpec := { name := "merkleRoots", fn := fun _ => fun
  | [d] => { results := [.lit (.bool false)], args := [d] }
  | _ => none }
def MerkleRootsWrongFalsely : Prop := merkleRootsRow.holds Try.pinned (OpenSpec.ofChange merkleRootsWrong)

/-- 'chartularylaw07.MerkleNobody': WHATEVER THE INPUT: true; the input reads as it did. -/
def merkleNobodySpec : ChangeSpec := { name := "merkleNobody", fn := fun _ => fun
  | [d] => { results := [.lit (.bool true)], args := [d] }
  | _ => none }
def merkleNobodyRow : OpenClaim := { program := "ytoceopdoedmgoaa", sum := "405e51bacde37061e92387c81c18985d443c8aa3e1e94e2acd1a8556a4af4485", func := "chartulary/chartularylaw07.MerkleNobody", spec := "merkleNobody", recurses := true, apart := false }
def MerkleNobodySaid : Prop := merkleNobodyRow.holds Try.pinned (OpenSpec.ofChange merkleNobodySpec)

/-- ITS FALSE NEIGHBOUR: 'it returns false'. Refute it at one input. -/
def merkleNobodyWrong : ChangeSpec := { name := "merkleNobody", fn := fun _ => fun
  | [d] => { results := [.lit (.bool false)], args := [d] }
  | _ => none }
def MerkleNobodyWrongFalsely : Prop := merkleNobodyRow.holds Try.pinned (OpenSpec.ofChange merkleNobodyWrong)

/-- 'chartularylaw07.MerkleLeaf': WHATEVER THE INPUT: true; the input reads as it did. -/
def merkleLeafSpec : ChangeSpec := { name := "merkleLeaf", fn := fun _ => fun
  | [d1, d2, d3, d4, d5, d6, d7] => { results := [.lit (.bool true)], args := [d1, d2, d3, d4, d5, d6, d7] }
  | _ => none }
def merkleLeafRow : OpenClaim := { program := "ytoceopdoedmgoaa", sum := "405e51bacde37061e92387c81c18985d443c8aa3e1e94e2acd1a8556a4af4485", func := "chartulary/chartularylaw07.MerkleLeaf", spec := "merkleLeaf", recurses := true, apart := false }
def MerkleLeafSaid : Prop := merkleLeafRow.holds Try.pinned (OpenSpec.ofChange merkleLeafSpec)

/-- ITS FALSE NEIGHBOUR: 'it returns false'. Refute it at one input. -/
def merkleLeafWrong : ChangeSpec := { name := "merkleLeaf", fn := fun _ => fun
  | [d1, d2, d3, d4, d5, d6, d7] => { results := [.lit (.bool false)], args := [d1, d2, d3, d4, d5, d6, d7] }
  | _ => none }
def MerkleLeafWrongFalsely : Prop := merkleLeafRow.holds Try.pinned (OpenSpec.ofChange merkleLeafWrong)

/-- 'chartularylaw07.MerkleGrowns': WHATEVER THE INPUT: true; the input reads as it did. -/
def merkleGrownsSpec : ChangeSpec := { name := "merkleGrowns", fn := fun _ => fun
  | [d1, d2, d3] => { results := [.lit (.bool true)], args := [d1, d2, d3] }
  | _ => none }
def merkleGrownsRow : OpenClaim := { program := "ytoceopdoedmgoaa", sum := "405e51bacde37061e92387c81c18985d443c8aa3e1e94e2acd1a8556a4af4485", func := "chartulary/chartularylaw07.MerkleGrowns", spec := "merkleGrowns", recurses := true, apart := false }
def MerkleGrownsSaid : Prop := merkleGrownsRow.holds Try.pinned (OpenSpec.ofChange merkleGrownsSpec)

/-- ITS FALSE NEIGHBOUR: 'it returns false'. Refute it at one input. -/
def merkleGrownsWrong : ChangeSpec := { name := "merkleGrowns", fn := fun _ => fun
  | [d1, d2, d3] => { results := [.lit (.bool false)], args := [d1, d2, d3] }
  | _ => none }
def MerkleGrownsWrongFalsely : Prop := merkleGrownsRow.holds Try.pinned (OpenSpec.ofChange merkleGrownsWrong)

/-- 'chartularylaw07.MerkleBegins': WHATEVER THE INPUT: true; the input reads as it did. -/
def merkleBeginsSpec : ChangeSpec := { name := "merkleBegins", fn := fun _ => fun
  | [d1, d2, d3, d4] => { results := [.lit (.bool true)], args := [d1, d2, d3, d4] }
  | _ => none }
def merkleBeginsRow : OpenClaim := { program := "ytoceopdoedmgoaa", sum := "405e51bacde37061e92387c81c18985d443c8aa3e1e94e2acd1a8556a4af4485", func := "chartulary/chartularylaw07.MerkleBegins", spec := "merkleBegins", recurses := true, apart := false }
def MerkleBeginsSaid : Prop := merkleBeginsRow.holds Try.pinned (OpenSpec.ofChange merkleBeginsSpec)

/-- ITS FALSE NEIGHBOUR: 'it returns false'. Refute it at one input. -/
def merkleBeginsWrong : ChangeSpec := { name := "merkleBegins", fn := fun _ => fun
  | [d1, d2, d3, d4] => { results := [.lit (.bool false)], args := [d1, d2, d3, d4] }
  | _ => none }
def MerkleBeginsWrongFalsely : Prop := merkleBeginsRow.holds Try.pinned (OpenSpec.ofChange merkleBeginsWrong)

/-- 'chartularylaw07.MerkleGrowths': WHATEVER THE INPUT: true; the input reads as it did. -/
def merkleGrowthsSpec : ChangeSpec := { name := "merkleGrowths", fn := fun _ => fun
  | [d1, d2] => { results := [.lit (.bool true)], args := [d1, d2] }
  | _ => none }
def merkleGrowthsRow : OpenClaim := { program := "ytoceopdoedmgoaa", sum := "405e51bacde37061e92387c81c18985d443c8aa3e1e94e2acd1a8556a4af4485", func := "chartulary/chartularylaw07.MerkleGrowths", spec := "merkleGrowths", recurses := true, apart := false }
def MerkleGrowthsSaid : Prop := merkleGrowthsRow.holds Try.pinned (OpenSpec.ofChange merkleGrowthsSpec)

/-- ITS FALSE NEIGHBOUR: 'it returns false'. Refute it at one input. -/
def merkleGrowthsWrong : ChangeSpec := { name := "merkleGrowths", fn := fun _ => fun
  | [d1, d2] => { results := [.lit (.bool false)], args := [d1, d2] }
  | _ => none }
def MerkleGrowthsWrongFalsely : Prop := merkleGrowthsRow.holds Try.pinned (OpenSpec.ofChange merkleGrowthsWrong)

/- THE SECOND FORM. 'bulk': how many values and letters a reading holds, each counted each time it is reached (what is shared counts as often as it is met; a slice's spare places count too). A statement '..UptoSaid' is the law's where the arguments, and the package variables that the reading takes, are together of bulk at most 1048576: NARROWER than '..Said'. Prove '..Said' where nothing that the law and all that it calls make is longer than what came in: it says more and counts as full. Else prove '..UptoSaid'. A law counts once. -/
mutual
def uptoBulk {H : Type} : DataW H → Nat
  | .lit (.string bytes) => bytes.length + 1
  | .lit _ => 1
  | .nil => 1
  | .ptr d => uptoBulk d + 1
  | .slice elems spare => uptoBulkAll elems + uptoBulkAll spare + 1
  | .agg parts => uptoBulkAll parts + 1
  | .iface _ d => uptoBulk d + 1
  | .map entries => uptoBulkEntries entries + 1
  | .held _ => 1
def uptoBulkAll {H : Type} : List (DataW H) → Nat
  | [] => 0
  | d :: r => uptoBulk d + uptoBulkAll r
def uptoBulkEntries {H : Type} : List (Lit × DataW H) → Nat
  | [] => 0
  | x :: r => uptoBulkEntry x + uptoBulkEntries r
def uptoBulkEntry {H : Type} : Lit × DataW H → Nat
  | (.string bytes, d) => bytes.length + uptoBulk d + 1
  | (_, d) => uptoBulk d + 1
 end
def uptoSmall : (H : Type) → List (DataW H) → Bool := fun _ ds => decide (uptoBulkAll ds ≤ 1048576)
def OpenSpec.upto (s : _root_.Go.ChangeSpec) : _root_.Go.OpenSpec := { _root_.Go.OpenSpec.ofChange s with cond := some uptoSmall }

/-- 'chartularylaw07.MerklePaths', WHERE WHAT IT READS IS OF BULK AT MOST 1048576: true; the input reads as it did. -/
def merklePathsUptoRow : OpenClaim := { program := "ytoceopdoedmgoaa", sum := "405e51bacde37061e92387c81c18985d443c8aa3e1e94e2acd1a8556a4af4485", func := "chartulary/chartularylaw07.MerklePaths", spec := "merklePaths", recurses := true, apart := false, narrowed := true }
def MerklePathsUptoSaid : Prop := merklePathsUptoRow.holds Try.pinned (OpenSpec.upto merklePathsSpec)

/-- 'chartularylaw07.MerkleClimbs', WHERE WHAT IT READS IS OF BULK AT MOST 1048576: true; the input reads as it did. -/
def merkleClimbsUptoRow : OpenClaim := { program := "ytoceopdoedmgoaa", sum := "405e51bacde37061e92387c81c18985d443c8aa3e1e94e2acd1a8556a4af4485", func := "chartulary/chartularylaw07.MerkleClimbs", spec := "merkleClimbs", recurses := true, apart := false, narrowed := true }
def MerkleClimbsUptoSaid : Prop := merkleClimbsUptoRow.holds Try.pinned (OpenSpec.upto merkleClimbsSpec)

/-- 'chartularylaw07.MerkleRoots', WHERE WHAT IT READS IS OF BULK AT MOST 1048576: true; the input reads as it did. -/
def merkleRootsUptoRow : OpenClaim := { program := "ytoceopdoedmgoaa", sum := "405e51bacde37061e92387c81c18985d443c8aa3e1e94e2acd1a8556a4af4485", func := "chartulary/chartularylaw07.MerkleRoots", spec := "merkleRoots", recurses := true, apart := false, narrowed := true }
def MerkleRootsUptoSaid : Prop := merkleRootsUptoRow.holds Try.pinned (OpenSpec.upto merkleRootsSpec)

/-- 'chartularylaw07.MerkleNobody', WHERE WHAT IT READS IS OF BULK AT MOST 1048576: true; the input reads as it did. -/
def merkleNobodyUptoRow : OpenClaim := { program := "ytoceopdoedmgoaa", sum := "405e51bacde37061e92387c81c18985d443c8aa3e1e94e2acd1a8556a4af4485", func := "chartulary/chartularylaw07.MerkleNobody", spec := "merkleNobody", recurses := true, apart := false, narrowed := true }
def MerkleNobodyUptoSaid : Prop := merkleNobodyUptoRow.holds Try.pinned (OpenSpec.upto merkleNobodySpec)

/-- 'chartularylaw07.MerkleLeaf', WHERE WHAT IT READS IS OF BULK AT MOST 1048576: true; the input reads as it did. -/
def merkleLeafUptoRow : OpenClaim := { program := "ytoceopdoedmgoaa", sum := "405e51bacde37061e92387c81c18985d443c8aa3e1e94e2acd1a8556a4af4485", func := "chartulary/chartularylaw07.MerkleLeaf", spec := "merkleLeaf", recurses := true, apart := false, narrowed := true }
def MerkleLeafUptoSaid : Prop := merkleLeafUptoRow.holds Try.pinned (OpenSpec.upto merkleLeafSpec)

/-- 'chartularylaw07.MerkleGrowns', WHERE WHAT IT READS IS OF BULK AT MOST 1048576: true; the input reads as it did. -/
def merkleGrownsUptoRow : OpenClaim := { program := "ytoceopdoedmgoaa", sum := "405e51bacde37061e92387c81c18985d443c8aa3e1e94e2acd1a8556a4af4485", func := "chartulary/chartularylaw07.MerkleGrowns", spec := "merkleGrowns", recurses := true, apart := false, narrowed := true }
def MerkleGrownsUptoSaid : Prop := merkleGrownsUptoRow.holds Try.pinned (OpenSpec.upto merkleGrownsSpec)

/-- 'chartularylaw07.MerkleBegins', WHERE WHAT IT READS IS OF BULK AT MOST 1048576: true; the input reads as it did. -/
def merkleBeginsUptoRow : OpenClaim := { program := "ytoceopdoedmgoaa", sum := "405e51bacde37061e92387c81c18985d443c8aa3e1e94e2acd1a8556a4af4485", func := "chartulary/chartularylaw07.MerkleBegins", spec := "merkleBegins", recurses := true, apart := false, narrowed := true }
def MerkleBeginsUptoSaid : Prop := merkleBeginsUptoRow.holds Try.pinned (OpenSpec.upto merkleBeginsSpec)

/-- 'chartularylaw07.MerkleGrowths', WHERE WHAT IT READS IS OF BULK AT MOST 1048576: true; the input reads as it did. -/
def merkleGrowthsUptoRow : OpenClaim := { program := "ytoceopdoedmgoaa", sum := "405e51bacde37061e92387c81c18985d443c8aa3e1e94e2acd1a8556a4af4485", func := "chartulary/chartularylaw07.MerkleGrowths", spec := "merkleGrowths", recurses := true, apart := false, narrowed := true }
def MerkleGrowthsUptoSaid : Prop := merkleGrowthsUptoRow.holds Try.pinned (OpenSpec.upto merkleGrowthsSpec)

end Rows
end Go.Proofs.Ytoceopdoedmgoaa
