/-
  No cell of these rows narrows 'for every input' (looked for: loops, veiled, ifaces, maps, wideKeys, modest, calm, conditions, laid).
  DERIVED. THE GIVEN ROWS OF THIS SEAT. 5 by the template 'for every input the law returns true; each argument reads behind the call as it read before'; 0 by the template 'total and deterministic' (their statements: YtfegehfdbcnepaaTotals.lean).
  GIVEN WITH THE SEED: the statements are not yours to turn. If you find one false, say at which input.
  Laid BY PROGRAM, IN A SANDBOX (cutbox-rows.mjs): the forced cells as the released guide's own fill.sh prints them over the translation 63a366623afff569… (all of the seat's roots in one cut). By AI agents, Wed Nov 11 2026. No macro, syntax, notation, axiom, sorry.
-/
import Derived.Test.YtfegehfdbcnepaaChecked
import GoSem.Claim
import GoSem.ClaimJoined
import GoSem.ClaimMapViews
import Derived.JoinedTies
import Derived.KernelRfl
namespace Go.Proofs.Ytfegehfdbcnepaa
/- THE CELL 'sum', in the pinned program and in every row, IS THE sha256 OF THE DUMP (.gsa) THAT YtfegehfdbcnepaaProg.lean LOADS. Nothing in Lean hashes anything: it is a label: what it is worth is what the hold of that sum in a sandbox is worth. -/
noncomputable def Try.pinned : Pinned := { name := "ytfegehfdbcnepaa", sum := "63a366623afff569da184f8b87222c808ea87261bd98c80ed37549d5de1bc914", checked := Try.checked }
namespace Rows
def none {H : Type} : Left H := { results := [], args := [] }

/-- 'chartularylaw19.ProofApart': WHATEVER THE INPUT: true; the input reads as it did. -/
def proofApartSpec : ChangeSpec := { name := "proofApart", fn := fun _ => fun
  | [d1, d2] => { results := [.lit (.bool true)], args := [d1, d2] }
  | _ => none }
def proofApartRow : OpenClaim := { program := "ytfegehfdbcnepaa", sum := "63a366623afff569da184f8b87222c808ea87261bd98c80ed37549d5de1bc914", func := "chartulary/chartularylaw19.ProofApart", spec := "proofApart", apart := false }
def ProofApartSaid : Prop := proofApartRow.holds Try.pinned (OpenSpec.ofChange proofApartSpec)

/-- ITS FALSE NEIGHBOUR: 'it returns false'. Refute it at one input. -/
def proofApartWrong : ChangeSpec := { name := "proofApart", fn := fun _ => fun
  | [d1, d2] => { results := [.lit (.bool false)], args := [d1, d2] }
  | _ => none }
def ProofApartWrongFalsely : Prop := proofApartRow.holds Try.pinned (OpenSpec.ofChange proofApartWrong)

/-- 'chartularylaw19.ProofGrowths': WHATEVER THE INPUT: true; the input reads as it did. -/
def proofGrowthsSpec : ChangeSpec := { name := "proofGrowths", fn := fun _ => fun
  | [d] => { results := [.lit (.bool true)], args := [d] }
  | _ => none }
def proofGrowthsRow : OpenClaim := { program := "ytfegehfdbcnepaa", sum := "63a366623afff569da184f8b87222c808ea87261bd98c80ed37549d5de1bc914", func := "chartulary/chartularylaw19.ProofGrowths", spec := "proofGrowths", apart := false }
def ProofGrowthsSaid : Prop := proofGrowthsRow.holds Try.pinned (OpenSpec.ofChange proofGrowthsSpec)

/-- ITS FALSE NEIGHBOUR: 'it returns false'. Refute it at one input. -/
def proofGrowthsWrong : ChangeSpec := { name := "proofGrowths", fn := fun _ => fun
  | [d] => { results := [.lit (.bool false)], args := [d] }
  | _ => none }
def ProofGrowthsWrongFalsely : Prop := proofGrowthsRow.holds Try.pinned (OpenSpec.ofChange proofGrowthsWrong)

/-- 'chartularylaw19.ProofGrows': WHATEVER THE INPUT: true; the input reads as it did. -/
def proofGrowsSpec : ChangeSpec := { name := "proofGrows", fn := fun _ => fun
  | [d] => { results := [.lit (.bool true)], args := [d] }
  | _ => none }
def proofGrowsRow : OpenClaim := { program := "ytfegehfdbcnepaa", sum := "63a366623afff569da184f8b87222c808ea87261bd98c80ed37549d5de1bc914", func := "chartulary/chartularylaw19.ProofGrows", spec := "proofGrows", apart := false }
def ProofGrowsSaid : Prop := proofGrowsRow.holds Try.pinned (OpenSpec.ofChange proofGrowsSpec)

/-- ITS FALSE NEIGHBOUR: 'it returns false'. Refute it at one input. -/
def proofGrowsWrong : ChangeSpec := { name := "proofGrows", fn := fun _ => fun
  | [d] => { results := [.lit (.bool false)], args := [d] }
  | _ => none }
def ProofGrowsWrongFalsely : Prop := proofGrowsRow.holds Try.pinned (OpenSpec.ofChange proofGrowsWrong)

/-- 'chartularylaw19.ProofReads': WHATEVER THE INPUT: true; the input reads as it did. -/
def proofReadsSpec : ChangeSpec := { name := "proofReads", fn := fun _ => fun
  | [d] => { results := [.lit (.bool true)], args := [d] }
  | _ => none }
def proofReadsRow : OpenClaim := { program := "ytfegehfdbcnepaa", sum := "63a366623afff569da184f8b87222c808ea87261bd98c80ed37549d5de1bc914", func := "chartulary/chartularylaw19.ProofReads", spec := "proofReads", apart := false }
def ProofReadsSaid : Prop := proofReadsRow.holds Try.pinned (OpenSpec.ofChange proofReadsSpec)

/-- ITS FALSE NEIGHBOUR: 'it returns false'. Refute it at one input. -/
def proofReadsWrong : ChangeSpec := { name := "proofReads", fn := fun _ => fun
  | [d] => { results := [.lit (.bool false)], args := [d] }
  | _ => none }
def ProofReadsWrongFalsely : Prop := proofReadsRow.holds Try.pinned (OpenSpec.ofChange proofReadsWrong)

/-- 'chartularylaw19.ProofBytes': WHATEVER THE INPUT: true; the input reads as it did. -/
def proofBytesSpec : ChangeSpec := { name := "proofBytes", fn := fun _ => fun
  | [d] => { results := [.lit (.bool true)], args := [d] }
  | _ => none }
def proofBytesRow : OpenClaim := { program := "ytfegehfdbcnepaa", sum := "63a366623afff569da184f8b87222c808ea87261bd98c80ed37549d5de1bc914", func := "chartulary/chartularylaw19.ProofBytes", spec := "proofBytes", apart := false }
def ProofBytesSaid : Prop := proofBytesRow.holds Try.pinned (OpenSpec.ofChange proofBytesSpec)

/-- ITS FALSE NEIGHBOUR: 'it returns false'. Refute it at one input. -/
def proofBytesWrong : ChangeSpec := { name := "proofBytes", fn := fun _ => fun
  | [d] => { results := [.lit (.bool false)], args := [d] }
  | _ => none }
def ProofBytesWrongFalsely : Prop := proofBytesRow.holds Try.pinned (OpenSpec.ofChange proofBytesWrong)

/- THE SECOND FORM. 'bulk': how many values and letters a reading holds, each counted each time it is reached (what is shared counts as often as it is met; a slice's spare places count too). A statement '..UptoSaid' is the law's where the arguments, and the package variables that the reading takes, are together of bulk at most 1048576: NARROWER than '..Said'. Prove '..Said' where nothing that the law and all that it calls make is longer than what came in: it says more and counts as full. Else prove '..UptoSaid'. A law counts once. -/
mutual
def uptoBulk {H : Type} : DataW H → Nat
  | .lit (.string bytes) => bytes.length + 1
  | .lit _ => 1
  | .nil => 1
  | .ptr d => uptoBulk d + 1
  | .slice elems spare => uptoBulkAll elems + uptoBulkAll spare + 1
  | .agg parts => uptoBulkAll parts + 1
  | .iface _ d => uptoBulk d + 1
  | .map entries => uptoBulkEntries entries + 1
  | .held _ => 1
def uptoBulkAll {H : Type} : List (DataW H) → Nat
  | [] => 0
  | d :: r => uptoBulk d + uptoBulkAll r
def uptoBulkEntries {H : Type} : List (Lit × DataW H) → Nat
  | [] => 0
  | x :: r => uptoBulkEntry x + uptoBulkEntries r
def uptoBulkEntry {H : Type} : Lit × DataW H → Nat
  | (.string bytes, d) => bytes.length + uptoBulk d + 1
  | (_, d) => uptoBulk d + 1
 end
def uptoSmall : (H : Type) → List (DataW H) → Bool := fun _ ds => decide (uptoBulkAll ds ≤ 1048576)
def OpenSpec.upto (s : _root_.Go.ChangeSpec) : _root_.Go.OpenSpec := { _root_.Go.OpenSpec.ofChange s with cond := some uptoSmall }

/-- 'chartularylaw19.ProofApart', WHERE WHAT IT READS IS OF BULK AT MOST 1048576: true; the input reads as it did. -/
def proofApartUptoRow : OpenClaim := { program := "ytfegehfdbcnepaa", sum := "63a366623afff569da184f8b87222c808ea87261bd98c80ed37549d5de1bc914", func := "chartulary/chartularylaw19.ProofApart", spec := "proofApart", apart := false, narrowed := true }
def ProofApartUptoSaid : Prop := proofApartUptoRow.holds Try.pinned (OpenSpec.upto proofApartSpec)

/-- 'chartularylaw19.ProofGrowths', WHERE WHAT IT READS IS OF BULK AT MOST 1048576: true; the input reads as it did. -/
def proofGrowthsUptoRow : OpenClaim := { program := "ytfegehfdbcnepaa", sum := "63a366623afff569da184f8b87222c808ea87261bd98c80ed37549d5de1bc914", func := "chartulary/chartularylaw19.ProofGrowths", spec := "proofGrowths", apart := false, narrowed := true }
def ProofGrowthsUptoSaid : Prop := proofGrowthsUptoRow.holds Try.pinned (OpenSpec.upto proofGrowthsSpec)

/-- 'chartularylaw19.ProofGrows', WHERE WHAT IT READS IS OF BULK AT MOST 1048576: true; the input reads as it did. -/
def proofGrowsUptoRow : OpenClaim := { program := "ytfegehfdbcnepaa", sum := "63a366623afff569da184f8b87222c808ea87261bd98c80ed37549d5de1bc914", func := "chartulary/chartularylaw19.ProofGrows", spec := "proofGrows", apart := false, narrowed := true }
def ProofGrowsUptoSaid : Prop := proofGrowsUptoRow.holds Try.pinned (OpenSpec.upto proofGrowsSpec)

/-- 'chartularylaw19.ProofReads', WHERE WHAT IT READS IS OF BULK AT MOST 1048576: true; the input reads as it did. -/
def proofReadsUptoRow : OpenClaim := { program := "ytfegehfdbcnepaa", sum := "63a366623afff569da184f8b87222c808ea87261bd98c80ed37549d5de1bc914", func := "chartulary/chartularylaw19.ProofReads", spec := "proofReads", apart := false, narrowed := true }
def ProofReadsUptoSaid : Prop := proofReadsUptoRow.holds Try.pinned (OpenSpec.upto proofReadsSpec)

/-- 'chartularylaw19.ProofBytes', WHERE WHAT IT READS IS OF BULK AT MOST 1048576: true; the input reads as it did. -/
def proofBytesUptoRow : OpenClaim := { program := "ytfegehfdbcnepaa", sum := "63a366623afff569da184f8b87222c808ea87261bd98c80ed37549d5de1bc914", func := "chartulary/chartularylaw19.ProofBytes", spec := "proofBytes", apart := false, narrowed := true }
def ProofBytesUptoSaid : Prop := proofBytesUptoRow.holds Try.pinned (OpenSpec.upto proofBytesSpec)

end Rows
end Go.Proofs.Ytfegehfdbcnepaa
