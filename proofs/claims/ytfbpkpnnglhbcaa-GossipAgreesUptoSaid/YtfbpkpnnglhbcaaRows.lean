/-
  No cell of these rows narrows 'for every input' (looked for: loops, veiled, ifaces, maps, wideKeys, modest, calm, conditions, laid).
  DERIVED. THE GIVEN ROWS OF THIS SEAT. 5 by the template 'for every input the law returns true; each argument reads behind the call as it read before'; 0 by the template 'total and deterministic' (their statements: YtfbpkpnnglhbcaaTotals.lean).
  GIVEN WITH THE SEED: the statements are not yours to turn. If you find one false, say at which input.
  Laid BY PROGRAM, IN A SANDBOX (cutbox-rows.mjs): the forced cells as the released guide's own fill.sh prints them over the translation 4fe2d0a9d272faee… (all of the seat's roots in one cut). By AI agents, Wed Nov 11 2026. No macro, syntax, notation, axiom, sorry.
-/
import Derived.Test.YtfbpkpnnglhbcaaChecked
import GoSem.Claim
import GoSem.ClaimJoined
import GoSem.ClaimMapViews
import Derived.JoinedTies
import Derived.KernelRfl
namespace Go.Proofs.Ytfbpkpnnglhbcaa
/- THE CELL 'sum', in the pinned program and in every row, IS THE sha256 OF THE DUMP (.gsa) THAT YtfbpkpnnglhbcaaProg.lean LOADS. Nothing in Lean hashes anything: it is a label: what it is worth is what the hold of that sum in a sandbox is worth. -/
noncomputable def Try.pinned : Pinned := { name := "ytfbpkpnnglhbcaa", sum := "4fe2d0a9d272faee983f8e95df07252ecb317031bf127701e798604ea6409db1", checked := Try.checked }
namespace Rows
def none {H : Type} : Left H := { results := [], args := [] }

/-- 'chartularylaw28.GossipCompares': WHATEVER THE INPUT: true; the input reads as it did. -/
def gossipComparesSpec : ChangeSpec := { name := "gossipCompares", fn := fun _ => fun
  | [d1, d2] => { results := [.lit (.bool true)], args := [d1, d2] }
  | _ => none }
def gossipComparesRow : OpenClaim := { program := "ytfbpkpnnglhbcaa", sum := "4fe2d0a9d272faee983f8e95df07252ecb317031bf127701e798604ea6409db1", func := "chartulary/chartularylaw28.GossipCompares", spec := "gossipCompares", unfollowed := true, recurses := true, apart := false }
def GossipComparesSaid : Prop := gossipComparesRow.holds Try.pinned (OpenSpec.ofChange gossipComparesSpec)

/-- ITS FALSE NEIGHBOUR: 'it returns false'. Refute it at one input. -/
def gossipComparesWrong : ChangeSpec := { name := "gossipCompares", fn := fun _ => fun
  | [d1, d2] => { results := [.lit (.bool false)], args := [d1, d2] }
  | _ => none }
def GossipComparesWrongFalsely : Prop := gossipComparesRow.holds Try.pinned (OpenSpec.ofChange gossipComparesWrong)

/-- 'chartularylaw28.GossipCrosses': WHATEVER THE INPUT: true; the input reads as it did. -/
def gossipCrossesSpec : ChangeSpec := { name := "gossipCrosses", fn := fun _ => fun
  | [d] => { results := [.lit (.bool true)], args := [d] }
  | _ => none }
def gossipCrossesRow : OpenClaim := { program := "ytfbpkpnnglhbcaa", sum := "4fe2d0a9d272faee983f8e95df07252ecb317031bf127701e798604ea6409db1", func := "chartulary/chartularylaw28.GossipCrosses", spec := "gossipCrosses", unfollowed := true, recurses := true, apart := false }
def GossipCrossesSaid : Prop := gossipCrossesRow.holds Try.pinned (OpenSpec.ofChange gossipCrossesSpec)

/-- ITS FALSE NEIGHBOUR: 'it returns false'. Refute it at one input. -/
def gossipCrossesWrong : ChangeSpec := { name := "gossipCrosses", fn := fun _ => fun
  | [d] => { results := [.lit (.bool false)], args := [d] }
  | _ => none }
def GossipCrossesWrongFalsely : Prop := gossipCrossesRow.holds Try.pinned (OpenSpec.ofChange gossipCrossesWrong)

/-- 'chartularylaw28.GossipPlays': WHATEVER THE INPUT: true; the input reads as it did. -/
def gossipPlaysSpec : ChangeSpec := { name := "gossipPlays", fn := fun _ => fun
  | [d1, d2] => { results := [.lit (.bool true)], args := [d1, d2] }
  | _ => none }
def gossipPlaysRow : OpenClaim := { program := "ytfbpkpnnglhbcaa", sum := "4fe2d0a9d272faee983f8e95df07252ecb317031bf127701e798604ea6409db1", func := "chartulary/chartularylaw28.GossipPlays", spec := "gossipPlays", unfollowed := true, recurses := true, apart := false }
def GossipPlaysSaid : Prop := gossipPlaysRow.holds Try.pinned (OpenSpec.ofChange gossipPlaysSpec)

/-- ITS FALSE NEIGHBOUR: 'it returns false'. Refute it at one input. -/
def gossipPlaysWrong : ChangeSpec := { name := "gossipPlays", fn := fun _ => fun
  | [d1, d2] => { results := [.lit (.bool false)], args := [d1, d2] }
  | _ => none }
def GossipPlaysWrongFalsely : Prop := gossipPlaysRow.holds Try.pinned (OpenSpec.ofChange gossipPlaysWrong)

/-- 'chartularylaw28.GossipNobody': WHATEVER THE INPUT: true; the input reads as it did. -/
def gossipNobodySpec : ChangeSpec := { name := "gossipNobody", fn := fun _ => fun
  | [d1, d2] => { results := [.lit (.bool true)], args := [d1, d2] }
  | _ => none }
def gossipNobodyRow : OpenClaim := { program := "ytfbpkpnnglhbcaa", sum := "4fe2d0a9d272faee983f8e95df07252ecb317031bf127701e798604ea6409db1", func := "chartulary/chartularylaw28.GossipNobody", spec := "gossipNobody", unfollowed := true, recurses := true, apart := false }
def GossipNobodySaid : Prop := gossipNobodyRow.holds Try.pinned (OpenSpec.ofChange gossipNobodySpec)

/-- ITS FALSE NEIGHBOUR: 'it returns false'. Refute it at one input. -/
def gossipNobodyWrong : ChangeSpec := { name := "gossipNobody", fn := fun _ => fun
  | [d1, d2] => { results := [.lit (.bool false)], args := [d1, d2] }
  | _ => none }
def GossipNobodyWrongFalsely : Prop := gossipNobodyRow.holds Try.pinned (OpenSpec.ofChange gossipNobodyWrong)

/-- 'chartularylaw28.GossipAgrees': WHATEVER THE INPUT: true; the input reads as it did. -/
def gossipAgreesSpec : ChangeSpec := { name := "gossipAgrees", fn := fun _ => fun
  | [d1, d2, d3] => { results := [.lit (.bool true)], args := [d1, d2, d3] }
  | _ => none }
def gossipAgreesRow : OpenClaim := { program := "ytfbpkpnnglhbcaa", sum := "4fe2d0a9d272faee983f8e95df07252ecb317031bf127701e798604ea6409db1", func := "chartulary/chartularylaw28.GossipAgrees", spec := "gossipAgrees", unfollowed := true, recurses := true, apart := false }
def GossipAgreesSaid : Prop := gossipAgreesRow.holds Try.pinned (OpenSpec.ofChange gossipAgreesSpec)

/-- ITS FALSE NEIGHBOUR: 'it returns false'. Refute it at one input. -/
def gossipAgreesWrong : ChangeSpec := { name := "gossipAgrees", fn := fun _ => fun
  | [d1, d2, d3] => { results := [.lit (.bool false)], args := [d1, d2, d3] }
  | _ => none }
def GossipAgreesWrongFalsely : Prop := gossipAgreesRow.holds Try.pinned (OpenSpec.ofChange gossipAgreesWrong)

/- THE SECOND FORM. 'bulk': how many values and letters a reading holds, each counted each time it is reached (what is shared counts as often as it is met; a slice's spare places count too). A statement '..UptoSaid' is the law's where the arguments, and the package variables that the reading takes, are together of bulk at most 1048576: NARROWER than '..Said'. Prove '..Said' where nothing that the law and all that it calls make is longer than what came in: it says more and counts as full. Else prove '..UptoSaid'. A law counts once. -/
mutual
def uptoBulk {H : Type} : DataW H → Nat
  | .lit (.string bytes) => bytes.length + 1
  | .lit _ => 1
  | .nil => 1
  | .ptr d => uptoBulk d + 1
  | .slice elems spare => uptoBulkAll elems + uptoBulkAll spare + 1
  | .agg parts => uptoBulkAll parts + 1
  | .iface _ d => uptoBulk d + 1
  | .map entries => uptoBulkEntries entries + 1
  | .held _ => 1
def uptoBulkAll {H : Type} : List (DataW H) → Nat
  | [] => 0
  | d :: r => uptoBulk d + uptoBulkAll r
def uptoBulkEntries {H : Type} : List (Lit × DataW H) → Nat
  | [] => 0
  | x :: r => uptoBulkEntry x + uptoBulkEntries r
def uptoBulkEntry {H : Type} : Lit × DataW H → Nat
  | (.string bytes, d) => bytes.length + uptoBulk d + 1
  | (_, d) => uptoBulk d + 1
 end
def uptoSmall : (H : Type) → List (DataW H) → Bool := fun _ ds => decide (uptoBulkAll ds ≤ 1048576)
def OpenSpec.upto (s : _root_.Go.ChangeSpec) : _root_.Go.OpenSpec := { _root_.Go.OpenSpec.ofChange s with cond := some uptoSmall }

/-- 'chartularylaw28.GossipCompares', WHERE WHAT IT READS IS OF BULK AT MOST 1048576: true; the input reads as it did. -/
def gossipComparesUptoRow : OpenClaim := { program := "ytfbpkpnnglhbcaa", sum := "4fe2d0a9d272faee983f8e95df07252ecb317031bf127701e798604ea6409db1", func := "chartulary/chartularylaw28.GossipCompares", spec := "gossipCompares", unfollowed := true, recurses := true, apart := false, narrowed := true }
def GossipComparesUptoSaid : Prop := gossipComparesUptoRow.holds Try.pinned (OpenSpec.upto gossipComparesSpec)

/-- 'chartularylaw28.GossipCrosses', WHERE WHAT IT READS IS OF BULK AT MOST 1048576: true; the input reads as it did. -/
def gossipCrossesUptoRow : OpenClaim := { program := "ytfbpkpnnglhbcaa", sum := "4fe2d0a9d272faee983f8e95df07252ecb317031bf127701e798604ea6409db1", func := "chartulary/chartularylaw28.GossipCrosses", spec := "gossipCrosses", unfollowed := true, recurses := true, apart := false, narrowed := true }
def GossipCrossesUptoSaid : Prop := gossipCrossesUptoRow.holds Try.pinned (OpenSpec.upto gossipCrossesSpec)

/-- 'chartularylaw28.GossipPlays', WHERE WHAT IT READS IS OF BULK AT MOST 1048576: true; the input reads as it did. -/
def gossipPlaysUptoRow : OpenClaim := { program := "ytfbpkpnnglhbcaa", sum := "4fe2d0a9d272faee983f8e95df07252ecb317031bf127701e798604ea6409db1", func := "chartulary/chartularylaw28.GossipPlays", spec := "gossipPlays", unfollowed := true, recurses := true, apart := false, narrowed := true }
def GossipPlaysUptoSaid : Prop := gossipPlaysUptoRow.holds Try.pinned (OpenSpec.upto gossipPlaysSpec)

/-- 'chartularylaw28.GossipNobody', WHERE WHAT IT READS IS OF BULK AT MOST 1048576: true; the input reads as it did. -/
def gossipNobodyUptoRow : OpenClaim := { program := "ytfbpkpnnglhbcaa", sum := "4fe2d0a9d272faee983f8e95df07252ecb317031bf127701e798604ea6409db1", func := "chartulary/chartularylaw28.GossipNobody", spec := "gossipNobody", unfollowed := true, recurses := true, apart := false, narrowed := true }
def GossipNobodyUptoSaid : Prop := gossipNobodyUptoRow.holds Try.pinned (OpenSpec.upto gossipNobodySpec)

/-- 'chartularylaw28.GossipAgrees', WHERE WHAT IT READS IS OF BULK AT MOST 1048576: true; the input reads as it did. -/
def gossipAgreesUptoRow : OpenClaim := { program := "ytfbpkpnnglhbcaa", sum := "4fe2d0a9d272faee983f8e95df07252ecb317031bf127701e798604ea6409db1", func := "chartulary/chartularylaw28.GossipAgrees", spec := "gossipAgrees", unfollowed := true, recurses := true, apart := false, narrowed := true }
def GossipAgreesUptoSaid : Prop := gossipAgreesUptoRow.holds Try.pinned (OpenSpec.upto gossipAgreesSpec)

end Rows
end Go.Proofs.Ytfbpkpnnglhbcaa
