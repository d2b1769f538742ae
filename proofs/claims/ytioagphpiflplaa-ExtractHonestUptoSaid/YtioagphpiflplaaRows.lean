/-
  No cell of these rows narrows 'for every input' (looked for: loops, veiled, ifaces, maps, wideKeys, modest, calm, conditions, laid).
  DERIVED. THE GIVEN ROWS OF THIS SEAT. 3 by the template 'for every input the law returns true; each argument reads behind the call as it read before'; 0 by the template 'total and deterministic' (their statements: YtioagphpiflplaaTotals.lean).
  GIVEN WITH THE SEED: the statements are not yours to turn. If you find one false, say at which input.
  Laid BY PROGRAM, IN A SANDBOX (cutbox-rows.mjs): the forced cells as the released guide's own fill.sh prints them over the translation 9c80f8c074e54448… (all of the seat's roots in one cut). By AI agents, Wed Nov 11 2026. No macro, syntax, notation, axiom, sorry.
-/
import Derived.Test.YtioagphpiflplaaChecked
import GoSem.Claim
import GoSem.ClaimJoined
import GoSem.ClaimMapViews
import Derived.JoinedTies
import Derived.KernelRfl
namespace Go.Proofs.Ytioagphpiflplaa
/- THE CELL 'sum', in the pinned program and in every row, IS THE sha256 OF THE DUMP (.gsa) THAT YtioagphpiflplaaProg.lean LOADS. Nothing in Lean hashes anything: it is a label: what it is worth is what the hold of that sum in a sandbox is worth. -/
noncomputable def Try.pinned : Pinned := { name := "ytioagphpiflplaa", sum := "9c80f8c074e54448f3c657398e621be98b695eff1ea95ca37704dbbf5345a39e", checked := Try.checked }
namespace Rows
def none {H : Type} : Left H := { results := [], args := [] }

/-- 'chartularylaw21.ExtractShows': WHATEVER THE INPUT: true; the input reads as it did. -/
def extractShowsSpec : ChangeSpec := { name := "extractShows", fn := fun _ => fun
  | [d1, d2, d3, d4] => { results := [.lit (.bool true)], args := [d1, d2, d3, d4] }
  | _ => none }
def extractShowsRow : OpenClaim := { program := "ytioagphpiflplaa", sum := "9c80f8c074e54448f3c657398e621be98b695eff1ea95ca37704dbbf5345a39e", func := "chartulary/chartularylaw21.ExtractShows", spec := "extractShows", recurses := true, apart := false }
def ExtractShowsSaid : Prop := extractShowsRow.holds Try.pinned (OpenSpec.ofChange extractShowsSpec)

/-- ITS FALSE NEIGHBOUR: 'it returns false'. Refute it at one input. -/
def extractShowsWrong : ChangeSpec := { name := "extractShows", fn := fun _ => fun
  | [d1, d2, d3, d4] => { results := [.lit (.bool false)], args := [d1, d2, d3, d4] }
  | _ => none }
def ExtractShowsWrongFalsely : Prop := extractShowsRow.holds Try.pinned (OpenSpec.ofChange extractShowsWrong)

/-- 'chartularylaw21.ExtractHonest': WHATEVER THE INPUT: true; the input reads as it did. -/
def extractHonestSpec : ChangeSpec := { name := "extractHonest", fn := fun _ => fun
  | [d1, d2, d3, d4] => { results := [.lit (.bool true)], args := [d1, d2, d3, d4] }
  | _ => none }
def extractHonestRow : OpenClaim := { program := "ytioagphpiflplaa", sum := "9c80f8c074e54448f3c657398e621be98b695eff1ea95ca37704dbbf5345a39e", func := "chartulary/chartularylaw21.ExtractHonest", spec := "extractHonest", recurses := true, apart := false }
def ExtractHonestSaid : Prop := extractHonestRow.holds Try.pinned (OpenSpec.ofChange extractHonestSpec)

/-- ITS FALSE NEIGHBOUR: 'it returns false'. Refute it at one input. -/
def extractHonestWrong : ChangeSpec := { name := "extractHonest", fn := fun _ => fun
  | [d1, d2, d3, d4] => { results := [.lit (.bool false)], args := [d1, d2, d3, d4] }
  | _ => none }
def ExtractHonestWrongFalsely : Prop := extractHonestRow.holds Try.pinned (OpenSpec.ofChange extractHonestWrong)

/-- 'chartularylaw21.ExtractGrown': WHATEVER THE INPUT: true; the input reads as it did. -/
def extractGrownSpec : ChangeSpec := { name := "extractGrown", fn := fun _ => fun
  | [d1, d2, d3, d4] => { results := [.lit (.bool true)], args := [d1, d2, d3, d4] }
  | _ => none }
def extractGrownRow : OpenClaim := { program := "ytioagphpiflplaa", sum := "9c80f8c074e54448f3c657398e621be98b695eff1ea95ca37704dbbf5345a39e", func := "chartulary/chartularylaw21.ExtractGrown", spec := "extractGrown", recurses := true, apart := false }
def ExtractGrownSaid : Prop := extractGrownRow.holds Try.pinned (OpenSpec.ofChange extractGrownSpec)

/-- ITS FALSE NEIGHBOUR: 'it returns false'. Refute it at one input. -/
def extractGrownWrong : ChangeSpec := { name := "extractGrown", fn := fun _ => fun
  | [d1, d2, d3, d4] => { results := [.lit (.bool false)], args := [d1, d2, d3, d4] }
  | _ => none }
def ExtractGrownWrongFalsely : Prop := extractGrownRow.holds Try.pinned (OpenSpec.ofChange extractGrownWrong)

/- THE SECOND FORM. 'bulk': how many values and letters a reading holds, each counted each time it is reached (what is shared counts as often as it is met; a slice's spare places count too). A statement '..UptoSaid' is the law's where the arguments, and the package variables that the reading takes, are together of bulk at most 1048576: NARROWER than '..Said'. Prove '..Said' where nothing that the law and all that it calls make is longer than what came in: it says more and counts as full. Else prove '..UptoSaid'. A law counts once. -/
mutual
def uptoBulk {H : Type} : DataW H → Nat
  | .lit (.string bytes) => bytes.length + 1
  | .lit _ => 1
  | .nil => 1
  | .ptr d => uptoBulk d + 1
  | .slice elems spare => uptoBulkAll elems + uptoBulkAll spare + 1
  | .agg parts => uptoBulkAll parts + 1
  | .iface _ d => uptoBulk d + 1
  | .map entries => uptoBulkEntries entries + 1
  | .held _ => 1
def uptoBulkAll {H : Type} : List (DataW H) → Nat
  | [] => 0
  | d :: r => uptoBulk d + uptoBulkAll r
def uptoBulkEntries {H : Type} : List (Lit × DataW H) → Nat
  | [] => 0
  | x :: r => uptoBulkEntry x + uptoBulkEntries r
def uptoBulkEntry {H : Type} : Lit × DataW H → Nat
  | (.string bytes, d) => bytes.length + uptoBulk d + 1
  | (_, d) => uptoBulk d + 1
 end
def uptoSmall : (H : Type) → List (DataW H) → Bool := fun _ ds => decide (uptoBulkAll ds ≤ 1048576)
def OpenSpec.upto (s : _root_.Go.ChangeSpec) : _root_.Go.OpenSpec := { _root_.Go.OpenSpec.ofChange s with cond := some uptoSmall }

/-- 'chartularylaw21.ExtractShows', WHERE WHAT IT READS IS OF BULK AT MOST 1048576: true; the input reads as it did. -/
def extractShowsUptoRow : OpenClaim := { program := "ytioagphpiflplaa", sum := "9c80f8c074e54448f3c657398e621be98b695eff1ea95ca37704dbbf5345a39e", func := "chartulary/chartularylaw21.ExtractShows", spec := "extractShows", recurses := true, apart := false, narrowed := true }
def ExtractShowsUptoSaid : Prop := extractShowsUptoRow.holds Try.pinned (OpenSpec.upto extractShowsSpec)

/-- 'chartularylaw21.ExtractHonest', WHERE WHAT IT READS IS OF BULK AT MOST 1048576: true; the input reads as it did. -/
def extractHonestUptoRow : OpenClaim := { program := "ytioagphpiflplaa", sum := "9c80f8c074e54448f3c657398e621be98b695eff1ea95ca37704dbbf5345a39e", func := "chartulary/chartularylaw21.ExtractHonest", spec := "extractHonest", recurses := true, apart := false, narrowed := true }
def ExtractHonestUptoSaid : Prop := extractHonestUptoRow.holds Try.pinned (OpenSpec.upto extractHonestSpec)

/-- 'chartularylaw21.ExtractGrown', WHERE WHAT IT READS IS OF BULK AT MOST 1048576: true; the input reads as it did. -/
def extractGrownUptoRow : OpenClaim := { program := "ytioagphpiflplaa", sum := "9c80f8c074e54448f3c657398e621be98b695eff1ea95ca37704dbbf5345a39e", func := "chartulary/chartularylaw21.ExtractGrown", spec := "extractGrown", recurses := true, apart := false, narrowed := true }
def ExtractGrownUptoSaid : Prop := extractGrownUptoRow.holds Try.pinned (OpenSpec.upto extractGrownSpec)

end Rows
end Go.Proofs.Ytioagphpiflplaa
