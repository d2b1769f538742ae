/-
  No cell of these rows narrows 'for every input' (looked for: loops, veiled, ifaces, maps, wideKeys, modest, calm, conditions, laid).
  DERIVED. THE GIVEN ROWS OF THIS SEAT. 5 by the template 'for every input the law returns true; each argument reads behind the call as it read before'; 0 by the template 'total and deterministic' (their statements: YtabdmnoejoiboaaTotals.lean).
  GIVEN WITH THE SEED: the statements are not yours to turn. If you find one false, say at which input.
  Laid BY PROGRAM, IN A SANDBOX (cutbox-rows.mjs): the forced cells as the released guide's own fill.sh prints them over the translation 628198db0636186c… (all of the seat's roots in one cut). By AI agents, Wed Nov 11 2026. No macro, syntax, notation, axiom, sorry.
-/
import Derived.Test.YtabdmnoejoiboaaChecked
import GoSem.Claim
import GoSem.ClaimJoined
import GoSem.ClaimMapViews
import Derived.JoinedTies
import Derived.KernelRfl
namespace Go.Proofs.Ytabdmnoejoiboaa
/- THE CELL 'sum', in the pinned program and in every row, IS THE sha256 OF THE DUMP (.gsa) THAT YtabdmnoejoiboaaProg.lean LOADS. Nothing in Lean hashes anything: it is a label: what it is worth is what the hold of that sum in a sandbox is worth. -/
noncomputable def Try.pinned : Pinned := { name := "ytabdmnoejoiboaa", sum := "628198db0636186c0c296545e1df9d09e78f89fb96aaed22e24a33150cf403f1", checked := Try.checked }
namespace Rows
def none {H : Type} : Left H := { results := [], args := [] }

/-- 'chartularylaw05.PaperWords': WHATEVER THE INPUT: true; the input reads as it did. -/
def paperWordsSpec : ChangeSpec := { name := "paperWords", fn := fun _ => fun
  | [d] => { results := [.lit (.bool true)], args := [d] }
  | _ => none }
def paperWordsRow : OpenClaim := { program := "ytabdmnoejoiboaa", sum := "628198db0636186c0c296545e1df9d09e78f89fb96aaed22e24a33150cf403f1", func := "chartulary/chartularylaw05.PaperWords", spec := "paperWords", inPlace := ["internal/bytealg.abigen_runtime_cmpstring"], unfollowed := true, recurses := true, apart := false }
def PaperWordsSaid : Prop := paperWordsRow.holds Try.pinned (OpenSpec.ofChange paperWordsSpec)

/-- ITS FALSE NEIGHBOUR: 'it returns false'. Refute it at one input. -/
def paperWordsWrong : ChangeSpec := { name := "paperWords", fn := fun _ => fun
  | [d] => { results := [.lit (.bool false)], args := [d] }
  | _ => none }
def PaperWordsWrongFalsely : Prop := paperWordsRow.holds Try.pinned (OpenSpec.ofChange paperWordsWrong)

/-- 'chartularylaw05.PaperChecks': WHATEVER THE INPUT: true; the input reads as it did. -/
def paperChecksSpec : ChangeSpec := { name := "paperChecks", fn := fun _ => fun
  | [d] => { results := [.lit (.bool true)], args := [d] }
  | _ => none }
def paperChecksRow : OpenClaim := { program := "ytabdmnoejoiboaa", sum := "628198db0636186c0c296545e1df9d09e78f89fb96aaed22e24a33150cf403f1", func := "chartulary/chartularylaw05.PaperChecks", spec := "paperChecks", inPlace := ["internal/bytealg.abigen_runtime_cmpstring"], unfollowed := true, recurses := true, apart := false }
def PaperChecksSaid : Prop := paperChecksRow.holds Try.pinned (OpenSpec.ofChange paperChecksSpec)

/-- ITS FALSE NEIGHBOUR: 'it returns false'. Refute it at one input. -/
def paperChecksWrong : ChangeSpec := { name := "paperChecks", fn := fun _ => fun
  | [d] => { results := [.lit (.bool false)], args := [d] }
  | _ => none }
def PaperChecksWrongFalsely : Prop := paperChecksRow.holds Try.pinned (OpenSpec.ofChange paperChecksWrong)

/-- 'chartularylaw05.PaperSames': WHATEVER THE INPUT: true; the input reads as it did. -/
def paperSamesSpec : ChangeSpec := { name := "paperSames", fn := fun _ => fun
  | [d1, d2, d3] => { results := [.lit (.bool true)], args := [d1, d2, d3] }
  | _ => none }
def paperSamesRow : OpenClaim := { program := "ytabdmnoejoiboaa", sum := "628198db0636186c0c296545e1df9d09e78f89fb96aaed22e24a33150cf403f1", func := "chartulary/chartularylaw05.PaperSames", spec := "paperSames", inPlace := ["internal/bytealg.abigen_runtime_cmpstring"], unfollowed := true, recurses := true, apart := false }
def PaperSamesSaid : Prop := paperSamesRow.holds Try.pinned (OpenSpec.ofChange paperSamesSpec)

/-- ITS FALSE NEIGHBOUR: 'it returns false'. Refute it at one input. -/
def paperSamesWrong : ChangeSpec := { name := "paperSames", fn := fun _ => fun
  | [d1, d2, d3] => { results := [.lit (.bool false)], args := [d1, d2, d3] }
  | _ => none }
def PaperSamesWrongFalsely : Prop := paperSamesRow.holds Try.pinned (OpenSpec.ofChange paperSamesWrong)

/-- 'chartularylaw05.PaperBytes': WHATEVER THE INPUT: true; the input reads as it did. -/
def paperBytesSpec : ChangeSpec := { name := "paperBytes", fn := fun _ => fun
  | [d] => { results := [.lit (.bool true)], args := [d] }
  | _ => none }
def paperBytesRow : OpenClaim := { program := "ytabdmnoejoiboaa", sum := "628198db0636186c0c296545e1df9d09e78f89fb96aaed22e24a33150cf403f1", func := "chartulary/chartularylaw05.PaperBytes", spec := "paperBytes", inPlace := ["internal/bytealg.abigen_runtime_cmpstring"], unfollowed := true, recurses := true, apart := false }
def PaperBytesSaid : Prop := paperBytesRow.holds Try.pinned (OpenSpec.ofChange paperBytesSpec)

/-- ITS FALSE NEIGHBOUR: 'it returns false'. Refute it at one input. -/
def paperBytesWrong : ChangeSpec := { name := "paperBytes", fn := fun _ => fun
  | [d] => { results := [.lit (.bool false)], args := [d] }
  | _ => none }
def PaperBytesWrongFalsely : Prop := paperBytesRow.holds Try.pinned (OpenSpec.ofChange paperBytesWrong)

/-- 'chartularylaw05.PaperReads': WHATEVER THE INPUT: true; the input reads as it did. -/
def paperReadsSpec : ChangeSpec := { name := "paperReads", fn := fun _ => fun
  | [d] => { results := [.lit (.bool true)], args := [d] }
  | _ => none }
def paperReadsRow : OpenClaim := { program := "ytabdmnoejoiboaa", sum := "628198db0636186c0c296545e1df9d09e78f89fb96aaed22e24a33150cf403f1", func := "chartulary/chartularylaw05.PaperReads", spec := "paperReads", inPlace := ["internal/bytealg.abigen_runtime_cmpstring"], unfollowed := true, recurses := true, apart := false }
def PaperReadsSaid : Prop := paperReadsRow.holds Try.pinned (OpenSpec.ofChange paperReadsSpec)

/-- ITS FALSE NEIGHBOUR: 'it returns false'. Refute it at one input. -/
def paperReadsWrong : ChangeSpec := { name := "paperReads", fn := fun _ => fun
  | [d] => { results := [.lit (.bool false)], args := [d] }
  | _ => none }
def PaperReadsWrongFalsely : Prop := paperReadsRow.holds Try.pinned (OpenSpec.ofChange paperReadsWrong)

/- THE SECOND FORM. 'bulk': how many values and letters a reading holds, each counted each time it is reached (what is shared counts as often as it is met; a slice's spare places count too). A statement '..UptoSaid' is the law's where the arguments, and the package variables that the reading takes, are together of bulk at most 1048576: NARROWER than '..Said'. Prove '..Said' where nothing that the law and all that it calls make is longer than what came in: it says more and counts as full. Else prove '..UptoSaid'. A law counts once. -/
mutual
def uptoBulk {H : Type} : DataW H → Nat
  | .lit (.string bytes) => bytes.length + 1
  | .lit _ => 1
  | .nil => 1
  | .ptr d => uptoBulk d + 1
  | .slice elems spare => uptoBulkAll elems + uptoBulkAll spare + 1
  | .agg parts => uptoBulkAll parts + 1
  | .iface _ d => uptoBulk d + 1
  | .map entries => uptoBulkEntries entries + 1
  | .held _ => 1
def uptoBulkAll {H : Type} : List (DataW H) → Nat
  | [] => 0
  | d :: r => uptoBulk d + uptoBulkAll r
def uptoBulkEntries {H : Type} : List (Lit × DataW H) → Nat
  | [] => 0
  | x :: r => uptoBulkEntry x + uptoBulkEntries r
def uptoBulkEntry {H : Type} : Lit × DataW H → Nat
  | (.string bytes, d) => bytes.length + uptoBulk d + 1
  | (_, d) => uptoBulk d + 1
 end
def uptoSmall : (H : Type) → List (DataW H) → Bool := fun _ ds => decide (uptoBulkAll ds ≤ 1048576)
def OpenSpec.upto (s : _root_.Go.ChangeSpec) : _root_.Go.OpenSpec := { _root_.Go.OpenSpec.ofChange s with cond := some uptoSmall }

/-- 'chartularylaw05.PaperWords', WHERE WHAT IT READS IS OF BULK AT MOST 1048576: true; the input reads as it did. -/
def paperWordsUptoRow : OpenClaim := { program := "ytabdmnoejoiboaa", sum := "628198db0636186c0c296545e1df9d09e78f89fb96aaed22e24a33150cf403f1", func := "chartulary/chartularylaw05.PaperWords", spec := "paperWords", inPlace := ["internal/bytealg.abigen_runtime_cmpstring"], unfollowed := true, recurses := true, apart := false, narrowed := true }
def PaperWordsUptoSaid : Prop := paperWordsUptoRow.holds Try.pinned (OpenSpec.upto paperWordsSpec)

/-- 'chartularylaw05.PaperChecks', WHERE WHAT IT READS IS OF BULK AT MOST 1048576: true; the input reads as it did. -/
def paperChecksUptoRow : OpenClaim := { program := "ytabdmnoejoiboaa", sum := "628198db0636186c0c296545e1df9d09e78f89fb96aaed22e24a33150cf403f1", func := "chartulary/chartularylaw05.PaperChecks", spec := "paperChecks", inPlace := ["internal/bytealg.abigen_runtime_cmpstring"], unfollowed := true, recurses := true, apart := false, narrowed := true }
def PaperChecksUptoSaid : Prop := paperChecksUptoRow.holds Try.pinned (OpenSpec.upto paperChecksSpec)

/-- 'chartularylaw05.PaperSames', WHERE WHAT IT READS IS OF BULK AT MOST 1048576: true; the input reads as it did. -/
def paperSamesUptoRow : OpenClaim := { program := "ytabdmnoejoiboaa", sum := "628198db0636186c0c296545e1df9d09e78f89fb96aaed22e24a33150cf403f1", func := "chartulary/chartularylaw05.PaperSames", spec := "paperSames", inPlace := ["internal/bytealg.abigen_runtime_cmpstring"], unfollowed := true, recurses := true, apart := false, narrowed := true }
def PaperSamesUptoSaid : Prop := paperSamesUptoRow.holds Try.pinned (OpenSpec.upto paperSamesSpec)

/-- 'chartularylaw05.PaperBytes', WHERE WHAT IT READS IS OF BULK AT MOST 1048576: true; the input reads as it did. -/
def paperBytesUptoRow : OpenClaim := { program := "ytabdmnoejoiboaa", sum := "628198db0636186c0c296545e1df9d09e78f89fb96aaed22e24a33150cf403f1", func := "chartulary/chartularylaw05.PaperBytes", spec := "paperBytes", inPlace := ["internal/bytealg.abigen_runtime_cmpstring"], unfollowed := true, recurses := true, apart := false, narrowed := true }
def PaperBytesUptoSaid : Prop := paperBytesUptoRow.holds Try.pinned (OpenSpec.upto paperBytesSpec)

/-- 'chartularylaw05.PaperReads', WHERE WHAT IT READS IS OF BULK AT MOST 1048576: true; the input reads as it did. -/
def paperReadsUptoRow : OpenClaim := { program := "ytabdmnoejoiboaa", sum := "628198db0636186c0c296545e1df9d09e78f89fb96aaed22e24a33150cf403f1", func := "chartulary/chartularylaw05.PaperReads", spec := "paperReads", inPlace := ["internal/bytealg.abigen_runtime_cmpstring"], unfollowed := true, recurses := true, apart := false, narrowed := true }
def PaperReadsUptoSaid : Prop := paperReadsUptoRow.holds Try.pinned (OpenSpec.upto paperReadsSpec)

end Rows
end Go.Proofs.Ytabdmnoejoiboaa
