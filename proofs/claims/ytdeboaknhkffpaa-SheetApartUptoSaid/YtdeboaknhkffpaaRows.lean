/-
  No cell of these rows narrows 'for every input' (looked for: loops, veiled, ifaces, maps, wideKeys, modest, calm, conditions, laid).
  DERIVED. THE GIVEN ROWS OF THIS SEAT. 5 by the template 'for every input the law returns true; each argument reads behind the call as it read before'; 0 by the template 'total and deterministic' (their statements: YtdeboaknhkffpaaTotals.lean).
  GIVEN WITH THE SEED: the statements are not yours to turn. If you find one false, say at which input.
  Laid BY PROGRAM, IN A SANDBOX (cutbox-rows.mjs): the forced cells as the released guide's own fill.sh prints them over the translation 687b5aebe75b512e… (all of the seat's roots in one cut). By AI agents, Wed Nov 11 2026. No macro, syntax, notation, axiom, sorry.
-/
import Derived.Test.YtdeboaknhkffpaaChecked
import GoSem.Claim
import GoSem.ClaimJoined
import GoSem.ClaimMapViews
import Derived.JoinedTies
import Derived.KernelRfl
namespace Go.Proofs.Ytdeboaknhkffpaa
/- THE CELL 'sum', in the pinned program and in every row, IS THE sha256 OF THE DUMP (.gsa) THAT YtdeboaknhkffpaaProg.lean LOADS. Nothing in Lean hashes anything: it is a label: what it is worth is what the hold of that sum in a sandbox is worth. -/
noncomputable def Try.pinned : Pinned := { name := "ytdeboaknhkffpaa", sum := "687b5aebe75b512e6777942f5a08feea58441ca84753a86d31fc49d1f6132662", checked := Try.checked }
namespace Rows
def none {H : Type} : Left H := { results := [], args := [] }

/-- 'chartularylaw08.SheetRoots': WHATEVER THE INPUT: true; the input reads as it did. -/
def sheetRootsSpec : ChangeSpec := { name := "sheetRoots", fn := fun _ => fun
  | [d] => { results := [.lit (.bool true)], args := [d] }
  | _ => none }
def sheetRootsRow : OpenClaim := { program := "ytdeboaknhkffpaa", sum := "687b5aebe75b512e6777942f5a08feea58441ca84753a86d31fc49d1f6132662", func := "chartulary/chartularylaw08.SheetRoots", spec := "sheetRoots", recurses := true, apart := false }
def SheetRootsSaid : Prop := sheetRootsRow.holds Try.pinned (OpenSpec.ofChange sheetRootsSpec)

/-- ITS FALSE NEIGHBOUR: 'it returns false'. Refute it at one input. -/
def sheetRootsWrong : ChangeSpec := { name := "sheetRoots", fn := fun _ => fun
  | [d] => { results := [.lit (.bool false)], args := [d] }
  | _ => none }
def SheetRootsWrongFalsely : Prop := sheetRootsRow.holds Try.pinned (OpenSpec.ofChange sheetRootsWrong)

/-- 'chartularylaw08.SheetPapers': WHATEVER THE INPUT: true; the input reads as it did. -/
def sheetPapersSpec : ChangeSpec := { name := "sheetPapers", fn := fun _ => fun
  | [d] => { results := [.lit (.bool true)], args := [d] }
  | _ => none }
def sheetPapersRow : OpenClaim := { program := "ytdeboaknhkffpaa", sum := "687b5aebe75b512e6777942f5a08feea58441ca84753a86d31fc49d1f6132662", func := "chartulary/chartularylaw08.SheetPapers", spec := "sheetPapers", recurses := true, apart := false }
def SheetPapersSaid : Prop := sheetPapersRow.holds Try.pinned (OpenSpec.ofChange sheetPapersSpec)

/-- ITS FALSE NEIGHBOUR: 'it returns false'. Refute it at one input. -/
def sheetPapersWrong : ChangeSpec := { name := "sheetPapers", fn := fun _ => fun
  | [d] => { results := [.lit (.bool false)], args := [d] }
  | _ => none }
def SheetPapersWrongFalsely : Prop := sheetPapersRow.holds Try.pinned (OpenSpec.ofChange sheetPapersWrong)

/-- 'chartularylaw08.SheetBuilds': WHATEVER THE INPUT: true; the input reads as it did. -/
def sheetBuildsSpec : ChangeSpec := { name := "sheetBuilds", fn := fun _ => fun
  | [d1, d2, d3, d4] => { results := [.lit (.bool true)], args := [d1, d2, d3, d4] }
  | _ => none }
def sheetBuildsRow : OpenClaim := { program := "ytdeboaknhkffpaa", sum := "687b5aebe75b512e6777942f5a08feea58441ca84753a86d31fc49d1f6132662", func := "chartulary/chartularylaw08.SheetBuilds", spec := "sheetBuilds", recurses := true, apart := false }
def SheetBuildsSaid : Prop := sheetBuildsRow.holds Try.pinned (OpenSpec.ofChange sheetBuildsSpec)

/-- ITS FALSE NEIGHBOUR: 'it returns false'. Refute it at one input. -/
def sheetBuildsWrong : ChangeSpec := { name := "sheetBuilds", fn := fun _ => fun
  | [d1, d2, d3, d4] => { results := [.lit (.bool false)], args := [d1, d2, d3, d4] }
  | _ => none }
def SheetBuildsWrongFalsely : Prop := sheetBuildsRow.holds Try.pinned (OpenSpec.ofChange sheetBuildsWrong)

/-- 'chartularylaw08.SheetNodes': WHATEVER THE INPUT: true; the input reads as it did. -/
def sheetNodesSpec : ChangeSpec := { name := "sheetNodes", fn := fun _ => fun
  | [d1, d2] => { results := [.lit (.bool true)], args := [d1, d2] }
  | _ => none }
def sheetNodesRow : OpenClaim := { program := "ytdeboaknhkffpaa", sum := "687b5aebe75b512e6777942f5a08feea58441ca84753a86d31fc49d1f6132662", func := "chartulary/chartularylaw08.SheetNodes", spec := "sheetNodes", recurses := true, apart := false }
def SheetNodesSaid : Prop := sheetNodesRow.holds Try.pinned (OpenSpec.ofChange sheetNodesSpec)

/-- ITS FALSE NEIGHBOUR: 'it returns false'. Refute it at one input. -/
def sheetNodesWrong : ChangeSpec := { name := "sheetNodes", fn := fun _ => fun
  | [d1, d2] => { results := [.lit (.bool false)], args := [d1, d2] }
  | _ => none }
def SheetNodesWrongFalsely : Prop := sheetNodesRow.holds Try.pinned (OpenSpec.ofChange sheetNodesWrong)

/-- 'chartularylaw08.SheetApart': WHATEVER THE INPUT: true; the input reads as it did. -/
def sheetApartSpec : ChangeSpec := { name := "sheetApart", fn := fun _ => fun
  | [d1, d2, d3, d4, d5, d6, d7] => { results := [.lit (.bool true)], args := [d1, d2, d3, d4, d5, d6, d7] }
  | _ => none }
def sheetApartRow : OpenClaim := { program := "ytdeboaknhkffpaa", sum := "687b5aebe75b512e6777942f5a08feea58441ca84753a86d31fc49d1f6132662", func := "chartulary/chartularylaw08.SheetApart", spec := "sheetApart", recurses := true, apart := false }
def SheetApartSaid : Prop := sheetApartRow.holds Try.pinned (OpenSpec.ofChange sheetApartSpec)

/-- ITS FALSE NEIGHBOUR: 'it returns false'. Refute it at one input. -/
def sheetApartWrong : ChangeSpec := { name := "sheetApart", fn := fun _ => fun
  | [d1, d2, d3, d4, d5, d6, d7] => { results := [.lit (.bool false)], args := [d1, d2, d3, d4, d5, d6, d7] }
  | _ => none }
def SheetApartWrongFalsely : Prop := sheetApartRow.holds Try.pinned (OpenSpec.ofChange sheetApartWrong)

/- THE SECOND FORM. 'bulk': how many values and letters a reading holds, each counted each time it is reached (what is shared counts as often as it is met; a slice's spare places count too). A statement '..UptoSaid' is the law's where the arguments, and the package variables that the reading takes, are together of bulk at most 1048576: NARROWER than '..Said'. Prove '..Said' where nothing that the law and all that it calls make is longer than what came in: it says more and counts as full. Else prove '..UptoSaid'. A law counts once. -/
mutual
def uptoBulk {H : Type} : DataW H → Nat
  | .lit (.string bytes) => bytes.length + 1
  | .lit _ => 1
  | .nil => 1
  | .ptr d => uptoBulk d + 1
  | .slice elems spare => uptoBulkAll elems + uptoBulkAll spare + 1
  | .agg parts => uptoBulkAll parts + 1
  | .iface _ d => uptoBulk d + 1
  | .map entries => uptoBulkEntries entries + 1
  | .held _ => 1
def uptoBulkAll {H : Type} : List (DataW H) → Nat
  | [] => 0
  | d :: r => uptoBulk d + uptoBulkAll r
def uptoBulkEntries {H : Type} : List (Lit × DataW H) → Nat
  | [] => 0
  | x :: r => uptoBulkEntry x + uptoBulkEntries r
def uptoBulkEntry {H : Type} : Lit × DataW H → Nat
  | (.string bytes, d) => bytes.length + uptoBulk d + 1
  | (_, d) => uptoBulk d + 1
 end
def uptoSmall : (H : Type) → List (DataW H) → Bool := fun _ ds => decide (uptoBulkAll ds ≤ 1048576)
def OpenSpec.upto (s : _root_.Go.ChangeSpec) : _root_.Go.OpenSpec := { _root_.Go.OpenSpec.ofChange s with cond := some uptoSmall }

/-- 'chartularylaw08.SheetRoots', WHERE WHAT IT READS IS OF BULK AT MOST 1048576: true; the input reads as it did. -/
def sheetRootsUptoRow : OpenClaim := { program := "ytdeboaknhkffpaa", sum := "687b5aebe75b512e6777942f5a08feea58441ca84753a86d31fc49d1f6132662", func := "chartulary/chartularylaw08.SheetRoots", spec := "sheetRoots", recurses := true, apart := false, narrowed := true }
def SheetRootsUptoSaid : Prop := sheetRootsUptoRow.holds Try.pinned (OpenSpec.upto sheetRootsSpec)

/-- 'chartularylaw08.SheetPapers', WHERE WHAT IT READS IS OF BULK AT MOST 1048576: true; the input reads as it did. -/
def sheetPapersUptoRow : OpenClaim := { program := "ytdeboaknhkffpaa", sum := "687b5aebe75b512e6777942f5a08feea58441ca84753a86d31fc49d1f6132662", func := "chartulary/chartularylaw08.SheetPapers", spec := "sheetPapers", recurses := true, apart := false, narrowed := true }
def SheetPapersUptoSaid : Prop := sheetPapersUptoRow.holds Try.pinned (OpenSpec.upto sheetPapersSpec)

/-- 'chartularylaw08.SheetBuilds', WHERE WHAT IT READS IS OF BULK AT MOST 1048576: true; the input reads as it did. -/
def sheetBuildsUptoRow : OpenClaim := { program := "ytdeboaknhkffpaa", sum := "687b5aebe75b512e6777942f5a08feea58441ca84753a86d31fc49d1f6132662", func := "chartulary/chartularylaw08.SheetBuilds", spec := "sheetBuilds", recurses := true, apart := false, narrowed := true }
def SheetBuildsUptoSaid : Prop := sheetBuildsUptoRow.holds Try.pinned (OpenSpec.upto sheetBuildsSpec)

/-- 'chartularylaw08.SheetNodes', WHERE WHAT IT READS IS OF BULK AT MOST 1048576: true; the input reads as it did. -/
def sheetNodesUptoRow : OpenClaim := { program := "ytdeboaknhkffpaa", sum := "687b5aebe75b512e6777942f5a08feea58441ca84753a86d31fc49d1f6132662", func := "chartulary/chartularylaw08.SheetNodes", spec := "sheetNodes", recurses := true, apart := false, narrowed := true }
def SheetNodesUptoSaid : Prop := sheetNodesUptoRow.holds Try.pinned (OpenSpec.upto sheetNodesSpec)

/-- 'chartularylaw08.SheetApart', WHERE WHAT IT READS IS OF BULK AT MOST 1048576: true; the input reads as it did. -/
def sheetApartUptoRow : OpenClaim := { program := "ytdeboaknhkffpaa", sum := "687b5aebe75b512e6777942f5a08feea58441ca84753a86d31fc49d1f6132662", func := "chartulary/chartularylaw08.SheetApart", spec := "sheetApart", recurses := true, apart := false, narrowed := true }
def SheetApartUptoSaid : Prop := sheetApartUptoRow.holds Try.pinned (OpenSpec.upto sheetApartSpec)

end Rows
end Go.Proofs.Ytdeboaknhkffpaa
