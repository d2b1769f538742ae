/-
  No cell of these rows narrows 'for every input' (looked for: loops, veiled, ifaces, maps, wideKeys, modest, calm, conditions, laid).
  DERIVED. THE GIVEN ROWS OF THIS SEAT. 3 by the template 'for every input the law returns true; each argument reads behind the call as it read before'; 0 by the template 'total and deterministic' (their statements: YtpidgdelfaidoaaTotals.lean).
  GIVEN WITH THE SEED: the statements are not yours to turn. If you find one false, say at which input.
  Laid BY PROGRAM, IN A SANDBOX (cutbox-rows.mjs): the forced cells as the released guide's own fill.sh prints them over the translation 9e8b93dd78b76d86… (all of the seat's roots in one cut). By AI agents, Wed Nov 11 2026. No macro, syntax, notation, axiom, sorry.
-/
import Derived.Test.YtpidgdelfaidoaaChecked
import GoSem.Claim
import GoSem.ClaimJoined
import GoSem.ClaimMapViews
import Derived.JoinedTies
import Derived.KernelRfl
namespace Go.Proofs.Ytpidgdelfaidoaa
/- THE CELL 'sum', in the pinned program and in every row, IS THE sha256 OF THE DUMP (.gsa) THAT YtpidgdelfaidoaaProg.lean LOADS. Nothing in Lean hashes anything: it is a label: what it is worth is what the hold of that sum in a sandbox is worth. -/
noncomputable def Try.pinned : Pinned := { name := "ytpidgdelfaidoaa", sum := "9e8b93dd78b76d86f2c1c2376937b1503f201eec1f41064fc5dced61a0e535b6", checked := Try.checked }
namespace Rows
def none {H : Type} : Left H := { results := [], args := [] }

/-- 'chartularylaw26.AskPrints': WHATEVER THE INPUT: true; the input reads as it did. -/
def askPrintsSpec : ChangeSpec := { name := "askPrints", fn := fun _ => fun
  | [d] => { results := [.lit (.bool true)], args := [d] }
  | _ => none }
def askPrintsRow : OpenClaim := { program := "ytpidgdelfaidoaa", sum := "9e8b93dd78b76d86f2c1c2376937b1503f201eec1f41064fc5dced61a0e535b6", func := "chartulary/chartularylaw26.AskPrints", spec := "askPrints", inPlace := ["internal/abi.NoEscape", "internal/bytealg.MakeNoZero", "internal/bytealg.IndexByteString"], unfollowed := true, recurses := true, apart := false }
def AskPrintsSaid : Prop := askPrintsRow.holds Try.pinned (OpenSpec.ofChange askPrintsSpec)

/-- ITS FALSE NEIGHBOUR: 'it returns false'. Refute it at one input. -/
def askPrintsWrong : ChangeSpec := { name := "askPrints", fn := fun _ => fun
  | [d] => { results := [.lit (.bool false)], args := [d] }
  | _ => none }
def AskPrintsWrongFalsely : Prop := askPrintsRow.holds Try.pinned (OpenSpec.ofChange askPrintsWrong)

/-- 'chartularylaw26.AskMore': WHATEVER THE INPUT: true; the input reads as it did. -/
def askMoreSpec : ChangeSpec := { name := "askMore", fn := fun _ => fun
  | [d] => { results := [.lit (.bool true)], args := [d] }
  | _ => none }
def askMoreRow : OpenClaim := { program := "ytpidgdelfaidoaa", sum := "9e8b93dd78b76d86f2c1c2376937b1503f201eec1f41064fc5dced61a0e535b6", func := "chartulary/chartularylaw26.AskMore", spec := "askMore", inPlace := ["internal/abi.NoEscape", "internal/bytealg.MakeNoZero", "internal/bytealg.IndexByteString"], unfollowed := true, recurses := true, apart := false }
def AskMoreSaid : Prop := askMoreRow.holds Try.pinned (OpenSpec.ofChange askMoreSpec)

/-- ITS FALSE NEIGHBOUR: 'it returns false'. Refute it at one input. -/
def askMoreWrong : ChangeSpec := { name := "askMore", fn := fun _ => fun
  | [d] => { results := [.lit (.bool false)], args := [d] }
  | _ => none }
def AskMoreWrongFalsely : Prop := askMoreRow.holds Try.pinned (OpenSpec.ofChange askMoreWrong)

/-- 'chartularylaw26.AskRuns': WHATEVER THE INPUT: true; the input reads as it did. -/
def askRunsSpec : ChangeSpec := { name := "askRuns", fn := fun _ => fun
  | [d1, d2] => { results := [.lit (.bool true)], args := [d1, d2] }
  | _ => none }
def askRunsRow : OpenClaim := { program := "ytpidgdelfaidoaa", sum := "9e8b93dd78b76d86f2c1c2376937b1503f201eec1f41064fc5dced61a0e535b6", func := "chartulary/chartularylaw26.AskRuns", spec := "askRuns", inPlace := ["internal/abi.NoEscape", "internal/bytealg.MakeNoZero", "internal/bytealg.IndexByteString", "internal/bytealg.abigen_runtime_cmpstring"], unfollowed := true, recurses := true, apart := false }
def AskRunsSaid : Prop := askRunsRow.holds Try.pinned (OpenSpec.ofChange askRunsSpec)

/-- ITS FALSE NEIGHBOUR: 'it returns false'. Refute it at one input. -/
def askRunsWrong : ChangeSpec := { name := "askRuns", fn := fun _ => fun
  | [d1, d2] => { results := [.lit (.bool false)], args := [d1, d2] }
  | _ => none }
def AskRunsWrongFalsely : Prop := askRunsRow.holds Try.pinned (OpenSpec.ofChange askRunsWrong)

/- THE SECOND FORM. 'bulk': how many values and letters a reading holds, each counted each time it is reached (what is shared counts as often as it is met; a slice's spare places count too). A statement '..UptoSaid' is the law's where the arguments, and the package variables that the reading takes, are together of bulk at most 1048576: NARROWER than '..Said'. Prove '..Said' where nothing that the law and all that it calls make is longer than what came in: it says more and counts as full. Else prove '..UptoSaid'. A law counts once. -/
mutual
def uptoBulk {H : Type} : DataW H → Nat
  | .lit (.string bytes) => bytes.length + 1
  | .lit _ => 1
  | .nil => 1
  | .ptr d => uptoBulk d + 1
  | .slice elems spare => uptoBulkAll elems + uptoBulkAll spare + 1
  | .agg parts => uptoBulkAll parts + 1
  | .iface _ d => uptoBulk d + 1
  | .map entries => uptoBulkEntries entries + 1
  | .held _ => 1
def uptoBulkAll {H : Type} : List (DataW H) → Nat
  | [] => 0
  | d :: r => uptoBulk d + uptoBulkAll r
def uptoBulkEntries {H : Type} : List (Lit × DataW H) → Nat
  | [] => 0
  | x :: r => uptoBulkEntry x + uptoBulkEntries r
def uptoBulkEntry {H : Type} : Lit × DataW H → Nat
  | (.string bytes, d) => bytes.length + uptoBulk d + 1
  | (_, d) => uptoBulk d + 1
 end
def uptoSmall : (H : Type) → List (DataW H) → Bool := fun _ ds => decide (uptoBulkAll ds ≤ 1048576)
def OpenSpec.upto (s : _root_.Go.ChangeSpec) : _root_.Go.OpenSpec := { _root_.Go.OpenSpec.ofChange s with cond := some uptoSmall }

/-- 'chartularylaw26.AskPrints', WHERE WHAT IT READS IS OF BULK AT MOST 1048576: true; the input reads as it did. -/
def askPrintsUptoRow : OpenClaim := { program := "ytpidgdelfaidoaa", sum := "9e8b93dd78b76d86f2c1c2376937b1503f201eec1f41064fc5dced61a0e535b6", func := "chartulary/chartularylaw26.AskPrints", spec := "askPrints", inPlace := ["internal/abi.NoEscape", "internal/bytealg.MakeNoZero", "internal/bytealg.IndexByteString"], unfollowed := true, recurses := true, apart := false, narrowed := true }
def AskPrintsUptoSaid : Prop := askPrintsUptoRow.holds Try.pinned (OpenSpec.upto askPrintsSpec)

/-- 'chartularylaw26.AskMore', WHERE WHAT IT READS IS OF BULK AT MOST 1048576: true; the input reads as it did. -/
def askMoreUptoRow : OpenClaim := { program := "ytpidgdelfaidoaa", sum := "9e8b93dd78b76d86f2c1c2376937b1503f201eec1f41064fc5dced61a0e535b6", func := "chartulary/chartularylaw26.AskMore", spec := "askMore", inPlace := ["internal/abi.NoEscape", "internal/bytealg.MakeNoZero", "internal/bytealg.IndexByteString"], unfollowed := true, recurses := true, apart := false, narrowed := true }
def AskMoreUptoSaid : Prop := askMoreUptoRow.holds Try.pinned (OpenSpec.upto askMoreSpec)

/-- 'chartularylaw26.AskRuns', WHERE WHAT IT READS IS OF BULK AT MOST 1048576: true; the input reads as it did. -/
def askRunsUptoRow : OpenClaim := { program := "ytpidgdelfaidoaa", sum := "9e8b93dd78b76d86f2c1c2376937b1503f201eec1f41064fc5dced61a0e535b6", func := "chartulary/chartularylaw26.AskRuns", spec := "askRuns", inPlace := ["internal/abi.NoEscape", "internal/bytealg.MakeNoZero", "internal/bytealg.IndexByteString", "internal/bytealg.abigen_runtime_cmpstring"], unfollowed := true, recurses := true, apart := false, narrowed := true }
def AskRunsUptoSaid : Prop := askRunsUptoRow.holds Try.pinned (OpenSpec.upto askRunsSpec)

end Rows
end Go.Proofs.Ytpidgdelfaidoaa
