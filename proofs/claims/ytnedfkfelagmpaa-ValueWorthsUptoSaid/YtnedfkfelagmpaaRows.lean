/-
  No cell of these rows narrows 'for every input' (looked for: loops, veiled, ifaces, maps, wideKeys, modest, calm, conditions, laid).
  DERIVED. THE GIVEN ROWS OF THIS SEAT. 7 by the template 'for every input the law returns true; each argument reads behind the call as it read before'; 0 by the template 'total and deterministic' (their statements: YtnedfkfelagmpaaTotals.lean).
  GIVEN WITH THE SEED: the statements are not yours to turn. If you find one false, say at which input.
  Laid BY PROGRAM, IN A SANDBOX (cutbox-rows.mjs): the forced cells as the released guide's own fill.sh prints them over the translation 14e83025a81452f6… (all of the seat's roots in one cut). By AI agents, Wed Nov 11 2026. No macro, syntax, notation, axiom, sorry.
-/
import Derived.Test.YtnedfkfelagmpaaChecked
import GoSem.Claim
import GoSem.ClaimJoined
import GoSem.ClaimMapViews
import Derived.JoinedTies
import Derived.KernelRfl
namespace Go.Proofs.Ytnedfkfelagmpaa
/- THE CELL 'sum', in the pinned program and in every row, IS THE sha256 OF THE DUMP (.gsa) THAT YtnedfkfelagmpaaProg.lean LOADS. Nothing in Lean hashes anything: it is a label: what it is worth is what the hold of that sum in a sandbox is worth. -/
noncomputable def Try.pinned : Pinned := { name := "ytnedfkfelagmpaa", sum := "14e83025a81452f6767cef1a7aebed1146c2aeb5079d9f248f56c8b5343466b4", checked := Try.checked }
namespace Rows
def none {H : Type} : Left H := { results := [], args := [] }

/-- 'chartularylaw04.ValueCleans': WHATEVER THE INPUT: true; the input reads as it did. -/
def valueCleansSpec : ChangeSpec := { name := "valueCleans", fn := fun _ => fun
  | [d] => { results := [.lit (.bool true)], args := [d] }
  | _ => none }
def valueCleansRow : OpenClaim := { program := "ytnedfkfelagmpaa", sum := "14e83025a81452f6767cef1a7aebed1146c2aeb5079d9f248f56c8b5343466b4", func := "chartulary/chartularylaw04.ValueCleans", spec := "valueCleans", inPlace := ["math.Float64bits"], apart := false }
def ValueCleansSaid : Prop := valueCleansRow.holds Try.pinned (OpenSpec.ofChange valueCleansSpec)

/-- ITS FALSE NEIGHBOUR: 'it returns false'. Refute it at one input. -/
def valueCleansWrong : ChangeSpec := { name := "valueCleans", fn := fun _ => fun
  | [d] => { results := [.lit (.bool false)], args := [d] }
  | _ => none }
def ValueCleansWrongFalsely : Prop := valueCleansRow.holds Try.pinned (OpenSpec.ofChange valueCleansWrong)

/-- 'chartularylaw04.ValueFloats': WHATEVER THE INPUT: true; the input reads as it did. -/
def valueFloatsSpec : ChangeSpec := { name := "valueFloats", fn := fun _ => fun
  | [d1, d2] => { results := [.lit (.bool true)], args := [d1, d2] }
  | _ => none }
def valueFloatsRow : OpenClaim := { program := "ytnedfkfelagmpaa", sum := "14e83025a81452f6767cef1a7aebed1146c2aeb5079d9f248f56c8b5343466b4", func := "chartulary/chartularylaw04.ValueFloats", spec := "valueFloats", inPlace := ["math.Float64frombits", "math.Float64bits"], apart := false }
def ValueFloatsSaid : Prop := valueFloatsRow.holds Try.pinned (OpenSpec.ofChange valueFloatsSpec)

/-- ITS FALSE NEIGHBOUR: 'it returns false'. Refute it at one input. -/
def valueFloatsWrong : ChangeSpec := { name := "valueFloats", fn := fun _ => fun
  | [d1, d2] => { results := [.lit (.bool false)], args := [d1, d2] }
  | _ => none }
def ValueFloatsWrongFalsely : Prop := valueFloatsRow.holds Try.pinned (OpenSpec.ofChange valueFloatsWrong)

/-- 'chartularylaw04.ValueOrders': WHATEVER THE INPUT: true; the input reads as it did. -/
def valueOrdersSpec : ChangeSpec := { name := "valueOrders", fn := fun _ => fun
  | [d1, d2] => { results := [.lit (.bool true)], args := [d1, d2] }
  | _ => none }
def valueOrdersRow : OpenClaim := { program := "ytnedfkfelagmpaa", sum := "14e83025a81452f6767cef1a7aebed1146c2aeb5079d9f248f56c8b5343466b4", func := "chartulary/chartularylaw04.ValueOrders", spec := "valueOrders", inPlace := ["math.Float64bits", "internal/bytealg.abigen_runtime_cmpstring"], apart := false }
def ValueOrdersSaid : Prop := valueOrdersRow.holds Try.pinned (OpenSpec.ofChange valueOrdersSpec)

/-- ITS FALSE NEIGHBOUR: 'it returns false'. Refute it at one input. -/
def valueOrdersWrong : ChangeSpec := { name := "valueOrders", fn := fun _ => fun
  | [d1, d2] => { results := [.lit (.bool false)], args := [d1, d2] }
  | _ => none }
def ValueOrdersWrongFalsely : Prop := valueOrdersRow.holds Try.pinned (OpenSpec.ofChange valueOrdersWrong)

/-- 'chartularylaw04.ValueChains': WHATEVER THE INPUT: true; the input reads as it did. -/
def valueChainsSpec : ChangeSpec := { name := "valueChains", fn := fun _ => fun
  | [d1, d2, d3] => { results := [.lit (.bool true)], args := [d1, d2, d3] }
  | _ => none }
def valueChainsRow : OpenClaim := { program := "ytnedfkfelagmpaa", sum := "14e83025a81452f6767cef1a7aebed1146c2aeb5079d9f248f56c8b5343466b4", func := "chartulary/chartularylaw04.ValueChains", spec := "valueChains", inPlace := ["internal/bytealg.abigen_runtime_cmpstring", "math.Float64bits"], apart := false }
def ValueChainsSaid : Prop := valueChainsRow.holds Try.pinned (OpenSpec.ofChange valueChainsSpec)

/-- ITS FALSE NEIGHBOUR: 'it returns false'. Refute it at one input. -/
def valueChainsWrong : ChangeSpec := { name := "valueChains", fn := fun _ => fun
  | [d1, d2, d3] => { results := [.lit (.bool false)], args := [d1, d2, d3] }
  | _ => none }
def ValueChainsWrongFalsely : Prop := valueChainsRow.holds Try.pinned (OpenSpec.ofChange valueChainsWrong)

/-- 'chartularylaw04.ValueWorths': WHATEVER THE INPUT: true; the input reads as it did. -/
def valueWorthsSpec : ChangeSpec := { name := "valueWorths", fn := fun _ => fun
  | [d1, d2] => { results := [.lit (.bool true)], args := [d1, d2] }
  | _ => none }
def valueWorthsRow : OpenClaim := { program := "ytnedfkfelagmpaa", sum := "14e83025a81452f6767cef1a7aebed1146c2aeb5079d9f248f56c8b5343466b4", func := "chartulary/chartularylaw04.ValueWorths", spec := "valueWorths", inPlace := ["math.Float64bits", "math.Float64frombits", "math.archTrunc"], apart := false }
def ValueWorthsSaid : Prop := valueWorthsRow.holds Try.pinned (OpenSpec.ofChange valueWorthsSpec)

/-- ITS FALSE NEIGHBOUR: 'it returns false'. Refute it at one input. -/
def valueWorthsWrong : ChangeSpec := { name := "valueWorths", fn := fun _ => fun
  | [d1, d2] => { results := [.lit (.bool false)], args := [d1, d2] }
  | _ => none }
def ValueWorthsWrongFalsely : Prop := valueWorthsRow.holds Try.pinned (OpenSpec.ofChange valueWorthsWrong)

/-- 'chartularylaw04.ValueBytes': WHATEVER THE INPUT: true; the input reads as it did. -/
def valueBytesSpec : ChangeSpec := { name := "valueBytes", fn := fun _ => fun
  | [d] => { results := [.lit (.bool true)], args := [d] }
  | _ => none }
def valueBytesRow : OpenClaim := { program := "ytnedfkfelagmpaa", sum := "14e83025a81452f6767cef1a7aebed1146c2aeb5079d9f248f56c8b5343466b4", func := "chartulary/chartularylaw04.ValueBytes", spec := "valueBytes", inPlace := ["math.Float64bits"], apart := false }
def ValueBytesSaid : Prop := valueBytesRow.holds Try.pinned (OpenSpec.ofChange valueBytesSpec)

/-- ITS FALSE NEIGHBOUR: 'it returns false'. Refute it at one input. -/
def valueBytesWrong : ChangeSpec := { name := "valueBytes", fn := fun _ => fun
  | [d] => { results := [.lit (.bool false)], args := [d] }
  | _ => none }
def ValueBytesWrongFalsely : Prop := valueBytesRow.holds Try.pinned (OpenSpec.ofChange valueBytesWrong)

/-- 'chartularylaw04.ValueReads': WHATEVER THE INPUT: true; the input reads as it did. -/
def valueReadsSpec : ChangeSpec := { name := "valueReads", fn := fun _ => fun
  | [d1, d2] => { results := [.lit (.bool true)], args := [d1, d2] }
  | _ => none }
def valueReadsRow : OpenClaim := { program := "ytnedfkfelagmpaa", sum := "14e83025a81452f6767cef1a7aebed1146c2aeb5079d9f248f56c8b5343466b4", func := "chartulary/chartularylaw04.ValueReads", spec := "valueReads", inPlace := ["math.Float64bits"], apart := false }
def ValueReadsSaid : Prop := valueReadsRow.holds Try.pinned (OpenSpec.ofChange valueReadsSpec)

/-- ITS FALSE NEIGHBOUR: 'it returns false'. Refute it at one input. -/
def valueReadsWrong : ChangeSpec := { name := "valueReads", fn := fun _ => fun
  | [d1, d2] => { results := [.lit (.bool false)], args := [d1, d2] }
  | _ => none }
def ValueReadsWrongFalsely : Prop := valueReadsRow.holds Try.pinned (OpenSpec.ofChange valueReadsWrong)

/- THE SECOND FORM. 'bulk': how many values and letters a reading holds, each counted each time it is reached (what is shared counts as often as it is met; a slice's spare places count too). A statement '..UptoSaid' is the law's where the arguments, and the package variables that the reading takes, are together of bulk at most 1048576: NARROWER than '..Said'. Prove '..Said' where nothing that the law and all that it calls make is longer than what came in: it says more and counts as full. Else prove '..UptoSaid'. A law counts once. -/
mutual
def uptoBulk {H : Type} : DataW H → Nat
  | .lit (.string bytes) => bytes.length + 1
  | .lit _ => 1
  | .nil => 1
  | .ptr d => uptoBulk d + 1
  | .slice elems spare => uptoBulkAll elems + uptoBulkAll spare + 1
  | .agg parts => uptoBulkAll parts + 1
  | .iface _ d => uptoBulk d + 1
  | .map entries => uptoBulkEntries entries + 1
  | .held _ => 1
def uptoBulkAll {H : Type} : List (DataW H) → Nat
  | [] => 0
  | d :: r => uptoBulk d + uptoBulkAll r
def uptoBulkEntries {H : Type} : List (Lit × DataW H) → Nat
  | [] => 0
  | x :: r => uptoBulkEntry x + uptoBulkEntries r
def uptoBulkEntry {H : Type} : Lit × DataW H → Nat
  | (.string bytes, d) => bytes.length + uptoBulk d + 1
  | (_, d) => uptoBulk d + 1
 end
def uptoSmall : (H : Type) → List (DataW H) → Bool := fun _ ds => decide (uptoBulkAll ds ≤ 1048576)
def OpenSpec.upto (s : _root_.Go.ChangeSpec) : _root_.Go.OpenSpec := { _root_.Go.OpenSpec.ofChange s with cond := some uptoSmall }

/-- 'chartularylaw04.ValueCleans', WHERE WHAT IT READS IS OF BULK AT MOST 1048576: true; the input reads as it did. -/
def valueCleansUptoRow : OpenClaim := { program := "ytnedfkfelagmpaa", sum := "14e83025a81452f6767cef1a7aebed1146c2aeb5079d9f248f56c8b5343466b4", func := "chartulary/chartularylaw04.ValueCleans", spec := "valueCleans", inPlace := ["math.Float64bits"], apart := false, narrowed := true }
def ValueCleansUptoSaid : Prop := valueCleansUptoRow.holds Try.pinned (OpenSpec.upto valueCleansSpec)

/-- 'chartularylaw04.ValueFloats', WHERE WHAT IT READS IS OF BULK AT MOST 1048576: true; the input reads as it did. -/
def valueFloatsUptoRow : OpenClaim := { program := "ytnedfkfelagmpaa", sum := "14e83025a81452f6767cef1a7aebed1146c2aeb5079d9f248f56c8b5343466b4", func := "chartulary/chartularylaw04.ValueFloats", spec := "valueFloats", inPlace := ["math.Float64frombits", "math.Float64bits"], apart := false, narrowed := true }
def ValueFloatsUptoSaid : Prop := valueFloatsUptoRow.holds Try.pinned (OpenSpec.upto valueFloatsSpec)

/-- 'chartularylaw04.ValueOrders', WHERE WHAT IT READS IS OF BULK AT MOST 1048576: true; the input reads as it did. -/
def valueOrdersUptoRow : OpenClaim := { program := "ytnedfkfelagmpaa", sum := "14e83025a81452f6767cef1a7aebed1146c2aeb5079d9f248f56c8b5343466b4", func := "chartulary/chartularylaw04.ValueOrders", spec := "valueOrders", inPlace := ["math.Float64bits", "internal/bytealg.abigen_runtime_cmpstring"], apart := false, narrowed := true }
def ValueOrdersUptoSaid : Prop := valueOrdersUptoRow.holds Try.pinned (OpenSpec.upto valueOrdersSpec)

/-- 'chartularylaw04.ValueChains', WHERE WHAT IT READS IS OF BULK AT MOST 1048576: true; the input reads as it did. -/
def valueChainsUptoRow : OpenClaim := { program := "ytnedfkfelagmpaa", sum := "14e83025a81452f6767cef1a7aebed1146c2aeb5079d9f248f56c8b5343466b4", func := "chartulary/chartularylaw04.ValueChains", spec := "valueChains", inPlace := ["internal/bytealg.abigen_runtime_cmpstring", "math.Float64bits"], apart := false, narrowed := true }
def ValueChainsUptoSaid : Prop := valueChainsUptoRow.holds Try.pinned (OpenSpec.upto valueChainsSpec)

/-- 'chartularylaw04.ValueWorths', WHERE WHAT IT READS IS OF BULK AT MOST 1048576: true; the input reads as it did. -/
def valueWorthsUptoRow : OpenClaim := { program := "ytnedfkfelagmpaa", sum := "14e83025a81452f6767cef1a7aebed1146c2aeb5079d9f248f56c8b5343466b4", func := "chartulary/chartularylaw04.ValueWorths", spec := "valueWorths", inPlace := ["math.Float64bits", "math.Float64frombits", "math.archTrunc"], apart := false, narrowed := true }
def ValueWorthsUptoSaid : Prop := valueWorthsUptoRow.holds Try.pinned (OpenSpec.upto valueWorthsSpec)

/-- 'chartularylaw04.ValueBytes', WHERE WHAT IT READS IS OF BULK AT MOST 1048576: true; the input reads as it did. -/
def valueBytesUptoRow : OpenClaim := { program := "ytnedfkfelagmpaa", sum := "14e83025a81452f6767cef1a7aebed1146c2aeb5079d9f248f56c8b5343466b4", func := "chartulary/chartularylaw04.ValueBytes", spec := "valueBytes", inPlace := ["math.Float64bits"], apart := false, narrowed := true }
def ValueBytesUptoSaid : Prop := valueBytesUptoRow.holds Try.pinned (OpenSpec.upto valueBytesSpec)

/-- 'chartularylaw04.ValueReads', WHERE WHAT IT READS IS OF BULK AT MOST 1048576: true; the input reads as it did. -/
def valueReadsUptoRow : OpenClaim := { program := "ytnedfkfelagmpaa", sum := "14e83025a81452f6767cef1a7aebed1146c2aeb5079d9f248f56c8b5343466b4", func := "chartulary/chartularylaw04.ValueReads", spec := "valueReads", inPlace := ["math.Float64bits"], apart := false, narrowed := true }
def ValueReadsUptoSaid : Prop := valueReadsUptoRow.holds Try.pinned (OpenSpec.upto valueReadsSpec)

end Rows
end Go.Proofs.Ytnedfkfelagmpaa
