/- Plain laws: two sorted blocks merged where they lie; the whole sorting. -/
import Derived.Test.YtcjiipbppkdkaaaPSortWI
namespace Go.Proofs.Ytcjiipbppkdkaaa.Pure
open Go Go.Proofs.Ytcjiipbppkdkaaa.E Go.Proofs.Ytcjiipbppkdkaaa.Eng
set_option linter.unusedVariables false
set_option linter.unusedSimpArgs false
variable {cP : List Pap} {cT : List Trm} {cB : ByteArray} {cD : Bool} {cM : Int}
def Merged (cP : List Pap) (cB : ByteArray) (cD : Bool) (pre L post : List Int) (v : slices_symMergeCmpFunc_int_v0.R) : Prop := ∃ M, v.1.1 = pre ++ (M ++ post) ∧ Sorted (eI cP cB cD) M ∧ Same (eI cP cB cD) L M ∧ M.length = L.length
def SmOk (cP : List Pap) (cT : List Trm) (cB : ByteArray) (cD : Bool) (cM : Int) (s : Nat) : Prop := ∀ (pre A B post : List Int), InR cP (pre ++ (A ++ (B ++ post))) → A.length + B.length ≤ s → 1 ≤ A.length → 1 ≤ B.length → Sorted (eI cP cB cD) A → Sorted (eI cP cB cD) B → (pre ++ (A ++ (B ++ post))).length ≤ 1000 →
  TP (fun k => slices_symMergeCmpFunc_int_v0.f k (pre ++ (A ++ (B ++ post))) (pre.length : Nat) (pre.length + A.length : Nat) (pre.length + A.length + B.length : Nat) cP cT cB cD cM) (Merged cP cB cD pre (A ++ B) post)
end Go.Proofs.Ytcjiipbppkdkaaa.Pure
