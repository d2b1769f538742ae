/- Plain laws of chapter 17: what any query finds, by the program and by the document. -/
import Derived.Test.YtcjiipbppkdkaaaPSortMI
namespace Go.Proofs.Ytcjiipbppkdkaaa.Pure
open Go Go.Proofs.Ytcjiipbppkdkaaa.E Go.Proofs.Ytcjiipbppkdkaaa.Eng
set_option linter.unusedVariables false
set_option linter.unusedSimpArgs false
noncomputable def outV (cP : List Pap) (q : Qry) (l : List Int) : List Int := if q.2.1 = ⟨#[]⟩ then l else srtV (eI cP q.2.1 q.2.2.1) l
section
variable (q : Qry) (l : List Pap) (hq : q.1.length ≤ 1000000000) (hl : PapsOk l) (h30 : l.length ≤ 30) (hm : ¬ q.2.2.2.1 < 0)
include hq hl h30 hm
end
noncomputable def foundV (q : Qry) (l : List Pap) : List Int := (outV l q (selI (allV q.1) 0 l)).take q.2.2.2.1.toNat
section
variable (q : Qry) (l : List Pap) (hq : q.1.length ≤ 1000000000) (hl : PapsOk l) (h30 : l.length ≤ 30)
include hq hl h30
omit hq hl h30 in
end
end Go.Proofs.Ytcjiipbppkdkaaa.Pure
