/- Plain laws: lists in order: what a stable sorting comes to. -/
import Derived.Test.YtcjiipbppkdkaaaPComb
namespace Go.Proofs.Ytcjiipbppkdkaaa.Pure
open Go Go.Proofs.Ytcjiipbppkdkaaa.Eng
set_option linter.unusedVariables false
set_option linter.unusedSimpArgs false
structure Ord {α : Type} (lt : α → α → Bool) : Prop where
 anti : ∀ a b, lt a b = true → lt b a = false
 tr : ∀ a b c, lt b a = false → lt c b = false → lt c a = false
section
variable {α : Type} {lt : α → α → Bool}
variable (lt)
def Sorted (l : List α) : Prop := l.Pairwise fun a b => lt b a = false
def eqv (c a : α) : Bool := !lt a c && !lt c a
def Same (l l' : List α) : Prop := ∀ c, l'.filter (eqv lt c) = l.filter (eqv lt c)
variable {lt}
theorem Same.trans {a b c : List α} (h : Same lt a b) (h' : Same lt b c) : Same lt a c := fun x => (h' x).trans (h x)
theorem Same.symm {l l' : List α} (h : Same lt l l') : Same lt l' l := fun c => (h c).symm
theorem Sorted.right {a b : List α} (h : Sorted lt (a ++ b)) : Sorted lt b := (List.pairwise_append.1 h).2.1
theorem Sorted.one (x : α) : Sorted lt [x] := List.pairwise_singleton _ _
variable (lt)
def insV (x : α) : List α → List α
 | [] => [x]
 | y :: r => match lt x y with | true => x :: y :: r | false => y :: insV x r
def srtV : List α → List α
 | [] => []
 | l => l.foldl (fun s x => insV lt x s) []
variable {lt}
end
/-! ## Places -/
section
variable {α : Type}
theorem wi {i : Int} (h1 : -1000000 ≤ i) (h2 : i ≤ 1000000) : IntKind.wrap .i64 i = i := wrap_i64 (by omega) (by omega)
end
end Go.Proofs.Ytcjiipbppkdkaaa.Pure
