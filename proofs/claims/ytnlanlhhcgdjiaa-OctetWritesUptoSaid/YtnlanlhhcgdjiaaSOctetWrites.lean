/- Laid by rows.py: the pure statement of chartulary/chartularylaw01.OctetWrites, and how its arguments are opened. -/
import Derived.Test.YtnlanlhhcgdjiaaPL01OctetWrites
import Derived.Test.YtnlanlhhcgdjiaaVOpen
namespace Go.Proofs.Ytnlanlhhcgdjiaa.PAll
open Go.RowKit Go.Proofs.YtnlanlhhcgdjiaaW.PrintWords Go.Proofs.YtnlanlhhcgdjiaaW.PrintLast
set_option linter.unusedVariables false

/-- What a value of type 34 has, as it is read. -/
def wf34 (y : S34) : Prop := (Lit.int .i64 y.f0).wf = true ∧ (Lit.int .i64 y.f1).wf = true ∧ (True ∧ (True ∧ (∀ z0 ∈ y.f4, True)))
def bulk34 (y : S34) : Nat := (1 + (1 + ((y.f2.size + 1) + (1 + ((Open.bulks (fun y => (y.size + 1)) y.f4)))))) + 1
theorem o34 : Open.Opens Try.prog 34 k34 wf34 bulk34 := Open.struct (fun x : S34 => (x.f0, x.f1, x.f2, x.f3, x.f4)) (fun p => ⟨p.1, p.2.1, p.2.2.1, p.2.2.2.1, p.2.2.2.2⟩) (fun _ => rfl) Try.underlying34 (by kernel_rfl) (Open.more 0 rfl (by kernel_rfl) (Open.int Try.underlying3) (Open.more 1 rfl (by kernel_rfl) (Open.int Try.underlying3) (Open.more 2 rfl (by kernel_rfl) (Open.string Try.underlying9) (Open.more 3 rfl (by kernel_rfl) (Open.bool Try.underlying4) (Open.last 4 rfl (by kernel_rfl) (Open.slice Try.underlying32 (by kernel_rfl) (Open.string Try.underlying9)))))))
/-- The one pure statement. -/
def chartularylaw01_OctetWrites.Pure : Prop := ∀ (x0 : (List S34)), (∀ z0 ∈ x0, wf34 z0) → (Open.bulks bulk34 x0) ≤ 1048576 → ∃ k, chartularylaw01_OctetWrites.f k x0 = some true
end Go.Proofs.Ytnlanlhhcgdjiaa.PAll
