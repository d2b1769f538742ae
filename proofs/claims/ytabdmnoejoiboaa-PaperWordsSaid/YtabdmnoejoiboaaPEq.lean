-- Laid by programs of this session (myprint.py, post.py) out of the translation.
import Derived.Test.YtabdmnoejoiboaaPBase
namespace Go.Proofs.Ytabdmnoejoiboaa.PAll
open Go.RowKit Go.Proofs.YtabdmnoejoiboaaW.PrintWords Go.Proofs.YtabdmnoejoiboaaW.PrintLast Go.Proofs.YtabdmnoejoiboaaW.PrintMore
attribute [local go_sem] max2_int min2_int max_two min_two max_three min_three max_four min_four   -- for this text's walks alone
set_option linter.unusedVariables false
set_option linter.unusedSimpArgs false
theorem eqA35 (d : Nat) (w : World) (x0 y0 : Int) (x1 y1 : Bool) (x2 y2 : Int) (x3 y3 : Int) (x4 y4 : ByteArray) :
    (Op.equalIn (d + 2) 35 (.agg #[.int .i64 x0, .bool x1, .int .i64 x2, .int .u64 x3, .string x4]) (.agg #[.int .i64 y0, .bool y1, .int .i64 y2, .int .u64 y3, .string y4])).run Try.prog w = .ok (x0 == y0 && (x1 == y1 && (x2 == y2 && (x3 == y3 && (x4.toList == y4.toList))))) w := by
  refine eqA_of Try.underlying35 (by kernel_rfl) ?_
  refine eqf_cons (by rfl) (by go_simp; rfl) (by go_simp; rfl) (by go_simp) ?_
  refine eqf_cons (by rfl) (by go_simp; rfl) (by go_simp; rfl) (by go_simp) ?_
  refine eqf_cons (by rfl) (by go_simp; rfl) (by go_simp; rfl) (by go_simp) ?_
  refine eqf_cons (by rfl) (by go_simp; rfl) (by go_simp; rfl) (by go_simp) ?_
  exact eqf_last (by rfl) (by go_simp; rfl) (by go_simp; rfl) (by go_simp)

-- NOT PRINTED: function 55 (api_Field_55)


-- NOT PRINTED: function 56 (api_Field_56)


-- NOT PRINTED: function 46 (api_Field_46)


-- NOT PRINTED: function 59 (bytealg_abigen_runtime_cmpstring)


end Go.Proofs.Ytabdmnoejoiboaa.PAll
