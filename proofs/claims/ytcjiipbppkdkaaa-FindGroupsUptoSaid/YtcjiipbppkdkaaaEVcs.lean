import Derived.Test.YtcjiipbppkdkaaaEDefs
import Derived.Test.YtcjiipbppkdkaaaETab
namespace Go.Proofs.Ytcjiipbppkdkaaa.E
open Go Go.Proofs.Ytcjiipbppkdkaaa.Eng Go.Proofs
set_option maxRecDepth 100000 in
theorem value_nan.forms : value_nan.fd.formsOk = true := by kernel_rfl
set_option maxRecDepth 100000 in
theorem value_nan.vc : value_nan.fd.vc tt Γ := ⟨fun d => by kernel_rfl, fun k d => by kernel_rfl, ⟨trivial, ⟨trivial, trivial, trivial⟩, trivial⟩⟩
set_option maxRecDepth 100000 in
theorem value_nan.ok : FnOk Try.prog tt Γ 38 value_nan.fd := ⟨by kernel_rfl, by kernel_rfl, enters_ok (fn := Try.f38) (by kernel_rfl) (by kernel_rfl) (by kernel_rfl), value_nan.forms, value_nan.vc⟩

set_option maxRecDepth 100000 in
theorem value_Clean.forms : value_Clean.fd.formsOk = true := by kernel_rfl
set_option maxRecDepth 100000 in
theorem value_Clean.vc : value_Clean.fd.vc tt Γ := ⟨fun d => by kernel_rfl, fun k d => by kernel_rfl, ⟨trivial, ⟨trivial, ⟨⟨trivial, ⟨trivial, ⟨trivial, ⟨trivial, ⟨trivial, ⟨trivial, ⟨⟨trivial, ⟨trivial, ⟨trivial, trivial⟩, trivial⟩, trivial⟩, ⟨trivial, ⟨trivial, trivial⟩, trivial⟩⟩, trivial⟩⟩, trivial⟩⟩, trivial⟩, trivial⟩, ⟨trivial, trivial, trivial⟩, trivial⟩, trivial⟩, trivial⟩⟩
set_option maxRecDepth 100000 in
theorem value_Clean.ok : FnOk Try.prog tt Γ 20 value_Clean.fd := ⟨by kernel_rfl, by kernel_rfl, enters_ok (fn := Try.f20) (by kernel_rfl) (by kernel_rfl) (by kernel_rfl), value_Clean.forms, value_Clean.vc⟩

set_option maxRecDepth 100000 in
theorem value_Right.forms : value_Right.fd.formsOk = true := by kernel_rfl
set_option maxRecDepth 100000 in
theorem value_Right.vc : value_Right.fd.vc tt Γ := ⟨fun d => by kernel_rfl, fun k d => by kernel_rfl, ⟨trivial, ⟨trivial, trivial, trivial⟩, trivial⟩⟩
set_option maxRecDepth 100000 in
theorem value_Right.ok : FnOk Try.prog tt Γ 22 value_Right.fd := ⟨by kernel_rfl, by kernel_rfl, enters_ok (fn := Try.f22) (by kernel_rfl) (by kernel_rfl) (by kernel_rfl), value_Right.forms, value_Right.vc⟩

set_option maxRecDepth 100000 in
theorem paper_sign.forms : paper_sign.fd.formsOk = true := by kernel_rfl
set_option maxRecDepth 100000 in
theorem paper_sign.vc : paper_sign.fd.vc tt Γ := ⟨fun d => by kernel_rfl, fun k d => by kernel_rfl, ⟨trivial, ⟨trivial, trivial, trivial⟩, trivial⟩⟩
set_option maxRecDepth 100000 in
theorem paper_sign.ok : FnOk Try.prog tt Γ 60 paper_sign.fd := ⟨by kernel_rfl, by kernel_rfl, enters_ok (fn := Try.f60) (by kernel_rfl) (by kernel_rfl) (by kernel_rfl), paper_sign.forms, paper_sign.vc⟩

set_option maxRecDepth 100000 in
theorem paper_word.forms : paper_word.fd.formsOk = true := by kernel_rfl
set_option maxRecDepth 100000 in
theorem paper_word.vc : paper_word.fd.vc tt Γ := ⟨fun d => by kernel_rfl, fun k d => by kernel_rfl, ⟨trivial, ⟨⟨trivial, ⟨⟨trivial, trivial, trivial⟩, trivial⟩, trivial⟩, ⟨⟨trivial, ⟨⟨trivial, ⟨⟨trivial, trivial⟩, ⟨⟨trivial, ⟨trivial, ⟨⟨trivial, trivial, trivial⟩, trivial⟩, trivial⟩, trivial⟩, trivial, trivial⟩, trivial⟩, trivial⟩, ⟨⟨fun d => by kernel_rfl, fun k d => by kernel_rfl⟩, trivial⟩⟩, trivial⟩, ⟨trivial, trivial, trivial⟩, trivial⟩, ⟨⟨fun d => by kernel_rfl, fun k d => by kernel_rfl⟩, trivial⟩⟩, trivial⟩⟩
set_option maxRecDepth 100000 in
theorem paper_word.ok : FnOk Try.prog tt Γ 49 paper_word.fd := ⟨by kernel_rfl, by kernel_rfl, enters_ok (fn := Try.f49) (by kernel_rfl) (by kernel_rfl) (by kernel_rfl), paper_word.forms, paper_word.vc⟩

set_option maxRecDepth 100000 in
theorem paper_IsName.forms : paper_IsName.fd.formsOk = true := by kernel_rfl
set_option maxRecDepth 100000 in
theorem paper_IsName.vc : paper_IsName.fd.vc tt Γ := ⟨fun d => by kernel_rfl, fun k d => by kernel_rfl, ⟨trivial, ⟨trivial, trivial, trivial⟩, trivial⟩⟩
set_option maxRecDepth 100000 in
theorem paper_IsName.ok : FnOk Try.prog tt Γ 30 paper_IsName.fd := ⟨by kernel_rfl, by kernel_rfl, enters_ok (fn := Try.f30) (by kernel_rfl) (by kernel_rfl) (by kernel_rfl), paper_IsName.forms, paper_IsName.vc⟩

set_option maxRecDepth 100000 in
theorem find_Check.forms : find_Check.fd.formsOk = true := by kernel_rfl
set_option maxRecDepth 100000 in
theorem find_Check.vc : find_Check.fd.vc tt Γ := ⟨fun d => by kernel_rfl, fun k d => by kernel_rfl, ⟨trivial, ⟨⟨trivial, ⟨⟨trivial, trivial, trivial⟩, ⟨trivial, ⟨⟨trivial, trivial, trivial⟩, trivial⟩, trivial⟩⟩, trivial⟩, ⟨⟨trivial, ⟨⟨trivial, ⟨⟨trivial, trivial⟩, ⟨⟨trivial, ⟨⟨trivial, ⟨⟨trivial, trivial, trivial⟩, trivial⟩, trivial⟩, ⟨trivial, ⟨⟨trivial, trivial, trivial⟩, trivial⟩, trivial⟩, trivial⟩, trivial⟩, trivial, trivial⟩, trivial⟩, trivial⟩, ⟨⟨fun d => by kernel_rfl, fun k d => by kernel_rfl⟩, trivial⟩⟩, trivial⟩, ⟨trivial, trivial, trivial⟩, trivial⟩, ⟨⟨fun d => by kernel_rfl, fun k d => by kernel_rfl⟩, trivial⟩⟩, trivial⟩⟩
set_option maxRecDepth 100000 in
theorem find_Check.ok : FnOk Try.prog tt Γ 10 find_Check.fd := ⟨by kernel_rfl, by kernel_rfl, enters_ok (fn := Try.f10) (by kernel_rfl) (by kernel_rfl) (by kernel_rfl), find_Check.forms, find_Check.vc⟩

set_option maxRecDepth 100000 in
theorem paper_Find_1_v0.forms : paper_Find_1_v0.fd.formsOk = true := by kernel_rfl
set_option maxRecDepth 100000 in
theorem paper_Find_1_v0.vc : paper_Find_1_v0.fd.vc tt Γ := ⟨fun d => by kernel_rfl, fun k d => by kernel_rfl, ⟨trivial, ⟨trivial, trivial, trivial⟩, trivial⟩⟩
set_option maxRecDepth 100000 in
theorem paper_Find_1_v0.ok : FnOk Try.prog tt Γ 51 paper_Find_1_v0.fd := ⟨by kernel_rfl, by kernel_rfl, enters_ok (fn := Try.f51) (by kernel_rfl) (by kernel_rfl) (by kernel_rfl), paper_Find_1_v0.forms, paper_Find_1_v0.vc⟩

set_option maxRecDepth 100000 in
theorem slices_IndexFunc_api_Field_v0.forms : slices_IndexFunc_api_Field_v0.fd.formsOk = true := by kernel_rfl
set_option maxRecDepth 100000 in
theorem slices_IndexFunc_api_Field_v0.vc : slices_IndexFunc_api_Field_v0.fd.vc tt Γ := ⟨fun d => by kernel_rfl, fun k d => by kernel_rfl, ⟨trivial, ⟨⟨trivial, ⟨⟨trivial, ⟨⟨trivial, trivial⟩, ⟨⟨trivial, ⟨trivial, ⟨⟨trivial, trivial, trivial⟩, trivial⟩, trivial⟩, trivial⟩, trivial, trivial⟩, trivial⟩, trivial⟩, ⟨⟨fun d => by kernel_rfl, fun k d => by kernel_rfl⟩, trivial⟩⟩, trivial⟩, ⟨trivial, trivial, trivial⟩, trivial⟩, trivial⟩⟩
set_option maxRecDepth 100000 in
theorem slices_IndexFunc_api_Field_v0.ok : FnOk Try.prog tt Γ 50 slices_IndexFunc_api_Field_v0.fd := ⟨by kernel_rfl, by kernel_rfl, enters_ok (fn := Try.f50) (by kernel_rfl) (by kernel_rfl) (by kernel_rfl), slices_IndexFunc_api_Field_v0.forms, slices_IndexFunc_api_Field_v0.vc⟩

set_option maxRecDepth 100000 in
theorem paper_Find.forms : paper_Find.fd.formsOk = true := by kernel_rfl
set_option maxRecDepth 100000 in
theorem paper_Find.vc : paper_Find.fd.vc tt Γ := ⟨fun d => by kernel_rfl, fun k d => by kernel_rfl, ⟨trivial, ⟨trivial, trivial, trivial⟩, trivial⟩⟩
set_option maxRecDepth 100000 in
theorem paper_Find.ok : FnOk Try.prog tt Γ 31 paper_Find.fd := ⟨by kernel_rfl, by kernel_rfl, enters_ok (fn := Try.f31) (by kernel_rfl) (by kernel_rfl) (by kernel_rfl), paper_Find.forms, paper_Find.vc⟩

set_option maxRecDepth 100000 in
theorem value_sign.forms : value_sign.fd.formsOk = true := by kernel_rfl
set_option maxRecDepth 100000 in
theorem value_sign.vc : value_sign.fd.vc tt Γ := ⟨fun d => by kernel_rfl, fun k d => by kernel_rfl, ⟨trivial, ⟨⟨trivial, ⟨⟨trivial, trivial, trivial⟩, ⟨trivial, ⟨⟨trivial, trivial, trivial⟩, trivial⟩, trivial⟩⟩, trivial⟩, ⟨trivial, trivial, trivial⟩, trivial⟩, trivial⟩⟩
set_option maxRecDepth 100000 in
theorem value_sign.ok : FnOk Try.prog tt Γ 46 value_sign.fd := ⟨by kernel_rfl, by kernel_rfl, enters_ok (fn := Try.f46) (by kernel_rfl) (by kernel_rfl) (by kernel_rfl), value_sign.forms, value_sign.vc⟩

set_option maxRecDepth 100000 in
theorem value_rank.forms : value_rank.fd.formsOk = true := by kernel_rfl
set_option maxRecDepth 100000 in
theorem value_rank.vc : value_rank.fd.vc tt Γ := ⟨fun d => by kernel_rfl, fun k d => by kernel_rfl, ⟨trivial, ⟨⟨trivial, ⟨⟨trivial, trivial, trivial⟩, trivial⟩, trivial⟩, ⟨trivial, trivial, trivial⟩, trivial⟩, trivial⟩⟩
set_option maxRecDepth 100000 in
theorem value_rank.ok : FnOk Try.prog tt Γ 47 value_rank.fd := ⟨by kernel_rfl, by kernel_rfl, enters_ok (fn := Try.f47) (by kernel_rfl) (by kernel_rfl) (by kernel_rfl), value_rank.forms, value_rank.vc⟩

set_option maxRecDepth 100000 in
theorem bytealg_CompareString.forms : bytealg_CompareString.fd.formsOk = true := by kernel_rfl
set_option maxRecDepth 100000 in
theorem bytealg_CompareString.vc : bytealg_CompareString.fd.vc tt Γ := ⟨fun d => by kernel_rfl, fun k d => by kernel_rfl, ⟨trivial, ⟨trivial, trivial, trivial⟩, trivial⟩⟩
set_option maxRecDepth 100000 in
theorem bytealg_CompareString.ok : FnOk Try.prog tt Γ 59 bytealg_CompareString.fd := ⟨by kernel_rfl, by kernel_rfl, enters_ok (fn := Try.f59) (by kernel_rfl) (by kernel_rfl) (by kernel_rfl), bytealg_CompareString.forms, bytealg_CompareString.vc⟩

set_option maxRecDepth 100000 in
theorem strings_Compare.forms : strings_Compare.fd.formsOk = true := by kernel_rfl
set_option maxRecDepth 100000 in
theorem strings_Compare.vc : strings_Compare.fd.vc tt Γ := ⟨fun d => by kernel_rfl, fun k d => by kernel_rfl, ⟨trivial, ⟨trivial, trivial, trivial⟩, trivial⟩⟩
set_option maxRecDepth 100000 in
theorem strings_Compare.ok : FnOk Try.prog tt Γ 48 strings_Compare.fd := ⟨by kernel_rfl, by kernel_rfl, enters_ok (fn := Try.f48) (by kernel_rfl) (by kernel_rfl) (by kernel_rfl), strings_Compare.forms, strings_Compare.vc⟩

set_option maxRecDepth 100000 in
theorem value_Compare.forms : value_Compare.fd.formsOk = true := by kernel_rfl
set_option maxRecDepth 100000 in
theorem value_Compare.vc : value_Compare.fd.vc tt Γ := ⟨fun d => by kernel_rfl, fun k d => by kernel_rfl, ⟨trivial, ⟨⟨trivial, ⟨⟨trivial, trivial, trivial⟩, trivial⟩, trivial⟩, ⟨⟨trivial, ⟨trivial, ⟨⟨trivial, trivial, trivial⟩, ⟨trivial, ⟨⟨trivial, trivial, trivial⟩, ⟨trivial, ⟨⟨trivial, ⟨trivial, trivial, trivial⟩, trivial⟩, ⟨trivial, ⟨⟨trivial, trivial, trivial⟩, trivial⟩, trivial⟩⟩, trivial⟩⟩, trivial⟩⟩, trivial⟩, trivial⟩, ⟨trivial, trivial, trivial⟩, trivial⟩, trivial⟩, trivial⟩⟩
set_option maxRecDepth 100000 in
theorem value_Compare.ok : FnOk Try.prog tt Γ 29 value_Compare.fd := ⟨by kernel_rfl, by kernel_rfl, enters_ok (fn := Try.f29) (by kernel_rfl) (by kernel_rfl) (by kernel_rfl), value_Compare.forms, value_Compare.vc⟩

set_option maxRecDepth 100000 in
theorem find_between.forms : find_between.fd.formsOk = true := by kernel_rfl
set_option maxRecDepth 100000 in
theorem find_between.vc : find_between.fd.vc tt Γ := ⟨fun d => by kernel_rfl, fun k d => by kernel_rfl, ⟨trivial, ⟨⟨trivial, ⟨⟨trivial, trivial, trivial⟩, trivial⟩, trivial⟩, ⟨trivial, trivial, trivial⟩, ⟨⟨fun d => by kernel_rfl, fun k d => by kernel_rfl⟩, trivial⟩⟩, trivial⟩⟩
set_option maxRecDepth 100000 in
theorem find_between.ok : FnOk Try.prog tt Γ 32 find_between.fd := ⟨by kernel_rfl, by kernel_rfl, enters_ok (fn := Try.f32) (by kernel_rfl) (by kernel_rfl) (by kernel_rfl), find_between.forms, find_between.vc⟩

set_option maxRecDepth 100000 in
theorem find_Holds.forms : find_Holds.fd.formsOk = true := by kernel_rfl
set_option maxRecDepth 100000 in
theorem find_Holds.vc : find_Holds.fd.vc tt Γ := ⟨fun d => by kernel_rfl, fun k d => by kernel_rfl, ⟨trivial, ⟨trivial, ⟨trivial, trivial, trivial⟩, trivial⟩, trivial⟩⟩
set_option maxRecDepth 100000 in
theorem find_Holds.ok : FnOk Try.prog tt Γ 12 find_Holds.fd := ⟨by kernel_rfl, by kernel_rfl, enters_ok (fn := Try.f12) (by kernel_rfl) (by kernel_rfl) (by kernel_rfl), find_Holds.forms, find_Holds.vc⟩

set_option maxRecDepth 100000 in
theorem find_by.forms : find_by.fd.formsOk = true := by kernel_rfl
set_option maxRecDepth 100000 in
theorem find_by.vc : find_by.fd.vc tt Γ := ⟨fun d => by kernel_rfl, fun k d => by kernel_rfl, ⟨trivial, ⟨trivial, ⟨⟨trivial, ⟨⟨trivial, trivial, trivial⟩, trivial⟩, trivial⟩, ⟨trivial, trivial, trivial⟩, trivial⟩, trivial⟩, trivial⟩⟩
set_option maxRecDepth 100000 in
theorem find_by.ok : FnOk Try.prog tt Γ 39 find_by.fd := ⟨by kernel_rfl, by kernel_rfl, enters_ok (fn := Try.f39) (by kernel_rfl) (by kernel_rfl) (by kernel_rfl), find_by.forms, find_by.vc⟩

set_option maxRecDepth 100000 in
theorem find_compare.forms : find_compare.fd.formsOk = true := by kernel_rfl
set_option maxRecDepth 100000 in
theorem find_compare.vc : find_compare.fd.vc tt Γ := ⟨fun d => by kernel_rfl, fun k d => by kernel_rfl, ⟨trivial, ⟨trivial, ⟨trivial, ⟨⟨trivial, ⟨⟨trivial, trivial, trivial⟩, ⟨trivial, ⟨⟨trivial, trivial, trivial⟩, ⟨trivial, ⟨⟨trivial, trivial, trivial⟩, ⟨trivial, ⟨⟨trivial, trivial, trivial⟩, trivial⟩, trivial⟩⟩, trivial⟩⟩, trivial⟩⟩, trivial⟩, ⟨trivial, trivial, trivial⟩, trivial⟩, trivial⟩, trivial⟩, trivial⟩⟩
set_option maxRecDepth 100000 in
theorem find_compare.ok : FnOk Try.prog tt Γ 36 find_compare.fd := ⟨by kernel_rfl, by kernel_rfl, enters_ok (fn := Try.f36) (by kernel_rfl) (by kernel_rfl) (by kernel_rfl), find_compare.forms, find_compare.vc⟩

set_option maxRecDepth 100000 in
theorem find_Run_1_v0.forms : find_Run_1_v0.fd.formsOk = true := by kernel_rfl
set_option maxRecDepth 100000 in
theorem find_Run_1_v0.vc : find_Run_1_v0.fd.vc tt Γ := ⟨fun d => by kernel_rfl, fun k d => by kernel_rfl, ⟨trivial, ⟨trivial, trivial, trivial⟩, trivial⟩⟩
set_option maxRecDepth 100000 in
theorem find_Run_1_v0.ok : FnOk Try.prog tt Γ 35 find_Run_1_v0.fd := ⟨by kernel_rfl, by kernel_rfl, enters_ok (fn := Try.f35) (by kernel_rfl) (by kernel_rfl) (by kernel_rfl), find_Run_1_v0.forms, find_Run_1_v0.vc⟩

set_option maxRecDepth 100000 in
theorem slices_insertionSortCmpFunc_int_v0.forms : slices_insertionSortCmpFunc_int_v0.fd.formsOk = true := by kernel_rfl
set_option maxRecDepth 100000 in
theorem slices_insertionSortCmpFunc_int_v0.vc : slices_insertionSortCmpFunc_int_v0.fd.vc tt Γ := ⟨fun d => by kernel_rfl, fun k d => by kernel_rfl, ⟨trivial, ⟨⟨⟨trivial, ⟨trivial, trivial⟩, trivial⟩, ⟨⟨trivial, ⟨⟨⟨trivial, ⟨trivial, trivial⟩, trivial⟩, ⟨trivial, trivial, trivial⟩, trivial⟩, ⟨⟨fun d => by kernel_rfl, fun k d => by kernel_rfl⟩, trivial⟩⟩, trivial⟩, trivial, trivial⟩, trivial⟩, ⟨⟨fun d => by kernel_rfl, fun k d => by kernel_rfl⟩, trivial⟩⟩, trivial⟩⟩
set_option maxRecDepth 100000 in
theorem slices_insertionSortCmpFunc_int_v0.ok : FnOk Try.prog tt Γ 61 slices_insertionSortCmpFunc_int_v0.fd := ⟨by kernel_rfl, by kernel_rfl, enters_ok (fn := Try.f61) (by kernel_rfl) (by kernel_rfl) (by kernel_rfl), slices_insertionSortCmpFunc_int_v0.forms, slices_insertionSortCmpFunc_int_v0.vc⟩

set_option maxRecDepth 100000 in
theorem slices_swapRangeCmpFunc_int_v0.forms : slices_swapRangeCmpFunc_int_v0.fd.formsOk = true := by kernel_rfl
set_option maxRecDepth 100000 in
theorem slices_swapRangeCmpFunc_int_v0.vc : slices_swapRangeCmpFunc_int_v0.fd.vc tt Γ := ⟨fun d => by kernel_rfl, fun k d => by kernel_rfl, ⟨trivial, ⟨⟨⟨trivial, ⟨trivial, trivial⟩, trivial⟩, ⟨trivial, trivial, trivial⟩, trivial⟩, ⟨⟨fun d => by kernel_rfl, fun k d => by kernel_rfl⟩, trivial⟩⟩, trivial⟩⟩
set_option maxRecDepth 100000 in
theorem slices_swapRangeCmpFunc_int_v0.ok : FnOk Try.prog tt Γ 69 slices_swapRangeCmpFunc_int_v0.fd := ⟨by kernel_rfl, by kernel_rfl, enters_ok (fn := Try.f69) (by kernel_rfl) (by kernel_rfl) (by kernel_rfl), slices_swapRangeCmpFunc_int_v0.forms, slices_swapRangeCmpFunc_int_v0.vc⟩

set_option maxRecDepth 100000 in
theorem slices_rotateCmpFunc_int_v0.forms : slices_rotateCmpFunc_int_v0.fd.formsOk = true := by kernel_rfl
set_option maxRecDepth 100000 in
theorem slices_rotateCmpFunc_int_v0.vc : slices_rotateCmpFunc_int_v0.fd.vc tt Γ := ⟨fun d => by kernel_rfl, fun k d => by kernel_rfl, ⟨trivial, ⟨trivial, ⟨⟨⟨⟨trivial, ⟨trivial, trivial⟩, trivial⟩, ⟨trivial, ⟨⟨trivial, trivial, trivial⟩, ⟨trivial, trivial, trivial⟩⟩, trivial⟩, trivial⟩, ⟨⟨fun d => by kernel_rfl, fun k d => by kernel_rfl⟩, trivial⟩⟩, trivial, trivial⟩, trivial⟩, trivial⟩⟩
set_option maxRecDepth 100000 in
theorem slices_rotateCmpFunc_int_v0.ok : FnOk Try.prog tt Γ 67 slices_rotateCmpFunc_int_v0.fd := ⟨by kernel_rfl, by kernel_rfl, enters_ok (fn := Try.f67) (by kernel_rfl) (by kernel_rfl) (by kernel_rfl), slices_rotateCmpFunc_int_v0.forms, slices_rotateCmpFunc_int_v0.vc⟩

set_option maxRecDepth 100000 in
theorem slices_symMergeCmpFunc_int_v0.forms : slices_symMergeCmpFunc_int_v0.fd.formsOk = true := by kernel_rfl
set_option maxRecDepth 100000 in
theorem slices_symMergeCmpFunc_int_v0.vc : slices_symMergeCmpFunc_int_v0.fd.vc tt Γ := ⟨fun d => by kernel_rfl, fun k d => by kernel_rfl, ⟨⟨trivial, ⟨⟨trivial, ⟨trivial, ⟨⟨⟨⟨trivial, ⟨trivial, trivial⟩, trivial⟩, ⟨trivial, ⟨trivial, ⟨trivial, trivial⟩, trivial⟩, trivial⟩, trivial⟩, ⟨⟨fun d => by kernel_rfl, fun k d => by kernel_rfl⟩, trivial⟩⟩, ⟨⟨trivial, ⟨⟨⟨trivial, ⟨trivial, trivial⟩, trivial⟩, ⟨trivial, trivial, trivial⟩, trivial⟩, ⟨⟨fun d => by kernel_rfl, fun k d => by kernel_rfl⟩, trivial⟩⟩, trivial⟩, trivial, trivial⟩, trivial⟩, trivial⟩, trivial⟩, trivial⟩, trivial⟩, ⟨⟨trivial, ⟨⟨trivial, ⟨trivial, ⟨⟨⟨⟨trivial, ⟨trivial, trivial⟩, trivial⟩, ⟨trivial, ⟨trivial, ⟨trivial, trivial⟩, trivial⟩, trivial⟩, trivial⟩, ⟨⟨fun d => by kernel_rfl, fun k d => by kernel_rfl⟩, trivial⟩⟩, ⟨⟨trivial, ⟨⟨⟨trivial, ⟨trivial, trivial⟩, trivial⟩, ⟨trivial, trivial, trivial⟩, trivial⟩, ⟨⟨fun d => by kernel_rfl, fun k d => by kernel_rfl⟩, trivial⟩⟩, trivial⟩, trivial, trivial⟩, trivial⟩, trivial⟩, trivial⟩, trivial⟩, trivial⟩, ⟨trivial, ⟨trivial, ⟨trivial, ⟨⟨trivial, ⟨⟨trivial, trivial, trivial⟩, ⟨trivial, trivial, trivial⟩⟩, trivial⟩, ⟨trivial, ⟨⟨⟨⟨trivial, ⟨trivial, trivial⟩, trivial⟩, ⟨trivial, ⟨trivial, ⟨trivial, trivial⟩, trivial⟩, trivial⟩, trivial⟩, ⟨⟨fun d => by kernel_rfl, fun k d => by kernel_rfl⟩, trivial⟩⟩, ⟨trivial, ⟨⟨trivial, ⟨trivial, trivial⟩, trivial⟩, ⟨⟨trivial, ⟨trivial, trivial⟩, trivial⟩, ⟨trivial, ⟨trivial, trivial⟩, trivial⟩, ⟨⟨fun d => by kernel_rfl, fun k d => by kernel_rfl⟩, trivial⟩⟩, ⟨⟨fun d => by kernel_rfl, fun k d => by kernel_rfl⟩, trivial⟩⟩, trivial⟩, trivial⟩, trivial⟩, ⟨⟨fun d => by kernel_rfl, fun k d => by kernel_rfl⟩, trivial⟩⟩, trivial⟩, trivial⟩, trivial⟩, trivial⟩, trivial⟩⟩
set_option maxRecDepth 100000 in
theorem slices_symMergeCmpFunc_int_v0.ok : FnOk Try.prog tt Γ 62 slices_symMergeCmpFunc_int_v0.fd := ⟨by kernel_rfl, by kernel_rfl, enters_ok (fn := Try.f62) (by kernel_rfl) (by kernel_rfl) (by kernel_rfl), slices_symMergeCmpFunc_int_v0.forms, slices_symMergeCmpFunc_int_v0.vc⟩

set_option maxRecDepth 100000 in
theorem slices_stableCmpFunc_int_v0.forms : slices_stableCmpFunc_int_v0.fd.formsOk = true := by kernel_rfl
set_option maxRecDepth 100000 in
theorem slices_stableCmpFunc_int_v0.vc : slices_stableCmpFunc_int_v0.fd.vc tt Γ := ⟨fun d => by kernel_rfl, fun k d => by kernel_rfl, ⟨trivial, ⟨trivial, ⟨⟨⟨⟨trivial, ⟨trivial, trivial⟩, trivial⟩, ⟨trivial, ⟨trivial, trivial, trivial⟩, trivial⟩, trivial⟩, ⟨⟨fun d => by kernel_rfl, fun k d => by kernel_rfl⟩, trivial⟩⟩, ⟨trivial, ⟨⟨⟨trivial, ⟨trivial, trivial⟩, trivial⟩, ⟨trivial, ⟨⟨⟨⟨trivial, ⟨trivial, trivial⟩, trivial⟩, ⟨trivial, ⟨trivial, trivial, trivial⟩, trivial⟩, trivial⟩, ⟨⟨fun d => by kernel_rfl, fun k d => by kernel_rfl⟩, trivial⟩⟩, ⟨⟨trivial, ⟨trivial, ⟨trivial, trivial⟩, trivial⟩, trivial⟩, trivial, trivial⟩, trivial⟩, trivial⟩, trivial⟩, ⟨⟨fun d => by kernel_rfl, fun k d => by kernel_rfl⟩, trivial⟩⟩, trivial⟩, trivial⟩, trivial⟩, trivial⟩⟩
set_option maxRecDepth 100000 in
theorem slices_stableCmpFunc_int_v0.ok : FnOk Try.prog tt Γ 52 slices_stableCmpFunc_int_v0.fd := ⟨by kernel_rfl, by kernel_rfl, enters_ok (fn := Try.f52) (by kernel_rfl) (by kernel_rfl) (by kernel_rfl), slices_stableCmpFunc_int_v0.forms, slices_stableCmpFunc_int_v0.vc⟩

set_option maxRecDepth 100000 in
theorem slices_SortStableFunc__int_int_v0.forms : slices_SortStableFunc__int_int_v0.fd.formsOk = true := by kernel_rfl
set_option maxRecDepth 100000 in
theorem slices_SortStableFunc__int_int_v0.vc : slices_SortStableFunc__int_int_v0.fd.vc tt Γ := ⟨fun d => by kernel_rfl, fun k d => by kernel_rfl, trivial⟩
set_option maxRecDepth 100000 in
theorem slices_SortStableFunc__int_int_v0.ok : FnOk Try.prog tt Γ 34 slices_SortStableFunc__int_int_v0.fd := ⟨by kernel_rfl, by kernel_rfl, enters_ok (fn := Try.f34) (by kernel_rfl) (by kernel_rfl) (by kernel_rfl), slices_SortStableFunc__int_int_v0.forms, slices_SortStableFunc__int_int_v0.vc⟩

set_option maxRecDepth 100000 in
theorem find_Run.forms : find_Run.fd.formsOk = true := by kernel_rfl
set_option maxRecDepth 100000 in
theorem find_Run.vc : find_Run.fd.vc tt Γ := ⟨fun d => by kernel_rfl, fun k d => by kernel_rfl, ⟨trivial, ⟨⟨trivial, ⟨trivial, ⟨⟨trivial, trivial, trivial⟩, trivial⟩, trivial⟩, trivial⟩, ⟨trivial, ⟨trivial, ⟨⟨trivial, ⟨⟨trivial, ⟨⟨trivial, trivial⟩, ⟨⟨trivial, ⟨⟨trivial, ⟨⟨trivial, ⟨⟨trivial, trivial⟩, ⟨⟨trivial, ⟨trivial, ⟨trivial, trivial⟩, trivial⟩, trivial⟩, trivial, trivial⟩, trivial⟩, trivial⟩, ⟨⟨fun d => by kernel_rfl, fun k d => by kernel_rfl⟩, trivial⟩⟩, trivial⟩, trivial, trivial⟩, trivial⟩, trivial, trivial⟩, trivial⟩, trivial⟩, ⟨⟨fun d => by kernel_rfl, fun k d => by kernel_rfl⟩, trivial⟩⟩, trivial⟩, ⟨⟨trivial, ⟨trivial, trivial⟩, trivial⟩, ⟨trivial, trivial, trivial⟩, ⟨⟨fun d => by kernel_rfl, fun k d => by kernel_rfl⟩, trivial⟩⟩, trivial⟩, trivial⟩, trivial⟩, trivial⟩, trivial⟩⟩
set_option maxRecDepth 100000 in
theorem find_Run.ok : FnOk Try.prog tt Γ 16 find_Run.fd := ⟨by kernel_rfl, by kernel_rfl, enters_ok (fn := Try.f16) (by kernel_rfl) (by kernel_rfl) (by kernel_rfl), find_Run.forms, find_Run.vc⟩

set_option maxRecDepth 100000 in
theorem chartularylaw17_whole.forms : chartularylaw17_whole.fd.formsOk = true := by kernel_rfl
set_option maxRecDepth 100000 in
theorem chartularylaw17_whole.vc : chartularylaw17_whole.fd.vc tt Γ := ⟨fun d => by kernel_rfl, fun k d => by kernel_rfl, ⟨trivial, ⟨trivial, trivial, trivial⟩, trivial⟩⟩
set_option maxRecDepth 100000 in
theorem chartularylaw17_whole.ok : FnOk Try.prog tt Γ 33 chartularylaw17_whole.fd := ⟨by kernel_rfl, by kernel_rfl, enters_ok (fn := Try.f33) (by kernel_rfl) (by kernel_rfl) (by kernel_rfl), chartularylaw17_whole.forms, chartularylaw17_whole.vc⟩

set_option maxRecDepth 100000 in
theorem chartularylaw17_awake.forms : chartularylaw17_awake.fd.formsOk = true := by kernel_rfl
set_option maxRecDepth 100000 in
theorem chartularylaw17_awake.vc : chartularylaw17_awake.fd.vc tt Γ := ⟨fun d => by kernel_rfl, fun k d => by kernel_rfl, ⟨trivial, ⟨trivial, ⟨trivial, trivial, trivial⟩, trivial⟩, trivial⟩⟩
set_option maxRecDepth 100000 in
theorem chartularylaw17_awake.ok : FnOk Try.prog tt Γ 14 chartularylaw17_awake.fd := ⟨by kernel_rfl, by kernel_rfl, enters_ok (fn := Try.f14) (by kernel_rfl) (by kernel_rfl) (by kernel_rfl), chartularylaw17_awake.forms, chartularylaw17_awake.vc⟩

set_option maxRecDepth 100000 in
theorem chartularylaw05_Few.forms : chartularylaw05_Few.fd.formsOk = true := by kernel_rfl
set_option maxRecDepth 100000 in
theorem chartularylaw05_Few.vc : chartularylaw05_Few.fd.vc tt Γ := ⟨fun d => by kernel_rfl, fun k d => by kernel_rfl, ⟨trivial, ⟨trivial, ⟨⟨trivial, ⟨trivial, trivial⟩, trivial⟩, ⟨⟨trivial, ⟨⟨⟨trivial, ⟨trivial, trivial⟩, trivial⟩, ⟨⟨trivial, ⟨⟨trivial, ⟨trivial, trivial⟩, trivial⟩, ⟨⟨trivial, ⟨trivial, trivial⟩, trivial⟩, trivial, trivial⟩, trivial⟩, trivial⟩, trivial, trivial⟩, trivial⟩, ⟨⟨fun d => by kernel_rfl, fun k d => by kernel_rfl⟩, trivial⟩⟩, trivial⟩, ⟨trivial, trivial, trivial⟩, trivial⟩, ⟨⟨fun d => by kernel_rfl, fun k d => by kernel_rfl⟩, trivial⟩⟩, trivial⟩, trivial⟩⟩
set_option maxRecDepth 100000 in
theorem chartularylaw05_Few.ok : FnOk Try.prog tt Γ 9 chartularylaw05_Few.fd := ⟨by kernel_rfl, by kernel_rfl, enters_ok (fn := Try.f9) (by kernel_rfl) (by kernel_rfl) (by kernel_rfl), chartularylaw05_Few.forms, chartularylaw05_Few.vc⟩

set_option maxRecDepth 100000 in
theorem chartularylaw17_papers.forms : chartularylaw17_papers.fd.formsOk = true := by kernel_rfl
set_option maxRecDepth 100000 in
theorem chartularylaw17_papers.vc : chartularylaw17_papers.fd.vc tt Γ := ⟨fun d => by kernel_rfl, fun k d => by kernel_rfl, ⟨trivial, ⟨trivial, ⟨⟨trivial, ⟨⟨⟨trivial, ⟨trivial, trivial⟩, trivial⟩, ⟨trivial, trivial, trivial⟩, trivial⟩, ⟨⟨fun d => by kernel_rfl, fun k d => by kernel_rfl⟩, trivial⟩⟩, trivial⟩, ⟨trivial, trivial, trivial⟩, trivial⟩, trivial⟩, trivial⟩⟩
set_option maxRecDepth 100000 in
theorem chartularylaw17_papers.ok : FnOk Try.prog tt Γ 15 chartularylaw17_papers.fd := ⟨by kernel_rfl, by kernel_rfl, enters_ok (fn := Try.f15) (by kernel_rfl) (by kernel_rfl) (by kernel_rfl), chartularylaw17_papers.forms, chartularylaw17_papers.vc⟩

set_option maxRecDepth 100000 in
theorem chartularylaw17_right.forms : chartularylaw17_right.fd.formsOk = true := by kernel_rfl
set_option maxRecDepth 100000 in
theorem chartularylaw17_right.vc : chartularylaw17_right.fd.vc tt Γ := ⟨fun d => by kernel_rfl, fun k d => by kernel_rfl, ⟨trivial, ⟨⟨trivial, ⟨⟨⟨trivial, ⟨trivial, trivial⟩, trivial⟩, ⟨⟨trivial, ⟨⟨⟨trivial, ⟨trivial, trivial⟩, trivial⟩, ⟨⟨trivial, ⟨⟨trivial, trivial, trivial⟩, trivial⟩, trivial⟩, trivial, trivial⟩, trivial⟩, ⟨⟨fun d => by kernel_rfl, fun k d => by kernel_rfl⟩, trivial⟩⟩, trivial⟩, trivial, trivial⟩, trivial⟩, ⟨⟨fun d => by kernel_rfl, fun k d => by kernel_rfl⟩, trivial⟩⟩, trivial⟩, ⟨trivial, trivial, trivial⟩, trivial⟩, trivial⟩⟩
set_option maxRecDepth 100000 in
theorem chartularylaw17_right.ok : FnOk Try.prog tt Γ 17 chartularylaw17_right.fd := ⟨by kernel_rfl, by kernel_rfl, enters_ok (fn := Try.f17) (by kernel_rfl) (by kernel_rfl) (by kernel_rfl), chartularylaw17_right.forms, chartularylaw17_right.vc⟩

set_option maxRecDepth 100000 in
theorem find_Groups_1.forms : find_Groups_1.fd.formsOk = true := by kernel_rfl
set_option maxRecDepth 100000 in
theorem find_Groups_1.vc : find_Groups_1.fd.vc tt Γ := ⟨fun d => by kernel_rfl, fun k d => by kernel_rfl, ⟨trivial, ⟨trivial, trivial, trivial⟩, trivial⟩⟩
set_option maxRecDepth 100000 in
theorem find_Groups_1.ok : FnOk Try.prog tt Γ 43 find_Groups_1.fd := ⟨by kernel_rfl, by kernel_rfl, enters_ok (fn := Try.f43) (by kernel_rfl) (by kernel_rfl) (by kernel_rfl), find_Groups_1.forms, find_Groups_1.vc⟩

set_option maxRecDepth 100000 in
theorem slices_BinarySearchFunc_api_Value_v0.forms : slices_BinarySearchFunc_api_Value_v0.fd.formsOk = true := by kernel_rfl
set_option maxRecDepth 100000 in
theorem slices_BinarySearchFunc_api_Value_v0.vc : slices_BinarySearchFunc_api_Value_v0.fd.vc tt Γ := ⟨fun d => by kernel_rfl, fun k d => by kernel_rfl, ⟨trivial, ⟨trivial, ⟨trivial, ⟨⟨⟨⟨trivial, ⟨trivial, trivial⟩, trivial⟩, ⟨trivial, ⟨trivial, ⟨trivial, trivial⟩, trivial⟩, trivial⟩, trivial⟩, ⟨⟨fun d => by kernel_rfl, fun k d => by kernel_rfl⟩, trivial⟩⟩, ⟨trivial, trivial, trivial⟩, trivial⟩, trivial⟩, trivial⟩, trivial⟩⟩
set_option maxRecDepth 100000 in
theorem slices_BinarySearchFunc_api_Value_v0.ok : FnOk Try.prog tt Γ 42 slices_BinarySearchFunc_api_Value_v0.fd := ⟨by kernel_rfl, by kernel_rfl, enters_ok (fn := Try.f42) (by kernel_rfl) (by kernel_rfl) (by kernel_rfl), slices_BinarySearchFunc_api_Value_v0.forms, slices_BinarySearchFunc_api_Value_v0.vc⟩

set_option maxRecDepth 100000 in
theorem find_Groups.forms : find_Groups.fd.formsOk = true := by kernel_rfl
set_option maxRecDepth 100000 in
theorem find_Groups.vc : find_Groups.fd.vc tt Γ := ⟨fun d => by kernel_rfl, fun k d => by kernel_rfl, ⟨trivial, ⟨trivial, ⟨⟨trivial, ⟨⟨trivial, ⟨⟨trivial, trivial⟩, ⟨⟨trivial, ⟨trivial, ⟨⟨trivial, ⟨trivial, trivial⟩, trivial⟩, ⟨trivial, ⟨⟨trivial, ⟨trivial, trivial⟩, trivial⟩, trivial, trivial⟩, trivial⟩, trivial⟩, trivial⟩, trivial⟩, trivial, trivial⟩, trivial⟩, trivial⟩, ⟨⟨fun d => by kernel_rfl, fun k d => by kernel_rfl⟩, trivial⟩⟩, trivial⟩, ⟨trivial, trivial, trivial⟩, trivial⟩, trivial⟩, trivial⟩⟩
set_option maxRecDepth 100000 in
theorem find_Groups.ok : FnOk Try.prog tt Γ 24 find_Groups.fd := ⟨by kernel_rfl, by kernel_rfl, enters_ok (fn := Try.f24) (by kernel_rfl) (by kernel_rfl) (by kernel_rfl), find_Groups.forms, find_Groups.vc⟩

set_option maxRecDepth 100000 in
theorem value_Float.forms : value_Float.fd.formsOk = true := by kernel_rfl
set_option maxRecDepth 100000 in
theorem value_Float.vc : value_Float.fd.vc tt Γ := ⟨fun d => by kernel_rfl, fun k d => by kernel_rfl, ⟨trivial, ⟨⟨trivial, ⟨⟨trivial, trivial, trivial⟩, trivial⟩, trivial⟩, ⟨trivial, trivial, trivial⟩, trivial⟩, trivial⟩⟩
set_option maxRecDepth 100000 in
theorem value_Float.ok : FnOk Try.prog tt Γ 40 value_Float.fd := ⟨by kernel_rfl, by kernel_rfl, enters_ok (fn := Try.f40) (by kernel_rfl) (by kernel_rfl) (by kernel_rfl), value_Float.forms, value_Float.vc⟩

set_option maxRecDepth 100000 in
theorem math_Trunc.forms : math_Trunc.fd.formsOk = true := by kernel_rfl
set_option maxRecDepth 100000 in
theorem math_Trunc.vc : math_Trunc.fd.vc tt Γ := ⟨fun d => by kernel_rfl, fun k d => by kernel_rfl, ⟨trivial, ⟨⟨⟨trivial, trivial, trivial⟩, trivial⟩, ⟨trivial, trivial, trivial⟩, trivial⟩, trivial⟩⟩
set_option maxRecDepth 100000 in
theorem math_Trunc.ok : FnOk Try.prog tt Γ 45 math_Trunc.fd := ⟨by kernel_rfl, by kernel_rfl, enters_ok (fn := Try.f45) (by kernel_rfl) (by kernel_rfl) (by kernel_rfl), math_Trunc.forms, math_Trunc.vc⟩

set_option maxRecDepth 100000 in
theorem value_Whole.forms : value_Whole.fd.formsOk = true := by kernel_rfl
set_option maxRecDepth 100000 in
theorem value_Whole.vc : value_Whole.fd.vc tt Γ := ⟨fun d => by kernel_rfl, fun k d => by kernel_rfl, ⟨trivial, ⟨⟨trivial, ⟨⟨trivial, trivial, trivial⟩, trivial⟩, trivial⟩, ⟨trivial, ⟨⟨trivial, ⟨⟨trivial, trivial, trivial⟩, trivial⟩, trivial⟩, ⟨trivial, trivial, trivial⟩, trivial⟩, trivial⟩, ⟨⟨fun d => by kernel_rfl, fun k d => by kernel_rfl⟩, trivial⟩⟩, trivial⟩⟩
set_option maxRecDepth 100000 in
theorem value_Whole.ok : FnOk Try.prog tt Γ 28 value_Whole.fd := ⟨by kernel_rfl, by kernel_rfl, enters_ok (fn := Try.f28) (by kernel_rfl) (by kernel_rfl) (by kernel_rfl), value_Whole.forms, value_Whole.vc⟩

set_option maxRecDepth 100000 in
theorem find_Sum.forms : find_Sum.fd.formsOk = true := by kernel_rfl
set_option maxRecDepth 100000 in
theorem find_Sum.vc : find_Sum.fd.vc tt Γ := ⟨fun d => by kernel_rfl, fun k d => by kernel_rfl, ⟨trivial, ⟨trivial, ⟨⟨trivial, ⟨⟨trivial, ⟨⟨trivial, trivial⟩, ⟨⟨trivial, ⟨trivial, ⟨⟨trivial, ⟨trivial, trivial⟩, trivial⟩, ⟨trivial, ⟨⟨trivial, ⟨trivial, trivial⟩, trivial⟩, ⟨⟨trivial, ⟨trivial, trivial⟩, trivial⟩, trivial, trivial⟩, trivial⟩, trivial⟩, trivial⟩, trivial⟩, trivial⟩, trivial, trivial⟩, trivial⟩, trivial⟩, ⟨⟨fun d => by kernel_rfl, fun k d => by kernel_rfl⟩, trivial⟩⟩, trivial⟩, ⟨trivial, trivial, trivial⟩, trivial⟩, trivial⟩, trivial⟩⟩
set_option maxRecDepth 100000 in
theorem find_Sum.ok : FnOk Try.prog tt Γ 25 find_Sum.fd := ⟨by kernel_rfl, by kernel_rfl, enters_ok (fn := Try.f25) (by kernel_rfl) (by kernel_rfl) (by kernel_rfl), find_Sum.forms, find_Sum.vc⟩

set_option maxRecDepth 100000 in
theorem find_Extreme.forms : find_Extreme.fd.formsOk = true := by kernel_rfl
set_option maxRecDepth 100000 in
theorem find_Extreme.vc : find_Extreme.fd.vc tt Γ := ⟨fun d => by kernel_rfl, fun k d => by kernel_rfl, ⟨trivial, ⟨trivial, ⟨trivial, ⟨⟨trivial, ⟨⟨trivial, ⟨⟨trivial, trivial⟩, ⟨⟨trivial, ⟨trivial, ⟨trivial, ⟨⟨trivial, ⟨trivial, trivial⟩, trivial⟩, ⟨trivial, ⟨trivial, ⟨trivial, trivial⟩, trivial⟩, trivial⟩, trivial⟩, trivial⟩, trivial⟩, trivial⟩, trivial, trivial⟩, trivial⟩, trivial⟩, ⟨⟨fun d => by kernel_rfl, fun k d => by kernel_rfl⟩, trivial⟩⟩, trivial⟩, ⟨trivial, trivial, trivial⟩, trivial⟩, trivial⟩, trivial⟩, trivial⟩⟩
set_option maxRecDepth 100000 in
theorem find_Extreme.ok : FnOk Try.prog tt Γ 26 find_Extreme.fd := ⟨by kernel_rfl, by kernel_rfl, enters_ok (fn := Try.f26) (by kernel_rfl) (by kernel_rfl) (by kernel_rfl), find_Extreme.forms, find_Extreme.vc⟩

set_option maxRecDepth 100000 in
theorem chartularylaw17_field.forms : chartularylaw17_field.fd.formsOk = true := by kernel_rfl
set_option maxRecDepth 100000 in
theorem chartularylaw17_field.vc : chartularylaw17_field.fd.vc tt Γ := ⟨fun d => by kernel_rfl, fun k d => by kernel_rfl, ⟨trivial, ⟨⟨trivial, ⟨⟨⟨trivial, ⟨trivial, trivial⟩, trivial⟩, ⟨⟨trivial, ⟨⟨trivial, trivial, trivial⟩, trivial⟩, trivial⟩, trivial, trivial⟩, trivial⟩, ⟨⟨fun d => by kernel_rfl, fun k d => by kernel_rfl⟩, trivial⟩⟩, trivial⟩, ⟨trivial, trivial, trivial⟩, trivial⟩, trivial⟩⟩
set_option maxRecDepth 100000 in
theorem chartularylaw17_field.ok : FnOk Try.prog tt Γ 27 chartularylaw17_field.fd := ⟨by kernel_rfl, by kernel_rfl, enters_ok (fn := Try.f27) (by kernel_rfl) (by kernel_rfl) (by kernel_rfl), chartularylaw17_field.forms, chartularylaw17_field.vc⟩

set_option maxRecDepth 100000 in
theorem chartularylaw17_FindGroups.forms : chartularylaw17_FindGroups.fd.formsOk = true := by kernel_rfl
set_option maxRecDepth 100000 in
theorem chartularylaw17_FindGroups.vc : chartularylaw17_FindGroups.fd.vc tt Γ := ⟨fun d => by kernel_rfl, fun k d => by kernel_rfl, ⟨trivial, ⟨trivial, ⟨⟨trivial, ⟨⟨trivial, trivial, trivial⟩, trivial⟩, trivial⟩, ⟨trivial, ⟨trivial, ⟨trivial, ⟨trivial, ⟨trivial, ⟨trivial, ⟨⟨trivial, ⟨⟨⟨trivial, ⟨trivial, trivial⟩, trivial⟩, ⟨⟨trivial, ⟨⟨trivial, ⟨trivial, trivial⟩, trivial⟩, ⟨trivial, ⟨trivial, ⟨trivial, ⟨⟨trivial, ⟨⟨⟨trivial, ⟨trivial, trivial⟩, trivial⟩, ⟨⟨trivial, ⟨trivial, trivial⟩, trivial⟩, trivial, trivial⟩, ⟨⟨fun d => by kernel_rfl, fun k d => by kernel_rfl⟩, trivial⟩⟩, trivial⟩, trivial⟩, ⟨trivial, ⟨trivial, trivial⟩, trivial⟩, ⟨⟨fun d => by kernel_rfl, fun k d => by kernel_rfl⟩, trivial⟩⟩, trivial⟩, trivial⟩, trivial⟩, trivial⟩, trivial⟩, trivial, trivial⟩, trivial⟩, ⟨⟨fun d => by kernel_rfl, fun k d => by kernel_rfl⟩, trivial⟩⟩, trivial⟩, ⟨⟨trivial, ⟨⟨trivial, trivial, trivial⟩, trivial⟩, trivial⟩, ⟨⟨trivial, ⟨⟨⟨trivial, ⟨trivial, trivial⟩, trivial⟩, ⟨⟨trivial, ⟨⟨trivial, ⟨⟨⟨trivial, ⟨trivial, trivial⟩, trivial⟩, ⟨⟨trivial, ⟨trivial, ⟨trivial, trivial⟩, trivial⟩, trivial⟩, trivial, trivial⟩, trivial⟩, ⟨⟨fun d => by kernel_rfl, fun k d => by kernel_rfl⟩, trivial⟩⟩, trivial⟩, ⟨⟨trivial, ⟨⟨trivial, trivial, trivial⟩, trivial⟩, trivial⟩, trivial, trivial⟩, trivial⟩, trivial⟩, trivial, trivial⟩, trivial⟩, ⟨⟨fun d => by kernel_rfl, fun k d => by kernel_rfl⟩, trivial⟩⟩, trivial⟩, ⟨trivial, trivial, trivial⟩, trivial⟩, trivial⟩, trivial⟩, trivial⟩, trivial⟩, trivial⟩, trivial⟩, trivial⟩, trivial⟩, trivial⟩, trivial⟩, trivial⟩⟩
set_option maxRecDepth 100000 in
theorem chartularylaw17_FindGroups.ok : FnOk Try.prog tt Γ 7 chartularylaw17_FindGroups.fd := ⟨by kernel_rfl, by kernel_rfl, enters_ok (fn := Try.f7) (by kernel_rfl) (by kernel_rfl) (by kernel_rfl), chartularylaw17_FindGroups.forms, chartularylaw17_FindGroups.vc⟩

noncomputable def ents : Gam := [(44, [insG]), (53, [f64from]), (57, [f64trunc]), (66, [strCmp])]
theorem ent66_run : ∀ (a b : ByteArray) (w : World), (callFunc 66 #[.string a, .string b]).run Try.prog w = .ok (.value (.int .i64 (Lib.compareBytes a.data.toList b.data.toList))) w := fun a b w => by
  rw [run_callFunc_extern (fn := Try.f66) (by kernel_rfl) (by kernel_rfl) (by kernel_rfl) (by kernel_rfl) (e := Extern.BytealgCompare.compare) (by kernel_rfl), Lib.run_compareString]
  rfl
theorem ent57_run : ∀ (v : Value) (w : World), (callFunc 57 #[v]).run Try.prog w = (((Extern.MathFloor.toIntegral "math.archTrunc" .zero) #[v]).run Try.prog w).andThen fun v w' => .ok (.value v) w' := fun v w => run_callFunc_extern (fn := Try.f57) (by kernel_rfl) (by kernel_rfl) (by kernel_rfl) (by kernel_rfl) (e := (Extern.MathFloor.toIntegral "math.archTrunc" .zero)) (by kernel_rfl) _ _
theorem ent53_run : ∀ (v : Value) (w : World), (callFunc 53 #[v]).run Try.prog w = ((Extern.MathFloatBits.float64frombits #[v]).run Try.prog w).andThen fun v w' => .ok (.value v) w' := fun v w => run_callFunc_extern (fn := Try.f53) (by kernel_rfl) (by kernel_rfl) (by kernel_rfl) (by kernel_rfl) (e := Extern.MathFloatBits.float64frombits) (by kernel_rfl) _ _
theorem ents_ok : GamOk Try.prog ents := (GamOk.cons (insG_ok (enters_ok (fn := Try.f44) (by kernel_rfl) (by kernel_rfl) (by kernel_rfl))) (GamOk.cons (f64from_ok ent53_run) (GamOk.cons (f64trunc_ok ent57_run) (GamOk.cons (strCmp_ok ent66_run) GamOk.nil))))
noncomputable def tab : Tab := [(38, value_nan.fd), (20, value_Clean.fd), (22, value_Right.fd), (60, paper_sign.fd), (49, paper_word.fd), (30, paper_IsName.fd), (10, find_Check.fd), (51, paper_Find_1_v0.fd), (50, slices_IndexFunc_api_Field_v0.fd), (31, paper_Find.fd), (46, value_sign.fd), (47, value_rank.fd), (59, bytealg_CompareString.fd), (48, strings_Compare.fd), (29, value_Compare.fd), (32, find_between.fd), (12, find_Holds.fd), (39, find_by.fd), (36, find_compare.fd), (35, find_Run_1_v0.fd), (61, slices_insertionSortCmpFunc_int_v0.fd), (69, slices_swapRangeCmpFunc_int_v0.fd), (67, slices_rotateCmpFunc_int_v0.fd), (62, slices_symMergeCmpFunc_int_v0.fd), (52, slices_stableCmpFunc_int_v0.fd), (34, slices_SortStableFunc__int_int_v0.fd), (16, find_Run.fd), (33, chartularylaw17_whole.fd), (14, chartularylaw17_awake.fd), (9, chartularylaw05_Few.fd), (15, chartularylaw17_papers.fd), (17, chartularylaw17_right.fd), (43, find_Groups_1.fd), (42, slices_BinarySearchFunc_api_Value_v0.fd), (24, find_Groups.fd), (40, value_Float.fd), (45, math_Trunc.fd), (28, value_Whole.fd), (25, find_Sum.fd), (26, find_Extreme.fd), (27, chartularylaw17_field.fd), (7, chartularylaw17_FindGroups.fd)]
theorem Γ_eq (k : Nat) : Γ k = gamK tab k ++ ents := by kernel_rfl
theorem tt_ok : TTok Try.prog tt := ttB_ok (by kernel_rfl)
theorem mixed : Try.prog.follows .mixedOrders = true := by kernel_rfl
theorem tab_all : ∀ x ∈ tab, FnOk Try.prog tt Γ x.1 x.2 := by
  unfold tab
  simp only [List.forall_mem_cons]
  exact ⟨value_nan.ok, value_Clean.ok, value_Right.ok, paper_sign.ok, paper_word.ok, paper_IsName.ok, find_Check.ok, paper_Find_1_v0.ok, slices_IndexFunc_api_Field_v0.ok, paper_Find.ok, value_sign.ok, value_rank.ok, bytealg_CompareString.ok, strings_Compare.ok, value_Compare.ok, find_between.ok, find_Holds.ok, find_by.ok, find_compare.ok, find_Run_1_v0.ok, slices_insertionSortCmpFunc_int_v0.ok, slices_swapRangeCmpFunc_int_v0.ok, slices_rotateCmpFunc_int_v0.ok, slices_symMergeCmpFunc_int_v0.ok, slices_stableCmpFunc_int_v0.ok, slices_SortStableFunc__int_int_v0.ok, find_Run.ok, chartularylaw17_whole.ok, chartularylaw17_awake.ok, chartularylaw05_Few.ok, chartularylaw17_papers.ok, chartularylaw17_right.ok, find_Groups_1.ok, slices_BinarySearchFunc_api_Value_v0.ok, find_Groups.ok, value_Float.ok, math_Trunc.ok, value_Whole.ok, find_Sum.ok, find_Extreme.ok, chartularylaw17_field.ok, chartularylaw17_FindGroups.ok, fun x h => nomatch h⟩
theorem chartularylaw17_FindGroups.spec (k : Nat) : SpecOk Try.prog 7 (chartularylaw17_FindGroups.fd.sp k) := spec_ok mixed tt_ok Γ_eq ents_ok tab_all (f := 7) (F := chartularylaw17_FindGroups.fd) (by unfold tab; simp only [List.mem_cons, true_or, or_true]) k

end Go.Proofs.Ytcjiipbppkdkaaa.E
