import Derived.Test.YtabdmnoejoiboaaEDefs
import Derived.Test.YtabdmnoejoiboaaETab
namespace Go.Proofs.Ytabdmnoejoiboaa.E
open Go Go.Proofs.Ytabdmnoejoiboaa.Eng Go.Proofs
set_option maxRecDepth 100000 in
theorem value_nan.forms : value_nan.fd.formsOk = true := by kernel_rfl
set_option maxRecDepth 100000 in
theorem value_nan.vc : value_nan.fd.vc tt Γ := ⟨fun d => by kernel_rfl, fun k d => by kernel_rfl, ⟨trivial, ⟨trivial, trivial, trivial⟩, trivial⟩⟩
set_option maxRecDepth 100000 in
theorem value_nan.ok : FnOk Try.prog tt Γ 45 value_nan.fd := ⟨by kernel_rfl, by kernel_rfl, enters_ok (fn := Try.f45) (by kernel_rfl) (by kernel_rfl) (by kernel_rfl), value_nan.forms, value_nan.vc⟩

set_option maxRecDepth 100000 in
theorem value_Clean.forms : value_Clean.fd.formsOk = true := by kernel_rfl
set_option maxRecDepth 100000 in
theorem value_Clean.vc : value_Clean.fd.vc tt Γ := ⟨fun d => by kernel_rfl, fun k d => by kernel_rfl, ⟨trivial, ⟨trivial, ⟨⟨trivial, ⟨trivial, ⟨trivial, ⟨trivial, ⟨trivial, ⟨trivial, ⟨⟨trivial, ⟨trivial, ⟨trivial, trivial⟩, trivial⟩, trivial⟩, ⟨trivial, ⟨trivial, trivial⟩, trivial⟩⟩, trivial⟩⟩, trivial⟩⟩, trivial⟩, trivial⟩, ⟨trivial, trivial, trivial⟩, trivial⟩, trivial⟩, trivial⟩⟩
set_option maxRecDepth 100000 in
theorem value_Clean.ok : FnOk Try.prog tt Γ 24 value_Clean.fd := ⟨by kernel_rfl, by kernel_rfl, enters_ok (fn := Try.f24) (by kernel_rfl) (by kernel_rfl) (by kernel_rfl), value_Clean.forms, value_Clean.vc⟩

set_option maxRecDepth 100000 in
theorem bytealg_CompareString.forms : bytealg_CompareString.fd.formsOk = true := by kernel_rfl
set_option maxRecDepth 100000 in
theorem bytealg_CompareString.vc : bytealg_CompareString.fd.vc tt Γ := ⟨fun d => by kernel_rfl, fun k d => by kernel_rfl, ⟨trivial, ⟨trivial, trivial, trivial⟩, trivial⟩⟩
set_option maxRecDepth 100000 in
theorem bytealg_CompareString.ok : FnOk Try.prog tt Γ 57 bytealg_CompareString.fd := ⟨by kernel_rfl, by kernel_rfl, enters_ok (fn := Try.f57) (by kernel_rfl) (by kernel_rfl) (by kernel_rfl), bytealg_CompareString.forms, bytealg_CompareString.vc⟩

set_option maxRecDepth 100000 in
theorem strings_Compare.forms : strings_Compare.fd.formsOk = true := by kernel_rfl
set_option maxRecDepth 100000 in
theorem strings_Compare.vc : strings_Compare.fd.vc tt Γ := ⟨fun d => by kernel_rfl, fun k d => by kernel_rfl, ⟨trivial, ⟨trivial, trivial, trivial⟩, trivial⟩⟩
set_option maxRecDepth 100000 in
theorem strings_Compare.ok : FnOk Try.prog tt Γ 47 strings_Compare.fd := ⟨by kernel_rfl, by kernel_rfl, enters_ok (fn := Try.f47) (by kernel_rfl) (by kernel_rfl) (by kernel_rfl), strings_Compare.forms, strings_Compare.vc⟩

set_option maxRecDepth 100000 in
theorem paper_byName.forms : paper_byName.fd.formsOk = true := by kernel_rfl
set_option maxRecDepth 100000 in
theorem paper_byName.vc : paper_byName.fd.vc tt Γ := ⟨fun d => by kernel_rfl, fun k d => by kernel_rfl, ⟨trivial, ⟨trivial, trivial, trivial⟩, trivial⟩⟩
set_option maxRecDepth 100000 in
theorem paper_byName.ok : FnOk Try.prog tt Γ 26 paper_byName.fd := ⟨by kernel_rfl, by kernel_rfl, enters_ok (fn := Try.f26) (by kernel_rfl) (by kernel_rfl) (by kernel_rfl), paper_byName.forms, paper_byName.vc⟩

set_option maxRecDepth 100000 in
theorem slices_insertionSortCmpFunc_api_Field_v0.forms : slices_insertionSortCmpFunc_api_Field_v0.fd.formsOk = true := by kernel_rfl
set_option maxRecDepth 100000 in
theorem slices_insertionSortCmpFunc_api_Field_v0.vc : slices_insertionSortCmpFunc_api_Field_v0.fd.vc tt Γ := ⟨fun d => by kernel_rfl, fun k d => by kernel_rfl, ⟨trivial, ⟨⟨⟨trivial, ⟨trivial, trivial⟩, trivial⟩, ⟨⟨trivial, ⟨⟨⟨trivial, ⟨trivial, trivial⟩, trivial⟩, ⟨trivial, trivial, trivial⟩, trivial⟩, ⟨fun d => by kernel_rfl, fun k d => by kernel_rfl⟩⟩, trivial⟩, trivial, trivial⟩, trivial⟩, ⟨fun d => by kernel_rfl, fun k d => by kernel_rfl⟩⟩, trivial⟩⟩
set_option maxRecDepth 100000 in
theorem slices_insertionSortCmpFunc_api_Field_v0.ok : FnOk Try.prog tt Γ 55 slices_insertionSortCmpFunc_api_Field_v0.fd := ⟨by kernel_rfl, by kernel_rfl, enters_ok (fn := Try.f55) (by kernel_rfl) (by kernel_rfl) (by kernel_rfl), slices_insertionSortCmpFunc_api_Field_v0.forms, slices_insertionSortCmpFunc_api_Field_v0.vc⟩

set_option maxRecDepth 100000 in
theorem slices_swapRangeCmpFunc_api_Field_v0.forms : slices_swapRangeCmpFunc_api_Field_v0.fd.formsOk = true := by kernel_rfl
set_option maxRecDepth 100000 in
theorem slices_swapRangeCmpFunc_api_Field_v0.vc : slices_swapRangeCmpFunc_api_Field_v0.fd.vc tt Γ := ⟨fun d => by kernel_rfl, fun k d => by kernel_rfl, ⟨trivial, ⟨⟨⟨trivial, ⟨trivial, trivial⟩, trivial⟩, ⟨trivial, trivial, trivial⟩, trivial⟩, ⟨fun d => by kernel_rfl, fun k d => by kernel_rfl⟩⟩, trivial⟩⟩
set_option maxRecDepth 100000 in
theorem slices_swapRangeCmpFunc_api_Field_v0.ok : FnOk Try.prog tt Γ 60 slices_swapRangeCmpFunc_api_Field_v0.fd := ⟨by kernel_rfl, by kernel_rfl, enters_ok (fn := Try.f60) (by kernel_rfl) (by kernel_rfl) (by kernel_rfl), slices_swapRangeCmpFunc_api_Field_v0.forms, slices_swapRangeCmpFunc_api_Field_v0.vc⟩

set_option maxRecDepth 100000 in
theorem slices_rotateCmpFunc_api_Field_v0.forms : slices_rotateCmpFunc_api_Field_v0.fd.formsOk = true := by kernel_rfl
set_option maxRecDepth 100000 in
theorem slices_rotateCmpFunc_api_Field_v0.vc : slices_rotateCmpFunc_api_Field_v0.fd.vc tt Γ := ⟨fun d => by kernel_rfl, fun k d => by kernel_rfl, ⟨trivial, ⟨trivial, ⟨⟨⟨⟨trivial, ⟨trivial, trivial⟩, trivial⟩, ⟨trivial, ⟨⟨trivial, trivial, trivial⟩, ⟨trivial, trivial, trivial⟩⟩, trivial⟩, trivial⟩, ⟨fun d => by kernel_rfl, fun k d => by kernel_rfl⟩⟩, trivial, trivial⟩, trivial⟩, trivial⟩⟩
set_option maxRecDepth 100000 in
theorem slices_rotateCmpFunc_api_Field_v0.ok : FnOk Try.prog tt Γ 58 slices_rotateCmpFunc_api_Field_v0.fd := ⟨by kernel_rfl, by kernel_rfl, enters_ok (fn := Try.f58) (by kernel_rfl) (by kernel_rfl) (by kernel_rfl), slices_rotateCmpFunc_api_Field_v0.forms, slices_rotateCmpFunc_api_Field_v0.vc⟩

set_option maxRecDepth 100000 in
theorem slices_symMergeCmpFunc_api_Field_v0.forms : slices_symMergeCmpFunc_api_Field_v0.fd.formsOk = true := by kernel_rfl
set_option maxRecDepth 100000 in
theorem slices_symMergeCmpFunc_api_Field_v0.vc : slices_symMergeCmpFunc_api_Field_v0.fd.vc tt Γ := ⟨fun d => by kernel_rfl, fun k d => by kernel_rfl, ⟨⟨trivial, ⟨⟨trivial, ⟨trivial, ⟨⟨⟨⟨trivial, ⟨trivial, trivial⟩, trivial⟩, ⟨trivial, ⟨trivial, ⟨trivial, trivial⟩, trivial⟩, trivial⟩, trivial⟩, ⟨fun d => by kernel_rfl, fun k d => by kernel_rfl⟩⟩, ⟨⟨trivial, ⟨⟨⟨trivial, ⟨trivial, trivial⟩, trivial⟩, ⟨trivial, trivial, trivial⟩, trivial⟩, ⟨fun d => by kernel_rfl, fun k d => by kernel_rfl⟩⟩, trivial⟩, trivial, trivial⟩, trivial⟩, trivial⟩, trivial⟩, trivial⟩, trivial⟩, ⟨⟨trivial, ⟨⟨trivial, ⟨trivial, ⟨⟨⟨⟨trivial, ⟨trivial, trivial⟩, trivial⟩, ⟨trivial, ⟨trivial, ⟨trivial, trivial⟩, trivial⟩, trivial⟩, trivial⟩, ⟨fun d => by kernel_rfl, fun k d => by kernel_rfl⟩⟩, ⟨⟨trivial, ⟨⟨⟨trivial, ⟨trivial, trivial⟩, trivial⟩, ⟨trivial, trivial, trivial⟩, trivial⟩, ⟨fun d => by kernel_rfl, fun k d => by kernel_rfl⟩⟩, trivial⟩, trivial, trivial⟩, trivial⟩, trivial⟩, trivial⟩, trivial⟩, trivial⟩, ⟨trivial, ⟨trivial, ⟨trivial, ⟨⟨trivial, ⟨⟨trivial, trivial, trivial⟩, ⟨trivial, trivial, trivial⟩⟩, trivial⟩, ⟨trivial, ⟨⟨⟨⟨trivial, ⟨trivial, trivial⟩, trivial⟩, ⟨trivial, ⟨trivial, ⟨trivial, trivial⟩, trivial⟩, trivial⟩, trivial⟩, ⟨fun d => by kernel_rfl, fun k d => by kernel_rfl⟩⟩, ⟨trivial, ⟨⟨trivial, ⟨trivial, trivial⟩, trivial⟩, ⟨⟨trivial, ⟨trivial, trivial⟩, trivial⟩, ⟨trivial, ⟨trivial, trivial⟩, trivial⟩, ⟨fun d => by kernel_rfl, fun k d => by kernel_rfl⟩⟩, ⟨fun d => by kernel_rfl, fun k d => by kernel_rfl⟩⟩, trivial⟩, trivial⟩, trivial⟩, ⟨fun d => by kernel_rfl, fun k d => by kernel_rfl⟩⟩, trivial⟩, trivial⟩, trivial⟩, trivial⟩, trivial⟩⟩
set_option maxRecDepth 100000 in
theorem slices_symMergeCmpFunc_api_Field_v0.ok : FnOk Try.prog tt Γ 56 slices_symMergeCmpFunc_api_Field_v0.fd := ⟨by kernel_rfl, by kernel_rfl, enters_ok (fn := Try.f56) (by kernel_rfl) (by kernel_rfl) (by kernel_rfl), slices_symMergeCmpFunc_api_Field_v0.forms, slices_symMergeCmpFunc_api_Field_v0.vc⟩

set_option maxRecDepth 100000 in
theorem slices_stableCmpFunc_api_Field_v0.forms : slices_stableCmpFunc_api_Field_v0.fd.formsOk = true := by kernel_rfl
set_option maxRecDepth 100000 in
theorem slices_stableCmpFunc_api_Field_v0.vc : slices_stableCmpFunc_api_Field_v0.fd.vc tt Γ := ⟨fun d => by kernel_rfl, fun k d => by kernel_rfl, ⟨trivial, ⟨trivial, ⟨⟨⟨⟨trivial, ⟨trivial, trivial⟩, trivial⟩, ⟨trivial, ⟨trivial, trivial, trivial⟩, trivial⟩, trivial⟩, ⟨fun d => by kernel_rfl, fun k d => by kernel_rfl⟩⟩, ⟨trivial, ⟨⟨⟨trivial, ⟨trivial, trivial⟩, trivial⟩, ⟨trivial, ⟨⟨⟨⟨trivial, ⟨trivial, trivial⟩, trivial⟩, ⟨trivial, ⟨trivial, trivial, trivial⟩, trivial⟩, trivial⟩, ⟨fun d => by kernel_rfl, fun k d => by kernel_rfl⟩⟩, ⟨⟨trivial, ⟨trivial, ⟨trivial, trivial⟩, trivial⟩, trivial⟩, trivial, trivial⟩, trivial⟩, trivial⟩, trivial⟩, ⟨fun d => by kernel_rfl, fun k d => by kernel_rfl⟩⟩, trivial⟩, trivial⟩, trivial⟩, trivial⟩⟩
set_option maxRecDepth 100000 in
theorem slices_stableCmpFunc_api_Field_v0.ok : FnOk Try.prog tt Γ 46 slices_stableCmpFunc_api_Field_v0.fd := ⟨by kernel_rfl, by kernel_rfl, enters_ok (fn := Try.f46) (by kernel_rfl) (by kernel_rfl) (by kernel_rfl), slices_stableCmpFunc_api_Field_v0.forms, slices_stableCmpFunc_api_Field_v0.vc⟩

set_option maxRecDepth 100000 in
theorem slices_SortStableFunc_api_Field_v0.forms : slices_SortStableFunc_api_Field_v0.fd.formsOk = true := by kernel_rfl
set_option maxRecDepth 100000 in
theorem slices_SortStableFunc_api_Field_v0.vc : slices_SortStableFunc_api_Field_v0.fd.vc tt Γ := ⟨fun d => by kernel_rfl, fun k d => by kernel_rfl, trivial⟩
set_option maxRecDepth 100000 in
theorem slices_SortStableFunc_api_Field_v0.ok : FnOk Try.prog tt Γ 25 slices_SortStableFunc_api_Field_v0.fd := ⟨by kernel_rfl, by kernel_rfl, enters_ok (fn := Try.f25) (by kernel_rfl) (by kernel_rfl) (by kernel_rfl), slices_SortStableFunc_api_Field_v0.forms, slices_SortStableFunc_api_Field_v0.vc⟩

set_option maxRecDepth 100000 in
theorem paper_Tidy.forms : paper_Tidy.fd.formsOk = true := by kernel_rfl
set_option maxRecDepth 100000 in
theorem paper_Tidy.vc : paper_Tidy.fd.vc tt Γ := ⟨fun d => by kernel_rfl, fun k d => by kernel_rfl, ⟨trivial, ⟨trivial, ⟨⟨trivial, ⟨⟨trivial, ⟨⟨trivial, trivial⟩, ⟨⟨trivial, trivial, trivial⟩, trivial, trivial⟩, trivial⟩, trivial⟩, ⟨fun d => by kernel_rfl, fun k d => by kernel_rfl⟩⟩, trivial⟩, ⟨trivial, ⟨trivial, trivial, trivial⟩, trivial⟩, trivial⟩, trivial⟩, trivial⟩⟩
set_option maxRecDepth 100000 in
theorem paper_Tidy.ok : FnOk Try.prog tt Γ 14 paper_Tidy.fd := ⟨by kernel_rfl, by kernel_rfl, enters_ok (fn := Try.f14) (by kernel_rfl) (by kernel_rfl) (by kernel_rfl), paper_Tidy.forms, paper_Tidy.vc⟩

set_option maxRecDepth 100000 in
theorem paper_sign.forms : paper_sign.fd.formsOk = true := by kernel_rfl
set_option maxRecDepth 100000 in
theorem paper_sign.vc : paper_sign.fd.vc tt Γ := ⟨fun d => by kernel_rfl, fun k d => by kernel_rfl, ⟨trivial, ⟨trivial, trivial, trivial⟩, trivial⟩⟩
set_option maxRecDepth 100000 in
theorem paper_sign.ok : FnOk Try.prog tt Γ 44 paper_sign.fd := ⟨by kernel_rfl, by kernel_rfl, enters_ok (fn := Try.f44) (by kernel_rfl) (by kernel_rfl) (by kernel_rfl), paper_sign.forms, paper_sign.vc⟩

set_option maxRecDepth 100000 in
theorem paper_word.forms : paper_word.fd.formsOk = true := by kernel_rfl
set_option maxRecDepth 100000 in
theorem paper_word.vc : paper_word.fd.vc tt Γ := ⟨fun d => by kernel_rfl, fun k d => by kernel_rfl, ⟨trivial, ⟨⟨trivial, ⟨⟨trivial, trivial, trivial⟩, trivial⟩, trivial⟩, ⟨⟨trivial, ⟨⟨trivial, ⟨⟨trivial, trivial⟩, ⟨⟨trivial, ⟨trivial, ⟨⟨trivial, trivial, trivial⟩, trivial⟩, trivial⟩, trivial⟩, trivial, trivial⟩, trivial⟩, trivial⟩, ⟨fun d => by kernel_rfl, fun k d => by kernel_rfl⟩⟩, trivial⟩, ⟨trivial, trivial, trivial⟩, trivial⟩, ⟨fun d => by kernel_rfl, fun k d => by kernel_rfl⟩⟩, trivial⟩⟩
set_option maxRecDepth 100000 in
theorem paper_word.ok : FnOk Try.prog tt Γ 23 paper_word.fd := ⟨by kernel_rfl, by kernel_rfl, enters_ok (fn := Try.f23) (by kernel_rfl) (by kernel_rfl) (by kernel_rfl), paper_word.forms, paper_word.vc⟩

set_option maxRecDepth 100000 in
theorem paper_IsID.forms : paper_IsID.fd.formsOk = true := by kernel_rfl
set_option maxRecDepth 100000 in
theorem paper_IsID.vc : paper_IsID.fd.vc tt Γ := ⟨fun d => by kernel_rfl, fun k d => by kernel_rfl, ⟨trivial, ⟨trivial, trivial, trivial⟩, trivial⟩⟩
set_option maxRecDepth 100000 in
theorem paper_IsID.ok : FnOk Try.prog tt Γ 8 paper_IsID.fd := ⟨by kernel_rfl, by kernel_rfl, enters_ok (fn := Try.f8) (by kernel_rfl) (by kernel_rfl) (by kernel_rfl), paper_IsID.forms, paper_IsID.vc⟩

set_option maxRecDepth 100000 in
theorem paper_IsName.forms : paper_IsName.fd.formsOk = true := by kernel_rfl
set_option maxRecDepth 100000 in
theorem paper_IsName.vc : paper_IsName.fd.vc tt Γ := ⟨fun d => by kernel_rfl, fun k d => by kernel_rfl, ⟨trivial, ⟨trivial, trivial, trivial⟩, trivial⟩⟩
set_option maxRecDepth 100000 in
theorem paper_IsName.ok : FnOk Try.prog tt Γ 10 paper_IsName.fd := ⟨by kernel_rfl, by kernel_rfl, enters_ok (fn := Try.f10) (by kernel_rfl) (by kernel_rfl) (by kernel_rfl), paper_IsName.forms, paper_IsName.vc⟩

set_option maxRecDepth 100000 in
theorem value_Right.forms : value_Right.fd.formsOk = true := by kernel_rfl
set_option maxRecDepth 100000 in
theorem value_Right.vc : value_Right.fd.vc tt Γ := ⟨fun d => by kernel_rfl, fun k d => by kernel_rfl, ⟨trivial, ⟨trivial, trivial, trivial⟩, trivial⟩⟩
set_option maxRecDepth 100000 in
theorem value_Right.ok : FnOk Try.prog tt Γ 27 value_Right.fd := ⟨by kernel_rfl, by kernel_rfl, enters_ok (fn := Try.f27) (by kernel_rfl) (by kernel_rfl) (by kernel_rfl), value_Right.forms, value_Right.vc⟩

set_option maxRecDepth 100000 in
theorem paper_Check.forms : paper_Check.fd.formsOk = true := by kernel_rfl
set_option maxRecDepth 100000 in
theorem paper_Check.vc : paper_Check.fd.vc tt Γ := ⟨fun d => by kernel_rfl, fun k d => by kernel_rfl, ⟨trivial, ⟨⟨trivial, ⟨⟨trivial, trivial, trivial⟩, ⟨trivial, ⟨⟨trivial, trivial, trivial⟩, ⟨trivial, ⟨⟨trivial, trivial, trivial⟩, trivial⟩, trivial⟩⟩, trivial⟩⟩, trivial⟩, ⟨⟨trivial, ⟨⟨trivial, ⟨⟨trivial, trivial⟩, ⟨⟨trivial, ⟨⟨trivial, ⟨⟨trivial, trivial, trivial⟩, trivial⟩, trivial⟩, ⟨trivial, ⟨⟨trivial, trivial, trivial⟩, trivial⟩, trivial⟩, trivial⟩, trivial⟩, trivial, trivial⟩, trivial⟩, trivial⟩, ⟨fun d => by kernel_rfl, fun k d => by kernel_rfl⟩⟩, trivial⟩, ⟨trivial, ⟨⟨trivial, ⟨⟨⟨trivial, ⟨trivial, trivial⟩, trivial⟩, ⟨⟨trivial, ⟨⟨trivial, trivial, trivial⟩, trivial⟩, trivial⟩, trivial, trivial⟩, trivial⟩, ⟨fun d => by kernel_rfl, fun k d => by kernel_rfl⟩⟩, trivial⟩, ⟨trivial, trivial, trivial⟩, trivial⟩, trivial⟩, trivial⟩, ⟨fun d => by kernel_rfl, fun k d => by kernel_rfl⟩⟩, trivial⟩⟩
set_option maxRecDepth 100000 in
theorem paper_Check.ok : FnOk Try.prog tt Γ 16 paper_Check.fd := ⟨by kernel_rfl, by kernel_rfl, enters_ok (fn := Try.f16) (by kernel_rfl) (by kernel_rfl) (by kernel_rfl), paper_Check.forms, paper_Check.vc⟩

set_option maxRecDepth 100000 in
theorem octet_Num.forms : octet_Num.fd.formsOk = true := by kernel_rfl
set_option maxRecDepth 100000 in
theorem octet_Num.vc : octet_Num.fd.vc tt Γ := ⟨fun d => by kernel_rfl, fun k d => by kernel_rfl, ⟨trivial, ⟨⟨trivial, ⟨⟨trivial, trivial, trivial⟩, trivial⟩, trivial⟩, ⟨trivial, ⟨⟨⟨⟨trivial, ⟨trivial, trivial⟩, trivial⟩, ⟨trivial, trivial, trivial⟩, trivial⟩, ⟨fun d => by kernel_rfl, fun k d => by kernel_rfl⟩⟩, ⟨trivial, trivial, trivial⟩, trivial⟩, trivial⟩, trivial⟩, trivial⟩⟩
set_option maxRecDepth 100000 in
theorem octet_Num.ok : FnOk Try.prog tt Γ 43 octet_Num.fd := ⟨by kernel_rfl, by kernel_rfl, enters_ok (fn := Try.f43) (by kernel_rfl) (by kernel_rfl) (by kernel_rfl), octet_Num.forms, octet_Num.vc⟩

set_option maxRecDepth 100000 in
theorem octet_Text.forms : octet_Text.fd.formsOk = true := by kernel_rfl
set_option maxRecDepth 100000 in
theorem octet_Text.vc : octet_Text.fd.vc tt Γ := ⟨fun d => by kernel_rfl, fun k d => by kernel_rfl, ⟨trivial, ⟨trivial, trivial, trivial⟩, trivial⟩⟩
set_option maxRecDepth 100000 in
theorem octet_Text.ok : FnOk Try.prog tt Γ 42 octet_Text.fd := ⟨by kernel_rfl, by kernel_rfl, enters_ok (fn := Try.f42) (by kernel_rfl) (by kernel_rfl) (by kernel_rfl), octet_Text.forms, octet_Text.vc⟩

set_option maxRecDepth 100000 in
theorem octet_Writer_Text.forms : octet_Writer_Text.fd.formsOk = true := by kernel_rfl
set_option maxRecDepth 100000 in
theorem octet_Writer_Text.vc : octet_Writer_Text.fd.vc tt Γ := ⟨fun d => by kernel_rfl, fun k d => by kernel_rfl, trivial⟩
set_option maxRecDepth 100000 in
theorem octet_Writer_Text.ok : FnOk Try.prog tt Γ 31 octet_Writer_Text.fd := ⟨by kernel_rfl, by kernel_rfl, enters_ok (fn := Try.f31) (by kernel_rfl) (by kernel_rfl) (by kernel_rfl), octet_Writer_Text.forms, octet_Writer_Text.vc⟩

set_option maxRecDepth 100000 in
theorem octet_Writer_Num.forms : octet_Writer_Num.fd.formsOk = true := by kernel_rfl
set_option maxRecDepth 100000 in
theorem octet_Writer_Num.vc : octet_Writer_Num.fd.vc tt Γ := ⟨fun d => by kernel_rfl, fun k d => by kernel_rfl, ⟨trivial, ⟨trivial, trivial, trivial⟩, trivial⟩⟩
set_option maxRecDepth 100000 in
theorem octet_Writer_Num.ok : FnOk Try.prog tt Γ 32 octet_Writer_Num.fd := ⟨by kernel_rfl, by kernel_rfl, enters_ok (fn := Try.f32) (by kernel_rfl) (by kernel_rfl) (by kernel_rfl), octet_Writer_Num.forms, octet_Writer_Num.vc⟩

set_option maxRecDepth 100000 in
theorem octet_Writer_All.forms : octet_Writer_All.fd.formsOk = true := by kernel_rfl
set_option maxRecDepth 100000 in
theorem octet_Writer_All.vc : octet_Writer_All.fd.vc tt Γ := ⟨fun d => by kernel_rfl, fun k d => by kernel_rfl, ⟨trivial, ⟨⟨trivial, ⟨⟨trivial, trivial, trivial⟩, trivial⟩, trivial⟩, ⟨trivial, trivial, trivial⟩, trivial⟩, trivial⟩⟩
set_option maxRecDepth 100000 in
theorem octet_Writer_All.ok : FnOk Try.prog tt Γ 34 octet_Writer_All.fd := ⟨by kernel_rfl, by kernel_rfl, enters_ok (fn := Try.f34) (by kernel_rfl) (by kernel_rfl) (by kernel_rfl), octet_Writer_All.forms, octet_Writer_All.vc⟩

set_option maxRecDepth 100000 in
theorem octet_Writer_Flag.forms : octet_Writer_Flag.fd.formsOk = true := by kernel_rfl
set_option maxRecDepth 100000 in
theorem octet_Writer_Flag.vc : octet_Writer_Flag.fd.vc tt Γ := ⟨fun d => by kernel_rfl, fun k d => by kernel_rfl, ⟨trivial, ⟨trivial, trivial⟩, trivial⟩⟩
set_option maxRecDepth 100000 in
theorem octet_Writer_Flag.ok : FnOk Try.prog tt Γ 48 octet_Writer_Flag.fd := ⟨by kernel_rfl, by kernel_rfl, enters_ok (fn := Try.f48) (by kernel_rfl) (by kernel_rfl) (by kernel_rfl), octet_Writer_Flag.forms, octet_Writer_Flag.vc⟩

set_option maxRecDepth 100000 in
theorem octet_Writer_Raw.forms : octet_Writer_Raw.fd.formsOk = true := by kernel_rfl
set_option maxRecDepth 100000 in
theorem octet_Writer_Raw.vc : octet_Writer_Raw.fd.vc tt Γ := ⟨fun d => by kernel_rfl, fun k d => by kernel_rfl, trivial⟩
set_option maxRecDepth 100000 in
theorem octet_Writer_Raw.ok : FnOk Try.prog tt Γ 49 octet_Writer_Raw.fd := ⟨by kernel_rfl, by kernel_rfl, enters_ok (fn := Try.f49) (by kernel_rfl) (by kernel_rfl) (by kernel_rfl), octet_Writer_Raw.forms, octet_Writer_Raw.vc⟩

set_option maxRecDepth 100000 in
theorem value_eight.forms : value_eight.fd.formsOk = true := by kernel_rfl
set_option maxRecDepth 100000 in
theorem value_eight.vc : value_eight.fd.vc tt Γ := ⟨fun d => by kernel_rfl, fun k d => by kernel_rfl, ⟨trivial, ⟨trivial, ⟨⟨trivial, ⟨⟨trivial, ⟨⟨trivial, trivial⟩, ⟨⟨trivial, trivial, trivial⟩, trivial, trivial⟩, trivial⟩, trivial⟩, ⟨fun d => by kernel_rfl, fun k d => by kernel_rfl⟩⟩, trivial⟩, ⟨trivial, trivial, trivial⟩, trivial⟩, trivial⟩, trivial⟩⟩
set_option maxRecDepth 100000 in
theorem value_eight.ok : FnOk Try.prog tt Γ 50 value_eight.fd := ⟨by kernel_rfl, by kernel_rfl, enters_ok (fn := Try.f50) (by kernel_rfl) (by kernel_rfl) (by kernel_rfl), value_eight.forms, value_eight.vc⟩

set_option maxRecDepth 100000 in
theorem value_Bytes.forms : value_Bytes.fd.formsOk = true := by kernel_rfl
set_option maxRecDepth 100000 in
theorem value_Bytes.vc : value_Bytes.fd.vc tt Γ := ⟨fun d => by kernel_rfl, fun k d => by kernel_rfl, ⟨trivial, ⟨⟨trivial, ⟨⟨trivial, trivial, trivial⟩, trivial⟩, trivial⟩, ⟨trivial, ⟨trivial, ⟨⟨trivial, ⟨trivial, ⟨trivial, ⟨trivial, ⟨trivial, ⟨trivial, ⟨trivial, ⟨trivial, ⟨trivial, trivial⟩, trivial⟩⟩, trivial⟩⟩, trivial⟩⟩, trivial⟩, trivial⟩, ⟨trivial, ⟨trivial, trivial, trivial⟩, trivial⟩, ⟨fun d => by kernel_rfl, fun k d => by kernel_rfl⟩⟩, trivial⟩, trivial⟩, trivial⟩, trivial⟩⟩
set_option maxRecDepth 100000 in
theorem value_Bytes.ok : FnOk Try.prog tt Γ 33 value_Bytes.fd := ⟨by kernel_rfl, by kernel_rfl, enters_ok (fn := Try.f33) (by kernel_rfl) (by kernel_rfl) (by kernel_rfl), value_Bytes.forms, value_Bytes.vc⟩

set_option maxRecDepth 100000 in
theorem paper_Bytes.forms : paper_Bytes.fd.formsOk = true := by kernel_rfl
set_option maxRecDepth 100000 in
theorem paper_Bytes.vc : paper_Bytes.fd.vc tt Γ := ⟨fun d => by kernel_rfl, fun k d => by kernel_rfl, ⟨trivial, ⟨⟨trivial, ⟨trivial, ⟨⟨trivial, trivial, trivial⟩, trivial⟩, trivial⟩, trivial⟩, ⟨trivial, ⟨trivial, ⟨trivial, ⟨trivial, ⟨trivial, ⟨⟨trivial, ⟨⟨trivial, ⟨⟨trivial, trivial⟩, ⟨⟨trivial, ⟨trivial, trivial, trivial⟩, trivial⟩, trivial, trivial⟩, trivial⟩, trivial⟩, ⟨fun d => by kernel_rfl, fun k d => by kernel_rfl⟩⟩, trivial⟩, ⟨trivial, ⟨trivial, trivial, trivial⟩, trivial⟩, trivial⟩, trivial⟩, trivial⟩, trivial⟩, trivial⟩, trivial⟩, trivial⟩, trivial⟩⟩
set_option maxRecDepth 100000 in
theorem paper_Bytes.ok : FnOk Try.prog tt Γ 20 paper_Bytes.fd := ⟨by kernel_rfl, by kernel_rfl, enters_ok (fn := Try.f20) (by kernel_rfl) (by kernel_rfl) (by kernel_rfl), paper_Bytes.forms, paper_Bytes.vc⟩

set_option maxRecDepth 100000 in
theorem chartularylaw05_awake.forms : chartularylaw05_awake.fd.formsOk = true := by kernel_rfl
set_option maxRecDepth 100000 in
theorem chartularylaw05_awake.vc : chartularylaw05_awake.fd.vc tt Γ := ⟨fun d => by kernel_rfl, fun k d => by kernel_rfl, ⟨trivial, ⟨trivial, ⟨trivial, trivial, trivial⟩, trivial⟩, trivial⟩⟩
set_option maxRecDepth 100000 in
theorem chartularylaw05_awake.ok : FnOk Try.prog tt Γ 11 chartularylaw05_awake.fd := ⟨by kernel_rfl, by kernel_rfl, enters_ok (fn := Try.f11) (by kernel_rfl) (by kernel_rfl) (by kernel_rfl), chartularylaw05_awake.forms, chartularylaw05_awake.vc⟩

set_option maxRecDepth 100000 in
theorem chartularylaw05_Few.forms : chartularylaw05_Few.fd.formsOk = true := by kernel_rfl
set_option maxRecDepth 100000 in
theorem chartularylaw05_Few.vc : chartularylaw05_Few.fd.vc tt Γ := ⟨fun d => by kernel_rfl, fun k d => by kernel_rfl, ⟨trivial, ⟨trivial, ⟨⟨trivial, ⟨trivial, trivial⟩, trivial⟩, ⟨⟨trivial, ⟨⟨⟨trivial, ⟨trivial, trivial⟩, trivial⟩, ⟨⟨trivial, ⟨⟨trivial, ⟨trivial, trivial⟩, trivial⟩, ⟨⟨trivial, ⟨trivial, trivial⟩, trivial⟩, trivial, trivial⟩, trivial⟩, trivial⟩, trivial, trivial⟩, trivial⟩, ⟨fun d => by kernel_rfl, fun k d => by kernel_rfl⟩⟩, trivial⟩, ⟨trivial, trivial, trivial⟩, trivial⟩, ⟨fun d => by kernel_rfl, fun k d => by kernel_rfl⟩⟩, trivial⟩, trivial⟩⟩
set_option maxRecDepth 100000 in
theorem chartularylaw05_Few.ok : FnOk Try.prog tt Γ 12 chartularylaw05_Few.fd := ⟨by kernel_rfl, by kernel_rfl, enters_ok (fn := Try.f12) (by kernel_rfl) (by kernel_rfl) (by kernel_rfl), chartularylaw05_Few.forms, chartularylaw05_Few.vc⟩

set_option maxRecDepth 100000 in
theorem chartularylaw05_same.forms : chartularylaw05_same.fd.formsOk = true := by kernel_rfl
set_option maxRecDepth 100000 in
theorem chartularylaw05_same.vc : chartularylaw05_same.fd.vc tt Γ := ⟨fun d => by kernel_rfl, fun k d => by kernel_rfl, ⟨trivial, ⟨⟨trivial, ⟨⟨trivial, trivial, trivial⟩, trivial⟩, trivial⟩, ⟨⟨trivial, ⟨⟨⟨trivial, ⟨trivial, trivial⟩, trivial⟩, ⟨⟨trivial, ⟨⟨trivial, trivial, trivial⟩, trivial⟩, trivial⟩, trivial, trivial⟩, trivial⟩, ⟨fun d => by kernel_rfl, fun k d => by kernel_rfl⟩⟩, trivial⟩, ⟨trivial, trivial, trivial⟩, trivial⟩, ⟨fun d => by kernel_rfl, fun k d => by kernel_rfl⟩⟩, trivial⟩⟩
set_option maxRecDepth 100000 in
theorem chartularylaw05_same.ok : FnOk Try.prog tt Γ 13 chartularylaw05_same.fd := ⟨by kernel_rfl, by kernel_rfl, enters_ok (fn := Try.f13) (by kernel_rfl) (by kernel_rfl) (by kernel_rfl), chartularylaw05_same.forms, chartularylaw05_same.vc⟩

set_option maxRecDepth 100000 in
theorem chartularylaw05_tidy.forms : chartularylaw05_tidy.fd.formsOk = true := by kernel_rfl
set_option maxRecDepth 100000 in
theorem chartularylaw05_tidy.vc : chartularylaw05_tidy.fd.vc tt Γ := ⟨fun d => by kernel_rfl, fun k d => by kernel_rfl, ⟨trivial, ⟨trivial, ⟨⟨trivial, ⟨⟨⟨trivial, ⟨trivial, trivial⟩, trivial⟩, ⟨⟨trivial, ⟨trivial, ⟨⟨⟨⟨trivial, ⟨trivial, trivial⟩, trivial⟩, trivial, trivial⟩, ⟨fun d => by kernel_rfl, fun k d => by kernel_rfl⟩⟩, ⟨trivial, ⟨trivial, trivial, trivial⟩, trivial⟩, trivial⟩, trivial⟩, trivial⟩, trivial, trivial⟩, trivial⟩, ⟨fun d => by kernel_rfl, fun k d => by kernel_rfl⟩⟩, trivial⟩, ⟨trivial, trivial, trivial⟩, trivial⟩, trivial⟩, trivial⟩⟩
set_option maxRecDepth 100000 in
theorem chartularylaw05_tidy.ok : FnOk Try.prog tt Γ 15 chartularylaw05_tidy.fd := ⟨by kernel_rfl, by kernel_rfl, enters_ok (fn := Try.f15) (by kernel_rfl) (by kernel_rfl) (by kernel_rfl), chartularylaw05_tidy.forms, chartularylaw05_tidy.vc⟩

set_option maxRecDepth 100000 in
theorem chartularylaw05_word.forms : chartularylaw05_word.fd.formsOk = true := by kernel_rfl
set_option maxRecDepth 100000 in
theorem chartularylaw05_word.vc : chartularylaw05_word.fd.vc tt Γ := ⟨fun d => by kernel_rfl, fun k d => by kernel_rfl, ⟨trivial, ⟨⟨trivial, ⟨⟨⟨trivial, ⟨trivial, trivial⟩, trivial⟩, ⟨⟨trivial, ⟨trivial, ⟨trivial, ⟨⟨trivial, trivial, trivial⟩, trivial⟩, trivial⟩, trivial⟩, trivial⟩, trivial, trivial⟩, trivial⟩, ⟨fun d => by kernel_rfl, fun k d => by kernel_rfl⟩⟩, trivial⟩, ⟨trivial, trivial, trivial⟩, trivial⟩, trivial⟩⟩
set_option maxRecDepth 100000 in
theorem chartularylaw05_word.ok : FnOk Try.prog tt Γ 9 chartularylaw05_word.fd := ⟨by kernel_rfl, by kernel_rfl, enters_ok (fn := Try.f9) (by kernel_rfl) (by kernel_rfl) (by kernel_rfl), chartularylaw05_word.forms, chartularylaw05_word.vc⟩

set_option maxRecDepth 100000 in
theorem chartularylaw05_check.forms : chartularylaw05_check.fd.formsOk = true := by kernel_rfl
set_option maxRecDepth 100000 in
theorem chartularylaw05_check.vc : chartularylaw05_check.fd.vc tt Γ := ⟨fun d => by kernel_rfl, fun k d => by kernel_rfl, ⟨trivial, ⟨⟨trivial, ⟨⟨trivial, trivial, trivial⟩, trivial⟩, trivial⟩, ⟨⟨trivial, ⟨⟨trivial, trivial, trivial⟩, trivial⟩, trivial⟩, ⟨⟨trivial, ⟨⟨trivial, trivial, trivial⟩, trivial⟩, trivial⟩, ⟨⟨trivial, ⟨⟨⟨trivial, ⟨trivial, trivial⟩, trivial⟩, ⟨⟨⟨trivial, ⟨⟨trivial, trivial, trivial⟩, trivial⟩, trivial⟩, ⟨trivial, ⟨⟨trivial, trivial, trivial⟩, trivial⟩, trivial⟩, trivial⟩, trivial, trivial⟩, trivial⟩, ⟨fun d => by kernel_rfl, fun k d => by kernel_rfl⟩⟩, trivial⟩, ⟨⟨trivial, ⟨⟨⟨trivial, ⟨trivial, trivial⟩, trivial⟩, ⟨⟨trivial, ⟨⟨⟨trivial, ⟨trivial, trivial⟩, trivial⟩, ⟨⟨trivial, ⟨⟨trivial, trivial, trivial⟩, trivial⟩, trivial⟩, trivial, trivial⟩, trivial⟩, ⟨fun d => by kernel_rfl, fun k d => by kernel_rfl⟩⟩, trivial⟩, trivial, trivial⟩, trivial⟩, ⟨fun d => by kernel_rfl, fun k d => by kernel_rfl⟩⟩, trivial⟩, ⟨trivial, trivial, trivial⟩, trivial⟩, trivial⟩, ⟨fun d => by kernel_rfl, fun k d => by kernel_rfl⟩⟩, trivial⟩, trivial⟩, trivial⟩⟩
set_option maxRecDepth 100000 in
theorem chartularylaw05_check.ok : FnOk Try.prog tt Γ 17 chartularylaw05_check.fd := ⟨by kernel_rfl, by kernel_rfl, enters_ok (fn := Try.f17) (by kernel_rfl) (by kernel_rfl) (by kernel_rfl), chartularylaw05_check.forms, chartularylaw05_check.vc⟩

set_option maxRecDepth 100000 in
theorem chartularylaw05_PaperChecks.forms : chartularylaw05_PaperChecks.fd.formsOk = true := by kernel_rfl
set_option maxRecDepth 100000 in
theorem chartularylaw05_PaperChecks.vc : chartularylaw05_PaperChecks.fd.vc tt Γ := ⟨fun d => by kernel_rfl, fun k d => by kernel_rfl, ⟨trivial, ⟨trivial, ⟨trivial, trivial, trivial⟩, trivial⟩, trivial⟩⟩
set_option maxRecDepth 100000 in
theorem chartularylaw05_PaperChecks.ok : FnOk Try.prog tt Γ 4 chartularylaw05_PaperChecks.fd := ⟨by kernel_rfl, by kernel_rfl, enters_ok (fn := Try.f4) (by kernel_rfl) (by kernel_rfl) (by kernel_rfl), chartularylaw05_PaperChecks.forms, chartularylaw05_PaperChecks.vc⟩

set_option maxRecDepth 100000 in
theorem paper_Find_1_v0.forms : paper_Find_1_v0.fd.formsOk = true := by kernel_rfl
set_option maxRecDepth 100000 in
theorem paper_Find_1_v0.vc : paper_Find_1_v0.fd.vc tt Γ := ⟨fun d => by kernel_rfl, fun k d => by kernel_rfl, ⟨trivial, ⟨trivial, trivial, trivial⟩, trivial⟩⟩
set_option maxRecDepth 100000 in
theorem paper_Find_1_v0.ok : FnOk Try.prog tt Γ 29 paper_Find_1_v0.fd := ⟨by kernel_rfl, by kernel_rfl, enters_ok (fn := Try.f29) (by kernel_rfl) (by kernel_rfl) (by kernel_rfl), paper_Find_1_v0.forms, paper_Find_1_v0.vc⟩

set_option maxRecDepth 100000 in
theorem slices_IndexFunc_api_Field_v0.forms : slices_IndexFunc_api_Field_v0.fd.formsOk = true := by kernel_rfl
set_option maxRecDepth 100000 in
theorem slices_IndexFunc_api_Field_v0.vc : slices_IndexFunc_api_Field_v0.fd.vc tt Γ := ⟨fun d => by kernel_rfl, fun k d => by kernel_rfl, ⟨trivial, ⟨⟨trivial, ⟨⟨trivial, ⟨⟨trivial, trivial⟩, ⟨⟨trivial, ⟨trivial, ⟨⟨trivial, trivial, trivial⟩, trivial⟩, trivial⟩, trivial⟩, trivial, trivial⟩, trivial⟩, trivial⟩, ⟨fun d => by kernel_rfl, fun k d => by kernel_rfl⟩⟩, trivial⟩, ⟨trivial, trivial, trivial⟩, trivial⟩, trivial⟩⟩
set_option maxRecDepth 100000 in
theorem slices_IndexFunc_api_Field_v0.ok : FnOk Try.prog tt Γ 28 slices_IndexFunc_api_Field_v0.fd := ⟨by kernel_rfl, by kernel_rfl, enters_ok (fn := Try.f28) (by kernel_rfl) (by kernel_rfl) (by kernel_rfl), slices_IndexFunc_api_Field_v0.forms, slices_IndexFunc_api_Field_v0.vc⟩

set_option maxRecDepth 100000 in
theorem paper_Find.forms : paper_Find.fd.formsOk = true := by kernel_rfl
set_option maxRecDepth 100000 in
theorem paper_Find.vc : paper_Find.fd.vc tt Γ := ⟨fun d => by kernel_rfl, fun k d => by kernel_rfl, ⟨trivial, ⟨trivial, trivial, trivial⟩, trivial⟩⟩
set_option maxRecDepth 100000 in
theorem paper_Find.ok : FnOk Try.prog tt Γ 18 paper_Find.fd := ⟨by kernel_rfl, by kernel_rfl, enters_ok (fn := Try.f18) (by kernel_rfl) (by kernel_rfl) (by kernel_rfl), paper_Find.forms, paper_Find.vc⟩

set_option maxRecDepth 100000 in
theorem slices_Equal_api_Field.forms : slices_Equal_api_Field.fd.formsOk = true := by kernel_rfl
set_option maxRecDepth 100000 in
theorem slices_Equal_api_Field.vc : slices_Equal_api_Field.fd.vc tt Γ := ⟨fun d => by kernel_rfl, fun k d => by kernel_rfl, ⟨trivial, ⟨⟨trivial, ⟨⟨trivial, trivial, trivial⟩, trivial⟩, trivial⟩, ⟨⟨trivial, ⟨⟨trivial, ⟨⟨trivial, trivial⟩, ⟨⟨trivial, ⟨trivial, ⟨⟨trivial, trivial, trivial⟩, trivial⟩, trivial⟩, trivial⟩, trivial, trivial⟩, trivial⟩, trivial⟩, ⟨fun d => by kernel_rfl, fun k d => by kernel_rfl⟩⟩, trivial⟩, ⟨trivial, trivial, trivial⟩, trivial⟩, trivial⟩, trivial⟩⟩
set_option maxRecDepth 100000 in
theorem slices_Equal_api_Field.ok : FnOk Try.prog tt Γ 30 slices_Equal_api_Field.fd := ⟨by kernel_rfl, by kernel_rfl, enters_ok (fn := Try.f30) (by kernel_rfl) (by kernel_rfl) (by kernel_rfl), slices_Equal_api_Field.forms, slices_Equal_api_Field.vc⟩

set_option maxRecDepth 100000 in
theorem paper_Same.forms : paper_Same.fd.formsOk = true := by kernel_rfl
set_option maxRecDepth 100000 in
theorem paper_Same.vc : paper_Same.fd.vc tt Γ := ⟨fun d => by kernel_rfl, fun k d => by kernel_rfl, ⟨trivial, ⟨trivial, ⟨trivial, trivial, trivial⟩, trivial⟩, trivial⟩⟩
set_option maxRecDepth 100000 in
theorem paper_Same.ok : FnOk Try.prog tt Γ 19 paper_Same.fd := ⟨by kernel_rfl, by kernel_rfl, enters_ok (fn := Try.f19) (by kernel_rfl) (by kernel_rfl) (by kernel_rfl), paper_Same.forms, paper_Same.vc⟩

set_option maxRecDepth 100000 in
theorem chartularylaw05_PaperSames.forms : chartularylaw05_PaperSames.fd.formsOk = true := by kernel_rfl
set_option maxRecDepth 100000 in
theorem chartularylaw05_PaperSames.vc : chartularylaw05_PaperSames.fd.vc tt Γ := ⟨fun d => by kernel_rfl, fun k d => by kernel_rfl, ⟨trivial, ⟨trivial, ⟨trivial, ⟨trivial, ⟨⟨trivial, ⟨⟨⟨trivial, ⟨trivial, trivial⟩, trivial⟩, ⟨⟨trivial, ⟨trivial, trivial⟩, trivial⟩, trivial, trivial⟩, trivial⟩, ⟨fun d => by kernel_rfl, fun k d => by kernel_rfl⟩⟩, trivial⟩, ⟨trivial, ⟨⟨trivial, ⟨⟨trivial, trivial, trivial⟩, trivial⟩, trivial⟩, ⟨trivial, ⟨trivial, ⟨trivial, trivial, trivial⟩, trivial⟩, trivial⟩, ⟨fun d => by kernel_rfl, fun k d => by kernel_rfl⟩⟩, trivial⟩, trivial⟩, trivial⟩, trivial⟩, trivial⟩, trivial⟩⟩
set_option maxRecDepth 100000 in
theorem chartularylaw05_PaperSames.ok : FnOk Try.prog tt Γ 5 chartularylaw05_PaperSames.fd := ⟨by kernel_rfl, by kernel_rfl, enters_ok (fn := Try.f5) (by kernel_rfl) (by kernel_rfl) (by kernel_rfl), chartularylaw05_PaperSames.forms, chartularylaw05_PaperSames.vc⟩

set_option maxRecDepth 100000 in
theorem octet_Read.forms : octet_Read.fd.formsOk = true := by kernel_rfl
set_option maxRecDepth 100000 in
theorem octet_Read.vc : octet_Read.fd.vc tt Γ := ⟨fun d => by kernel_rfl, fun k d => by kernel_rfl, ⟨trivial, ⟨trivial, trivial, trivial⟩, trivial⟩⟩
set_option maxRecDepth 100000 in
theorem octet_Read.ok : FnOk Try.prog tt Γ 35 octet_Read.fd := ⟨by kernel_rfl, by kernel_rfl, enters_ok (fn := Try.f35) (by kernel_rfl) (by kernel_rfl) (by kernel_rfl), octet_Read.forms, octet_Read.vc⟩

set_option maxRecDepth 100000 in
theorem octet_Reader_Err.forms : octet_Reader_Err.fd.formsOk = true := by kernel_rfl
set_option maxRecDepth 100000 in
theorem octet_Reader_Err.vc : octet_Reader_Err.fd.vc tt Γ := ⟨fun d => by kernel_rfl, fun k d => by kernel_rfl, ⟨trivial, ⟨⟨trivial, ⟨⟨trivial, trivial, trivial⟩, trivial⟩, trivial⟩, ⟨trivial, trivial, trivial⟩, trivial⟩, trivial⟩⟩
set_option maxRecDepth 100000 in
theorem octet_Reader_Err.ok : FnOk Try.prog tt Γ 38 octet_Reader_Err.fd := ⟨by kernel_rfl, by kernel_rfl, enters_ok (fn := Try.f38) (by kernel_rfl) (by kernel_rfl) (by kernel_rfl), octet_Reader_Err.forms, octet_Reader_Err.vc⟩

set_option maxRecDepth 100000 in
theorem octet_Reader_Fail.forms : octet_Reader_Fail.fd.formsOk = true := by kernel_rfl
set_option maxRecDepth 100000 in
theorem octet_Reader_Fail.vc : octet_Reader_Fail.fd.vc tt Γ := ⟨fun d => by kernel_rfl, fun k d => by kernel_rfl, ⟨trivial, ⟨trivial, trivial⟩, trivial⟩⟩
set_option maxRecDepth 100000 in
theorem octet_Reader_Fail.ok : FnOk Try.prog tt Γ 40 octet_Reader_Fail.fd := ⟨by kernel_rfl, by kernel_rfl, enters_ok (fn := Try.f40) (by kernel_rfl) (by kernel_rfl) (by kernel_rfl), octet_Reader_Fail.forms, octet_Reader_Fail.vc⟩

set_option maxRecDepth 100000 in
theorem octet_Reader_Raw.forms : octet_Reader_Raw.fd.formsOk = true := by kernel_rfl
set_option maxRecDepth 100000 in
theorem octet_Reader_Raw.vc : octet_Reader_Raw.fd.vc tt Γ := ⟨fun d => by kernel_rfl, fun k d => by kernel_rfl, ⟨trivial, ⟨⟨trivial, ⟨⟨trivial, trivial, trivial⟩, ⟨trivial, ⟨⟨trivial, ⟨trivial, trivial, trivial⟩, trivial⟩, ⟨trivial, ⟨⟨trivial, ⟨trivial, trivial, trivial⟩, trivial⟩, trivial⟩, trivial⟩⟩, trivial⟩⟩, trivial⟩, ⟨trivial, ⟨trivial, trivial, trivial⟩, trivial⟩, trivial⟩, trivial⟩⟩
set_option maxRecDepth 100000 in
theorem octet_Reader_Raw.ok : FnOk Try.prog tt Γ 51 octet_Reader_Raw.fd := ⟨by kernel_rfl, by kernel_rfl, enters_ok (fn := Try.f51) (by kernel_rfl) (by kernel_rfl) (by kernel_rfl), octet_Reader_Raw.forms, octet_Reader_Raw.vc⟩

set_option maxRecDepth 100000 in
theorem octet_Reader_Num.forms : octet_Reader_Num.fd.formsOk = true := by kernel_rfl
set_option maxRecDepth 100000 in
theorem octet_Reader_Num.vc : octet_Reader_Num.fd.vc tt Γ := ⟨fun d => by kernel_rfl, fun k d => by kernel_rfl, ⟨trivial, ⟨trivial, ⟨⟨trivial, ⟨⟨trivial, trivial, trivial⟩, trivial⟩, trivial⟩, ⟨trivial, ⟨⟨trivial, ⟨⟨trivial, ⟨trivial, trivial, trivial⟩, trivial⟩, trivial⟩, trivial⟩, ⟨trivial, ⟨⟨trivial, ⟨⟨trivial, ⟨⟨trivial, trivial⟩, ⟨⟨trivial, ⟨⟨trivial, ⟨⟨trivial, ⟨trivial, trivial, trivial⟩, trivial⟩, trivial⟩, trivial⟩, trivial, trivial⟩, trivial⟩, trivial, trivial⟩, trivial⟩, trivial⟩, ⟨fun d => by kernel_rfl, fun k d => by kernel_rfl⟩⟩, trivial⟩, ⟨⟨trivial, ⟨⟨trivial, trivial, trivial⟩, trivial⟩, trivial⟩, ⟨⟨trivial, ⟨⟨trivial, ⟨trivial, trivial, trivial⟩, trivial⟩, trivial⟩, trivial⟩, ⟨trivial, trivial, trivial⟩, trivial⟩, trivial⟩, trivial⟩, trivial⟩, trivial⟩, trivial⟩, trivial⟩, trivial⟩, trivial⟩⟩
set_option maxRecDepth 100000 in
theorem octet_Reader_Num.ok : FnOk Try.prog tt Γ 37 octet_Reader_Num.fd := ⟨by kernel_rfl, by kernel_rfl, enters_ok (fn := Try.f37) (by kernel_rfl) (by kernel_rfl) (by kernel_rfl), octet_Reader_Num.forms, octet_Reader_Num.vc⟩

set_option maxRecDepth 100000 in
theorem octet_Reader_Text.forms : octet_Reader_Text.fd.formsOk = true := by kernel_rfl
set_option maxRecDepth 100000 in
theorem octet_Reader_Text.vc : octet_Reader_Text.fd.vc tt Γ := ⟨fun d => by kernel_rfl, fun k d => by kernel_rfl, ⟨trivial, ⟨trivial, trivial, trivial⟩, trivial⟩⟩
set_option maxRecDepth 100000 in
theorem octet_Reader_Text.ok : FnOk Try.prog tt Γ 36 octet_Reader_Text.fd := ⟨by kernel_rfl, by kernel_rfl, enters_ok (fn := Try.f36) (by kernel_rfl) (by kernel_rfl) (by kernel_rfl), octet_Reader_Text.forms, octet_Reader_Text.vc⟩

set_option maxRecDepth 100000 in
theorem octet_Reader_Left.forms : octet_Reader_Left.fd.formsOk = true := by kernel_rfl
set_option maxRecDepth 100000 in
theorem octet_Reader_Left.vc : octet_Reader_Left.fd.vc tt Γ := ⟨fun d => by kernel_rfl, fun k d => by kernel_rfl, ⟨trivial, ⟨⟨trivial, ⟨⟨trivial, trivial, trivial⟩, trivial⟩, trivial⟩, ⟨trivial, trivial, trivial⟩, trivial⟩, trivial⟩⟩
set_option maxRecDepth 100000 in
theorem octet_Reader_Left.ok : FnOk Try.prog tt Γ 54 octet_Reader_Left.fd := ⟨by kernel_rfl, by kernel_rfl, enters_ok (fn := Try.f54) (by kernel_rfl) (by kernel_rfl) (by kernel_rfl), octet_Reader_Left.forms, octet_Reader_Left.vc⟩

set_option maxRecDepth 100000 in
theorem octet_Reader_End.forms : octet_Reader_End.fd.formsOk = true := by kernel_rfl
set_option maxRecDepth 100000 in
theorem octet_Reader_End.vc : octet_Reader_End.fd.vc tt Γ := ⟨fun d => by kernel_rfl, fun k d => by kernel_rfl, ⟨trivial, ⟨⟨trivial, ⟨trivial, trivial⟩, trivial⟩, ⟨trivial, trivial, trivial⟩, trivial⟩, trivial⟩⟩
set_option maxRecDepth 100000 in
theorem octet_Reader_End.ok : FnOk Try.prog tt Γ 41 octet_Reader_End.fd := ⟨by kernel_rfl, by kernel_rfl, enters_ok (fn := Try.f41) (by kernel_rfl) (by kernel_rfl) (by kernel_rfl), octet_Reader_End.forms, octet_Reader_End.vc⟩

set_option maxRecDepth 100000 in
theorem octet_Reader_Flag.forms : octet_Reader_Flag.fd.formsOk = true := by kernel_rfl
set_option maxRecDepth 100000 in
theorem octet_Reader_Flag.vc : octet_Reader_Flag.fd.vc tt Γ := ⟨fun d => by kernel_rfl, fun k d => by kernel_rfl, ⟨trivial, ⟨trivial, ⟨⟨trivial, ⟨⟨trivial, ⟨trivial, trivial, trivial⟩, trivial⟩, trivial⟩, trivial⟩, ⟨trivial, trivial, trivial⟩, trivial⟩, trivial⟩, trivial⟩⟩
set_option maxRecDepth 100000 in
theorem octet_Reader_Flag.ok : FnOk Try.prog tt Γ 52 octet_Reader_Flag.fd := ⟨by kernel_rfl, by kernel_rfl, enters_ok (fn := Try.f52) (by kernel_rfl) (by kernel_rfl) (by kernel_rfl), octet_Reader_Flag.forms, octet_Reader_Flag.vc⟩

set_option maxRecDepth 100000 in
theorem value_of.forms : value_of.fd.formsOk = true := by kernel_rfl
set_option maxRecDepth 100000 in
theorem value_of.vc : value_of.fd.vc tt Γ := ⟨fun d => by kernel_rfl, fun k d => by kernel_rfl, ⟨trivial, ⟨trivial, ⟨⟨trivial, ⟨⟨trivial, ⟨⟨trivial, trivial⟩, ⟨⟨trivial, trivial, trivial⟩, trivial, trivial⟩, trivial⟩, trivial⟩, ⟨fun d => by kernel_rfl, fun k d => by kernel_rfl⟩⟩, trivial⟩, ⟨trivial, trivial, trivial⟩, trivial⟩, trivial⟩, trivial⟩⟩
set_option maxRecDepth 100000 in
theorem value_of.ok : FnOk Try.prog tt Γ 53 value_of.fd := ⟨by kernel_rfl, by kernel_rfl, enters_ok (fn := Try.f53) (by kernel_rfl) (by kernel_rfl) (by kernel_rfl), value_of.forms, value_of.vc⟩

set_option maxRecDepth 100000 in
theorem value_Read.forms : value_Read.fd.formsOk = true := by kernel_rfl
set_option maxRecDepth 100000 in
theorem value_Read.vc : value_Read.fd.vc tt Γ := ⟨fun d => by kernel_rfl, fun k d => by kernel_rfl, ⟨trivial, ⟨trivial, ⟨trivial, ⟨⟨trivial, ⟨trivial, ⟨trivial, ⟨trivial, ⟨trivial, ⟨trivial, ⟨trivial, ⟨trivial, ⟨trivial, trivial⟩, trivial⟩⟩, trivial⟩⟩, trivial⟩⟩, trivial⟩, trivial⟩, ⟨⟨trivial, ⟨trivial, ⟨⟨trivial, trivial, trivial⟩, trivial⟩, trivial⟩, trivial⟩, ⟨⟨trivial, ⟨⟨trivial, trivial, trivial⟩, trivial⟩, trivial⟩, ⟨trivial, trivial, trivial⟩, trivial⟩, trivial⟩, ⟨fun d => by kernel_rfl, fun k d => by kernel_rfl⟩⟩, trivial⟩, trivial⟩, trivial⟩⟩
set_option maxRecDepth 100000 in
theorem value_Read.ok : FnOk Try.prog tt Γ 39 value_Read.fd := ⟨by kernel_rfl, by kernel_rfl, enters_ok (fn := Try.f39) (by kernel_rfl) (by kernel_rfl) (by kernel_rfl), value_Read.forms, value_Read.vc⟩

set_option maxRecDepth 100000 in
theorem paper_Read.forms : paper_Read.fd.formsOk = true := by kernel_rfl
set_option maxRecDepth 100000 in
theorem paper_Read.vc : paper_Read.fd.vc tt Γ := ⟨fun d => by kernel_rfl, fun k d => by kernel_rfl, ⟨trivial, ⟨trivial, ⟨trivial, ⟨⟨trivial, ⟨⟨trivial, ⟨⟨trivial, trivial⟩, ⟨⟨trivial, ⟨trivial, ⟨⟨trivial, ⟨trivial, trivial⟩, trivial⟩, ⟨trivial, ⟨trivial, ⟨trivial, trivial, trivial⟩, trivial⟩, trivial⟩, trivial⟩, trivial⟩, trivial⟩, trivial, trivial⟩, trivial⟩, trivial⟩, ⟨fun d => by kernel_rfl, fun k d => by kernel_rfl⟩⟩, trivial⟩, ⟨⟨trivial, ⟨trivial, ⟨⟨trivial, trivial, trivial⟩, trivial⟩, trivial⟩, trivial⟩, ⟨⟨trivial, ⟨trivial, ⟨⟨trivial, trivial, trivial⟩, trivial⟩, trivial⟩, trivial⟩, ⟨trivial, trivial, trivial⟩, trivial⟩, trivial⟩, ⟨fun d => by kernel_rfl, fun k d => by kernel_rfl⟩⟩, trivial⟩, trivial⟩, trivial⟩⟩
set_option maxRecDepth 100000 in
theorem paper_Read.ok : FnOk Try.prog tt Γ 21 paper_Read.fd := ⟨by kernel_rfl, by kernel_rfl, enters_ok (fn := Try.f21) (by kernel_rfl) (by kernel_rfl) (by kernel_rfl), paper_Read.forms, paper_Read.vc⟩

set_option maxRecDepth 100000 in
theorem chartularylaw05_bytes.forms : chartularylaw05_bytes.fd.formsOk = true := by kernel_rfl
set_option maxRecDepth 100000 in
theorem chartularylaw05_bytes.vc : chartularylaw05_bytes.fd.vc tt Γ := ⟨fun d => by kernel_rfl, fun k d => by kernel_rfl, ⟨trivial, ⟨trivial, ⟨⟨trivial, ⟨⟨⟨trivial, ⟨trivial, trivial⟩, trivial⟩, ⟨trivial, trivial, trivial⟩, trivial⟩, ⟨fun d => by kernel_rfl, fun k d => by kernel_rfl⟩⟩, trivial⟩, ⟨trivial, trivial, trivial⟩, trivial⟩, trivial⟩, trivial⟩⟩
set_option maxRecDepth 100000 in
theorem chartularylaw05_bytes.ok : FnOk Try.prog tt Γ 22 chartularylaw05_bytes.fd := ⟨by kernel_rfl, by kernel_rfl, enters_ok (fn := Try.f22) (by kernel_rfl) (by kernel_rfl) (by kernel_rfl), chartularylaw05_bytes.forms, chartularylaw05_bytes.vc⟩

set_option maxRecDepth 100000 in
theorem chartularylaw05_PaperBytes.forms : chartularylaw05_PaperBytes.fd.formsOk = true := by kernel_rfl
set_option maxRecDepth 100000 in
theorem chartularylaw05_PaperBytes.vc : chartularylaw05_PaperBytes.fd.vc tt Γ := ⟨fun d => by kernel_rfl, fun k d => by kernel_rfl, ⟨trivial, ⟨trivial, ⟨trivial, ⟨⟨trivial, ⟨⟨trivial, trivial, trivial⟩, trivial⟩, trivial⟩, ⟨trivial, ⟨trivial, trivial, trivial⟩, trivial⟩, trivial⟩, trivial⟩, trivial⟩, trivial⟩⟩
set_option maxRecDepth 100000 in
theorem chartularylaw05_PaperBytes.ok : FnOk Try.prog tt Γ 6 chartularylaw05_PaperBytes.fd := ⟨by kernel_rfl, by kernel_rfl, enters_ok (fn := Try.f6) (by kernel_rfl) (by kernel_rfl) (by kernel_rfl), chartularylaw05_PaperBytes.forms, chartularylaw05_PaperBytes.vc⟩

set_option maxRecDepth 100000 in
theorem chartularylaw05_PaperReads.forms : chartularylaw05_PaperReads.fd.formsOk = true := by kernel_rfl
set_option maxRecDepth 100000 in
theorem chartularylaw05_PaperReads.vc : chartularylaw05_PaperReads.fd.vc tt Γ := ⟨fun d => by kernel_rfl, fun k d => by kernel_rfl, ⟨trivial, ⟨⟨trivial, ⟨trivial, trivial⟩, trivial⟩, ⟨trivial, ⟨⟨trivial, ⟨⟨trivial, trivial, trivial⟩, trivial⟩, trivial⟩, ⟨trivial, trivial, trivial⟩, trivial⟩, trivial⟩, ⟨fun d => by kernel_rfl, fun k d => by kernel_rfl⟩⟩, trivial⟩⟩
set_option maxRecDepth 100000 in
theorem chartularylaw05_PaperReads.ok : FnOk Try.prog tt Γ 7 chartularylaw05_PaperReads.fd := ⟨by kernel_rfl, by kernel_rfl, enters_ok (fn := Try.f7) (by kernel_rfl) (by kernel_rfl) (by kernel_rfl), chartularylaw05_PaperReads.forms, chartularylaw05_PaperReads.vc⟩

noncomputable def ents : Gam := [(59, [strCmp])]
theorem ent59_run : ∀ (a b : ByteArray) (w : World), (callFunc 59 #[.string a, .string b]).run Try.prog w = .ok (.value (.int .i64 (Lib.compareBytes a.data.toList b.data.toList))) w := fun a b w => by
  rw [run_callFunc_extern (fn := Try.f59) (by kernel_rfl) (by kernel_rfl) (by kernel_rfl) (by kernel_rfl) (e := Extern.BytealgCompare.compare) (by kernel_rfl), Lib.run_compareString]
  rfl
theorem ents_ok : GamOk Try.prog ents := (GamOk.cons (strCmp_ok ent59_run) GamOk.nil)
noncomputable def tab : Tab := [(45, value_nan.fd), (24, value_Clean.fd), (57, bytealg_CompareString.fd), (47, strings_Compare.fd), (26, paper_byName.fd), (55, slices_insertionSortCmpFunc_api_Field_v0.fd), (60, slices_swapRangeCmpFunc_api_Field_v0.fd), (58, slices_rotateCmpFunc_api_Field_v0.fd), (56, slices_symMergeCmpFunc_api_Field_v0.fd), (46, slices_stableCmpFunc_api_Field_v0.fd), (25, slices_SortStableFunc_api_Field_v0.fd), (14, paper_Tidy.fd), (44, paper_sign.fd), (23, paper_word.fd), (8, paper_IsID.fd), (10, paper_IsName.fd), (27, value_Right.fd), (16, paper_Check.fd), (43, octet_Num.fd), (42, octet_Text.fd), (31, octet_Writer_Text.fd), (32, octet_Writer_Num.fd), (34, octet_Writer_All.fd), (48, octet_Writer_Flag.fd), (49, octet_Writer_Raw.fd), (50, value_eight.fd), (33, value_Bytes.fd), (20, paper_Bytes.fd), (11, chartularylaw05_awake.fd), (12, chartularylaw05_Few.fd), (13, chartularylaw05_same.fd), (15, chartularylaw05_tidy.fd), (9, chartularylaw05_word.fd), (17, chartularylaw05_check.fd), (4, chartularylaw05_PaperChecks.fd), (29, paper_Find_1_v0.fd), (28, slices_IndexFunc_api_Field_v0.fd), (18, paper_Find.fd), (30, slices_Equal_api_Field.fd), (19, paper_Same.fd), (5, chartularylaw05_PaperSames.fd), (35, octet_Read.fd), (38, octet_Reader_Err.fd), (40, octet_Reader_Fail.fd), (51, octet_Reader_Raw.fd), (37, octet_Reader_Num.fd), (36, octet_Reader_Text.fd), (54, octet_Reader_Left.fd), (41, octet_Reader_End.fd), (52, octet_Reader_Flag.fd), (53, value_of.fd), (39, value_Read.fd), (21, paper_Read.fd), (22, chartularylaw05_bytes.fd), (6, chartularylaw05_PaperBytes.fd), (7, chartularylaw05_PaperReads.fd)]
theorem Γ_eq (k : Nat) : Γ k = gamK tab k ++ ents := by kernel_rfl
theorem tt_ok : TTok Try.prog tt := ttB_ok (by kernel_rfl)
theorem mixed : Try.prog.follows .mixedOrders = true := by kernel_rfl
theorem tab_all : ∀ x ∈ tab, FnOk Try.prog tt Γ x.1 x.2 := by
  unfold tab
  simp only [List.forall_mem_cons]
  exact ⟨value_nan.ok, value_Clean.ok, bytealg_CompareString.ok, strings_Compare.ok, paper_byName.ok, slices_insertionSortCmpFunc_api_Field_v0.ok, slices_swapRangeCmpFunc_api_Field_v0.ok, slices_rotateCmpFunc_api_Field_v0.ok, slices_symMergeCmpFunc_api_Field_v0.ok, slices_stableCmpFunc_api_Field_v0.ok, slices_SortStableFunc_api_Field_v0.ok, paper_Tidy.ok, paper_sign.ok, paper_word.ok, paper_IsID.ok, paper_IsName.ok, value_Right.ok, paper_Check.ok, octet_Num.ok, octet_Text.ok, octet_Writer_Text.ok, octet_Writer_Num.ok, octet_Writer_All.ok, octet_Writer_Flag.ok, octet_Writer_Raw.ok, value_eight.ok, value_Bytes.ok, paper_Bytes.ok, chartularylaw05_awake.ok, chartularylaw05_Few.ok, chartularylaw05_same.ok, chartularylaw05_tidy.ok, chartularylaw05_word.ok, chartularylaw05_check.ok, chartularylaw05_PaperChecks.ok, paper_Find_1_v0.ok, slices_IndexFunc_api_Field_v0.ok, paper_Find.ok, slices_Equal_api_Field.ok, paper_Same.ok, chartularylaw05_PaperSames.ok, octet_Read.ok, octet_Reader_Err.ok, octet_Reader_Fail.ok, octet_Reader_Raw.ok, octet_Reader_Num.ok, octet_Reader_Text.ok, octet_Reader_Left.ok, octet_Reader_End.ok, octet_Reader_Flag.ok, value_of.ok, value_Read.ok, paper_Read.ok, chartularylaw05_bytes.ok, chartularylaw05_PaperBytes.ok, chartularylaw05_PaperReads.ok, fun x h => nomatch h⟩
theorem chartularylaw05_PaperChecks.spec (k : Nat) : SpecOk Try.prog 4 (chartularylaw05_PaperChecks.fd.sp k) := spec_ok mixed tt_ok Γ_eq ents_ok tab_all (f := 4) (F := chartularylaw05_PaperChecks.fd) (by unfold tab; simp only [List.mem_cons, true_or, or_true]) k
theorem chartularylaw05_PaperSames.spec (k : Nat) : SpecOk Try.prog 5 (chartularylaw05_PaperSames.fd.sp k) := spec_ok mixed tt_ok Γ_eq ents_ok tab_all (f := 5) (F := chartularylaw05_PaperSames.fd) (by unfold tab; simp only [List.mem_cons, true_or, or_true]) k
theorem chartularylaw05_PaperBytes.spec (k : Nat) : SpecOk Try.prog 6 (chartularylaw05_PaperBytes.fd.sp k) := spec_ok mixed tt_ok Γ_eq ents_ok tab_all (f := 6) (F := chartularylaw05_PaperBytes.fd) (by unfold tab; simp only [List.mem_cons, true_or, or_true]) k
theorem chartularylaw05_PaperReads.spec (k : Nat) : SpecOk Try.prog 7 (chartularylaw05_PaperReads.fd.sp k) := spec_ok mixed tt_ok Γ_eq ents_ok tab_all (f := 7) (F := chartularylaw05_PaperReads.fd) (by unfold tab; simp only [List.mem_cons, true_or, or_true]) k

end Go.Proofs.Ytabdmnoejoiboaa.E
