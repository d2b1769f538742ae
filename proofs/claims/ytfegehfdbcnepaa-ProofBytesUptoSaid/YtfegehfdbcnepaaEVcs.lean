import Derived.Test.YtfegehfdbcnepaaEDefs
import Derived.Test.YtfegehfdbcnepaaETab
namespace Go.Proofs.Ytfegehfdbcnepaa.E
open Go Go.Proofs.Ytfegehfdbcnepaa.Eng Go.Proofs
set_option maxRecDepth 100000 in
theorem chartularylaw19_cut.forms : chartularylaw19_cut.fd.formsOk = true := by kernel_rfl
set_option maxRecDepth 100000 in
theorem chartularylaw19_cut.vc : chartularylaw19_cut.fd.vc tt Γ := ⟨fun d => by kernel_rfl, fun k d => by kernel_rfl, ⟨trivial, ⟨⟨trivial, ⟨⟨trivial, trivial, trivial⟩, trivial⟩, trivial⟩, ⟨trivial, trivial, trivial⟩, trivial⟩, trivial⟩⟩
set_option maxRecDepth 100000 in
theorem chartularylaw19_cut.ok : FnOk Try.prog tt Γ 13 chartularylaw19_cut.fd := ⟨by kernel_rfl, by kernel_rfl, enters_ok (fn := Try.f13) (by kernel_rfl) (by kernel_rfl) (by kernel_rfl), chartularylaw19_cut.forms, chartularylaw19_cut.vc⟩

set_option maxRecDepth 100000 in
theorem chartularylaw19_texts.forms : chartularylaw19_texts.fd.formsOk = true := by kernel_rfl
set_option maxRecDepth 100000 in
theorem chartularylaw19_texts.vc : chartularylaw19_texts.fd.vc tt Γ := ⟨fun d => by kernel_rfl, fun k d => by kernel_rfl, ⟨trivial, ⟨trivial, ⟨⟨trivial, ⟨⟨⟨trivial, ⟨trivial, trivial⟩, trivial⟩, ⟨trivial, trivial, trivial⟩, trivial⟩, ⟨fun d => by kernel_rfl, fun k d => by kernel_rfl⟩⟩, trivial⟩, ⟨trivial, trivial, trivial⟩, trivial⟩, trivial⟩, trivial⟩⟩
set_option maxRecDepth 100000 in
theorem chartularylaw19_texts.ok : FnOk Try.prog tt Γ 14 chartularylaw19_texts.fd := ⟨by kernel_rfl, by kernel_rfl, enters_ok (fn := Try.f14) (by kernel_rfl) (by kernel_rfl) (by kernel_rfl), chartularylaw19_texts.forms, chartularylaw19_texts.vc⟩

set_option maxRecDepth 100000 in
theorem chartularylaw19_Few.forms : chartularylaw19_Few.fd.formsOk = true := by kernel_rfl
set_option maxRecDepth 100000 in
theorem chartularylaw19_Few.vc : chartularylaw19_Few.fd.vc tt Γ := ⟨fun d => by kernel_rfl, fun k d => by kernel_rfl, ⟨trivial, ⟨trivial, ⟨trivial, ⟨trivial, ⟨trivial, ⟨⟨trivial, ⟨⟨⟨trivial, ⟨trivial, trivial⟩, trivial⟩, ⟨⟨trivial, trivial, trivial⟩, trivial, trivial⟩, trivial⟩, ⟨fun d => by kernel_rfl, fun k d => by kernel_rfl⟩⟩, trivial⟩, ⟨trivial, ⟨trivial, trivial, trivial⟩, trivial⟩, trivial⟩, trivial⟩, trivial⟩, trivial⟩, trivial⟩, trivial⟩⟩
set_option maxRecDepth 100000 in
theorem chartularylaw19_Few.ok : FnOk Try.prog tt Γ 8 chartularylaw19_Few.fd := ⟨by kernel_rfl, by kernel_rfl, enters_ok (fn := Try.f8) (by kernel_rfl) (by kernel_rfl) (by kernel_rfl), chartularylaw19_Few.forms, chartularylaw19_Few.vc⟩

set_option maxRecDepth 100000 in
theorem chartularylaw19_sums.forms : chartularylaw19_sums.fd.formsOk = true := by kernel_rfl
set_option maxRecDepth 100000 in
theorem chartularylaw19_sums.vc : chartularylaw19_sums.fd.vc tt Γ := ⟨fun d => by kernel_rfl, fun k d => by kernel_rfl, ⟨trivial, ⟨⟨trivial, ⟨⟨⟨trivial, ⟨trivial, trivial⟩, trivial⟩, ⟨⟨trivial, ⟨⟨trivial, trivial, trivial⟩, trivial⟩, trivial⟩, trivial, trivial⟩, trivial⟩, ⟨fun d => by kernel_rfl, fun k d => by kernel_rfl⟩⟩, trivial⟩, ⟨trivial, trivial, trivial⟩, trivial⟩, trivial⟩⟩
set_option maxRecDepth 100000 in
theorem chartularylaw19_sums.ok : FnOk Try.prog tt Γ 16 chartularylaw19_sums.fd := ⟨by kernel_rfl, by kernel_rfl, enters_ok (fn := Try.f16) (by kernel_rfl) (by kernel_rfl) (by kernel_rfl), chartularylaw19_sums.forms, chartularylaw19_sums.vc⟩

set_option maxRecDepth 100000 in
theorem paper_sign.forms : paper_sign.fd.formsOk = true := by kernel_rfl
set_option maxRecDepth 100000 in
theorem paper_sign.vc : paper_sign.fd.vc tt Γ := ⟨fun d => by kernel_rfl, fun k d => by kernel_rfl, ⟨trivial, ⟨trivial, trivial, trivial⟩, trivial⟩⟩
set_option maxRecDepth 100000 in
theorem paper_sign.ok : FnOk Try.prog tt Γ 48 paper_sign.fd := ⟨by kernel_rfl, by kernel_rfl, enters_ok (fn := Try.f48) (by kernel_rfl) (by kernel_rfl) (by kernel_rfl), paper_sign.forms, paper_sign.vc⟩

set_option maxRecDepth 100000 in
theorem paper_word.forms : paper_word.fd.formsOk = true := by kernel_rfl
set_option maxRecDepth 100000 in
theorem paper_word.vc : paper_word.fd.vc tt Γ := ⟨fun d => by kernel_rfl, fun k d => by kernel_rfl, ⟨trivial, ⟨⟨trivial, ⟨⟨trivial, trivial, trivial⟩, trivial⟩, trivial⟩, ⟨⟨trivial, ⟨⟨trivial, ⟨⟨trivial, trivial⟩, ⟨⟨trivial, ⟨trivial, ⟨⟨trivial, trivial, trivial⟩, trivial⟩, trivial⟩, trivial⟩, trivial, trivial⟩, trivial⟩, trivial⟩, ⟨fun d => by kernel_rfl, fun k d => by kernel_rfl⟩⟩, trivial⟩, ⟨trivial, trivial, trivial⟩, trivial⟩, ⟨fun d => by kernel_rfl, fun k d => by kernel_rfl⟩⟩, trivial⟩⟩
set_option maxRecDepth 100000 in
theorem paper_word.ok : FnOk Try.prog tt Γ 42 paper_word.fd := ⟨by kernel_rfl, by kernel_rfl, enters_ok (fn := Try.f42) (by kernel_rfl) (by kernel_rfl) (by kernel_rfl), paper_word.forms, paper_word.vc⟩

set_option maxRecDepth 100000 in
theorem paper_IsID.forms : paper_IsID.fd.formsOk = true := by kernel_rfl
set_option maxRecDepth 100000 in
theorem paper_IsID.vc : paper_IsID.fd.vc tt Γ := ⟨fun d => by kernel_rfl, fun k d => by kernel_rfl, ⟨trivial, ⟨trivial, trivial, trivial⟩, trivial⟩⟩
set_option maxRecDepth 100000 in
theorem paper_IsID.ok : FnOk Try.prog tt Γ 26 paper_IsID.fd := ⟨by kernel_rfl, by kernel_rfl, enters_ok (fn := Try.f26) (by kernel_rfl) (by kernel_rfl) (by kernel_rfl), paper_IsID.forms, paper_IsID.vc⟩

set_option maxRecDepth 100000 in
theorem paper_IsName.forms : paper_IsName.fd.formsOk = true := by kernel_rfl
set_option maxRecDepth 100000 in
theorem paper_IsName.vc : paper_IsName.fd.vc tt Γ := ⟨fun d => by kernel_rfl, fun k d => by kernel_rfl, ⟨trivial, ⟨trivial, trivial, trivial⟩, trivial⟩⟩
set_option maxRecDepth 100000 in
theorem paper_IsName.ok : FnOk Try.prog tt Γ 27 paper_IsName.fd := ⟨by kernel_rfl, by kernel_rfl, enters_ok (fn := Try.f27) (by kernel_rfl) (by kernel_rfl) (by kernel_rfl), paper_IsName.forms, paper_IsName.vc⟩

set_option maxRecDepth 100000 in
theorem chartularylaw19_right.forms : chartularylaw19_right.fd.formsOk = true := by kernel_rfl
set_option maxRecDepth 100000 in
theorem chartularylaw19_right.vc : chartularylaw19_right.fd.vc tt Γ := ⟨fun d => by kernel_rfl, fun k d => by kernel_rfl, ⟨trivial, ⟨trivial, ⟨trivial, ⟨⟨trivial, ⟨⟨⟨trivial, ⟨trivial, trivial⟩, trivial⟩, ⟨⟨trivial, ⟨trivial, ⟨⟨trivial, ⟨trivial, trivial⟩, trivial⟩, ⟨trivial, ⟨trivial, trivial⟩, trivial⟩, trivial⟩, trivial⟩, trivial⟩, trivial, trivial⟩, trivial⟩, ⟨fun d => by kernel_rfl, fun k d => by kernel_rfl⟩⟩, trivial⟩, ⟨trivial, trivial, trivial⟩, trivial⟩, ⟨fun d => by kernel_rfl, fun k d => by kernel_rfl⟩⟩, trivial⟩, trivial⟩⟩
set_option maxRecDepth 100000 in
theorem chartularylaw19_right.ok : FnOk Try.prog tt Γ 9 chartularylaw19_right.fd := ⟨by kernel_rfl, by kernel_rfl, enters_ok (fn := Try.f9) (by kernel_rfl) (by kernel_rfl) (by kernel_rfl), chartularylaw19_right.forms, chartularylaw19_right.vc⟩

set_option maxRecDepth 100000 in
theorem proof_sums.forms : proof_sums.fd.formsOk = true := by kernel_rfl
set_option maxRecDepth 100000 in
theorem proof_sums.vc : proof_sums.fd.vc tt Γ := ⟨fun d => by kernel_rfl, fun k d => by kernel_rfl, ⟨trivial, ⟨⟨trivial, ⟨⟨trivial, ⟨⟨trivial, trivial⟩, ⟨⟨trivial, ⟨trivial, ⟨⟨trivial, trivial, trivial⟩, trivial⟩, trivial⟩, trivial⟩, trivial, trivial⟩, trivial⟩, trivial⟩, ⟨fun d => by kernel_rfl, fun k d => by kernel_rfl⟩⟩, trivial⟩, ⟨trivial, trivial, trivial⟩, trivial⟩, trivial⟩⟩
set_option maxRecDepth 100000 in
theorem proof_sums.ok : FnOk Try.prog tt Γ 33 proof_sums.fd := ⟨by kernel_rfl, by kernel_rfl, enters_ok (fn := Try.f33) (by kernel_rfl) (by kernel_rfl) (by kernel_rfl), proof_sums.forms, proof_sums.vc⟩

set_option maxRecDepth 100000 in
theorem proof_RightGrowth.forms : proof_RightGrowth.fd.formsOk = true := by kernel_rfl
set_option maxRecDepth 100000 in
theorem proof_RightGrowth.vc : proof_RightGrowth.fd.vc tt Γ := ⟨fun d => by kernel_rfl, fun k d => by kernel_rfl, ⟨trivial, ⟨trivial, trivial, trivial⟩, trivial⟩⟩
set_option maxRecDepth 100000 in
theorem proof_RightGrowth.ok : FnOk Try.prog tt Γ 17 proof_RightGrowth.fd := ⟨by kernel_rfl, by kernel_rfl, enters_ok (fn := Try.f17) (by kernel_rfl) (by kernel_rfl) (by kernel_rfl), proof_RightGrowth.forms, proof_RightGrowth.vc⟩

set_option maxRecDepth 100000 in
theorem octet_Num.forms : octet_Num.fd.formsOk = true := by kernel_rfl
set_option maxRecDepth 100000 in
theorem octet_Num.vc : octet_Num.fd.vc tt Γ := ⟨fun d => by kernel_rfl, fun k d => by kernel_rfl, ⟨trivial, ⟨⟨trivial, ⟨⟨trivial, trivial, trivial⟩, trivial⟩, trivial⟩, ⟨trivial, ⟨⟨⟨⟨trivial, ⟨trivial, trivial⟩, trivial⟩, ⟨trivial, trivial, trivial⟩, trivial⟩, ⟨fun d => by kernel_rfl, fun k d => by kernel_rfl⟩⟩, ⟨trivial, trivial, trivial⟩, trivial⟩, trivial⟩, trivial⟩, trivial⟩⟩
set_option maxRecDepth 100000 in
theorem octet_Num.ok : FnOk Try.prog tt Γ 19 octet_Num.fd := ⟨by kernel_rfl, by kernel_rfl, enters_ok (fn := Try.f19) (by kernel_rfl) (by kernel_rfl) (by kernel_rfl), octet_Num.forms, octet_Num.vc⟩

set_option maxRecDepth 100000 in
theorem octet_Text.forms : octet_Text.fd.formsOk = true := by kernel_rfl
set_option maxRecDepth 100000 in
theorem octet_Text.vc : octet_Text.fd.vc tt Γ := ⟨fun d => by kernel_rfl, fun k d => by kernel_rfl, ⟨trivial, ⟨trivial, trivial, trivial⟩, trivial⟩⟩
set_option maxRecDepth 100000 in
theorem octet_Text.ok : FnOk Try.prog tt Γ 20 octet_Text.fd := ⟨by kernel_rfl, by kernel_rfl, enters_ok (fn := Try.f20) (by kernel_rfl) (by kernel_rfl) (by kernel_rfl), octet_Text.forms, octet_Text.vc⟩

set_option maxRecDepth 100000 in
theorem octet_Writer_Text.forms : octet_Writer_Text.fd.formsOk = true := by kernel_rfl
set_option maxRecDepth 100000 in
theorem octet_Writer_Text.vc : octet_Writer_Text.fd.vc tt Γ := ⟨fun d => by kernel_rfl, fun k d => by kernel_rfl, trivial⟩
set_option maxRecDepth 100000 in
theorem octet_Writer_Text.ok : FnOk Try.prog tt Γ 28 octet_Writer_Text.fd := ⟨by kernel_rfl, by kernel_rfl, enters_ok (fn := Try.f28) (by kernel_rfl) (by kernel_rfl) (by kernel_rfl), octet_Writer_Text.forms, octet_Writer_Text.vc⟩

set_option maxRecDepth 100000 in
theorem octet_Writer_Num.forms : octet_Writer_Num.fd.formsOk = true := by kernel_rfl
set_option maxRecDepth 100000 in
theorem octet_Writer_Num.vc : octet_Writer_Num.fd.vc tt Γ := ⟨fun d => by kernel_rfl, fun k d => by kernel_rfl, ⟨trivial, ⟨trivial, trivial, trivial⟩, trivial⟩⟩
set_option maxRecDepth 100000 in
theorem octet_Writer_Num.ok : FnOk Try.prog tt Γ 29 octet_Writer_Num.fd := ⟨by kernel_rfl, by kernel_rfl, enters_ok (fn := Try.f29) (by kernel_rfl) (by kernel_rfl) (by kernel_rfl), octet_Writer_Num.forms, octet_Writer_Num.vc⟩

set_option maxRecDepth 100000 in
theorem octet_Writer_Texts.forms : octet_Writer_Texts.fd.formsOk = true := by kernel_rfl
set_option maxRecDepth 100000 in
theorem octet_Writer_Texts.vc : octet_Writer_Texts.fd.vc tt Γ := ⟨fun d => by kernel_rfl, fun k d => by kernel_rfl, ⟨trivial, ⟨trivial, ⟨⟨trivial, ⟨⟨trivial, trivial⟩, ⟨⟨trivial, trivial, trivial⟩, trivial, trivial⟩, trivial⟩, trivial⟩, ⟨fun d => by kernel_rfl, fun k d => by kernel_rfl⟩⟩, trivial⟩, trivial⟩⟩
set_option maxRecDepth 100000 in
theorem octet_Writer_Texts.ok : FnOk Try.prog tt Γ 31 octet_Writer_Texts.fd := ⟨by kernel_rfl, by kernel_rfl, enters_ok (fn := Try.f31) (by kernel_rfl) (by kernel_rfl) (by kernel_rfl), octet_Writer_Texts.forms, octet_Writer_Texts.vc⟩

set_option maxRecDepth 100000 in
theorem octet_Writer_All.forms : octet_Writer_All.fd.formsOk = true := by kernel_rfl
set_option maxRecDepth 100000 in
theorem octet_Writer_All.vc : octet_Writer_All.fd.vc tt Γ := ⟨fun d => by kernel_rfl, fun k d => by kernel_rfl, ⟨trivial, ⟨⟨trivial, ⟨⟨trivial, trivial, trivial⟩, trivial⟩, trivial⟩, ⟨trivial, trivial, trivial⟩, trivial⟩, trivial⟩⟩
set_option maxRecDepth 100000 in
theorem octet_Writer_All.ok : FnOk Try.prog tt Γ 32 octet_Writer_All.fd := ⟨by kernel_rfl, by kernel_rfl, enters_ok (fn := Try.f32) (by kernel_rfl) (by kernel_rfl) (by kernel_rfl), octet_Writer_All.forms, octet_Writer_All.vc⟩

set_option maxRecDepth 100000 in
theorem proof_GrowthBytes.forms : proof_GrowthBytes.fd.formsOk = true := by kernel_rfl
set_option maxRecDepth 100000 in
theorem proof_GrowthBytes.vc : proof_GrowthBytes.fd.vc tt Γ := ⟨fun d => by kernel_rfl, fun k d => by kernel_rfl, ⟨trivial, ⟨⟨trivial, ⟨⟨trivial, trivial, trivial⟩, trivial⟩, trivial⟩, ⟨trivial, ⟨trivial, ⟨trivial, ⟨trivial, ⟨trivial, ⟨trivial, trivial, trivial⟩, trivial⟩, trivial⟩, trivial⟩, trivial⟩, trivial⟩, trivial⟩, trivial⟩⟩
set_option maxRecDepth 100000 in
theorem proof_GrowthBytes.ok : FnOk Try.prog tt Γ 15 proof_GrowthBytes.fd := ⟨by kernel_rfl, by kernel_rfl, enters_ok (fn := Try.f15) (by kernel_rfl) (by kernel_rfl) (by kernel_rfl), proof_GrowthBytes.forms, proof_GrowthBytes.vc⟩

set_option maxRecDepth 100000 in
theorem chartularylaw19_awake.forms : chartularylaw19_awake.fd.formsOk = true := by kernel_rfl
set_option maxRecDepth 100000 in
theorem chartularylaw19_awake.vc : chartularylaw19_awake.fd.vc tt Γ := ⟨fun d => by kernel_rfl, fun k d => by kernel_rfl, ⟨trivial, ⟨trivial, trivial, trivial⟩, trivial⟩⟩
set_option maxRecDepth 100000 in
theorem chartularylaw19_awake.ok : FnOk Try.prog tt Γ 10 chartularylaw19_awake.fd := ⟨by kernel_rfl, by kernel_rfl, enters_ok (fn := Try.f10) (by kernel_rfl) (by kernel_rfl) (by kernel_rfl), chartularylaw19_awake.forms, chartularylaw19_awake.vc⟩

set_option maxRecDepth 100000 in
theorem proof_rightItem.forms : proof_rightItem.fd.formsOk = true := by kernel_rfl
set_option maxRecDepth 100000 in
theorem proof_rightItem.vc : proof_rightItem.fd.vc tt Γ := ⟨fun d => by kernel_rfl, fun k d => by kernel_rfl, ⟨trivial, ⟨⟨trivial, ⟨⟨trivial, trivial, trivial⟩, ⟨trivial, ⟨⟨trivial, trivial, trivial⟩, trivial⟩, trivial⟩⟩, ⟨fun d => by kernel_rfl, fun k d => by kernel_rfl⟩⟩, ⟨trivial, trivial, trivial⟩, trivial⟩, trivial⟩⟩
set_option maxRecDepth 100000 in
theorem proof_rightItem.ok : FnOk Try.prog tt Γ 41 proof_rightItem.fd := ⟨by kernel_rfl, by kernel_rfl, enters_ok (fn := Try.f41) (by kernel_rfl) (by kernel_rfl) (by kernel_rfl), proof_rightItem.forms, proof_rightItem.vc⟩

set_option maxRecDepth 100000 in
theorem proof_Right.forms : proof_Right.fd.formsOk = true := by kernel_rfl
set_option maxRecDepth 100000 in
theorem proof_Right.vc : proof_Right.fd.vc tt Γ := ⟨fun d => by kernel_rfl, fun k d => by kernel_rfl, ⟨trivial, ⟨⟨trivial, ⟨⟨trivial, trivial, trivial⟩, trivial⟩, trivial⟩, ⟨⟨trivial, ⟨⟨trivial, trivial, trivial⟩, trivial⟩, trivial⟩, ⟨⟨trivial, ⟨⟨trivial, ⟨⟨trivial, trivial⟩, ⟨⟨trivial, ⟨trivial, ⟨⟨trivial, trivial, trivial⟩, trivial⟩, trivial⟩, trivial⟩, trivial, trivial⟩, trivial⟩, trivial⟩, ⟨fun d => by kernel_rfl, fun k d => by kernel_rfl⟩⟩, trivial⟩, ⟨trivial, trivial, trivial⟩, trivial⟩, ⟨fun d => by kernel_rfl, fun k d => by kernel_rfl⟩⟩, trivial⟩, trivial⟩⟩
set_option maxRecDepth 100000 in
theorem proof_Right.ok : FnOk Try.prog tt Γ 25 proof_Right.fd := ⟨by kernel_rfl, by kernel_rfl, enters_ok (fn := Try.f25) (by kernel_rfl) (by kernel_rfl) (by kernel_rfl), proof_Right.forms, proof_Right.vc⟩

set_option maxRecDepth 100000 in
theorem octet_Writer_Flag.forms : octet_Writer_Flag.fd.formsOk = true := by kernel_rfl
set_option maxRecDepth 100000 in
theorem octet_Writer_Flag.vc : octet_Writer_Flag.fd.vc tt Γ := ⟨fun d => by kernel_rfl, fun k d => by kernel_rfl, ⟨trivial, ⟨trivial, trivial⟩, trivial⟩⟩
set_option maxRecDepth 100000 in
theorem octet_Writer_Flag.ok : FnOk Try.prog tt Γ 43 octet_Writer_Flag.fd := ⟨by kernel_rfl, by kernel_rfl, enters_ok (fn := Try.f43) (by kernel_rfl) (by kernel_rfl) (by kernel_rfl), octet_Writer_Flag.forms, octet_Writer_Flag.vc⟩

set_option maxRecDepth 100000 in
theorem proof_item.forms : proof_item.fd.formsOk = true := by kernel_rfl
set_option maxRecDepth 100000 in
theorem proof_item.vc : proof_item.fd.vc tt Γ := ⟨fun d => by kernel_rfl, fun k d => by kernel_rfl, ⟨trivial, ⟨trivial, ⟨trivial, ⟨trivial, ⟨⟨trivial, ⟨⟨trivial, trivial, trivial⟩, trivial⟩, trivial⟩, ⟨trivial, trivial, trivial⟩, trivial⟩, trivial⟩, trivial⟩, trivial⟩, trivial⟩⟩
set_option maxRecDepth 100000 in
theorem proof_item.ok : FnOk Try.prog tt Γ 30 proof_item.fd := ⟨by kernel_rfl, by kernel_rfl, enters_ok (fn := Try.f30) (by kernel_rfl) (by kernel_rfl) (by kernel_rfl), proof_item.forms, proof_item.vc⟩

set_option maxRecDepth 100000 in
theorem proof_Bytes.forms : proof_Bytes.fd.formsOk = true := by kernel_rfl
set_option maxRecDepth 100000 in
theorem proof_Bytes.vc : proof_Bytes.fd.vc tt Γ := ⟨fun d => by kernel_rfl, fun k d => by kernel_rfl, ⟨trivial, ⟨⟨trivial, ⟨⟨trivial, trivial, trivial⟩, trivial⟩, trivial⟩, ⟨trivial, ⟨trivial, ⟨⟨trivial, ⟨⟨trivial, ⟨⟨trivial, trivial⟩, ⟨⟨trivial, trivial, trivial⟩, trivial, trivial⟩, trivial⟩, trivial⟩, ⟨fun d => by kernel_rfl, fun k d => by kernel_rfl⟩⟩, trivial⟩, ⟨⟨trivial, ⟨⟨trivial, ⟨⟨trivial, trivial⟩, ⟨⟨trivial, trivial, trivial⟩, trivial, trivial⟩, trivial⟩, trivial⟩, ⟨fun d => by kernel_rfl, fun k d => by kernel_rfl⟩⟩, trivial⟩, ⟨trivial, ⟨trivial, ⟨trivial, ⟨trivial, ⟨trivial, ⟨trivial, trivial, trivial⟩, trivial⟩, trivial⟩, trivial⟩, trivial⟩, trivial⟩, trivial⟩, trivial⟩, trivial⟩, trivial⟩, trivial⟩, trivial⟩⟩
set_option maxRecDepth 100000 in
theorem proof_Bytes.ok : FnOk Try.prog tt Γ 11 proof_Bytes.fd := ⟨by kernel_rfl, by kernel_rfl, enters_ok (fn := Try.f11) (by kernel_rfl) (by kernel_rfl) (by kernel_rfl), proof_Bytes.forms, proof_Bytes.vc⟩

set_option maxRecDepth 100000 in
theorem chartularylaw19_sameList.forms : chartularylaw19_sameList.fd.formsOk = true := by kernel_rfl
set_option maxRecDepth 100000 in
theorem chartularylaw19_sameList.vc : chartularylaw19_sameList.fd.vc tt Γ := ⟨fun d => by kernel_rfl, fun k d => by kernel_rfl, ⟨trivial, ⟨⟨trivial, ⟨⟨trivial, trivial, trivial⟩, trivial⟩, trivial⟩, ⟨⟨trivial, ⟨⟨⟨trivial, ⟨trivial, trivial⟩, trivial⟩, ⟨⟨trivial, ⟨⟨trivial, trivial, trivial⟩, trivial⟩, trivial⟩, trivial, trivial⟩, trivial⟩, ⟨fun d => by kernel_rfl, fun k d => by kernel_rfl⟩⟩, trivial⟩, ⟨trivial, trivial, trivial⟩, trivial⟩, trivial⟩, trivial⟩⟩
set_option maxRecDepth 100000 in
theorem chartularylaw19_sameList.ok : FnOk Try.prog tt Γ 22 chartularylaw19_sameList.fd := ⟨by kernel_rfl, by kernel_rfl, enters_ok (fn := Try.f22) (by kernel_rfl) (by kernel_rfl) (by kernel_rfl), chartularylaw19_sameList.forms, chartularylaw19_sameList.vc⟩

set_option maxRecDepth 100000 in
theorem chartularylaw19_same.forms : chartularylaw19_same.fd.formsOk = true := by kernel_rfl
set_option maxRecDepth 100000 in
theorem chartularylaw19_same.vc : chartularylaw19_same.fd.vc tt Γ := ⟨fun d => by kernel_rfl, fun k d => by kernel_rfl, ⟨trivial, ⟨⟨trivial, ⟨⟨trivial, trivial, trivial⟩, trivial⟩, trivial⟩, ⟨⟨trivial, ⟨⟨⟨trivial, ⟨trivial, trivial⟩, trivial⟩, ⟨⟨trivial, ⟨⟨trivial, trivial, trivial⟩, trivial⟩, trivial⟩, trivial, trivial⟩, trivial⟩, ⟨fun d => by kernel_rfl, fun k d => by kernel_rfl⟩⟩, trivial⟩, ⟨trivial, trivial, trivial⟩, trivial⟩, ⟨fun d => by kernel_rfl, fun k d => by kernel_rfl⟩⟩, trivial⟩⟩
set_option maxRecDepth 100000 in
theorem chartularylaw19_same.ok : FnOk Try.prog tt Γ 12 chartularylaw19_same.fd := ⟨by kernel_rfl, by kernel_rfl, enters_ok (fn := Try.f12) (by kernel_rfl) (by kernel_rfl) (by kernel_rfl), chartularylaw19_same.forms, chartularylaw19_same.vc⟩

set_option maxRecDepth 100000 in
theorem chartularylaw19_ProofApart.forms : chartularylaw19_ProofApart.fd.formsOk = true := by kernel_rfl
set_option maxRecDepth 100000 in
theorem chartularylaw19_ProofApart.vc : chartularylaw19_ProofApart.fd.vc tt Γ := ⟨fun d => by kernel_rfl, fun k d => by kernel_rfl, ⟨trivial, ⟨trivial, ⟨trivial, ⟨⟨trivial, ⟨⟨trivial, trivial, trivial⟩, trivial⟩, trivial⟩, ⟨trivial, trivial, trivial⟩, ⟨fun d => by kernel_rfl, fun k d => by kernel_rfl⟩⟩, trivial⟩, trivial⟩, trivial⟩⟩
set_option maxRecDepth 100000 in
theorem chartularylaw19_ProofApart.ok : FnOk Try.prog tt Γ 3 chartularylaw19_ProofApart.fd := ⟨by kernel_rfl, by kernel_rfl, enters_ok (fn := Try.f3) (by kernel_rfl) (by kernel_rfl) (by kernel_rfl), chartularylaw19_ProofApart.forms, chartularylaw19_ProofApart.vc⟩

set_option maxRecDepth 100000 in
theorem octet_Read.forms : octet_Read.fd.formsOk = true := by kernel_rfl
set_option maxRecDepth 100000 in
theorem octet_Read.vc : octet_Read.fd.vc tt Γ := ⟨fun d => by kernel_rfl, fun k d => by kernel_rfl, ⟨trivial, ⟨trivial, trivial, trivial⟩, trivial⟩⟩
set_option maxRecDepth 100000 in
theorem octet_Read.ok : FnOk Try.prog tt Γ 34 octet_Read.fd := ⟨by kernel_rfl, by kernel_rfl, enters_ok (fn := Try.f34) (by kernel_rfl) (by kernel_rfl) (by kernel_rfl), octet_Read.forms, octet_Read.vc⟩

set_option maxRecDepth 100000 in
theorem octet_Reader_Err.forms : octet_Reader_Err.fd.formsOk = true := by kernel_rfl
set_option maxRecDepth 100000 in
theorem octet_Reader_Err.vc : octet_Reader_Err.fd.vc tt Γ := ⟨fun d => by kernel_rfl, fun k d => by kernel_rfl, ⟨trivial, ⟨⟨trivial, ⟨⟨trivial, trivial, trivial⟩, trivial⟩, trivial⟩, ⟨trivial, trivial, trivial⟩, trivial⟩, trivial⟩⟩
set_option maxRecDepth 100000 in
theorem octet_Reader_Err.ok : FnOk Try.prog tt Γ 40 octet_Reader_Err.fd := ⟨by kernel_rfl, by kernel_rfl, enters_ok (fn := Try.f40) (by kernel_rfl) (by kernel_rfl) (by kernel_rfl), octet_Reader_Err.forms, octet_Reader_Err.vc⟩

set_option maxRecDepth 100000 in
theorem octet_Reader_Fail.forms : octet_Reader_Fail.fd.formsOk = true := by kernel_rfl
set_option maxRecDepth 100000 in
theorem octet_Reader_Fail.vc : octet_Reader_Fail.fd.vc tt Γ := ⟨fun d => by kernel_rfl, fun k d => by kernel_rfl, ⟨trivial, ⟨trivial, trivial⟩, trivial⟩⟩
set_option maxRecDepth 100000 in
theorem octet_Reader_Fail.ok : FnOk Try.prog tt Γ 45 octet_Reader_Fail.fd := ⟨by kernel_rfl, by kernel_rfl, enters_ok (fn := Try.f45) (by kernel_rfl) (by kernel_rfl) (by kernel_rfl), octet_Reader_Fail.forms, octet_Reader_Fail.vc⟩

set_option maxRecDepth 100000 in
theorem octet_Reader_Raw.forms : octet_Reader_Raw.fd.formsOk = true := by kernel_rfl
set_option maxRecDepth 100000 in
theorem octet_Reader_Raw.vc : octet_Reader_Raw.fd.vc tt Γ := ⟨fun d => by kernel_rfl, fun k d => by kernel_rfl, ⟨trivial, ⟨⟨trivial, ⟨⟨trivial, trivial, trivial⟩, ⟨trivial, ⟨⟨trivial, ⟨trivial, trivial, trivial⟩, trivial⟩, ⟨trivial, ⟨⟨trivial, ⟨trivial, trivial, trivial⟩, trivial⟩, trivial⟩, trivial⟩⟩, trivial⟩⟩, trivial⟩, ⟨trivial, ⟨trivial, trivial, trivial⟩, trivial⟩, trivial⟩, trivial⟩⟩
set_option maxRecDepth 100000 in
theorem octet_Reader_Raw.ok : FnOk Try.prog tt Γ 44 octet_Reader_Raw.fd := ⟨by kernel_rfl, by kernel_rfl, enters_ok (fn := Try.f44) (by kernel_rfl) (by kernel_rfl) (by kernel_rfl), octet_Reader_Raw.forms, octet_Reader_Raw.vc⟩

set_option maxRecDepth 100000 in
theorem octet_Reader_Num.forms : octet_Reader_Num.fd.formsOk = true := by kernel_rfl
set_option maxRecDepth 100000 in
theorem octet_Reader_Num.vc : octet_Reader_Num.fd.vc tt Γ := ⟨fun d => by kernel_rfl, fun k d => by kernel_rfl, ⟨trivial, ⟨trivial, ⟨⟨trivial, ⟨⟨trivial, trivial, trivial⟩, trivial⟩, trivial⟩, ⟨trivial, ⟨⟨trivial, ⟨⟨trivial, ⟨trivial, trivial, trivial⟩, trivial⟩, trivial⟩, trivial⟩, ⟨trivial, ⟨⟨trivial, ⟨⟨trivial, ⟨⟨trivial, trivial⟩, ⟨⟨trivial, ⟨⟨trivial, ⟨⟨trivial, ⟨trivial, trivial, trivial⟩, trivial⟩, trivial⟩, trivial⟩, trivial, trivial⟩, trivial⟩, trivial, trivial⟩, trivial⟩, trivial⟩, ⟨fun d => by kernel_rfl, fun k d => by kernel_rfl⟩⟩, trivial⟩, ⟨⟨trivial, ⟨⟨trivial, trivial, trivial⟩, trivial⟩, trivial⟩, ⟨⟨trivial, ⟨⟨trivial, ⟨trivial, trivial, trivial⟩, trivial⟩, trivial⟩, trivial⟩, ⟨trivial, trivial, trivial⟩, trivial⟩, trivial⟩, trivial⟩, trivial⟩, trivial⟩, trivial⟩, trivial⟩, trivial⟩, trivial⟩⟩
set_option maxRecDepth 100000 in
theorem octet_Reader_Num.ok : FnOk Try.prog tt Γ 35 octet_Reader_Num.fd := ⟨by kernel_rfl, by kernel_rfl, enters_ok (fn := Try.f35) (by kernel_rfl) (by kernel_rfl) (by kernel_rfl), octet_Reader_Num.forms, octet_Reader_Num.vc⟩

set_option maxRecDepth 100000 in
theorem octet_Reader_Text.forms : octet_Reader_Text.fd.formsOk = true := by kernel_rfl
set_option maxRecDepth 100000 in
theorem octet_Reader_Text.vc : octet_Reader_Text.fd.vc tt Γ := ⟨fun d => by kernel_rfl, fun k d => by kernel_rfl, ⟨trivial, ⟨trivial, trivial, trivial⟩, trivial⟩⟩
set_option maxRecDepth 100000 in
theorem octet_Reader_Text.ok : FnOk Try.prog tt Γ 36 octet_Reader_Text.fd := ⟨by kernel_rfl, by kernel_rfl, enters_ok (fn := Try.f36) (by kernel_rfl) (by kernel_rfl) (by kernel_rfl), octet_Reader_Text.forms, octet_Reader_Text.vc⟩

set_option maxRecDepth 100000 in
theorem octet_Reader_Texts.forms : octet_Reader_Texts.fd.formsOk = true := by kernel_rfl
set_option maxRecDepth 100000 in
theorem octet_Reader_Texts.vc : octet_Reader_Texts.fd.vc tt Γ := ⟨fun d => by kernel_rfl, fun k d => by kernel_rfl, ⟨trivial, ⟨trivial, ⟨⟨trivial, ⟨⟨trivial, ⟨⟨trivial, trivial⟩, ⟨⟨trivial, ⟨⟨trivial, ⟨⟨trivial, trivial, trivial⟩, trivial⟩, trivial⟩, trivial, trivial⟩, trivial⟩, trivial, trivial⟩, trivial⟩, trivial⟩, ⟨fun d => by kernel_rfl, fun k d => by kernel_rfl⟩⟩, trivial⟩, ⟨trivial, trivial, trivial⟩, trivial⟩, trivial⟩, trivial⟩⟩
set_option maxRecDepth 100000 in
theorem octet_Reader_Texts.ok : FnOk Try.prog tt Γ 37 octet_Reader_Texts.fd := ⟨by kernel_rfl, by kernel_rfl, enters_ok (fn := Try.f37) (by kernel_rfl) (by kernel_rfl) (by kernel_rfl), octet_Reader_Texts.forms, octet_Reader_Texts.vc⟩

set_option maxRecDepth 100000 in
theorem octet_Reader_Left.forms : octet_Reader_Left.fd.formsOk = true := by kernel_rfl
set_option maxRecDepth 100000 in
theorem octet_Reader_Left.vc : octet_Reader_Left.fd.vc tt Γ := ⟨fun d => by kernel_rfl, fun k d => by kernel_rfl, ⟨trivial, ⟨⟨trivial, ⟨⟨trivial, trivial, trivial⟩, trivial⟩, trivial⟩, ⟨trivial, trivial, trivial⟩, trivial⟩, trivial⟩⟩
set_option maxRecDepth 100000 in
theorem octet_Reader_Left.ok : FnOk Try.prog tt Γ 46 octet_Reader_Left.fd := ⟨by kernel_rfl, by kernel_rfl, enters_ok (fn := Try.f46) (by kernel_rfl) (by kernel_rfl) (by kernel_rfl), octet_Reader_Left.forms, octet_Reader_Left.vc⟩

set_option maxRecDepth 100000 in
theorem octet_Reader_End.forms : octet_Reader_End.fd.formsOk = true := by kernel_rfl
set_option maxRecDepth 100000 in
theorem octet_Reader_End.vc : octet_Reader_End.fd.vc tt Γ := ⟨fun d => by kernel_rfl, fun k d => by kernel_rfl, ⟨trivial, ⟨⟨trivial, ⟨trivial, trivial⟩, trivial⟩, ⟨trivial, trivial, trivial⟩, trivial⟩, trivial⟩⟩
set_option maxRecDepth 100000 in
theorem octet_Reader_End.ok : FnOk Try.prog tt Γ 38 octet_Reader_End.fd := ⟨by kernel_rfl, by kernel_rfl, enters_ok (fn := Try.f38) (by kernel_rfl) (by kernel_rfl) (by kernel_rfl), octet_Reader_End.forms, octet_Reader_End.vc⟩

set_option maxRecDepth 100000 in
theorem octet_Reader_Flag.forms : octet_Reader_Flag.fd.formsOk = true := by kernel_rfl
set_option maxRecDepth 100000 in
theorem octet_Reader_Flag.vc : octet_Reader_Flag.fd.vc tt Γ := ⟨fun d => by kernel_rfl, fun k d => by kernel_rfl, ⟨trivial, ⟨trivial, ⟨⟨trivial, ⟨⟨trivial, ⟨trivial, trivial, trivial⟩, trivial⟩, trivial⟩, trivial⟩, ⟨trivial, trivial, trivial⟩, trivial⟩, trivial⟩, trivial⟩⟩
set_option maxRecDepth 100000 in
theorem octet_Reader_Flag.ok : FnOk Try.prog tt Γ 47 octet_Reader_Flag.fd := ⟨by kernel_rfl, by kernel_rfl, enters_ok (fn := Try.f47) (by kernel_rfl) (by kernel_rfl) (by kernel_rfl), octet_Reader_Flag.forms, octet_Reader_Flag.vc⟩

set_option maxRecDepth 100000 in
theorem proof_readItem.forms : proof_readItem.fd.formsOk = true := by kernel_rfl
set_option maxRecDepth 100000 in
theorem proof_readItem.vc : proof_readItem.fd.vc tt Γ := ⟨fun d => by kernel_rfl, fun k d => by kernel_rfl, ⟨trivial, ⟨trivial, ⟨⟨trivial, ⟨⟨trivial, ⟨trivial, trivial, trivial⟩, trivial⟩, trivial⟩, trivial⟩, ⟨trivial, ⟨trivial, trivial, trivial⟩, trivial⟩, trivial⟩, trivial⟩, trivial⟩⟩
set_option maxRecDepth 100000 in
theorem proof_readItem.ok : FnOk Try.prog tt Γ 39 proof_readItem.fd := ⟨by kernel_rfl, by kernel_rfl, enters_ok (fn := Try.f39) (by kernel_rfl) (by kernel_rfl) (by kernel_rfl), proof_readItem.forms, proof_readItem.vc⟩

set_option maxRecDepth 100000 in
theorem proof_Read.forms : proof_Read.fd.formsOk = true := by kernel_rfl
set_option maxRecDepth 100000 in
theorem proof_Read.vc : proof_Read.fd.vc tt Γ := ⟨fun d => by kernel_rfl, fun k d => by kernel_rfl, ⟨trivial, ⟨trivial, ⟨trivial, ⟨⟨trivial, ⟨⟨trivial, ⟨⟨trivial, trivial⟩, ⟨⟨trivial, ⟨⟨trivial, ⟨trivial, trivial⟩, trivial⟩, trivial, trivial⟩, trivial⟩, trivial, trivial⟩, trivial⟩, trivial⟩, ⟨fun d => by kernel_rfl, fun k d => by kernel_rfl⟩⟩, trivial⟩, ⟨trivial, ⟨trivial, ⟨trivial, ⟨⟨trivial, ⟨trivial, ⟨⟨trivial, trivial, trivial⟩, trivial⟩, trivial⟩, trivial⟩, ⟨⟨trivial, ⟨⟨trivial, trivial, trivial⟩, trivial⟩, trivial⟩, ⟨trivial, trivial, trivial⟩, trivial⟩, trivial⟩, trivial⟩, trivial⟩, trivial⟩, ⟨fun d => by kernel_rfl, fun k d => by kernel_rfl⟩⟩, trivial⟩, trivial⟩, trivial⟩⟩
set_option maxRecDepth 100000 in
theorem proof_Read.ok : FnOk Try.prog tt Γ 23 proof_Read.fd := ⟨by kernel_rfl, by kernel_rfl, enters_ok (fn := Try.f23) (by kernel_rfl) (by kernel_rfl) (by kernel_rfl), proof_Read.forms, proof_Read.vc⟩

set_option maxRecDepth 100000 in
theorem chartularylaw19_list.forms : chartularylaw19_list.fd.formsOk = true := by kernel_rfl
set_option maxRecDepth 100000 in
theorem chartularylaw19_list.vc : chartularylaw19_list.fd.vc tt Γ := ⟨fun d => by kernel_rfl, fun k d => by kernel_rfl, ⟨trivial, ⟨trivial, ⟨⟨trivial, ⟨⟨⟨trivial, ⟨trivial, trivial⟩, trivial⟩, ⟨trivial, trivial, trivial⟩, trivial⟩, ⟨fun d => by kernel_rfl, fun k d => by kernel_rfl⟩⟩, trivial⟩, ⟨trivial, trivial, trivial⟩, trivial⟩, trivial⟩, trivial⟩⟩
set_option maxRecDepth 100000 in
theorem chartularylaw19_list.ok : FnOk Try.prog tt Γ 21 chartularylaw19_list.fd := ⟨by kernel_rfl, by kernel_rfl, enters_ok (fn := Try.f21) (by kernel_rfl) (by kernel_rfl) (by kernel_rfl), chartularylaw19_list.forms, chartularylaw19_list.vc⟩

set_option maxRecDepth 100000 in
theorem chartularylaw19_bytes.forms : chartularylaw19_bytes.fd.formsOk = true := by kernel_rfl
set_option maxRecDepth 100000 in
theorem chartularylaw19_bytes.vc : chartularylaw19_bytes.fd.vc tt Γ := ⟨fun d => by kernel_rfl, fun k d => by kernel_rfl, ⟨trivial, ⟨trivial, ⟨⟨trivial, ⟨⟨⟨trivial, ⟨trivial, trivial⟩, trivial⟩, ⟨⟨trivial, ⟨trivial, ⟨trivial, ⟨trivial, trivial⟩, trivial⟩, trivial⟩, trivial⟩, trivial, trivial⟩, trivial⟩, ⟨fun d => by kernel_rfl, fun k d => by kernel_rfl⟩⟩, trivial⟩, ⟨trivial, trivial, trivial⟩, trivial⟩, trivial⟩, trivial⟩⟩
set_option maxRecDepth 100000 in
theorem chartularylaw19_bytes.ok : FnOk Try.prog tt Γ 24 chartularylaw19_bytes.fd := ⟨by kernel_rfl, by kernel_rfl, enters_ok (fn := Try.f24) (by kernel_rfl) (by kernel_rfl) (by kernel_rfl), chartularylaw19_bytes.forms, chartularylaw19_bytes.vc⟩

set_option maxRecDepth 100000 in
theorem chartularylaw19_ProofBytes.forms : chartularylaw19_ProofBytes.fd.formsOk = true := by kernel_rfl
set_option maxRecDepth 100000 in
theorem chartularylaw19_ProofBytes.vc : chartularylaw19_ProofBytes.fd.vc tt Γ := ⟨fun d => by kernel_rfl, fun k d => by kernel_rfl, ⟨trivial, ⟨trivial, ⟨trivial, ⟨⟨trivial, ⟨⟨trivial, trivial, trivial⟩, trivial⟩, trivial⟩, ⟨⟨trivial, ⟨⟨trivial, trivial, trivial⟩, trivial⟩, trivial⟩, ⟨trivial, ⟨trivial, trivial, trivial⟩, trivial⟩, trivial⟩, trivial⟩, trivial⟩, trivial⟩, trivial⟩⟩
set_option maxRecDepth 100000 in
theorem chartularylaw19_ProofBytes.ok : FnOk Try.prog tt Γ 7 chartularylaw19_ProofBytes.fd := ⟨by kernel_rfl, by kernel_rfl, enters_ok (fn := Try.f7) (by kernel_rfl) (by kernel_rfl) (by kernel_rfl), chartularylaw19_ProofBytes.forms, chartularylaw19_ProofBytes.vc⟩

noncomputable def tab : Tab := [(13, chartularylaw19_cut.fd), (14, chartularylaw19_texts.fd), (8, chartularylaw19_Few.fd), (16, chartularylaw19_sums.fd), (48, paper_sign.fd), (42, paper_word.fd), (26, paper_IsID.fd), (27, paper_IsName.fd), (9, chartularylaw19_right.fd), (33, proof_sums.fd), (17, proof_RightGrowth.fd), (19, octet_Num.fd), (20, octet_Text.fd), (28, octet_Writer_Text.fd), (29, octet_Writer_Num.fd), (31, octet_Writer_Texts.fd), (32, octet_Writer_All.fd), (15, proof_GrowthBytes.fd), (10, chartularylaw19_awake.fd), (41, proof_rightItem.fd), (25, proof_Right.fd), (43, octet_Writer_Flag.fd), (30, proof_item.fd), (11, proof_Bytes.fd), (22, chartularylaw19_sameList.fd), (12, chartularylaw19_same.fd), (3, chartularylaw19_ProofApart.fd), (34, octet_Read.fd), (40, octet_Reader_Err.fd), (45, octet_Reader_Fail.fd), (44, octet_Reader_Raw.fd), (35, octet_Reader_Num.fd), (36, octet_Reader_Text.fd), (37, octet_Reader_Texts.fd), (46, octet_Reader_Left.fd), (38, octet_Reader_End.fd), (47, octet_Reader_Flag.fd), (39, proof_readItem.fd), (23, proof_Read.fd), (21, chartularylaw19_list.fd), (24, chartularylaw19_bytes.fd), (7, chartularylaw19_ProofBytes.fd)]
theorem Γ_eq (k : Nat) : Γ k = gamK tab k := by kernel_rfl
theorem tt_ok : TTok Try.prog tt := ttB_ok (by kernel_rfl)
theorem mixed : Try.prog.follows .mixedOrders = true := by kernel_rfl
theorem tab_all : ∀ x ∈ tab, FnOk Try.prog tt Γ x.1 x.2 := by
  unfold tab
  simp only [List.forall_mem_cons]
  exact ⟨chartularylaw19_cut.ok, chartularylaw19_texts.ok, chartularylaw19_Few.ok, chartularylaw19_sums.ok, paper_sign.ok, paper_word.ok, paper_IsID.ok, paper_IsName.ok, chartularylaw19_right.ok, proof_sums.ok, proof_RightGrowth.ok, octet_Num.ok, octet_Text.ok, octet_Writer_Text.ok, octet_Writer_Num.ok, octet_Writer_Texts.ok, octet_Writer_All.ok, proof_GrowthBytes.ok, chartularylaw19_awake.ok, proof_rightItem.ok, proof_Right.ok, octet_Writer_Flag.ok, proof_item.ok, proof_Bytes.ok, chartularylaw19_sameList.ok, chartularylaw19_same.ok, chartularylaw19_ProofApart.ok, octet_Read.ok, octet_Reader_Err.ok, octet_Reader_Fail.ok, octet_Reader_Raw.ok, octet_Reader_Num.ok, octet_Reader_Text.ok, octet_Reader_Texts.ok, octet_Reader_Left.ok, octet_Reader_End.ok, octet_Reader_Flag.ok, proof_readItem.ok, proof_Read.ok, chartularylaw19_list.ok, chartularylaw19_bytes.ok, chartularylaw19_ProofBytes.ok, fun x h => nomatch h⟩
theorem chartularylaw19_ProofApart.spec (k : Nat) : SpecOk Try.prog 3 (chartularylaw19_ProofApart.fd.sp k) := spec_ok mixed tt_ok Γ_eq tab_all (f := 3) (F := chartularylaw19_ProofApart.fd) (by unfold tab; simp only [List.mem_cons, true_or, or_true]) k
theorem chartularylaw19_ProofBytes.spec (k : Nat) : SpecOk Try.prog 7 (chartularylaw19_ProofBytes.fd.sp k) := spec_ok mixed tt_ok Γ_eq tab_all (f := 7) (F := chartularylaw19_ProofBytes.fd) (by unfold tab; simp only [List.mem_cons, true_or, or_true]) k

end Go.Proofs.Ytfegehfdbcnepaa.E
