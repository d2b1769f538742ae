import Derived.Test.YthedgoefiffogaaEDefs
import Derived.Test.YthedgoefiffogaaETab
namespace Go.Proofs.Ythedgoefiffogaa.E
open Go Go.Proofs.Ythedgoefiffogaa.Eng Go.Proofs
set_option maxRecDepth 100000 in
theorem chartularylaw14_cut.forms : chartularylaw14_cut.fd.formsOk = true := by kernel_rfl
set_option maxRecDepth 100000 in
theorem chartularylaw14_cut.vc : chartularylaw14_cut.fd.vc tt Γ := ⟨fun d => by kernel_rfl, fun k d => by kernel_rfl, ⟨trivial, ⟨⟨trivial, ⟨⟨trivial, trivial, trivial⟩, trivial⟩, trivial⟩, ⟨trivial, trivial, trivial⟩, trivial⟩, trivial⟩⟩
set_option maxRecDepth 100000 in
theorem chartularylaw14_cut.ok : FnOk Try.prog tt Γ 17 chartularylaw14_cut.fd := ⟨by kernel_rfl, by kernel_rfl, enters_ok (fn := Try.f17) (by kernel_rfl) (by kernel_rfl) (by kernel_rfl), chartularylaw14_cut.forms, chartularylaw14_cut.vc⟩

set_option maxRecDepth 100000 in
theorem chartularylaw14_FewEntry.forms : chartularylaw14_FewEntry.fd.formsOk = true := by kernel_rfl
set_option maxRecDepth 100000 in
theorem chartularylaw14_FewEntry.vc : chartularylaw14_FewEntry.fd.vc tt Γ := ⟨fun d => by kernel_rfl, fun k d => by kernel_rfl, ⟨trivial, ⟨trivial, ⟨⟨trivial, ⟨⟨⟨trivial, ⟨trivial, trivial⟩, trivial⟩, ⟨⟨trivial, trivial, trivial⟩, trivial, trivial⟩, trivial⟩, ⟨fun d => by kernel_rfl, fun k d => by kernel_rfl⟩⟩, trivial⟩, ⟨⟨trivial, ⟨⟨⟨trivial, ⟨trivial, trivial⟩, trivial⟩, ⟨trivial, trivial, trivial⟩, trivial⟩, ⟨fun d => by kernel_rfl, fun k d => by kernel_rfl⟩⟩, trivial⟩, ⟨trivial, trivial, trivial⟩, trivial⟩, trivial⟩, trivial⟩, trivial⟩⟩
set_option maxRecDepth 100000 in
theorem chartularylaw14_FewEntry.ok : FnOk Try.prog tt Γ 16 chartularylaw14_FewEntry.fd := ⟨by kernel_rfl, by kernel_rfl, enters_ok (fn := Try.f16) (by kernel_rfl) (by kernel_rfl) (by kernel_rfl), chartularylaw14_FewEntry.forms, chartularylaw14_FewEntry.vc⟩

set_option maxRecDepth 100000 in
theorem chartularylaw14_Few.forms : chartularylaw14_Few.fd.formsOk = true := by kernel_rfl
set_option maxRecDepth 100000 in
theorem chartularylaw14_Few.vc : chartularylaw14_Few.fd.vc tt Γ := ⟨fun d => by kernel_rfl, fun k d => by kernel_rfl, ⟨trivial, ⟨trivial, ⟨trivial, ⟨trivial, ⟨trivial, trivial, trivial⟩, trivial⟩, trivial⟩, trivial⟩, trivial⟩⟩
set_option maxRecDepth 100000 in
theorem chartularylaw14_Few.ok : FnOk Try.prog tt Γ 7 chartularylaw14_Few.fd := ⟨by kernel_rfl, by kernel_rfl, enters_ok (fn := Try.f7) (by kernel_rfl) (by kernel_rfl) (by kernel_rfl), chartularylaw14_Few.forms, chartularylaw14_Few.vc⟩

set_option maxRecDepth 100000 in
theorem paper_sign.forms : paper_sign.fd.formsOk = true := by kernel_rfl
set_option maxRecDepth 100000 in
theorem paper_sign.vc : paper_sign.fd.vc tt Γ := ⟨fun d => by kernel_rfl, fun k d => by kernel_rfl, ⟨trivial, ⟨trivial, trivial, trivial⟩, trivial⟩⟩
set_option maxRecDepth 100000 in
theorem paper_sign.ok : FnOk Try.prog tt Γ 52 paper_sign.fd := ⟨by kernel_rfl, by kernel_rfl, enters_ok (fn := Try.f52) (by kernel_rfl) (by kernel_rfl) (by kernel_rfl), paper_sign.forms, paper_sign.vc⟩

set_option maxRecDepth 100000 in
theorem paper_word.forms : paper_word.fd.formsOk = true := by kernel_rfl
set_option maxRecDepth 100000 in
theorem paper_word.vc : paper_word.fd.vc tt Γ := ⟨fun d => by kernel_rfl, fun k d => by kernel_rfl, ⟨trivial, ⟨⟨trivial, ⟨⟨trivial, trivial, trivial⟩, trivial⟩, trivial⟩, ⟨⟨trivial, ⟨⟨trivial, ⟨⟨trivial, trivial⟩, ⟨⟨trivial, ⟨trivial, ⟨⟨trivial, trivial, trivial⟩, trivial⟩, trivial⟩, trivial⟩, trivial, trivial⟩, trivial⟩, trivial⟩, ⟨fun d => by kernel_rfl, fun k d => by kernel_rfl⟩⟩, trivial⟩, ⟨trivial, trivial, trivial⟩, trivial⟩, ⟨fun d => by kernel_rfl, fun k d => by kernel_rfl⟩⟩, trivial⟩⟩
set_option maxRecDepth 100000 in
theorem paper_word.ok : FnOk Try.prog tt Γ 51 paper_word.fd := ⟨by kernel_rfl, by kernel_rfl, enters_ok (fn := Try.f51) (by kernel_rfl) (by kernel_rfl) (by kernel_rfl), paper_word.forms, paper_word.vc⟩

set_option maxRecDepth 100000 in
theorem paper_IsID.forms : paper_IsID.fd.formsOk = true := by kernel_rfl
set_option maxRecDepth 100000 in
theorem paper_IsID.vc : paper_IsID.fd.vc tt Γ := ⟨fun d => by kernel_rfl, fun k d => by kernel_rfl, ⟨trivial, ⟨trivial, trivial, trivial⟩, trivial⟩⟩
set_option maxRecDepth 100000 in
theorem paper_IsID.ok : FnOk Try.prog tt Γ 48 paper_IsID.fd := ⟨by kernel_rfl, by kernel_rfl, enters_ok (fn := Try.f48) (by kernel_rfl) (by kernel_rfl) (by kernel_rfl), paper_IsID.forms, paper_IsID.vc⟩

set_option maxRecDepth 100000 in
theorem paper_IsName.forms : paper_IsName.fd.formsOk = true := by kernel_rfl
set_option maxRecDepth 100000 in
theorem paper_IsName.vc : paper_IsName.fd.vc tt Γ := ⟨fun d => by kernel_rfl, fun k d => by kernel_rfl, ⟨trivial, ⟨trivial, trivial, trivial⟩, trivial⟩⟩
set_option maxRecDepth 100000 in
theorem paper_IsName.ok : FnOk Try.prog tt Γ 35 paper_IsName.fd := ⟨by kernel_rfl, by kernel_rfl, enters_ok (fn := Try.f35) (by kernel_rfl) (by kernel_rfl) (by kernel_rfl), paper_IsName.forms, paper_IsName.vc⟩

set_option maxRecDepth 100000 in
theorem event_rising.forms : event_rising.fd.formsOk = true := by kernel_rfl
set_option maxRecDepth 100000 in
theorem event_rising.vc : event_rising.fd.vc tt Γ := ⟨fun d => by kernel_rfl, fun k d => by kernel_rfl, ⟨trivial, ⟨⟨trivial, ⟨⟨trivial, ⟨⟨trivial, trivial⟩, ⟨⟨trivial, ⟨trivial, ⟨⟨trivial, trivial, trivial⟩, trivial⟩, trivial⟩, trivial⟩, trivial, trivial⟩, trivial⟩, trivial⟩, ⟨fun d => by kernel_rfl, fun k d => by kernel_rfl⟩⟩, trivial⟩, ⟨trivial, trivial, trivial⟩, trivial⟩, trivial⟩⟩
set_option maxRecDepth 100000 in
theorem event_rising.ok : FnOk Try.prog tt Γ 49 event_rising.fd := ⟨by kernel_rfl, by kernel_rfl, enters_ok (fn := Try.f49) (by kernel_rfl) (by kernel_rfl) (by kernel_rfl), event_rising.forms, event_rising.vc⟩

set_option maxRecDepth 100000 in
theorem event_rightSlip.forms : event_rightSlip.fd.formsOk = true := by kernel_rfl
set_option maxRecDepth 100000 in
theorem event_rightSlip.vc : event_rightSlip.fd.vc tt Γ := ⟨fun d => by kernel_rfl, fun k d => by kernel_rfl, ⟨trivial, ⟨⟨trivial, ⟨⟨trivial, trivial, trivial⟩, ⟨trivial, ⟨⟨trivial, trivial, trivial⟩, trivial⟩, trivial⟩⟩, ⟨fun d => by kernel_rfl, fun k d => by kernel_rfl⟩⟩, ⟨trivial, trivial, trivial⟩, trivial⟩, trivial⟩⟩
set_option maxRecDepth 100000 in
theorem event_rightSlip.ok : FnOk Try.prog tt Γ 50 event_rightSlip.fd := ⟨by kernel_rfl, by kernel_rfl, enters_ok (fn := Try.f50) (by kernel_rfl) (by kernel_rfl) (by kernel_rfl), event_rightSlip.forms, event_rightSlip.vc⟩

set_option maxRecDepth 100000 in
theorem event_RightEntry.forms : event_RightEntry.fd.formsOk = true := by kernel_rfl
set_option maxRecDepth 100000 in
theorem event_RightEntry.vc : event_RightEntry.fd.vc tt Γ := ⟨fun d => by kernel_rfl, fun k d => by kernel_rfl, ⟨trivial, ⟨⟨trivial, ⟨⟨trivial, trivial, trivial⟩, trivial⟩, trivial⟩, ⟨⟨trivial, ⟨⟨trivial, trivial, trivial⟩, trivial⟩, trivial⟩, ⟨trivial, ⟨⟨trivial, ⟨⟨trivial, ⟨⟨trivial, trivial⟩, ⟨⟨trivial, ⟨⟨trivial, ⟨⟨trivial, trivial, trivial⟩, trivial⟩, trivial⟩, trivial, trivial⟩, trivial⟩, trivial, trivial⟩, trivial⟩, trivial⟩, ⟨fun d => by kernel_rfl, fun k d => by kernel_rfl⟩⟩, trivial⟩, ⟨trivial, trivial, trivial⟩, trivial⟩, trivial⟩, ⟨fun d => by kernel_rfl, fun k d => by kernel_rfl⟩⟩, trivial⟩, trivial⟩⟩
set_option maxRecDepth 100000 in
theorem event_RightEntry.ok : FnOk Try.prog tt Γ 34 event_RightEntry.fd := ⟨by kernel_rfl, by kernel_rfl, enters_ok (fn := Try.f34) (by kernel_rfl) (by kernel_rfl) (by kernel_rfl), event_RightEntry.forms, event_RightEntry.vc⟩

set_option maxRecDepth 100000 in
theorem event_Right.forms : event_Right.fd.formsOk = true := by kernel_rfl
set_option maxRecDepth 100000 in
theorem event_Right.vc : event_Right.fd.vc tt Γ := ⟨fun d => by kernel_rfl, fun k d => by kernel_rfl, ⟨trivial, ⟨trivial, ⟨⟨trivial, ⟨trivial, ⟨⟨trivial, trivial, trivial⟩, ⟨trivial, ⟨⟨trivial, trivial, trivial⟩, ⟨trivial, ⟨⟨trivial, trivial, trivial⟩, ⟨⟨trivial, ⟨trivial, trivial⟩, trivial⟩, ⟨⟨trivial, trivial, trivial⟩, ⟨trivial, ⟨⟨trivial, trivial, trivial⟩, ⟨trivial, ⟨⟨trivial, trivial, trivial⟩, trivial⟩, trivial⟩⟩, trivial⟩⟩, ⟨fun d => by kernel_rfl, fun k d => by kernel_rfl⟩⟩⟩, trivial⟩⟩, trivial⟩⟩, trivial⟩, trivial⟩, ⟨trivial, trivial, trivial⟩, trivial⟩, trivial⟩, trivial⟩⟩
set_option maxRecDepth 100000 in
theorem event_Right.ok : FnOk Try.prog tt Γ 18 event_Right.fd := ⟨by kernel_rfl, by kernel_rfl, enters_ok (fn := Try.f18) (by kernel_rfl) (by kernel_rfl) (by kernel_rfl), event_Right.forms, event_Right.vc⟩

set_option maxRecDepth 100000 in
theorem octet_Num.forms : octet_Num.fd.formsOk = true := by kernel_rfl
set_option maxRecDepth 100000 in
theorem octet_Num.vc : octet_Num.fd.vc tt Γ := ⟨fun d => by kernel_rfl, fun k d => by kernel_rfl, ⟨trivial, ⟨⟨trivial, ⟨⟨trivial, trivial, trivial⟩, trivial⟩, trivial⟩, ⟨trivial, ⟨⟨⟨⟨trivial, ⟨trivial, trivial⟩, trivial⟩, ⟨trivial, trivial, trivial⟩, trivial⟩, ⟨fun d => by kernel_rfl, fun k d => by kernel_rfl⟩⟩, ⟨trivial, trivial, trivial⟩, trivial⟩, trivial⟩, trivial⟩, trivial⟩⟩
set_option maxRecDepth 100000 in
theorem octet_Num.ok : FnOk Try.prog tt Γ 36 octet_Num.fd := ⟨by kernel_rfl, by kernel_rfl, enters_ok (fn := Try.f36) (by kernel_rfl) (by kernel_rfl) (by kernel_rfl), octet_Num.forms, octet_Num.vc⟩

set_option maxRecDepth 100000 in
theorem octet_Writer_Num.forms : octet_Writer_Num.fd.formsOk = true := by kernel_rfl
set_option maxRecDepth 100000 in
theorem octet_Writer_Num.vc : octet_Writer_Num.fd.vc tt Γ := ⟨fun d => by kernel_rfl, fun k d => by kernel_rfl, ⟨trivial, ⟨trivial, trivial, trivial⟩, trivial⟩⟩
set_option maxRecDepth 100000 in
theorem octet_Writer_Num.ok : FnOk Try.prog tt Γ 19 octet_Writer_Num.fd := ⟨by kernel_rfl, by kernel_rfl, enters_ok (fn := Try.f19) (by kernel_rfl) (by kernel_rfl) (by kernel_rfl), octet_Writer_Num.forms, octet_Writer_Num.vc⟩

set_option maxRecDepth 100000 in
theorem octet_Text.forms : octet_Text.fd.formsOk = true := by kernel_rfl
set_option maxRecDepth 100000 in
theorem octet_Text.vc : octet_Text.fd.vc tt Γ := ⟨fun d => by kernel_rfl, fun k d => by kernel_rfl, ⟨trivial, ⟨trivial, trivial, trivial⟩, trivial⟩⟩
set_option maxRecDepth 100000 in
theorem octet_Text.ok : FnOk Try.prog tt Γ 40 octet_Text.fd := ⟨by kernel_rfl, by kernel_rfl, enters_ok (fn := Try.f40) (by kernel_rfl) (by kernel_rfl) (by kernel_rfl), octet_Text.forms, octet_Text.vc⟩

set_option maxRecDepth 100000 in
theorem octet_Writer_Text.forms : octet_Writer_Text.fd.formsOk = true := by kernel_rfl
set_option maxRecDepth 100000 in
theorem octet_Writer_Text.vc : octet_Writer_Text.fd.vc tt Γ := ⟨fun d => by kernel_rfl, fun k d => by kernel_rfl, trivial⟩
set_option maxRecDepth 100000 in
theorem octet_Writer_Text.ok : FnOk Try.prog tt Γ 21 octet_Writer_Text.fd := ⟨by kernel_rfl, by kernel_rfl, enters_ok (fn := Try.f21) (by kernel_rfl) (by kernel_rfl) (by kernel_rfl), octet_Writer_Text.forms, octet_Writer_Text.vc⟩

set_option maxRecDepth 100000 in
theorem octet_Writer_Flag.forms : octet_Writer_Flag.fd.formsOk = true := by kernel_rfl
set_option maxRecDepth 100000 in
theorem octet_Writer_Flag.vc : octet_Writer_Flag.fd.vc tt Γ := ⟨fun d => by kernel_rfl, fun k d => by kernel_rfl, ⟨trivial, ⟨trivial, trivial⟩, trivial⟩⟩
set_option maxRecDepth 100000 in
theorem octet_Writer_Flag.ok : FnOk Try.prog tt Γ 37 octet_Writer_Flag.fd := ⟨by kernel_rfl, by kernel_rfl, enters_ok (fn := Try.f37) (by kernel_rfl) (by kernel_rfl) (by kernel_rfl), octet_Writer_Flag.forms, octet_Writer_Flag.vc⟩

set_option maxRecDepth 100000 in
theorem octet_Writer_Texts.forms : octet_Writer_Texts.fd.formsOk = true := by kernel_rfl
set_option maxRecDepth 100000 in
theorem octet_Writer_Texts.vc : octet_Writer_Texts.fd.vc tt Γ := ⟨fun d => by kernel_rfl, fun k d => by kernel_rfl, ⟨trivial, ⟨trivial, ⟨⟨trivial, ⟨⟨trivial, trivial⟩, ⟨⟨trivial, trivial, trivial⟩, trivial, trivial⟩, trivial⟩, trivial⟩, ⟨fun d => by kernel_rfl, fun k d => by kernel_rfl⟩⟩, trivial⟩, trivial⟩⟩
set_option maxRecDepth 100000 in
theorem octet_Writer_Texts.ok : FnOk Try.prog tt Γ 38 octet_Writer_Texts.fd := ⟨by kernel_rfl, by kernel_rfl, enters_ok (fn := Try.f38) (by kernel_rfl) (by kernel_rfl) (by kernel_rfl), octet_Writer_Texts.forms, octet_Writer_Texts.vc⟩

set_option maxRecDepth 100000 in
theorem event_slip.forms : event_slip.fd.formsOk = true := by kernel_rfl
set_option maxRecDepth 100000 in
theorem event_slip.vc : event_slip.fd.vc tt Γ := ⟨fun d => by kernel_rfl, fun k d => by kernel_rfl, ⟨trivial, ⟨trivial, ⟨trivial, ⟨trivial, ⟨trivial, ⟨trivial, trivial⟩, trivial⟩, trivial⟩, trivial⟩, trivial⟩, trivial⟩⟩
set_option maxRecDepth 100000 in
theorem event_slip.ok : FnOk Try.prog tt Γ 39 event_slip.fd := ⟨by kernel_rfl, by kernel_rfl, enters_ok (fn := Try.f39) (by kernel_rfl) (by kernel_rfl) (by kernel_rfl), event_slip.forms, event_slip.vc⟩

set_option maxRecDepth 100000 in
theorem event_entry.forms : event_entry.fd.formsOk = true := by kernel_rfl
set_option maxRecDepth 100000 in
theorem event_entry.vc : event_entry.fd.vc tt Γ := ⟨fun d => by kernel_rfl, fun k d => by kernel_rfl, ⟨trivial, ⟨trivial, ⟨trivial, ⟨trivial, ⟨trivial, ⟨trivial, ⟨trivial, ⟨trivial, ⟨trivial, ⟨⟨trivial, ⟨⟨trivial, trivial⟩, ⟨⟨trivial, trivial, trivial⟩, trivial, trivial⟩, trivial⟩, trivial⟩, ⟨fun d => by kernel_rfl, fun k d => by kernel_rfl⟩⟩, trivial⟩, trivial⟩, trivial⟩, trivial⟩, trivial⟩, trivial⟩, trivial⟩, trivial⟩, trivial⟩⟩
set_option maxRecDepth 100000 in
theorem event_entry.ok : FnOk Try.prog tt Γ 20 event_entry.fd := ⟨by kernel_rfl, by kernel_rfl, enters_ok (fn := Try.f20) (by kernel_rfl) (by kernel_rfl) (by kernel_rfl), event_entry.forms, event_entry.vc⟩

set_option maxRecDepth 100000 in
theorem octet_Writer_All.forms : octet_Writer_All.fd.formsOk = true := by kernel_rfl
set_option maxRecDepth 100000 in
theorem octet_Writer_All.vc : octet_Writer_All.fd.vc tt Γ := ⟨fun d => by kernel_rfl, fun k d => by kernel_rfl, ⟨trivial, ⟨⟨trivial, ⟨⟨trivial, trivial, trivial⟩, trivial⟩, trivial⟩, ⟨trivial, trivial, trivial⟩, trivial⟩, trivial⟩⟩
set_option maxRecDepth 100000 in
theorem octet_Writer_All.ok : FnOk Try.prog tt Γ 22 octet_Writer_All.fd := ⟨by kernel_rfl, by kernel_rfl, enters_ok (fn := Try.f22) (by kernel_rfl) (by kernel_rfl) (by kernel_rfl), octet_Writer_All.forms, octet_Writer_All.vc⟩

set_option maxRecDepth 100000 in
theorem event_Bytes.forms : event_Bytes.fd.formsOk = true := by kernel_rfl
set_option maxRecDepth 100000 in
theorem event_Bytes.vc : event_Bytes.fd.vc tt Γ := ⟨fun d => by kernel_rfl, fun k d => by kernel_rfl, ⟨trivial, ⟨⟨trivial, ⟨⟨trivial, trivial, trivial⟩, trivial⟩, trivial⟩, ⟨trivial, ⟨trivial, ⟨⟨trivial, ⟨trivial, ⟨trivial, ⟨trivial, ⟨⟨trivial, trivial, trivial⟩, ⟨trivial, ⟨trivial, ⟨⟨trivial, ⟨trivial, trivial⟩, trivial⟩, ⟨⟨trivial, trivial, trivial⟩, ⟨trivial, ⟨⟨trivial, trivial, trivial⟩, ⟨trivial, ⟨trivial, trivial⟩, trivial⟩⟩, trivial⟩⟩, ⟨fun d => by kernel_rfl, fun k d => by kernel_rfl⟩⟩⟩, trivial⟩⟩, trivial⟩⟩, trivial⟩, trivial⟩, ⟨trivial, ⟨trivial, trivial, trivial⟩, trivial⟩, ⟨fun d => by kernel_rfl, fun k d => by kernel_rfl⟩⟩, trivial⟩, trivial⟩, trivial⟩, trivial⟩⟩
set_option maxRecDepth 100000 in
theorem event_Bytes.ok : FnOk Try.prog tt Γ 8 event_Bytes.fd := ⟨by kernel_rfl, by kernel_rfl, enters_ok (fn := Try.f8) (by kernel_rfl) (by kernel_rfl) (by kernel_rfl), event_Bytes.forms, event_Bytes.vc⟩

set_option maxRecDepth 100000 in
theorem chartularylaw14_awake.forms : chartularylaw14_awake.fd.formsOk = true := by kernel_rfl
set_option maxRecDepth 100000 in
theorem chartularylaw14_awake.vc : chartularylaw14_awake.fd.vc tt Γ := ⟨fun d => by kernel_rfl, fun k d => by kernel_rfl, ⟨trivial, ⟨trivial, trivial, trivial⟩, trivial⟩⟩
set_option maxRecDepth 100000 in
theorem chartularylaw14_awake.ok : FnOk Try.prog tt Γ 9 chartularylaw14_awake.fd := ⟨by kernel_rfl, by kernel_rfl, enters_ok (fn := Try.f9) (by kernel_rfl) (by kernel_rfl) (by kernel_rfl), chartularylaw14_awake.forms, chartularylaw14_awake.vc⟩

set_option maxRecDepth 100000 in
theorem chartularyref14_word.forms : chartularyref14_word.fd.formsOk = true := by kernel_rfl
set_option maxRecDepth 100000 in
theorem chartularyref14_word.vc : chartularyref14_word.fd.vc tt Γ := ⟨fun d => by kernel_rfl, fun k d => by kernel_rfl, ⟨trivial, ⟨trivial, ⟨⟨trivial, ⟨⟨⟨trivial, ⟨trivial, trivial⟩, trivial⟩, ⟨⟨trivial, ⟨⟨trivial, ⟨⟨⟨trivial, ⟨trivial, trivial⟩, trivial⟩, ⟨trivial, trivial, trivial⟩, trivial⟩, ⟨fun d => by kernel_rfl, fun k d => by kernel_rfl⟩⟩, trivial⟩, ⟨trivial, ⟨⟨trivial, trivial, trivial⟩, trivial⟩, trivial⟩, trivial⟩, trivial⟩, trivial, trivial⟩, trivial⟩, ⟨fun d => by kernel_rfl, fun k d => by kernel_rfl⟩⟩, trivial⟩, ⟨trivial, trivial, trivial⟩, trivial⟩, trivial⟩, trivial⟩⟩
set_option maxRecDepth 100000 in
theorem chartularyref14_word.ok : FnOk Try.prog tt Γ 24 chartularyref14_word.fd := ⟨by kernel_rfl, by kernel_rfl, enters_ok (fn := Try.f24) (by kernel_rfl) (by kernel_rfl) (by kernel_rfl), chartularyref14_word.forms, chartularyref14_word.vc⟩

set_option maxRecDepth 100000 in
theorem chartularyref14_RightEntry.forms : chartularyref14_RightEntry.fd.formsOk = true := by kernel_rfl
set_option maxRecDepth 100000 in
theorem chartularyref14_RightEntry.vc : chartularyref14_RightEntry.fd.vc tt Γ := ⟨fun d => by kernel_rfl, fun k d => by kernel_rfl, ⟨trivial, ⟨trivial, ⟨trivial, ⟨⟨trivial, ⟨⟨⟨trivial, ⟨trivial, trivial⟩, trivial⟩, ⟨trivial, trivial, trivial⟩, trivial⟩, ⟨fun d => by kernel_rfl, fun k d => by kernel_rfl⟩⟩, trivial⟩, ⟨⟨trivial, ⟨⟨⟨trivial, ⟨trivial, trivial⟩, trivial⟩, ⟨⟨trivial, ⟨trivial, ⟨trivial, ⟨trivial, trivial⟩, trivial⟩, trivial⟩, trivial⟩, trivial, trivial⟩, trivial⟩, ⟨fun d => by kernel_rfl, fun k d => by kernel_rfl⟩⟩, trivial⟩, ⟨trivial, trivial, trivial⟩, trivial⟩, trivial⟩, ⟨fun d => by kernel_rfl, fun k d => by kernel_rfl⟩⟩, trivial⟩, trivial⟩⟩
set_option maxRecDepth 100000 in
theorem chartularyref14_RightEntry.ok : FnOk Try.prog tt Γ 23 chartularyref14_RightEntry.fd := ⟨by kernel_rfl, by kernel_rfl, enters_ok (fn := Try.f23) (by kernel_rfl) (by kernel_rfl) (by kernel_rfl), chartularyref14_RightEntry.forms, chartularyref14_RightEntry.vc⟩

set_option maxRecDepth 100000 in
theorem chartularyref14_Right.forms : chartularyref14_Right.fd.formsOk = true := by kernel_rfl
set_option maxRecDepth 100000 in
theorem chartularyref14_Right.vc : chartularyref14_Right.fd.vc tt Γ := ⟨fun d => by kernel_rfl, fun k d => by kernel_rfl, ⟨trivial, ⟨trivial, ⟨trivial, ⟨trivial, ⟨⟨trivial, trivial, trivial⟩, ⟨trivial, ⟨⟨trivial, trivial, trivial⟩, ⟨trivial, ⟨⟨trivial, trivial, trivial⟩, ⟨⟨trivial, ⟨trivial, trivial⟩, trivial⟩, ⟨⟨trivial, trivial, trivial⟩, ⟨trivial, ⟨⟨trivial, trivial, trivial⟩, ⟨trivial, ⟨⟨trivial, trivial, trivial⟩, ⟨trivial, trivial, trivial⟩⟩, trivial⟩⟩, trivial⟩⟩, ⟨fun d => by kernel_rfl, fun k d => by kernel_rfl⟩⟩⟩, trivial⟩⟩, trivial⟩⟩, trivial⟩, trivial⟩, trivial⟩, trivial⟩⟩
set_option maxRecDepth 100000 in
theorem chartularyref14_Right.ok : FnOk Try.prog tt Γ 10 chartularyref14_Right.fd := ⟨by kernel_rfl, by kernel_rfl, enters_ok (fn := Try.f10) (by kernel_rfl) (by kernel_rfl) (by kernel_rfl), chartularyref14_Right.forms, chartularyref14_Right.vc⟩

set_option maxRecDepth 100000 in
theorem chartularyref14_SameEntry.forms : chartularyref14_SameEntry.fd.formsOk = true := by kernel_rfl
set_option maxRecDepth 100000 in
theorem chartularyref14_SameEntry.vc : chartularyref14_SameEntry.fd.vc tt Γ := ⟨fun d => by kernel_rfl, fun k d => by kernel_rfl, ⟨trivial, ⟨⟨trivial, ⟨⟨trivial, trivial, trivial⟩, trivial⟩, trivial⟩, ⟨⟨trivial, ⟨⟨⟨trivial, ⟨trivial, trivial⟩, trivial⟩, ⟨⟨trivial, ⟨⟨trivial, trivial, trivial⟩, trivial⟩, trivial⟩, trivial, trivial⟩, trivial⟩, ⟨fun d => by kernel_rfl, fun k d => by kernel_rfl⟩⟩, trivial⟩, ⟨⟨trivial, ⟨⟨⟨trivial, ⟨trivial, trivial⟩, trivial⟩, ⟨⟨trivial, ⟨⟨trivial, trivial, trivial⟩, trivial⟩, trivial⟩, trivial, trivial⟩, trivial⟩, ⟨fun d => by kernel_rfl, fun k d => by kernel_rfl⟩⟩, trivial⟩, ⟨trivial, trivial, trivial⟩, trivial⟩, trivial⟩, ⟨fun d => by kernel_rfl, fun k d => by kernel_rfl⟩⟩, trivial⟩⟩
set_option maxRecDepth 100000 in
theorem chartularyref14_SameEntry.ok : FnOk Try.prog tt Γ 25 chartularyref14_SameEntry.fd := ⟨by kernel_rfl, by kernel_rfl, enters_ok (fn := Try.f25) (by kernel_rfl) (by kernel_rfl) (by kernel_rfl), chartularyref14_SameEntry.forms, chartularyref14_SameEntry.vc⟩

set_option maxRecDepth 100000 in
theorem chartularyref14_Same.forms : chartularyref14_Same.fd.formsOk = true := by kernel_rfl
set_option maxRecDepth 100000 in
theorem chartularyref14_Same.vc : chartularyref14_Same.fd.vc tt Γ := ⟨fun d => by kernel_rfl, fun k d => by kernel_rfl, ⟨trivial, ⟨trivial, trivial, trivial⟩, trivial⟩⟩
set_option maxRecDepth 100000 in
theorem chartularyref14_Same.ok : FnOk Try.prog tt Γ 11 chartularyref14_Same.fd := ⟨by kernel_rfl, by kernel_rfl, enters_ok (fn := Try.f11) (by kernel_rfl) (by kernel_rfl) (by kernel_rfl), chartularyref14_Same.forms, chartularyref14_Same.vc⟩

set_option maxRecDepth 100000 in
theorem chartularyref14_Clean.forms : chartularyref14_Clean.fd.formsOk = true := by kernel_rfl
set_option maxRecDepth 100000 in
theorem chartularyref14_Clean.vc : chartularyref14_Clean.fd.vc tt Γ := ⟨fun d => by kernel_rfl, fun k d => by kernel_rfl, ⟨trivial, ⟨trivial, ⟨trivial, ⟨⟨trivial, trivial, trivial⟩, ⟨trivial, ⟨⟨trivial, trivial, trivial⟩, ⟨trivial, ⟨⟨trivial, trivial, trivial⟩, ⟨⟨trivial, ⟨trivial, trivial⟩, trivial⟩, ⟨⟨trivial, trivial, trivial⟩, ⟨trivial, ⟨⟨trivial, trivial, trivial⟩, ⟨trivial, ⟨⟨trivial, trivial, trivial⟩, ⟨trivial, trivial, trivial⟩⟩, trivial⟩⟩, trivial⟩⟩, ⟨fun d => by kernel_rfl, fun k d => by kernel_rfl⟩⟩⟩, trivial⟩⟩, trivial⟩⟩, trivial⟩, trivial⟩, trivial⟩⟩
set_option maxRecDepth 100000 in
theorem chartularyref14_Clean.ok : FnOk Try.prog tt Γ 12 chartularyref14_Clean.fd := ⟨by kernel_rfl, by kernel_rfl, enters_ok (fn := Try.f12) (by kernel_rfl) (by kernel_rfl) (by kernel_rfl), chartularyref14_Clean.forms, chartularyref14_Clean.vc⟩

set_option maxRecDepth 100000 in
theorem event_Same.forms : event_Same.fd.formsOk = true := by kernel_rfl
set_option maxRecDepth 100000 in
theorem event_Same.vc : event_Same.fd.vc tt Γ := ⟨fun d => by kernel_rfl, fun k d => by kernel_rfl, ⟨trivial, ⟨trivial, trivial, trivial⟩, trivial⟩⟩
set_option maxRecDepth 100000 in
theorem event_Same.ok : FnOk Try.prog tt Γ 13 event_Same.fd := ⟨by kernel_rfl, by kernel_rfl, enters_ok (fn := Try.f13) (by kernel_rfl) (by kernel_rfl) (by kernel_rfl), event_Same.forms, event_Same.vc⟩

set_option maxRecDepth 100000 in
theorem chartularylaw14_EventSames.forms : chartularylaw14_EventSames.fd.formsOk = true := by kernel_rfl
set_option maxRecDepth 100000 in
theorem chartularylaw14_EventSames.vc : chartularylaw14_EventSames.fd.vc tt Γ := ⟨fun d => by kernel_rfl, fun k d => by kernel_rfl, ⟨trivial, ⟨trivial, ⟨trivial, ⟨trivial, ⟨trivial, trivial, trivial⟩, ⟨fun d => by kernel_rfl, fun k d => by kernel_rfl⟩⟩, trivial⟩, trivial⟩, trivial⟩⟩
set_option maxRecDepth 100000 in
theorem chartularylaw14_EventSames.ok : FnOk Try.prog tt Γ 4 chartularylaw14_EventSames.fd := ⟨by kernel_rfl, by kernel_rfl, enters_ok (fn := Try.f4) (by kernel_rfl) (by kernel_rfl) (by kernel_rfl), chartularylaw14_EventSames.forms, chartularylaw14_EventSames.vc⟩

set_option maxRecDepth 100000 in
theorem octet_Read.forms : octet_Read.fd.formsOk = true := by kernel_rfl
set_option maxRecDepth 100000 in
theorem octet_Read.vc : octet_Read.fd.vc tt Γ := ⟨fun d => by kernel_rfl, fun k d => by kernel_rfl, ⟨trivial, ⟨trivial, trivial, trivial⟩, trivial⟩⟩
set_option maxRecDepth 100000 in
theorem octet_Read.ok : FnOk Try.prog tt Γ 26 octet_Read.fd := ⟨by kernel_rfl, by kernel_rfl, enters_ok (fn := Try.f26) (by kernel_rfl) (by kernel_rfl) (by kernel_rfl), octet_Read.forms, octet_Read.vc⟩

set_option maxRecDepth 100000 in
theorem octet_Reader_Fail.forms : octet_Reader_Fail.fd.formsOk = true := by kernel_rfl
set_option maxRecDepth 100000 in
theorem octet_Reader_Fail.vc : octet_Reader_Fail.fd.vc tt Γ := ⟨fun d => by kernel_rfl, fun k d => by kernel_rfl, ⟨trivial, ⟨trivial, trivial⟩, trivial⟩⟩
set_option maxRecDepth 100000 in
theorem octet_Reader_Fail.ok : FnOk Try.prog tt Γ 42 octet_Reader_Fail.fd := ⟨by kernel_rfl, by kernel_rfl, enters_ok (fn := Try.f42) (by kernel_rfl) (by kernel_rfl) (by kernel_rfl), octet_Reader_Fail.forms, octet_Reader_Fail.vc⟩

set_option maxRecDepth 100000 in
theorem octet_Reader_Err.forms : octet_Reader_Err.fd.formsOk = true := by kernel_rfl
set_option maxRecDepth 100000 in
theorem octet_Reader_Err.vc : octet_Reader_Err.fd.vc tt Γ := ⟨fun d => by kernel_rfl, fun k d => by kernel_rfl, ⟨trivial, ⟨⟨trivial, ⟨⟨trivial, trivial, trivial⟩, trivial⟩, trivial⟩, ⟨trivial, trivial, trivial⟩, trivial⟩, trivial⟩⟩
set_option maxRecDepth 100000 in
theorem octet_Reader_Err.ok : FnOk Try.prog tt Γ 43 octet_Reader_Err.fd := ⟨by kernel_rfl, by kernel_rfl, enters_ok (fn := Try.f43) (by kernel_rfl) (by kernel_rfl) (by kernel_rfl), octet_Reader_Err.forms, octet_Reader_Err.vc⟩

set_option maxRecDepth 100000 in
theorem octet_Reader_Raw.forms : octet_Reader_Raw.fd.formsOk = true := by kernel_rfl
set_option maxRecDepth 100000 in
theorem octet_Reader_Raw.vc : octet_Reader_Raw.fd.vc tt Γ := ⟨fun d => by kernel_rfl, fun k d => by kernel_rfl, ⟨trivial, ⟨⟨trivial, ⟨⟨trivial, trivial, trivial⟩, ⟨trivial, ⟨⟨trivial, ⟨trivial, trivial, trivial⟩, trivial⟩, ⟨trivial, ⟨⟨trivial, ⟨trivial, trivial, trivial⟩, trivial⟩, trivial⟩, trivial⟩⟩, trivial⟩⟩, trivial⟩, ⟨trivial, ⟨trivial, trivial, trivial⟩, trivial⟩, trivial⟩, trivial⟩⟩
set_option maxRecDepth 100000 in
theorem octet_Reader_Raw.ok : FnOk Try.prog tt Γ 41 octet_Reader_Raw.fd := ⟨by kernel_rfl, by kernel_rfl, enters_ok (fn := Try.f41) (by kernel_rfl) (by kernel_rfl) (by kernel_rfl), octet_Reader_Raw.forms, octet_Reader_Raw.vc⟩

set_option maxRecDepth 100000 in
theorem octet_Reader_Num.forms : octet_Reader_Num.fd.formsOk = true := by kernel_rfl
set_option maxRecDepth 100000 in
theorem octet_Reader_Num.vc : octet_Reader_Num.fd.vc tt Γ := ⟨fun d => by kernel_rfl, fun k d => by kernel_rfl, ⟨trivial, ⟨trivial, ⟨⟨trivial, ⟨⟨trivial, trivial, trivial⟩, trivial⟩, trivial⟩, ⟨trivial, ⟨⟨trivial, ⟨⟨trivial, ⟨trivial, trivial, trivial⟩, trivial⟩, trivial⟩, trivial⟩, ⟨trivial, ⟨⟨trivial, ⟨⟨trivial, ⟨⟨trivial, trivial⟩, ⟨⟨trivial, ⟨⟨trivial, ⟨⟨trivial, ⟨trivial, trivial, trivial⟩, trivial⟩, trivial⟩, trivial⟩, trivial, trivial⟩, trivial⟩, trivial, trivial⟩, trivial⟩, trivial⟩, ⟨fun d => by kernel_rfl, fun k d => by kernel_rfl⟩⟩, trivial⟩, ⟨⟨trivial, ⟨⟨trivial, trivial, trivial⟩, trivial⟩, trivial⟩, ⟨⟨trivial, ⟨⟨trivial, ⟨trivial, trivial, trivial⟩, trivial⟩, trivial⟩, trivial⟩, ⟨trivial, trivial, trivial⟩, trivial⟩, trivial⟩, trivial⟩, trivial⟩, trivial⟩, trivial⟩, trivial⟩, trivial⟩, trivial⟩⟩
set_option maxRecDepth 100000 in
theorem octet_Reader_Num.ok : FnOk Try.prog tt Γ 27 octet_Reader_Num.fd := ⟨by kernel_rfl, by kernel_rfl, enters_ok (fn := Try.f27) (by kernel_rfl) (by kernel_rfl) (by kernel_rfl), octet_Reader_Num.forms, octet_Reader_Num.vc⟩

set_option maxRecDepth 100000 in
theorem octet_Reader_Text.forms : octet_Reader_Text.fd.formsOk = true := by kernel_rfl
set_option maxRecDepth 100000 in
theorem octet_Reader_Text.vc : octet_Reader_Text.fd.vc tt Γ := ⟨fun d => by kernel_rfl, fun k d => by kernel_rfl, ⟨trivial, ⟨trivial, trivial, trivial⟩, trivial⟩⟩
set_option maxRecDepth 100000 in
theorem octet_Reader_Text.ok : FnOk Try.prog tt Γ 29 octet_Reader_Text.fd := ⟨by kernel_rfl, by kernel_rfl, enters_ok (fn := Try.f29) (by kernel_rfl) (by kernel_rfl) (by kernel_rfl), octet_Reader_Text.forms, octet_Reader_Text.vc⟩

set_option maxRecDepth 100000 in
theorem octet_Reader_Flag.forms : octet_Reader_Flag.fd.formsOk = true := by kernel_rfl
set_option maxRecDepth 100000 in
theorem octet_Reader_Flag.vc : octet_Reader_Flag.fd.vc tt Γ := ⟨fun d => by kernel_rfl, fun k d => by kernel_rfl, ⟨trivial, ⟨trivial, ⟨⟨trivial, ⟨⟨trivial, ⟨trivial, trivial, trivial⟩, trivial⟩, trivial⟩, trivial⟩, ⟨trivial, trivial, trivial⟩, trivial⟩, trivial⟩, trivial⟩⟩
set_option maxRecDepth 100000 in
theorem octet_Reader_Flag.ok : FnOk Try.prog tt Γ 44 octet_Reader_Flag.fd := ⟨by kernel_rfl, by kernel_rfl, enters_ok (fn := Try.f44) (by kernel_rfl) (by kernel_rfl) (by kernel_rfl), octet_Reader_Flag.forms, octet_Reader_Flag.vc⟩

set_option maxRecDepth 100000 in
theorem octet_Reader_Texts.forms : octet_Reader_Texts.fd.formsOk = true := by kernel_rfl
set_option maxRecDepth 100000 in
theorem octet_Reader_Texts.vc : octet_Reader_Texts.fd.vc tt Γ := ⟨fun d => by kernel_rfl, fun k d => by kernel_rfl, ⟨trivial, ⟨trivial, ⟨⟨trivial, ⟨⟨trivial, ⟨⟨trivial, trivial⟩, ⟨⟨trivial, ⟨⟨trivial, ⟨⟨trivial, trivial, trivial⟩, trivial⟩, trivial⟩, trivial, trivial⟩, trivial⟩, trivial, trivial⟩, trivial⟩, trivial⟩, ⟨fun d => by kernel_rfl, fun k d => by kernel_rfl⟩⟩, trivial⟩, ⟨trivial, trivial, trivial⟩, trivial⟩, trivial⟩, trivial⟩⟩
set_option maxRecDepth 100000 in
theorem octet_Reader_Texts.ok : FnOk Try.prog tt Γ 45 octet_Reader_Texts.fd := ⟨by kernel_rfl, by kernel_rfl, enters_ok (fn := Try.f45) (by kernel_rfl) (by kernel_rfl) (by kernel_rfl), octet_Reader_Texts.forms, octet_Reader_Texts.vc⟩

set_option maxRecDepth 100000 in
theorem event_readSlip.forms : event_readSlip.fd.formsOk = true := by kernel_rfl
set_option maxRecDepth 100000 in
theorem event_readSlip.vc : event_readSlip.fd.vc tt Γ := ⟨fun d => by kernel_rfl, fun k d => by kernel_rfl, ⟨trivial, ⟨trivial, ⟨⟨trivial, ⟨trivial, trivial⟩, trivial⟩, ⟨trivial, trivial, trivial⟩, trivial⟩, trivial⟩, trivial⟩⟩
set_option maxRecDepth 100000 in
theorem event_readSlip.ok : FnOk Try.prog tt Γ 46 event_readSlip.fd := ⟨by kernel_rfl, by kernel_rfl, enters_ok (fn := Try.f46) (by kernel_rfl) (by kernel_rfl) (by kernel_rfl), event_readSlip.forms, event_readSlip.vc⟩

set_option maxRecDepth 100000 in
theorem event_readEntry.forms : event_readEntry.fd.formsOk = true := by kernel_rfl
set_option maxRecDepth 100000 in
theorem event_readEntry.vc : event_readEntry.fd.vc tt Γ := ⟨fun d => by kernel_rfl, fun k d => by kernel_rfl, ⟨trivial, ⟨trivial, ⟨trivial, ⟨⟨trivial, ⟨⟨trivial, ⟨⟨trivial, trivial⟩, ⟨⟨trivial, ⟨⟨trivial, ⟨trivial, trivial⟩, trivial⟩, trivial, trivial⟩, trivial⟩, trivial, trivial⟩, trivial⟩, trivial⟩, ⟨fun d => by kernel_rfl, fun k d => by kernel_rfl⟩⟩, trivial⟩, ⟨trivial, trivial, trivial⟩, trivial⟩, trivial⟩, trivial⟩, trivial⟩⟩
set_option maxRecDepth 100000 in
theorem event_readEntry.ok : FnOk Try.prog tt Γ 28 event_readEntry.fd := ⟨by kernel_rfl, by kernel_rfl, enters_ok (fn := Try.f28) (by kernel_rfl) (by kernel_rfl) (by kernel_rfl), event_readEntry.forms, event_readEntry.vc⟩

set_option maxRecDepth 100000 in
theorem octet_Reader_Left.forms : octet_Reader_Left.fd.formsOk = true := by kernel_rfl
set_option maxRecDepth 100000 in
theorem octet_Reader_Left.vc : octet_Reader_Left.fd.vc tt Γ := ⟨fun d => by kernel_rfl, fun k d => by kernel_rfl, ⟨trivial, ⟨⟨trivial, ⟨⟨trivial, trivial, trivial⟩, trivial⟩, trivial⟩, ⟨trivial, trivial, trivial⟩, trivial⟩, trivial⟩⟩
set_option maxRecDepth 100000 in
theorem octet_Reader_Left.ok : FnOk Try.prog tt Γ 47 octet_Reader_Left.fd := ⟨by kernel_rfl, by kernel_rfl, enters_ok (fn := Try.f47) (by kernel_rfl) (by kernel_rfl) (by kernel_rfl), octet_Reader_Left.forms, octet_Reader_Left.vc⟩

set_option maxRecDepth 100000 in
theorem octet_Reader_End.forms : octet_Reader_End.fd.formsOk = true := by kernel_rfl
set_option maxRecDepth 100000 in
theorem octet_Reader_End.vc : octet_Reader_End.fd.vc tt Γ := ⟨fun d => by kernel_rfl, fun k d => by kernel_rfl, ⟨trivial, ⟨⟨trivial, ⟨trivial, trivial⟩, trivial⟩, ⟨trivial, trivial, trivial⟩, trivial⟩, trivial⟩⟩
set_option maxRecDepth 100000 in
theorem octet_Reader_End.ok : FnOk Try.prog tt Γ 30 octet_Reader_End.fd := ⟨by kernel_rfl, by kernel_rfl, enters_ok (fn := Try.f30) (by kernel_rfl) (by kernel_rfl) (by kernel_rfl), octet_Reader_End.forms, octet_Reader_End.vc⟩

set_option maxRecDepth 100000 in
theorem event_Read.forms : event_Read.fd.formsOk = true := by kernel_rfl
set_option maxRecDepth 100000 in
theorem event_Read.vc : event_Read.fd.vc tt Γ := ⟨fun d => by kernel_rfl, fun k d => by kernel_rfl, ⟨trivial, ⟨trivial, ⟨trivial, ⟨⟨trivial, ⟨trivial, ⟨trivial, ⟨trivial, ⟨trivial, ⟨trivial, ⟨trivial, ⟨⟨trivial, ⟨trivial, trivial⟩, trivial⟩, ⟨trivial, ⟨trivial, ⟨trivial, ⟨trivial, ⟨trivial, trivial⟩, trivial⟩⟩, trivial⟩⟩, ⟨fun d => by kernel_rfl, fun k d => by kernel_rfl⟩⟩⟩, trivial⟩⟩, trivial⟩⟩, trivial⟩, trivial⟩, ⟨⟨trivial, ⟨trivial, ⟨⟨trivial, trivial, trivial⟩, trivial⟩, trivial⟩, trivial⟩, ⟨⟨trivial, ⟨⟨trivial, trivial, trivial⟩, trivial⟩, trivial⟩, ⟨trivial, trivial, trivial⟩, trivial⟩, trivial⟩, ⟨fun d => by kernel_rfl, fun k d => by kernel_rfl⟩⟩, trivial⟩, trivial⟩, trivial⟩⟩
set_option maxRecDepth 100000 in
theorem event_Read.ok : FnOk Try.prog tt Γ 14 event_Read.fd := ⟨by kernel_rfl, by kernel_rfl, enters_ok (fn := Try.f14) (by kernel_rfl) (by kernel_rfl) (by kernel_rfl), event_Read.forms, event_Read.vc⟩

set_option maxRecDepth 100000 in
theorem chartularyref14_num.forms : chartularyref14_num.fd.formsOk = true := by kernel_rfl
set_option maxRecDepth 100000 in
theorem chartularyref14_num.vc : chartularyref14_num.fd.vc tt Γ := ⟨fun d => by kernel_rfl, fun k d => by kernel_rfl, ⟨trivial, ⟨trivial, ⟨⟨⟨⟨trivial, ⟨trivial, trivial⟩, trivial⟩, ⟨trivial, trivial, trivial⟩, trivial⟩, ⟨fun d => by kernel_rfl, fun k d => by kernel_rfl⟩⟩, ⟨trivial, trivial, trivial⟩, trivial⟩, trivial⟩, trivial⟩⟩
set_option maxRecDepth 100000 in
theorem chartularyref14_num.ok : FnOk Try.prog tt Γ 31 chartularyref14_num.fd := ⟨by kernel_rfl, by kernel_rfl, enters_ok (fn := Try.f31) (by kernel_rfl) (by kernel_rfl) (by kernel_rfl), chartularyref14_num.forms, chartularyref14_num.vc⟩

set_option maxRecDepth 100000 in
theorem chartularyref14_text.forms : chartularyref14_text.fd.formsOk = true := by kernel_rfl
set_option maxRecDepth 100000 in
theorem chartularyref14_text.vc : chartularyref14_text.fd.vc tt Γ := ⟨fun d => by kernel_rfl, fun k d => by kernel_rfl, ⟨trivial, ⟨trivial, trivial, trivial⟩, trivial⟩⟩
set_option maxRecDepth 100000 in
theorem chartularyref14_text.ok : FnOk Try.prog tt Γ 32 chartularyref14_text.fd := ⟨by kernel_rfl, by kernel_rfl, enters_ok (fn := Try.f32) (by kernel_rfl) (by kernel_rfl) (by kernel_rfl), chartularyref14_text.forms, chartularyref14_text.vc⟩

set_option maxRecDepth 100000 in
theorem chartularyref14_truth.forms : chartularyref14_truth.fd.formsOk = true := by kernel_rfl
set_option maxRecDepth 100000 in
theorem chartularyref14_truth.vc : chartularyref14_truth.fd.vc tt Γ := ⟨fun d => by kernel_rfl, fun k d => by kernel_rfl, ⟨trivial, ⟨⟨trivial, ⟨⟨trivial, trivial, trivial⟩, trivial⟩, trivial⟩, ⟨trivial, trivial, trivial⟩, trivial⟩, trivial⟩⟩
set_option maxRecDepth 100000 in
theorem chartularyref14_truth.ok : FnOk Try.prog tt Γ 33 chartularyref14_truth.fd := ⟨by kernel_rfl, by kernel_rfl, enters_ok (fn := Try.f33) (by kernel_rfl) (by kernel_rfl) (by kernel_rfl), chartularyref14_truth.forms, chartularyref14_truth.vc⟩

set_option maxRecDepth 100000 in
theorem chartularyref14_Bytes.forms : chartularyref14_Bytes.fd.formsOk = true := by kernel_rfl
set_option maxRecDepth 100000 in
theorem chartularyref14_Bytes.vc : chartularyref14_Bytes.fd.vc tt Γ := ⟨fun d => by kernel_rfl, fun k d => by kernel_rfl, ⟨trivial, ⟨trivial, ⟨trivial, ⟨trivial, ⟨⟨trivial, ⟨trivial, ⟨⟨trivial, ⟨⟨⟨trivial, ⟨trivial, trivial⟩, trivial⟩, ⟨trivial, trivial, trivial⟩, trivial⟩, ⟨fun d => by kernel_rfl, fun k d => by kernel_rfl⟩⟩, trivial⟩, ⟨trivial, ⟨⟨trivial, ⟨⟨⟨trivial, ⟨trivial, trivial⟩, trivial⟩, ⟨⟨trivial, ⟨trivial, ⟨trivial, ⟨trivial, trivial⟩, trivial⟩, trivial⟩, trivial⟩, trivial, trivial⟩, trivial⟩, ⟨fun d => by kernel_rfl, fun k d => by kernel_rfl⟩⟩, trivial⟩, ⟨trivial, trivial, trivial⟩, trivial⟩, trivial⟩, trivial⟩, trivial⟩, trivial⟩, ⟨trivial, ⟨⟨trivial, trivial, trivial⟩, ⟨trivial, ⟨⟨trivial, trivial, trivial⟩, ⟨⟨trivial, ⟨trivial, trivial⟩, trivial⟩, ⟨⟨trivial, trivial, trivial⟩, ⟨trivial, ⟨⟨trivial, trivial, trivial⟩, ⟨trivial, trivial, trivial⟩⟩, trivial⟩⟩, ⟨fun d => by kernel_rfl, fun k d => by kernel_rfl⟩⟩⟩, trivial⟩⟩, trivial⟩⟩, trivial⟩, trivial⟩, trivial⟩, trivial⟩⟩
set_option maxRecDepth 100000 in
theorem chartularyref14_Bytes.ok : FnOk Try.prog tt Γ 15 chartularyref14_Bytes.fd := ⟨by kernel_rfl, by kernel_rfl, enters_ok (fn := Try.f15) (by kernel_rfl) (by kernel_rfl) (by kernel_rfl), chartularyref14_Bytes.forms, chartularyref14_Bytes.vc⟩

set_option maxRecDepth 100000 in
theorem chartularylaw14_EventBytes.forms : chartularylaw14_EventBytes.fd.formsOk = true := by kernel_rfl
set_option maxRecDepth 100000 in
theorem chartularylaw14_EventBytes.vc : chartularylaw14_EventBytes.fd.vc tt Γ := ⟨fun d => by kernel_rfl, fun k d => by kernel_rfl, ⟨trivial, ⟨trivial, ⟨trivial, ⟨⟨trivial, ⟨⟨trivial, trivial, trivial⟩, trivial⟩, trivial⟩, ⟨trivial, ⟨trivial, trivial, trivial⟩, trivial⟩, trivial⟩, trivial⟩, trivial⟩, trivial⟩⟩
set_option maxRecDepth 100000 in
theorem chartularylaw14_EventBytes.ok : FnOk Try.prog tt Γ 5 chartularylaw14_EventBytes.fd := ⟨by kernel_rfl, by kernel_rfl, enters_ok (fn := Try.f5) (by kernel_rfl) (by kernel_rfl) (by kernel_rfl), chartularylaw14_EventBytes.forms, chartularylaw14_EventBytes.vc⟩

set_option maxRecDepth 100000 in
theorem chartularylaw14_EventReads.forms : chartularylaw14_EventReads.fd.formsOk = true := by kernel_rfl
set_option maxRecDepth 100000 in
theorem chartularylaw14_EventReads.vc : chartularylaw14_EventReads.fd.vc tt Γ := ⟨fun d => by kernel_rfl, fun k d => by kernel_rfl, ⟨trivial, ⟨⟨trivial, ⟨trivial, trivial⟩, trivial⟩, ⟨trivial, ⟨⟨trivial, ⟨⟨trivial, trivial, trivial⟩, trivial⟩, trivial⟩, ⟨trivial, trivial, trivial⟩, trivial⟩, trivial⟩, ⟨fun d => by kernel_rfl, fun k d => by kernel_rfl⟩⟩, trivial⟩⟩
set_option maxRecDepth 100000 in
theorem chartularylaw14_EventReads.ok : FnOk Try.prog tt Γ 6 chartularylaw14_EventReads.fd := ⟨by kernel_rfl, by kernel_rfl, enters_ok (fn := Try.f6) (by kernel_rfl) (by kernel_rfl) (by kernel_rfl), chartularylaw14_EventReads.forms, chartularylaw14_EventReads.vc⟩

noncomputable def tab : Tab := [(17, chartularylaw14_cut.fd), (16, chartularylaw14_FewEntry.fd), (7, chartularylaw14_Few.fd), (52, paper_sign.fd), (51, paper_word.fd), (48, paper_IsID.fd), (35, paper_IsName.fd), (49, event_rising.fd), (50, event_rightSlip.fd), (34, event_RightEntry.fd), (18, event_Right.fd), (36, octet_Num.fd), (19, octet_Writer_Num.fd), (40, octet_Text.fd), (21, octet_Writer_Text.fd), (37, octet_Writer_Flag.fd), (38, octet_Writer_Texts.fd), (39, event_slip.fd), (20, event_entry.fd), (22, octet_Writer_All.fd), (8, event_Bytes.fd), (9, chartularylaw14_awake.fd), (24, chartularyref14_word.fd), (23, chartularyref14_RightEntry.fd), (10, chartularyref14_Right.fd), (25, chartularyref14_SameEntry.fd), (11, chartularyref14_Same.fd), (12, chartularyref14_Clean.fd), (13, event_Same.fd), (4, chartularylaw14_EventSames.fd), (26, octet_Read.fd), (42, octet_Reader_Fail.fd), (43, octet_Reader_Err.fd), (41, octet_Reader_Raw.fd), (27, octet_Reader_Num.fd), (29, octet_Reader_Text.fd), (44, octet_Reader_Flag.fd), (45, octet_Reader_Texts.fd), (46, event_readSlip.fd), (28, event_readEntry.fd), (47, octet_Reader_Left.fd), (30, octet_Reader_End.fd), (14, event_Read.fd), (31, chartularyref14_num.fd), (32, chartularyref14_text.fd), (33, chartularyref14_truth.fd), (15, chartularyref14_Bytes.fd), (5, chartularylaw14_EventBytes.fd), (6, chartularylaw14_EventReads.fd)]
theorem Γ_eq (k : Nat) : Γ k = gamK tab k := by kernel_rfl
theorem tt_ok : TTok Try.prog tt := ttB_ok (by kernel_rfl)
theorem mixed : Try.prog.follows .mixedOrders = true := by kernel_rfl
theorem tab_all : ∀ x ∈ tab, FnOk Try.prog tt Γ x.1 x.2 := by
  unfold tab
  simp only [List.forall_mem_cons]
  exact ⟨chartularylaw14_cut.ok, chartularylaw14_FewEntry.ok, chartularylaw14_Few.ok, paper_sign.ok, paper_word.ok, paper_IsID.ok, paper_IsName.ok, event_rising.ok, event_rightSlip.ok, event_RightEntry.ok, event_Right.ok, octet_Num.ok, octet_Writer_Num.ok, octet_Text.ok, octet_Writer_Text.ok, octet_Writer_Flag.ok, octet_Writer_Texts.ok, event_slip.ok, event_entry.ok, octet_Writer_All.ok, event_Bytes.ok, chartularylaw14_awake.ok, chartularyref14_word.ok, chartularyref14_RightEntry.ok, chartularyref14_Right.ok, chartularyref14_SameEntry.ok, chartularyref14_Same.ok, chartularyref14_Clean.ok, event_Same.ok, chartularylaw14_EventSames.ok, octet_Read.ok, octet_Reader_Fail.ok, octet_Reader_Err.ok, octet_Reader_Raw.ok, octet_Reader_Num.ok, octet_Reader_Text.ok, octet_Reader_Flag.ok, octet_Reader_Texts.ok, event_readSlip.ok, event_readEntry.ok, octet_Reader_Left.ok, octet_Reader_End.ok, event_Read.ok, chartularyref14_num.ok, chartularyref14_text.ok, chartularyref14_truth.ok, chartularyref14_Bytes.ok, chartularylaw14_EventBytes.ok, chartularylaw14_EventReads.ok, fun x h => nomatch h⟩
theorem chartularylaw14_EventSames.spec (k : Nat) : SpecOk Try.prog 4 (chartularylaw14_EventSames.fd.sp k) := spec_ok mixed tt_ok Γ_eq tab_all (f := 4) (F := chartularylaw14_EventSames.fd) (by unfold tab; simp only [List.mem_cons, true_or, or_true]) k
theorem chartularylaw14_EventBytes.spec (k : Nat) : SpecOk Try.prog 5 (chartularylaw14_EventBytes.fd.sp k) := spec_ok mixed tt_ok Γ_eq tab_all (f := 5) (F := chartularylaw14_EventBytes.fd) (by unfold tab; simp only [List.mem_cons, true_or, or_true]) k
theorem chartularylaw14_EventReads.spec (k : Nat) : SpecOk Try.prog 6 (chartularylaw14_EventReads.fd.sp k) := spec_ok mixed tt_ok Γ_eq tab_all (f := 6) (F := chartularylaw14_EventReads.fd) (by unfold tab; simp only [List.mem_cons, true_or, or_true]) k

end Go.Proofs.Ythedgoefiffogaa.E
