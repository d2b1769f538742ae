import Derived.Test.YtioagphpiflplaaEDefs
import Derived.Test.YtioagphpiflplaaETab
namespace Go.Proofs.Ytioagphpiflplaa.E
open Go Go.Proofs.Ytioagphpiflplaa.Eng Go.Proofs
set_option maxRecDepth 100000 in
theorem chartularylaw21_few.forms : chartularylaw21_few.fd.formsOk = true := by kernel_rfl
set_option maxRecDepth 100000 in
theorem chartularylaw21_few.vc : chartularylaw21_few.fd.vc tt Γ := ⟨fun d => by kernel_rfl, fun k d => by kernel_rfl, ⟨trivial, ⟨⟨trivial, ⟨⟨trivial, trivial, trivial⟩, trivial⟩, trivial⟩, ⟨trivial, trivial, trivial⟩, trivial⟩, trivial⟩⟩
set_option maxRecDepth 100000 in
theorem chartularylaw21_few.ok : FnOk Try.prog tt Γ 6 chartularylaw21_few.fd := ⟨by kernel_rfl, by kernel_rfl, enters_ok (fn := Try.f6) (by kernel_rfl) (by kernel_rfl) (by kernel_rfl), chartularylaw21_few.forms, chartularylaw21_few.vc⟩

set_option maxRecDepth 100000 in
theorem mill_New.forms : mill_New.fd.formsOk = true := by kernel_rfl
set_option maxRecDepth 100000 in
theorem mill_New.vc : mill_New.fd.vc tt Γ := ⟨fun d => by kernel_rfl, fun k d => by kernel_rfl, ⟨trivial, ⟨trivial, trivial, trivial⟩, trivial⟩⟩
set_option maxRecDepth 100000 in
theorem mill_New.ok : FnOk Try.prog tt Γ 25 mill_New.fd := ⟨by kernel_rfl, by kernel_rfl, enters_ok (fn := Try.f25) (by kernel_rfl) (by kernel_rfl) (by kernel_rfl), mill_New.forms, mill_New.vc⟩

set_option maxRecDepth 100000 in
theorem sha_New.forms : sha_New.fd.formsOk = true := by kernel_rfl
set_option maxRecDepth 100000 in
theorem sha_New.vc : sha_New.fd.vc tt Γ := ⟨fun d => by kernel_rfl, fun k d => by kernel_rfl, ⟨trivial, ⟨trivial, trivial, trivial⟩, trivial⟩⟩
set_option maxRecDepth 100000 in
theorem sha_New.ok : FnOk Try.prog tt Γ 82 sha_New.fd := ⟨by kernel_rfl, by kernel_rfl, enters_ok (fn := Try.f82) (by kernel_rfl) (by kernel_rfl) (by kernel_rfl), sha_New.forms, sha_New.vc⟩

set_option maxRecDepth 100000 in
theorem bits_RotateLeft32.forms : bits_RotateLeft32.fd.formsOk = true := by kernel_rfl
set_option maxRecDepth 100000 in
theorem bits_RotateLeft32.vc : bits_RotateLeft32.fd.vc tt Γ := ⟨fun d => by kernel_rfl, fun k d => by kernel_rfl, ⟨trivial, ⟨trivial, ⟨trivial, trivial, trivial⟩, trivial⟩, trivial⟩⟩
set_option maxRecDepth 100000 in
theorem bits_RotateLeft32.ok : FnOk Try.prog tt Γ 97 bits_RotateLeft32.fd := ⟨by kernel_rfl, by kernel_rfl, enters_ok (fn := Try.f97) (by kernel_rfl) (by kernel_rfl) (by kernel_rfl), bits_RotateLeft32.forms, bits_RotateLeft32.vc⟩

set_option maxRecDepth 100000 in
theorem sha_turn.forms : sha_turn.fd.formsOk = true := by kernel_rfl
set_option maxRecDepth 100000 in
theorem sha_turn.vc : sha_turn.fd.vc tt Γ := ⟨fun d => by kernel_rfl, fun k d => by kernel_rfl, ⟨trivial, ⟨trivial, trivial, trivial⟩, trivial⟩⟩
set_option maxRecDepth 100000 in
theorem sha_turn.ok : FnOk Try.prog tt Γ 96 sha_turn.fd := ⟨by kernel_rfl, by kernel_rfl, enters_ok (fn := Try.f96) (by kernel_rfl) (by kernel_rfl) (by kernel_rfl), sha_turn.forms, sha_turn.vc⟩

set_option maxRecDepth 100000 in
theorem sha_words.forms : sha_words.fd.formsOk = true := by kernel_rfl
set_option maxRecDepth 100000 in
theorem sha_words.vc : sha_words.fd.vc tt Γ := ⟨fun d => by kernel_rfl, fun k d => by kernel_rfl, ⟨trivial, ⟨trivial, ⟨⟨trivial, ⟨⟨trivial, ⟨⟨trivial, trivial⟩, ⟨⟨trivial, trivial, trivial⟩, trivial, trivial⟩, trivial⟩, trivial⟩, ⟨fun d => by kernel_rfl, fun k d => by kernel_rfl⟩⟩, trivial⟩, ⟨⟨trivial, ⟨⟨⟨trivial, ⟨trivial, trivial⟩, trivial⟩, ⟨⟨trivial, trivial, trivial⟩, trivial, trivial⟩, trivial⟩, ⟨fun d => by kernel_rfl, fun k d => by kernel_rfl⟩⟩, trivial⟩, ⟨trivial, trivial, trivial⟩, trivial⟩, trivial⟩, trivial⟩, trivial⟩⟩
set_option maxRecDepth 100000 in
theorem sha_words.ok : FnOk Try.prog tt Γ 94 sha_words.fd := ⟨by kernel_rfl, by kernel_rfl, enters_ok (fn := Try.f94) (by kernel_rfl) (by kernel_rfl) (by kernel_rfl), sha_words.forms, sha_words.vc⟩

set_option maxRecDepth 100000 in
theorem sha_rounds.forms : sha_rounds.fd.formsOk = true := by kernel_rfl
set_option maxRecDepth 100000 in
theorem sha_rounds.vc : sha_rounds.fd.vc tt Γ := ⟨fun d => by kernel_rfl, fun k d => by kernel_rfl, ⟨trivial, ⟨trivial, trivial, trivial⟩, trivial⟩⟩
set_option maxRecDepth 100000 in
theorem sha_rounds.ok : FnOk Try.prog tt Γ 95 sha_rounds.fd := ⟨by kernel_rfl, by kernel_rfl, enters_ok (fn := Try.f95) (by kernel_rfl) (by kernel_rfl) (by kernel_rfl), sha_rounds.forms, sha_rounds.vc⟩

set_option maxRecDepth 100000 in
theorem sha_State_mix.forms : sha_State_mix.fd.formsOk = true := by kernel_rfl
set_option maxRecDepth 100000 in
theorem sha_State_mix.vc : sha_State_mix.fd.vc tt Γ := ⟨fun d => by kernel_rfl, fun k d => by kernel_rfl, ⟨trivial, ⟨trivial, ⟨⟨trivial, ⟨⟨trivial, ⟨⟨trivial, trivial⟩, ⟨⟨trivial, ⟨trivial, ⟨trivial, ⟨trivial, ⟨trivial, ⟨trivial, trivial, trivial⟩, trivial⟩, trivial⟩, trivial⟩, trivial⟩, trivial⟩, trivial, trivial⟩, trivial⟩, trivial⟩, ⟨fun d => by kernel_rfl, fun k d => by kernel_rfl⟩⟩, trivial⟩, ⟨trivial, ⟨⟨trivial, ⟨⟨trivial, trivial⟩, ⟨⟨trivial, trivial, trivial⟩, trivial, trivial⟩, trivial⟩, trivial⟩, ⟨fun d => by kernel_rfl, fun k d => by kernel_rfl⟩⟩, trivial⟩, trivial⟩, trivial⟩, trivial⟩⟩
set_option maxRecDepth 100000 in
theorem sha_State_mix.ok : FnOk Try.prog tt Γ 91 sha_State_mix.fd := ⟨by kernel_rfl, by kernel_rfl, enters_ok (fn := Try.f91) (by kernel_rfl) (by kernel_rfl) (by kernel_rfl), sha_State_mix.forms, sha_State_mix.vc⟩

set_option maxRecDepth 100000 in
theorem sha_State_Write.forms : sha_State_Write.fd.formsOk = true := by kernel_rfl
set_option maxRecDepth 100000 in
theorem sha_State_Write.vc : sha_State_Write.fd.vc tt Γ := ⟨fun d => by kernel_rfl, fun k d => by kernel_rfl, ⟨⟨trivial, ⟨trivial, trivial⟩, trivial⟩, ⟨trivial, ⟨trivial, ⟨⟨⟨⟨trivial, ⟨trivial, trivial⟩, trivial⟩, ⟨trivial, trivial, trivial⟩, trivial⟩, ⟨fun d => by kernel_rfl, fun k d => by kernel_rfl⟩⟩, trivial, trivial⟩, trivial⟩, trivial⟩, trivial⟩⟩
set_option maxRecDepth 100000 in
theorem sha_State_Write.ok : FnOk Try.prog tt Γ 83 sha_State_Write.fd := ⟨by kernel_rfl, by kernel_rfl, enters_ok (fn := Try.f83) (by kernel_rfl) (by kernel_rfl) (by kernel_rfl), sha_State_Write.forms, sha_State_Write.vc⟩

set_option maxRecDepth 100000 in
theorem sha_State_Sum.forms : sha_State_Sum.fd.formsOk = true := by kernel_rfl
set_option maxRecDepth 100000 in
theorem sha_State_Sum.vc : sha_State_Sum.fd.vc tt Γ := ⟨fun d => by kernel_rfl, fun k d => by kernel_rfl, ⟨trivial, ⟨⟨trivial, ⟨⟨trivial, trivial, trivial⟩, trivial⟩, trivial⟩, ⟨trivial, ⟨trivial, ⟨⟨⟨⟨trivial, ⟨trivial, trivial⟩, trivial⟩, trivial, trivial⟩, ⟨fun d => by kernel_rfl, fun k d => by kernel_rfl⟩⟩, ⟨⟨trivial, ⟨⟨trivial, ⟨⟨trivial, trivial⟩, ⟨⟨trivial, trivial, trivial⟩, trivial, trivial⟩, trivial⟩, trivial⟩, ⟨fun d => by kernel_rfl, fun k d => by kernel_rfl⟩⟩, trivial⟩, ⟨trivial, ⟨trivial, ⟨⟨trivial, ⟨⟨trivial, ⟨⟨trivial, trivial⟩, ⟨⟨trivial, trivial, trivial⟩, trivial, trivial⟩, trivial⟩, trivial⟩, ⟨fun d => by kernel_rfl, fun k d => by kernel_rfl⟩⟩, trivial⟩, ⟨trivial, trivial, trivial⟩, trivial⟩, trivial⟩, trivial⟩, trivial⟩, trivial⟩, trivial⟩, trivial⟩, trivial⟩, trivial⟩⟩
set_option maxRecDepth 100000 in
theorem sha_State_Sum.ok : FnOk Try.prog tt Γ 84 sha_State_Sum.fd := ⟨by kernel_rfl, by kernel_rfl, enters_ok (fn := Try.f84) (by kernel_rfl) (by kernel_rfl) (by kernel_rfl), sha_State_Sum.forms, sha_State_Sum.vc⟩

set_option maxRecDepth 100000 in
theorem sha_Sum.forms : sha_Sum.fd.formsOk = true := by kernel_rfl
set_option maxRecDepth 100000 in
theorem sha_Sum.vc : sha_Sum.fd.vc tt Γ := ⟨fun d => by kernel_rfl, fun k d => by kernel_rfl, ⟨trivial, ⟨trivial, ⟨trivial, ⟨trivial, trivial, trivial⟩, trivial⟩, trivial⟩, trivial⟩⟩
set_option maxRecDepth 100000 in
theorem sha_Sum.ok : FnOk Try.prog tt Γ 65 sha_Sum.fd := ⟨by kernel_rfl, by kernel_rfl, enters_ok (fn := Try.f65) (by kernel_rfl) (by kernel_rfl) (by kernel_rfl), sha_Sum.forms, sha_Sum.vc⟩

set_option maxRecDepth 100000 in
theorem mill_name.forms : mill_name.fd.formsOk = true := by kernel_rfl
set_option maxRecDepth 100000 in
theorem mill_name.vc : mill_name.fd.vc tt Γ := ⟨fun d => by kernel_rfl, fun k d => by kernel_rfl, ⟨trivial, ⟨⟨trivial, ⟨⟨trivial, trivial, trivial⟩, trivial⟩, trivial⟩, ⟨trivial, trivial, trivial⟩, trivial⟩, trivial⟩⟩
set_option maxRecDepth 100000 in
theorem mill_name.ok : FnOk Try.prog tt Γ 32 mill_name.fd := ⟨by kernel_rfl, by kernel_rfl, enters_ok (fn := Try.f32) (by kernel_rfl) (by kernel_rfl) (by kernel_rfl), mill_name.forms, mill_name.vc⟩

set_option maxRecDepth 100000 in
theorem mill_With_has.forms : mill_With_has.fd.formsOk = true := by kernel_rfl
set_option maxRecDepth 100000 in
theorem mill_With_has.vc : mill_With_has.fd.vc tt Γ := ⟨fun d => by kernel_rfl, fun k d => by kernel_rfl, ⟨trivial, ⟨trivial, ⟨⟨trivial, ⟨⟨trivial, ⟨⟨trivial, trivial⟩, ⟨⟨trivial, ⟨⟨trivial, ⟨⟨trivial, trivial, trivial⟩, trivial⟩, trivial⟩, ⟨trivial, ⟨trivial, ⟨trivial, ⟨trivial, trivial⟩, trivial⟩, trivial⟩, trivial⟩, trivial⟩, trivial⟩, trivial, trivial⟩, trivial⟩, trivial⟩, ⟨fun d => by kernel_rfl, fun k d => by kernel_rfl⟩⟩, trivial⟩, ⟨trivial, trivial, trivial⟩, trivial⟩, trivial⟩, trivial⟩⟩
set_option maxRecDepth 100000 in
theorem mill_With_has.ok : FnOk Try.prog tt Γ 9 mill_With_has.fd := ⟨by kernel_rfl, by kernel_rfl, enters_ok (fn := Try.f9) (by kernel_rfl) (by kernel_rfl) (by kernel_rfl), mill_With_has.forms, mill_With_has.vc⟩

set_option maxRecDepth 100000 in
theorem mill_With_nil.forms : mill_With_nil.fd.formsOk = true := by kernel_rfl
set_option maxRecDepth 100000 in
theorem mill_With_nil.vc : mill_With_nil.fd.vc tt Γ := ⟨fun d => by kernel_rfl, fun k d => by kernel_rfl, ⟨trivial, ⟨trivial, ⟨⟨trivial, ⟨⟨trivial, ⟨⟨trivial, trivial⟩, ⟨⟨trivial, ⟨⟨trivial, ⟨⟨trivial, trivial, trivial⟩, trivial⟩, trivial⟩, ⟨trivial, ⟨trivial, ⟨trivial, ⟨trivial, trivial⟩, trivial⟩, trivial⟩, trivial⟩, trivial⟩, trivial⟩, trivial, trivial⟩, trivial⟩, trivial⟩, ⟨fun d => by kernel_rfl, fun k d => by kernel_rfl⟩⟩, trivial⟩, ⟨trivial, trivial, trivial⟩, trivial⟩, trivial⟩, trivial⟩⟩
set_option maxRecDepth 100000 in
theorem mill_With_nil.ok : FnOk Try.prog tt Γ 9 mill_With_nil.fd := ⟨by kernel_rfl, by kernel_rfl, enters_ok (fn := Try.f9) (by kernel_rfl) (by kernel_rfl) (by kernel_rfl), mill_With_nil.forms, mill_With_nil.vc⟩

set_option maxRecDepth 100000 in
theorem octet_Read.forms : octet_Read.fd.formsOk = true := by kernel_rfl
set_option maxRecDepth 100000 in
theorem octet_Read.vc : octet_Read.fd.vc tt Γ := ⟨fun d => by kernel_rfl, fun k d => by kernel_rfl, ⟨trivial, ⟨trivial, trivial, trivial⟩, trivial⟩⟩
set_option maxRecDepth 100000 in
theorem octet_Read.ok : FnOk Try.prog tt Γ 33 octet_Read.fd := ⟨by kernel_rfl, by kernel_rfl, enters_ok (fn := Try.f33) (by kernel_rfl) (by kernel_rfl) (by kernel_rfl), octet_Read.forms, octet_Read.vc⟩

set_option maxRecDepth 100000 in
theorem octet_Reader_Err.forms : octet_Reader_Err.fd.formsOk = true := by kernel_rfl
set_option maxRecDepth 100000 in
theorem octet_Reader_Err.vc : octet_Reader_Err.fd.vc tt Γ := ⟨fun d => by kernel_rfl, fun k d => by kernel_rfl, ⟨trivial, ⟨⟨trivial, ⟨⟨trivial, trivial, trivial⟩, trivial⟩, trivial⟩, ⟨trivial, trivial, trivial⟩, trivial⟩, trivial⟩⟩
set_option maxRecDepth 100000 in
theorem octet_Reader_Err.ok : FnOk Try.prog tt Γ 37 octet_Reader_Err.fd := ⟨by kernel_rfl, by kernel_rfl, enters_ok (fn := Try.f37) (by kernel_rfl) (by kernel_rfl) (by kernel_rfl), octet_Reader_Err.forms, octet_Reader_Err.vc⟩

set_option maxRecDepth 100000 in
theorem octet_Reader_Fail.forms : octet_Reader_Fail.fd.formsOk = true := by kernel_rfl
set_option maxRecDepth 100000 in
theorem octet_Reader_Fail.vc : octet_Reader_Fail.fd.vc tt Γ := ⟨fun d => by kernel_rfl, fun k d => by kernel_rfl, ⟨trivial, ⟨trivial, trivial⟩, trivial⟩⟩
set_option maxRecDepth 100000 in
theorem octet_Reader_Fail.ok : FnOk Try.prog tt Γ 67 octet_Reader_Fail.fd := ⟨by kernel_rfl, by kernel_rfl, enters_ok (fn := Try.f67) (by kernel_rfl) (by kernel_rfl) (by kernel_rfl), octet_Reader_Fail.forms, octet_Reader_Fail.vc⟩

set_option maxRecDepth 100000 in
theorem octet_Reader_Raw.forms : octet_Reader_Raw.fd.formsOk = true := by kernel_rfl
set_option maxRecDepth 100000 in
theorem octet_Reader_Raw.vc : octet_Reader_Raw.fd.vc tt Γ := ⟨fun d => by kernel_rfl, fun k d => by kernel_rfl, ⟨trivial, ⟨⟨trivial, ⟨⟨trivial, trivial, trivial⟩, ⟨trivial, ⟨⟨trivial, ⟨trivial, trivial, trivial⟩, trivial⟩, ⟨trivial, ⟨⟨trivial, ⟨trivial, trivial, trivial⟩, trivial⟩, trivial⟩, trivial⟩⟩, trivial⟩⟩, trivial⟩, ⟨trivial, ⟨trivial, trivial, trivial⟩, trivial⟩, trivial⟩, trivial⟩⟩
set_option maxRecDepth 100000 in
theorem octet_Reader_Raw.ok : FnOk Try.prog tt Γ 66 octet_Reader_Raw.fd := ⟨by kernel_rfl, by kernel_rfl, enters_ok (fn := Try.f66) (by kernel_rfl) (by kernel_rfl) (by kernel_rfl), octet_Reader_Raw.forms, octet_Reader_Raw.vc⟩

set_option maxRecDepth 100000 in
theorem octet_Reader_Num.forms : octet_Reader_Num.fd.formsOk = true := by kernel_rfl
set_option maxRecDepth 100000 in
theorem octet_Reader_Num.vc : octet_Reader_Num.fd.vc tt Γ := ⟨fun d => by kernel_rfl, fun k d => by kernel_rfl, ⟨trivial, ⟨trivial, ⟨⟨trivial, ⟨⟨trivial, trivial, trivial⟩, trivial⟩, trivial⟩, ⟨trivial, ⟨⟨trivial, ⟨⟨trivial, ⟨trivial, trivial, trivial⟩, trivial⟩, trivial⟩, trivial⟩, ⟨trivial, ⟨⟨trivial, ⟨⟨trivial, ⟨⟨trivial, trivial⟩, ⟨⟨trivial, ⟨⟨trivial, ⟨⟨trivial, ⟨trivial, trivial, trivial⟩, trivial⟩, trivial⟩, trivial⟩, trivial, trivial⟩, trivial⟩, trivial, trivial⟩, trivial⟩, trivial⟩, ⟨fun d => by kernel_rfl, fun k d => by kernel_rfl⟩⟩, trivial⟩, ⟨⟨trivial, ⟨⟨trivial, trivial, trivial⟩, trivial⟩, trivial⟩, ⟨⟨trivial, ⟨⟨trivial, ⟨trivial, trivial, trivial⟩, trivial⟩, trivial⟩, trivial⟩, ⟨trivial, trivial, trivial⟩, trivial⟩, trivial⟩, trivial⟩, trivial⟩, trivial⟩, trivial⟩, trivial⟩, trivial⟩, trivial⟩⟩
set_option maxRecDepth 100000 in
theorem octet_Reader_Num.ok : FnOk Try.prog tt Γ 35 octet_Reader_Num.fd := ⟨by kernel_rfl, by kernel_rfl, enters_ok (fn := Try.f35) (by kernel_rfl) (by kernel_rfl) (by kernel_rfl), octet_Reader_Num.forms, octet_Reader_Num.vc⟩

set_option maxRecDepth 100000 in
theorem octet_Reader_Text.forms : octet_Reader_Text.fd.formsOk = true := by kernel_rfl
set_option maxRecDepth 100000 in
theorem octet_Reader_Text.vc : octet_Reader_Text.fd.vc tt Γ := ⟨fun d => by kernel_rfl, fun k d => by kernel_rfl, ⟨trivial, ⟨trivial, trivial, trivial⟩, trivial⟩⟩
set_option maxRecDepth 100000 in
theorem octet_Reader_Text.ok : FnOk Try.prog tt Γ 34 octet_Reader_Text.fd := ⟨by kernel_rfl, by kernel_rfl, enters_ok (fn := Try.f34) (by kernel_rfl) (by kernel_rfl) (by kernel_rfl), octet_Reader_Text.forms, octet_Reader_Text.vc⟩

set_option maxRecDepth 100000 in
theorem octet_Reader_Flag.forms : octet_Reader_Flag.fd.formsOk = true := by kernel_rfl
set_option maxRecDepth 100000 in
theorem octet_Reader_Flag.vc : octet_Reader_Flag.fd.vc tt Γ := ⟨fun d => by kernel_rfl, fun k d => by kernel_rfl, ⟨trivial, ⟨trivial, ⟨⟨trivial, ⟨⟨trivial, ⟨trivial, trivial, trivial⟩, trivial⟩, trivial⟩, trivial⟩, ⟨trivial, trivial, trivial⟩, trivial⟩, trivial⟩, trivial⟩⟩
set_option maxRecDepth 100000 in
theorem octet_Reader_Flag.ok : FnOk Try.prog tt Γ 68 octet_Reader_Flag.fd := ⟨by kernel_rfl, by kernel_rfl, enters_ok (fn := Try.f68) (by kernel_rfl) (by kernel_rfl) (by kernel_rfl), octet_Reader_Flag.forms, octet_Reader_Flag.vc⟩

set_option maxRecDepth 100000 in
theorem proof_readItem.forms : proof_readItem.fd.formsOk = true := by kernel_rfl
set_option maxRecDepth 100000 in
theorem proof_readItem.vc : proof_readItem.fd.vc tt Γ := ⟨fun d => by kernel_rfl, fun k d => by kernel_rfl, ⟨trivial, ⟨trivial, ⟨⟨trivial, ⟨⟨trivial, ⟨trivial, trivial, trivial⟩, trivial⟩, trivial⟩, trivial⟩, ⟨trivial, ⟨trivial, trivial, trivial⟩, trivial⟩, trivial⟩, trivial⟩, trivial⟩⟩
set_option maxRecDepth 100000 in
theorem proof_readItem.ok : FnOk Try.prog tt Γ 36 proof_readItem.fd := ⟨by kernel_rfl, by kernel_rfl, enters_ok (fn := Try.f36) (by kernel_rfl) (by kernel_rfl) (by kernel_rfl), proof_readItem.forms, proof_readItem.vc⟩

set_option maxRecDepth 100000 in
theorem octet_Reader_Texts.forms : octet_Reader_Texts.fd.formsOk = true := by kernel_rfl
set_option maxRecDepth 100000 in
theorem octet_Reader_Texts.vc : octet_Reader_Texts.fd.vc tt Γ := ⟨fun d => by kernel_rfl, fun k d => by kernel_rfl, ⟨trivial, ⟨trivial, ⟨⟨trivial, ⟨⟨trivial, ⟨⟨trivial, trivial⟩, ⟨⟨trivial, ⟨⟨trivial, ⟨⟨trivial, trivial, trivial⟩, trivial⟩, trivial⟩, trivial, trivial⟩, trivial⟩, trivial, trivial⟩, trivial⟩, trivial⟩, ⟨fun d => by kernel_rfl, fun k d => by kernel_rfl⟩⟩, trivial⟩, ⟨trivial, trivial, trivial⟩, trivial⟩, trivial⟩, trivial⟩⟩
set_option maxRecDepth 100000 in
theorem octet_Reader_Texts.ok : FnOk Try.prog tt Γ 38 octet_Reader_Texts.fd := ⟨by kernel_rfl, by kernel_rfl, enters_ok (fn := Try.f38) (by kernel_rfl) (by kernel_rfl) (by kernel_rfl), octet_Reader_Texts.forms, octet_Reader_Texts.vc⟩

set_option maxRecDepth 100000 in
theorem octet_Reader_Left.forms : octet_Reader_Left.fd.formsOk = true := by kernel_rfl
set_option maxRecDepth 100000 in
theorem octet_Reader_Left.vc : octet_Reader_Left.fd.vc tt Γ := ⟨fun d => by kernel_rfl, fun k d => by kernel_rfl, ⟨trivial, ⟨⟨trivial, ⟨⟨trivial, trivial, trivial⟩, trivial⟩, trivial⟩, ⟨trivial, trivial, trivial⟩, trivial⟩, trivial⟩⟩
set_option maxRecDepth 100000 in
theorem octet_Reader_Left.ok : FnOk Try.prog tt Γ 69 octet_Reader_Left.fd := ⟨by kernel_rfl, by kernel_rfl, enters_ok (fn := Try.f69) (by kernel_rfl) (by kernel_rfl) (by kernel_rfl), octet_Reader_Left.forms, octet_Reader_Left.vc⟩

set_option maxRecDepth 100000 in
theorem octet_Reader_End.forms : octet_Reader_End.fd.formsOk = true := by kernel_rfl
set_option maxRecDepth 100000 in
theorem octet_Reader_End.vc : octet_Reader_End.fd.vc tt Γ := ⟨fun d => by kernel_rfl, fun k d => by kernel_rfl, ⟨trivial, ⟨⟨trivial, ⟨trivial, trivial⟩, trivial⟩, ⟨trivial, trivial, trivial⟩, trivial⟩, trivial⟩⟩
set_option maxRecDepth 100000 in
theorem octet_Reader_End.ok : FnOk Try.prog tt Γ 39 octet_Reader_End.fd := ⟨by kernel_rfl, by kernel_rfl, enters_ok (fn := Try.f39) (by kernel_rfl) (by kernel_rfl) (by kernel_rfl), octet_Reader_End.forms, octet_Reader_End.vc⟩

set_option maxRecDepth 100000 in
theorem paper_sign.forms : paper_sign.fd.formsOk = true := by kernel_rfl
set_option maxRecDepth 100000 in
theorem paper_sign.vc : paper_sign.fd.vc tt Γ := ⟨fun d => by kernel_rfl, fun k d => by kernel_rfl, ⟨trivial, ⟨trivial, trivial, trivial⟩, trivial⟩⟩
set_option maxRecDepth 100000 in
theorem paper_sign.ok : FnOk Try.prog tt Γ 92 paper_sign.fd := ⟨by kernel_rfl, by kernel_rfl, enters_ok (fn := Try.f92) (by kernel_rfl) (by kernel_rfl) (by kernel_rfl), paper_sign.forms, paper_sign.vc⟩

set_option maxRecDepth 100000 in
theorem paper_word.forms : paper_word.fd.formsOk = true := by kernel_rfl
set_option maxRecDepth 100000 in
theorem paper_word.vc : paper_word.fd.vc tt Γ := ⟨fun d => by kernel_rfl, fun k d => by kernel_rfl, ⟨trivial, ⟨⟨trivial, ⟨⟨trivial, trivial, trivial⟩, trivial⟩, trivial⟩, ⟨⟨trivial, ⟨⟨trivial, ⟨⟨trivial, trivial⟩, ⟨⟨trivial, ⟨trivial, ⟨⟨trivial, trivial, trivial⟩, trivial⟩, trivial⟩, trivial⟩, trivial, trivial⟩, trivial⟩, trivial⟩, ⟨fun d => by kernel_rfl, fun k d => by kernel_rfl⟩⟩, trivial⟩, ⟨trivial, trivial, trivial⟩, trivial⟩, ⟨fun d => by kernel_rfl, fun k d => by kernel_rfl⟩⟩, trivial⟩⟩
set_option maxRecDepth 100000 in
theorem paper_word.ok : FnOk Try.prog tt Γ 85 paper_word.fd := ⟨by kernel_rfl, by kernel_rfl, enters_ok (fn := Try.f85) (by kernel_rfl) (by kernel_rfl) (by kernel_rfl), paper_word.forms, paper_word.vc⟩

set_option maxRecDepth 100000 in
theorem paper_IsID.forms : paper_IsID.fd.formsOk = true := by kernel_rfl
set_option maxRecDepth 100000 in
theorem paper_IsID.vc : paper_IsID.fd.vc tt Γ := ⟨fun d => by kernel_rfl, fun k d => by kernel_rfl, ⟨trivial, ⟨trivial, trivial, trivial⟩, trivial⟩⟩
set_option maxRecDepth 100000 in
theorem paper_IsID.ok : FnOk Try.prog tt Γ 70 paper_IsID.fd := ⟨by kernel_rfl, by kernel_rfl, enters_ok (fn := Try.f70) (by kernel_rfl) (by kernel_rfl) (by kernel_rfl), paper_IsID.forms, paper_IsID.vc⟩

set_option maxRecDepth 100000 in
theorem paper_IsName.forms : paper_IsName.fd.formsOk = true := by kernel_rfl
set_option maxRecDepth 100000 in
theorem paper_IsName.vc : paper_IsName.fd.vc tt Γ := ⟨fun d => by kernel_rfl, fun k d => by kernel_rfl, ⟨trivial, ⟨trivial, trivial, trivial⟩, trivial⟩⟩
set_option maxRecDepth 100000 in
theorem paper_IsName.ok : FnOk Try.prog tt Γ 86 paper_IsName.fd := ⟨by kernel_rfl, by kernel_rfl, enters_ok (fn := Try.f86) (by kernel_rfl) (by kernel_rfl) (by kernel_rfl), paper_IsName.forms, paper_IsName.vc⟩

set_option maxRecDepth 100000 in
theorem proof_rightItem.forms : proof_rightItem.fd.formsOk = true := by kernel_rfl
set_option maxRecDepth 100000 in
theorem proof_rightItem.vc : proof_rightItem.fd.vc tt Γ := ⟨fun d => by kernel_rfl, fun k d => by kernel_rfl, ⟨trivial, ⟨⟨trivial, ⟨⟨trivial, trivial, trivial⟩, ⟨trivial, ⟨⟨trivial, trivial, trivial⟩, trivial⟩, trivial⟩⟩, ⟨fun d => by kernel_rfl, fun k d => by kernel_rfl⟩⟩, ⟨trivial, trivial, trivial⟩, trivial⟩, trivial⟩⟩
set_option maxRecDepth 100000 in
theorem proof_rightItem.ok : FnOk Try.prog tt Γ 71 proof_rightItem.fd := ⟨by kernel_rfl, by kernel_rfl, enters_ok (fn := Try.f71) (by kernel_rfl) (by kernel_rfl) (by kernel_rfl), proof_rightItem.forms, proof_rightItem.vc⟩

set_option maxRecDepth 100000 in
theorem proof_sums.forms : proof_sums.fd.formsOk = true := by kernel_rfl
set_option maxRecDepth 100000 in
theorem proof_sums.vc : proof_sums.fd.vc tt Γ := ⟨fun d => by kernel_rfl, fun k d => by kernel_rfl, ⟨trivial, ⟨⟨trivial, ⟨⟨trivial, ⟨⟨trivial, trivial⟩, ⟨⟨trivial, ⟨trivial, ⟨⟨trivial, trivial, trivial⟩, trivial⟩, trivial⟩, trivial⟩, trivial, trivial⟩, trivial⟩, trivial⟩, ⟨fun d => by kernel_rfl, fun k d => by kernel_rfl⟩⟩, trivial⟩, ⟨trivial, trivial, trivial⟩, trivial⟩, trivial⟩⟩
set_option maxRecDepth 100000 in
theorem proof_sums.ok : FnOk Try.prog tt Γ 72 proof_sums.fd := ⟨by kernel_rfl, by kernel_rfl, enters_ok (fn := Try.f72) (by kernel_rfl) (by kernel_rfl) (by kernel_rfl), proof_sums.forms, proof_sums.vc⟩

set_option maxRecDepth 100000 in
theorem proof_Right.forms : proof_Right.fd.formsOk = true := by kernel_rfl
set_option maxRecDepth 100000 in
theorem proof_Right.vc : proof_Right.fd.vc tt Γ := ⟨fun d => by kernel_rfl, fun k d => by kernel_rfl, ⟨trivial, ⟨⟨trivial, ⟨⟨trivial, trivial, trivial⟩, trivial⟩, trivial⟩, ⟨⟨trivial, ⟨⟨trivial, trivial, trivial⟩, trivial⟩, trivial⟩, ⟨⟨trivial, ⟨⟨trivial, ⟨⟨trivial, trivial⟩, ⟨⟨trivial, ⟨trivial, ⟨⟨trivial, trivial, trivial⟩, trivial⟩, trivial⟩, trivial⟩, trivial, trivial⟩, trivial⟩, trivial⟩, ⟨fun d => by kernel_rfl, fun k d => by kernel_rfl⟩⟩, trivial⟩, ⟨trivial, trivial, trivial⟩, trivial⟩, ⟨fun d => by kernel_rfl, fun k d => by kernel_rfl⟩⟩, trivial⟩, trivial⟩⟩
set_option maxRecDepth 100000 in
theorem proof_Right.ok : FnOk Try.prog tt Γ 40 proof_Right.fd := ⟨by kernel_rfl, by kernel_rfl, enters_ok (fn := Try.f40) (by kernel_rfl) (by kernel_rfl) (by kernel_rfl), proof_Right.forms, proof_Right.vc⟩

set_option maxRecDepth 100000 in
theorem proof_Read.forms : proof_Read.fd.formsOk = true := by kernel_rfl
set_option maxRecDepth 100000 in
theorem proof_Read.vc : proof_Read.fd.vc tt Γ := ⟨fun d => by kernel_rfl, fun k d => by kernel_rfl, ⟨trivial, ⟨trivial, ⟨trivial, ⟨⟨trivial, ⟨⟨trivial, ⟨⟨trivial, trivial⟩, ⟨⟨trivial, ⟨⟨trivial, ⟨trivial, trivial⟩, trivial⟩, trivial, trivial⟩, trivial⟩, trivial, trivial⟩, trivial⟩, trivial⟩, ⟨fun d => by kernel_rfl, fun k d => by kernel_rfl⟩⟩, trivial⟩, ⟨trivial, ⟨trivial, ⟨trivial, ⟨⟨trivial, ⟨trivial, ⟨⟨trivial, trivial, trivial⟩, trivial⟩, trivial⟩, trivial⟩, ⟨⟨trivial, ⟨⟨trivial, trivial, trivial⟩, trivial⟩, trivial⟩, ⟨trivial, trivial, trivial⟩, trivial⟩, trivial⟩, trivial⟩, trivial⟩, trivial⟩, ⟨fun d => by kernel_rfl, fun k d => by kernel_rfl⟩⟩, trivial⟩, trivial⟩, trivial⟩⟩
set_option maxRecDepth 100000 in
theorem proof_Read.ok : FnOk Try.prog tt Γ 10 proof_Read.fd := ⟨by kernel_rfl, by kernel_rfl, enters_ok (fn := Try.f10) (by kernel_rfl) (by kernel_rfl) (by kernel_rfl), proof_Read.forms, proof_Read.vc⟩

set_option maxRecDepth 100000 in
theorem mill_Mill_none.forms : mill_Mill_none.fd.formsOk = true := by kernel_rfl
set_option maxRecDepth 100000 in
theorem mill_Mill_none.vc : mill_Mill_none.fd.vc tt Γ := ⟨fun d => by kernel_rfl, fun k d => by kernel_rfl, ⟨trivial, ⟨trivial, trivial, trivial⟩, trivial⟩⟩
set_option maxRecDepth 100000 in
theorem mill_Mill_none.ok : FnOk Try.prog tt Γ 58 mill_Mill_none.fd := ⟨by kernel_rfl, by kernel_rfl, enters_ok (fn := Try.f58) (by kernel_rfl) (by kernel_rfl) (by kernel_rfl), mill_Mill_none.forms, mill_Mill_none.vc⟩

set_option maxRecDepth 100000 in
theorem mill_Mill_note.forms : mill_Mill_note.fd.formsOk = true := by kernel_rfl
set_option maxRecDepth 100000 in
theorem mill_Mill_note.vc : mill_Mill_note.fd.vc tt Γ := ⟨fun d => by kernel_rfl, fun k d => by kernel_rfl, ⟨trivial, ⟨trivial, ⟨trivial, ⟨trivial, ⟨trivial, ⟨trivial, ⟨trivial, ⟨trivial, trivial⟩, trivial⟩⟩, trivial⟩⟩, trivial⟩, trivial⟩, trivial⟩⟩
set_option maxRecDepth 100000 in
theorem mill_Mill_note.ok : FnOk Try.prog tt Γ 81 mill_Mill_note.fd := ⟨by kernel_rfl, by kernel_rfl, enters_ok (fn := Try.f81) (by kernel_rfl) (by kernel_rfl) (by kernel_rfl), mill_Mill_note.forms, mill_Mill_note.vc⟩

set_option maxRecDepth 100000 in
theorem mill_Mill_Sum.forms : mill_Mill_Sum.fd.formsOk = true := by kernel_rfl
set_option maxRecDepth 100000 in
theorem mill_Mill_Sum.vc : mill_Mill_Sum.fd.vc tt Γ := ⟨fun d => by kernel_rfl, fun k d => by kernel_rfl, ⟨trivial, ⟨⟨trivial, ⟨⟨trivial, trivial, trivial⟩, trivial⟩, trivial⟩, ⟨trivial, ⟨⟨trivial, ⟨trivial, trivial⟩, trivial⟩, ⟨trivial, ⟨trivial, trivial, trivial⟩, trivial⟩, trivial⟩, trivial⟩, trivial⟩, trivial⟩⟩
set_option maxRecDepth 100000 in
theorem mill_Mill_Sum.ok : FnOk Try.prog tt Γ 62 mill_Mill_Sum.fd := ⟨by kernel_rfl, by kernel_rfl, enters_ok (fn := Try.f62) (by kernel_rfl) (by kernel_rfl) (by kernel_rfl), mill_Mill_Sum.forms, mill_Mill_Sum.vc⟩

set_option maxRecDepth 100000 in
theorem octet_Num.forms : octet_Num.fd.formsOk = true := by kernel_rfl
set_option maxRecDepth 100000 in
theorem octet_Num.vc : octet_Num.fd.vc tt Γ := ⟨fun d => by kernel_rfl, fun k d => by kernel_rfl, ⟨trivial, ⟨⟨trivial, ⟨⟨trivial, trivial, trivial⟩, trivial⟩, trivial⟩, ⟨trivial, ⟨⟨⟨⟨trivial, ⟨trivial, trivial⟩, trivial⟩, ⟨trivial, trivial, trivial⟩, trivial⟩, ⟨fun d => by kernel_rfl, fun k d => by kernel_rfl⟩⟩, ⟨trivial, trivial, trivial⟩, trivial⟩, trivial⟩, trivial⟩, trivial⟩⟩
set_option maxRecDepth 100000 in
theorem octet_Num.ok : FnOk Try.prog tt Γ 78 octet_Num.fd := ⟨by kernel_rfl, by kernel_rfl, enters_ok (fn := Try.f78) (by kernel_rfl) (by kernel_rfl) (by kernel_rfl), octet_Num.forms, octet_Num.vc⟩

set_option maxRecDepth 100000 in
theorem octet_Text.forms : octet_Text.fd.formsOk = true := by kernel_rfl
set_option maxRecDepth 100000 in
theorem octet_Text.vc : octet_Text.fd.vc tt Γ := ⟨fun d => by kernel_rfl, fun k d => by kernel_rfl, ⟨trivial, ⟨trivial, trivial, trivial⟩, trivial⟩⟩
set_option maxRecDepth 100000 in
theorem octet_Text.ok : FnOk Try.prog tt Γ 63 octet_Text.fd := ⟨by kernel_rfl, by kernel_rfl, enters_ok (fn := Try.f63) (by kernel_rfl) (by kernel_rfl) (by kernel_rfl), octet_Text.forms, octet_Text.vc⟩

set_option maxRecDepth 100000 in
theorem pledge_Of.forms : pledge_Of.fd.formsOk = true := by kernel_rfl
set_option maxRecDepth 100000 in
theorem pledge_Of.vc : pledge_Of.fd.vc tt Γ := ⟨fun d => by kernel_rfl, fun k d => by kernel_rfl, ⟨trivial, ⟨trivial, trivial, trivial⟩, trivial⟩⟩
set_option maxRecDepth 100000 in
theorem pledge_Of.ok : FnOk Try.prog tt Γ 26 pledge_Of.fd := ⟨by kernel_rfl, by kernel_rfl, enters_ok (fn := Try.f26) (by kernel_rfl) (by kernel_rfl) (by kernel_rfl), pledge_Of.forms, pledge_Of.vc⟩

set_option maxRecDepth 100000 in
theorem octet_Writer_Text.forms : octet_Writer_Text.fd.formsOk = true := by kernel_rfl
set_option maxRecDepth 100000 in
theorem octet_Writer_Text.vc : octet_Writer_Text.fd.vc tt Γ := ⟨fun d => by kernel_rfl, fun k d => by kernel_rfl, trivial⟩
set_option maxRecDepth 100000 in
theorem octet_Writer_Text.ok : FnOk Try.prog tt Γ 47 octet_Writer_Text.fd := ⟨by kernel_rfl, by kernel_rfl, enters_ok (fn := Try.f47) (by kernel_rfl) (by kernel_rfl) (by kernel_rfl), octet_Writer_Text.forms, octet_Writer_Text.vc⟩

set_option maxRecDepth 100000 in
theorem octet_Writer_Num.forms : octet_Writer_Num.fd.formsOk = true := by kernel_rfl
set_option maxRecDepth 100000 in
theorem octet_Writer_Num.vc : octet_Writer_Num.fd.vc tt Γ := ⟨fun d => by kernel_rfl, fun k d => by kernel_rfl, ⟨trivial, ⟨trivial, trivial, trivial⟩, trivial⟩⟩
set_option maxRecDepth 100000 in
theorem octet_Writer_Num.ok : FnOk Try.prog tt Γ 48 octet_Writer_Num.fd := ⟨by kernel_rfl, by kernel_rfl, enters_ok (fn := Try.f48) (by kernel_rfl) (by kernel_rfl) (by kernel_rfl), octet_Writer_Num.forms, octet_Writer_Num.vc⟩

set_option maxRecDepth 100000 in
theorem octet_Writer_All.forms : octet_Writer_All.fd.formsOk = true := by kernel_rfl
set_option maxRecDepth 100000 in
theorem octet_Writer_All.vc : octet_Writer_All.fd.vc tt Γ := ⟨fun d => by kernel_rfl, fun k d => by kernel_rfl, ⟨trivial, ⟨⟨trivial, ⟨⟨trivial, trivial, trivial⟩, trivial⟩, trivial⟩, ⟨trivial, trivial, trivial⟩, trivial⟩, trivial⟩⟩
set_option maxRecDepth 100000 in
theorem octet_Writer_All.ok : FnOk Try.prog tt Γ 51 octet_Writer_All.fd := ⟨by kernel_rfl, by kernel_rfl, enters_ok (fn := Try.f51) (by kernel_rfl) (by kernel_rfl) (by kernel_rfl), octet_Writer_All.forms, octet_Writer_All.vc⟩

set_option maxRecDepth 100000 in
theorem pledge_Leaf.forms : pledge_Leaf.fd.formsOk = true := by kernel_rfl
set_option maxRecDepth 100000 in
theorem pledge_Leaf.vc : pledge_Leaf.fd.vc tt Γ := ⟨fun d => by kernel_rfl, fun k d => by kernel_rfl, ⟨trivial, ⟨trivial, trivial, trivial⟩, trivial⟩⟩
set_option maxRecDepth 100000 in
theorem pledge_Leaf.ok : FnOk Try.prog tt Γ 64 pledge_Leaf.fd := ⟨by kernel_rfl, by kernel_rfl, enters_ok (fn := Try.f64) (by kernel_rfl) (by kernel_rfl) (by kernel_rfl), pledge_Leaf.forms, pledge_Leaf.vc⟩

set_option maxRecDepth 100000 in
theorem sheet_Paper.forms : sheet_Paper.fd.formsOk = true := by kernel_rfl
set_option maxRecDepth 100000 in
theorem sheet_Paper.vc : sheet_Paper.fd.vc tt Γ := ⟨fun d => by kernel_rfl, fun k d => by kernel_rfl, ⟨trivial, ⟨trivial, ⟨trivial, ⟨trivial, ⟨trivial, ⟨trivial, ⟨trivial, ⟨trivial, ⟨⟨trivial, ⟨⟨trivial, trivial, trivial⟩, trivial⟩, trivial⟩, ⟨trivial, trivial, trivial⟩, trivial⟩, trivial⟩, trivial⟩, trivial⟩, trivial⟩, trivial⟩, trivial⟩, trivial⟩, trivial⟩⟩
set_option maxRecDepth 100000 in
theorem sheet_Paper.ok : FnOk Try.prog tt Γ 27 sheet_Paper.fd := ⟨by kernel_rfl, by kernel_rfl, enters_ok (fn := Try.f27) (by kernel_rfl) (by kernel_rfl) (by kernel_rfl), sheet_Paper.forms, sheet_Paper.vc⟩

set_option maxRecDepth 100000 in
theorem sheet_Leaf.forms : sheet_Leaf.fd.formsOk = true := by kernel_rfl
set_option maxRecDepth 100000 in
theorem sheet_Leaf.vc : sheet_Leaf.fd.vc tt Γ := ⟨fun d => by kernel_rfl, fun k d => by kernel_rfl, ⟨trivial, ⟨trivial, trivial, trivial⟩, trivial⟩⟩
set_option maxRecDepth 100000 in
theorem sheet_Leaf.ok : FnOk Try.prog tt Γ 28 sheet_Leaf.fd := ⟨by kernel_rfl, by kernel_rfl, enters_ok (fn := Try.f28) (by kernel_rfl) (by kernel_rfl) (by kernel_rfl), sheet_Leaf.forms, sheet_Leaf.vc⟩

set_option maxRecDepth 100000 in
theorem value_of.forms : value_of.fd.formsOk = true := by kernel_rfl
set_option maxRecDepth 100000 in
theorem value_of.vc : value_of.fd.vc tt Γ := ⟨fun d => by kernel_rfl, fun k d => by kernel_rfl, ⟨trivial, ⟨trivial, ⟨⟨trivial, ⟨⟨trivial, ⟨⟨trivial, trivial⟩, ⟨⟨trivial, trivial, trivial⟩, trivial, trivial⟩, trivial⟩, trivial⟩, ⟨fun d => by kernel_rfl, fun k d => by kernel_rfl⟩⟩, trivial⟩, ⟨trivial, trivial, trivial⟩, trivial⟩, trivial⟩, trivial⟩⟩
set_option maxRecDepth 100000 in
theorem value_of.ok : FnOk Try.prog tt Γ 73 value_of.fd := ⟨by kernel_rfl, by kernel_rfl, enters_ok (fn := Try.f73) (by kernel_rfl) (by kernel_rfl) (by kernel_rfl), value_of.forms, value_of.vc⟩

set_option maxRecDepth 100000 in
theorem value_nan.forms : value_nan.fd.formsOk = true := by kernel_rfl
set_option maxRecDepth 100000 in
theorem value_nan.vc : value_nan.fd.vc tt Γ := ⟨fun d => by kernel_rfl, fun k d => by kernel_rfl, ⟨trivial, ⟨trivial, trivial, trivial⟩, trivial⟩⟩
set_option maxRecDepth 100000 in
theorem value_nan.ok : FnOk Try.prog tt Γ 93 value_nan.fd := ⟨by kernel_rfl, by kernel_rfl, enters_ok (fn := Try.f93) (by kernel_rfl) (by kernel_rfl) (by kernel_rfl), value_nan.forms, value_nan.vc⟩

set_option maxRecDepth 100000 in
theorem value_Clean.forms : value_Clean.fd.formsOk = true := by kernel_rfl
set_option maxRecDepth 100000 in
theorem value_Clean.vc : value_Clean.fd.vc tt Γ := ⟨fun d => by kernel_rfl, fun k d => by kernel_rfl, ⟨trivial, ⟨trivial, ⟨⟨trivial, ⟨trivial, ⟨trivial, ⟨trivial, ⟨trivial, ⟨trivial, ⟨⟨trivial, ⟨trivial, ⟨trivial, trivial⟩, trivial⟩, trivial⟩, ⟨trivial, ⟨trivial, trivial⟩, trivial⟩⟩, trivial⟩⟩, trivial⟩⟩, trivial⟩, trivial⟩, ⟨trivial, trivial, trivial⟩, trivial⟩, trivial⟩, trivial⟩⟩
set_option maxRecDepth 100000 in
theorem value_Clean.ok : FnOk Try.prog tt Γ 87 value_Clean.fd := ⟨by kernel_rfl, by kernel_rfl, enters_ok (fn := Try.f87) (by kernel_rfl) (by kernel_rfl) (by kernel_rfl), value_Clean.forms, value_Clean.vc⟩

set_option maxRecDepth 100000 in
theorem value_Right.forms : value_Right.fd.formsOk = true := by kernel_rfl
set_option maxRecDepth 100000 in
theorem value_Right.vc : value_Right.fd.vc tt Γ := ⟨fun d => by kernel_rfl, fun k d => by kernel_rfl, ⟨trivial, ⟨trivial, trivial, trivial⟩, trivial⟩⟩
set_option maxRecDepth 100000 in
theorem value_Right.ok : FnOk Try.prog tt Γ 74 value_Right.fd := ⟨by kernel_rfl, by kernel_rfl, enters_ok (fn := Try.f74) (by kernel_rfl) (by kernel_rfl) (by kernel_rfl), value_Right.forms, value_Right.vc⟩

set_option maxRecDepth 100000 in
theorem value_Read.forms : value_Read.fd.formsOk = true := by kernel_rfl
set_option maxRecDepth 100000 in
theorem value_Read.vc : value_Read.fd.vc tt Γ := ⟨fun d => by kernel_rfl, fun k d => by kernel_rfl, ⟨trivial, ⟨trivial, ⟨trivial, ⟨⟨trivial, ⟨trivial, ⟨trivial, ⟨trivial, ⟨trivial, ⟨trivial, ⟨trivial, ⟨trivial, ⟨trivial, trivial⟩, trivial⟩⟩, trivial⟩⟩, trivial⟩⟩, trivial⟩, trivial⟩, ⟨⟨trivial, ⟨trivial, ⟨⟨trivial, trivial, trivial⟩, trivial⟩, trivial⟩, trivial⟩, ⟨⟨trivial, ⟨⟨trivial, trivial, trivial⟩, trivial⟩, trivial⟩, ⟨trivial, trivial, trivial⟩, trivial⟩, trivial⟩, ⟨fun d => by kernel_rfl, fun k d => by kernel_rfl⟩⟩, trivial⟩, trivial⟩, trivial⟩⟩
set_option maxRecDepth 100000 in
theorem value_Read.ok : FnOk Try.prog tt Γ 41 value_Read.fd := ⟨by kernel_rfl, by kernel_rfl, enters_ok (fn := Try.f41) (by kernel_rfl) (by kernel_rfl) (by kernel_rfl), value_Read.forms, value_Read.vc⟩

set_option maxRecDepth 100000 in
theorem sheet_Rising.forms : sheet_Rising.fd.formsOk = true := by kernel_rfl
set_option maxRecDepth 100000 in
theorem sheet_Rising.vc : sheet_Rising.fd.vc tt Γ := ⟨fun d => by kernel_rfl, fun k d => by kernel_rfl, ⟨trivial, ⟨⟨trivial, ⟨⟨trivial, ⟨⟨trivial, trivial⟩, ⟨⟨trivial, ⟨trivial, ⟨⟨trivial, trivial, trivial⟩, trivial⟩, trivial⟩, trivial⟩, trivial, trivial⟩, trivial⟩, trivial⟩, ⟨fun d => by kernel_rfl, fun k d => by kernel_rfl⟩⟩, trivial⟩, ⟨trivial, trivial, trivial⟩, trivial⟩, trivial⟩⟩
set_option maxRecDepth 100000 in
theorem sheet_Rising.ok : FnOk Try.prog tt Γ 75 sheet_Rising.fd := ⟨by kernel_rfl, by kernel_rfl, enters_ok (fn := Try.f75) (by kernel_rfl) (by kernel_rfl) (by kernel_rfl), sheet_Rising.forms, sheet_Rising.vc⟩

set_option maxRecDepth 100000 in
theorem pledge_Node.forms : pledge_Node.fd.formsOk = true := by kernel_rfl
set_option maxRecDepth 100000 in
theorem pledge_Node.vc : pledge_Node.fd.vc tt Γ := ⟨fun d => by kernel_rfl, fun k d => by kernel_rfl, ⟨trivial, ⟨trivial, trivial, trivial⟩, trivial⟩⟩
set_option maxRecDepth 100000 in
theorem pledge_Node.ok : FnOk Try.prog tt Γ 57 pledge_Node.fd := ⟨by kernel_rfl, by kernel_rfl, enters_ok (fn := Try.f57) (by kernel_rfl) (by kernel_rfl) (by kernel_rfl), pledge_Node.forms, pledge_Node.vc⟩

set_option maxRecDepth 100000 in
theorem sheet_picked.forms : sheet_picked.fd.formsOk = true := by kernel_rfl
set_option maxRecDepth 100000 in
theorem sheet_picked.vc : sheet_picked.fd.vc tt Γ := ⟨fun d => by kernel_rfl, fun k d => by kernel_rfl, ⟨trivial, ⟨⟨trivial, ⟨⟨trivial, ⟨⟨trivial, trivial⟩, ⟨⟨trivial, ⟨trivial, ⟨⟨trivial, trivial, trivial⟩, trivial⟩, trivial⟩, trivial⟩, trivial, trivial⟩, trivial⟩, trivial⟩, ⟨fun d => by kernel_rfl, fun k d => by kernel_rfl⟩⟩, trivial⟩, ⟨trivial, trivial, trivial⟩, trivial⟩, trivial⟩⟩
set_option maxRecDepth 100000 in
theorem sheet_picked.ok : FnOk Try.prog tt Γ 88 sheet_picked.fd := ⟨by kernel_rfl, by kernel_rfl, enters_ok (fn := Try.f88) (by kernel_rfl) (by kernel_rfl) (by kernel_rfl), sheet_picked.forms, sheet_picked.vc⟩

set_option maxRecDepth 100000 in
theorem sheet_next_v1.forms : sheet_next_v1.fd.formsOk = true := by kernel_rfl
set_option maxRecDepth 100000 in
theorem sheet_next_v1.vc : sheet_next_v1.fd.vc tt Γ := ⟨fun d => by kernel_rfl, fun k d => by kernel_rfl, ⟨trivial, ⟨⟨trivial, ⟨⟨trivial, ⟨trivial, trivial, trivial⟩, trivial⟩, trivial⟩, trivial⟩, ⟨trivial, ⟨trivial, ⟨trivial, trivial, trivial⟩, trivial⟩, trivial⟩, trivial⟩, trivial⟩⟩
set_option maxRecDepth 100000 in
theorem sheet_next_v1.ok : FnOk Try.prog tt Γ 89 sheet_next_v1.fd := ⟨by kernel_rfl, by kernel_rfl, enters_ok (fn := Try.f89) (by kernel_rfl) (by kernel_rfl) (by kernel_rfl), sheet_next_v1.forms, sheet_next_v1.vc⟩

set_option maxRecDepth 100000 in
theorem sheet_next_v2.forms : sheet_next_v2.fd.formsOk = true := by kernel_rfl
set_option maxRecDepth 100000 in
theorem sheet_next_v2.vc : sheet_next_v2.fd.vc tt Γ := ⟨fun d => by kernel_rfl, fun k d => by kernel_rfl, ⟨trivial, ⟨⟨trivial, ⟨⟨trivial, ⟨trivial, trivial, trivial⟩, trivial⟩, trivial⟩, trivial⟩, ⟨trivial, ⟨trivial, ⟨trivial, trivial, trivial⟩, trivial⟩, trivial⟩, trivial⟩, trivial⟩⟩
set_option maxRecDepth 100000 in
theorem sheet_next_v2.ok : FnOk Try.prog tt Γ 89 sheet_next_v2.fd := ⟨by kernel_rfl, by kernel_rfl, enters_ok (fn := Try.f89) (by kernel_rfl) (by kernel_rfl) (by kernel_rfl), sheet_next_v2.forms, sheet_next_v2.vc⟩

set_option maxRecDepth 100000 in
theorem sheet_split.forms : sheet_split.fd.formsOk = true := by kernel_rfl
set_option maxRecDepth 100000 in
theorem sheet_split.vc : sheet_split.fd.vc tt Γ := ⟨fun d => by kernel_rfl, fun k d => by kernel_rfl, ⟨trivial, ⟨trivial, ⟨⟨⟨⟨trivial, ⟨trivial, trivial⟩, trivial⟩, trivial, trivial⟩, ⟨fun d => by kernel_rfl, fun k d => by kernel_rfl⟩⟩, ⟨trivial, trivial, trivial⟩, trivial⟩, trivial⟩, trivial⟩⟩
set_option maxRecDepth 100000 in
theorem sheet_split.ok : FnOk Try.prog tt Γ 90 sheet_split.fd := ⟨by kernel_rfl, by kernel_rfl, enters_ok (fn := Try.f90) (by kernel_rfl) (by kernel_rfl) (by kernel_rfl), sheet_split.forms, sheet_split.vc⟩

set_option maxRecDepth 100000 in
theorem sheet_walker_root.forms : sheet_walker_root.fd.formsOk = true := by kernel_rfl
set_option maxRecDepth 100000 in
theorem sheet_walker_root.vc : sheet_walker_root.fd.vc tt Γ := ⟨fun d => by kernel_rfl, fun k d => by kernel_rfl, ⟨trivial, ⟨⟨trivial, ⟨⟨trivial, trivial, trivial⟩, ⟨trivial, ⟨⟨trivial, trivial, trivial⟩, ⟨trivial, ⟨⟨trivial, trivial, trivial⟩, trivial⟩, trivial⟩⟩, trivial⟩⟩, trivial⟩, ⟨trivial, ⟨trivial, ⟨trivial, trivial, trivial⟩, trivial⟩, trivial⟩, trivial⟩, trivial⟩⟩
set_option maxRecDepth 100000 in
theorem sheet_walker_root.ok : FnOk Try.prog tt Γ 76 sheet_walker_root.fd := ⟨by kernel_rfl, by kernel_rfl, enters_ok (fn := Try.f76) (by kernel_rfl) (by kernel_rfl) (by kernel_rfl), sheet_walker_root.forms, sheet_walker_root.vc⟩

set_option maxRecDepth 100000 in
theorem sheet_Rebuild.forms : sheet_Rebuild.fd.formsOk = true := by kernel_rfl
set_option maxRecDepth 100000 in
theorem sheet_Rebuild.vc : sheet_Rebuild.fd.vc tt Γ := ⟨fun d => by kernel_rfl, fun k d => by kernel_rfl, ⟨trivial, ⟨⟨trivial, ⟨⟨trivial, trivial, trivial⟩, trivial⟩, trivial⟩, ⟨⟨trivial, ⟨⟨trivial, ⟨⟨trivial, trivial⟩, ⟨⟨trivial, ⟨trivial, ⟨⟨trivial, trivial, trivial⟩, trivial⟩, trivial⟩, trivial⟩, trivial, trivial⟩, trivial⟩, trivial⟩, ⟨fun d => by kernel_rfl, fun k d => by kernel_rfl⟩⟩, trivial⟩, ⟨trivial, ⟨trivial, ⟨⟨trivial, ⟨⟨trivial, trivial, trivial⟩, trivial⟩, trivial⟩, ⟨trivial, trivial, trivial⟩, trivial⟩, trivial⟩, trivial⟩, trivial⟩, ⟨fun d => by kernel_rfl, fun k d => by kernel_rfl⟩⟩, trivial⟩⟩
set_option maxRecDepth 100000 in
theorem sheet_Rebuild.ok : FnOk Try.prog tt Γ 42 sheet_Rebuild.fd := ⟨by kernel_rfl, by kernel_rfl, enters_ok (fn := Try.f42) (by kernel_rfl) (by kernel_rfl) (by kernel_rfl), sheet_Rebuild.forms, sheet_Rebuild.vc⟩

set_option maxRecDepth 100000 in
theorem merkle_sums.forms : merkle_sums.fd.formsOk = true := by kernel_rfl
set_option maxRecDepth 100000 in
theorem merkle_sums.vc : merkle_sums.fd.vc tt Γ := ⟨fun d => by kernel_rfl, fun k d => by kernel_rfl, ⟨trivial, ⟨⟨trivial, ⟨⟨trivial, ⟨⟨trivial, trivial⟩, ⟨⟨trivial, ⟨trivial, ⟨⟨trivial, trivial, trivial⟩, trivial⟩, trivial⟩, trivial⟩, trivial, trivial⟩, trivial⟩, trivial⟩, ⟨fun d => by kernel_rfl, fun k d => by kernel_rfl⟩⟩, trivial⟩, ⟨trivial, trivial, trivial⟩, trivial⟩, trivial⟩⟩
set_option maxRecDepth 100000 in
theorem merkle_sums.ok : FnOk Try.prog tt Γ 60 merkle_sums.fd := ⟨by kernel_rfl, by kernel_rfl, enters_ok (fn := Try.f60) (by kernel_rfl) (by kernel_rfl) (by kernel_rfl), merkle_sums.forms, merkle_sums.vc⟩

set_option maxRecDepth 100000 in
theorem merkle_split.forms : merkle_split.fd.formsOk = true := by kernel_rfl
set_option maxRecDepth 100000 in
theorem merkle_split.vc : merkle_split.fd.vc tt Γ := ⟨fun d => by kernel_rfl, fun k d => by kernel_rfl, ⟨trivial, ⟨trivial, ⟨⟨⟨⟨trivial, ⟨trivial, trivial⟩, trivial⟩, trivial, trivial⟩, ⟨fun d => by kernel_rfl, fun k d => by kernel_rfl⟩⟩, ⟨trivial, trivial, trivial⟩, trivial⟩, trivial⟩, trivial⟩⟩
set_option maxRecDepth 100000 in
theorem merkle_split.ok : FnOk Try.prog tt Γ 56 merkle_split.fd := ⟨by kernel_rfl, by kernel_rfl, enters_ok (fn := Try.f56) (by kernel_rfl) (by kernel_rfl) (by kernel_rfl), merkle_split.forms, merkle_split.vc⟩

set_option maxRecDepth 100000 in
theorem merkle_climb.forms : merkle_climb.fd.formsOk = true := by kernel_rfl
set_option maxRecDepth 100000 in
theorem merkle_climb.vc : merkle_climb.fd.vc tt Γ := ⟨fun d => by kernel_rfl, fun k d => by kernel_rfl, ⟨trivial, ⟨⟨trivial, ⟨⟨trivial, trivial, trivial⟩, trivial⟩, trivial⟩, ⟨⟨trivial, ⟨⟨trivial, trivial, trivial⟩, trivial⟩, trivial⟩, ⟨trivial, ⟨⟨trivial, ⟨⟨trivial, ⟨trivial, trivial, trivial⟩, trivial⟩, trivial⟩, trivial⟩, ⟨trivial, ⟨trivial, trivial, trivial⟩, trivial⟩, trivial⟩, trivial⟩, trivial⟩, trivial⟩, trivial⟩⟩
set_option maxRecDepth 100000 in
theorem merkle_climb.ok : FnOk Try.prog tt Γ 77 merkle_climb.fd := ⟨by kernel_rfl, by kernel_rfl, enters_ok (fn := Try.f77) (by kernel_rfl) (by kernel_rfl) (by kernel_rfl), merkle_climb.forms, merkle_climb.vc⟩

set_option maxRecDepth 100000 in
theorem merkle_Climb.forms : merkle_Climb.fd.formsOk = true := by kernel_rfl
set_option maxRecDepth 100000 in
theorem merkle_Climb.vc : merkle_Climb.fd.vc tt Γ := ⟨fun d => by kernel_rfl, fun k d => by kernel_rfl, ⟨trivial, ⟨⟨trivial, ⟨⟨trivial, trivial, trivial⟩, ⟨trivial, ⟨⟨trivial, trivial, trivial⟩, trivial⟩, trivial⟩⟩, trivial⟩, ⟨trivial, ⟨⟨trivial, ⟨⟨trivial, trivial, trivial⟩, trivial⟩, trivial⟩, ⟨trivial, trivial, trivial⟩, trivial⟩, trivial⟩, ⟨fun d => by kernel_rfl, fun k d => by kernel_rfl⟩⟩, trivial⟩⟩
set_option maxRecDepth 100000 in
theorem merkle_Climb.ok : FnOk Try.prog tt Γ 43 merkle_Climb.fd := ⟨by kernel_rfl, by kernel_rfl, enters_ok (fn := Try.f43) (by kernel_rfl) (by kernel_rfl) (by kernel_rfl), merkle_Climb.forms, merkle_Climb.vc⟩

set_option maxRecDepth 100000 in
theorem auditor_Check.forms : auditor_Check.fd.formsOk = true := by kernel_rfl
set_option maxRecDepth 100000 in
theorem auditor_Check.vc : auditor_Check.fd.vc tt Γ := ⟨fun d => by kernel_rfl, fun k d => by kernel_rfl, ⟨trivial, ⟨⟨trivial, ⟨⟨trivial, trivial, trivial⟩, trivial⟩, trivial⟩, ⟨⟨trivial, ⟨⟨trivial, trivial, trivial⟩, trivial⟩, trivial⟩, ⟨trivial, ⟨trivial, ⟨trivial, ⟨⟨trivial, ⟨⟨trivial, ⟨⟨trivial, trivial⟩, ⟨⟨trivial, ⟨trivial, ⟨trivial, ⟨⟨trivial, ⟨⟨trivial, ⟨⟨trivial, ⟨⟨trivial, trivial, trivial⟩, trivial⟩, trivial⟩, ⟨trivial, trivial, trivial⟩, trivial⟩, trivial⟩, trivial⟩, trivial⟩, trivial, trivial⟩, trivial⟩, trivial⟩, trivial⟩, trivial, trivial⟩, trivial⟩, trivial⟩, ⟨fun d => by kernel_rfl, fun k d => by kernel_rfl⟩⟩, trivial⟩, ⟨trivial, ⟨⟨trivial, ⟨⟨trivial, trivial, trivial⟩, trivial⟩, trivial⟩, ⟨trivial, ⟨⟨trivial, ⟨⟨trivial, trivial, trivial⟩, ⟨trivial, ⟨⟨trivial, trivial, trivial⟩, trivial⟩, trivial⟩⟩, trivial⟩, ⟨trivial, trivial, trivial⟩, trivial⟩, trivial⟩, trivial⟩, trivial⟩, trivial⟩, trivial⟩, trivial⟩, trivial⟩, trivial⟩, trivial⟩, trivial⟩⟩
set_option maxRecDepth 100000 in
theorem auditor_Check.ok : FnOk Try.prog tt Γ 11 auditor_Check.fd := ⟨by kernel_rfl, by kernel_rfl, enters_ok (fn := Try.f11) (by kernel_rfl) (by kernel_rfl) (by kernel_rfl), auditor_Check.forms, auditor_Check.vc⟩

set_option maxRecDepth 100000 in
theorem auditor_Against.forms : auditor_Against.fd.formsOk = true := by kernel_rfl
set_option maxRecDepth 100000 in
theorem auditor_Against.vc : auditor_Against.fd.vc tt Γ := ⟨fun d => by kernel_rfl, fun k d => by kernel_rfl, ⟨trivial, ⟨⟨trivial, ⟨⟨trivial, trivial, trivial⟩, trivial⟩, trivial⟩, ⟨trivial, trivial, trivial⟩, trivial⟩, trivial⟩⟩
set_option maxRecDepth 100000 in
theorem auditor_Against.ok : FnOk Try.prog tt Γ 44 auditor_Against.fd := ⟨by kernel_rfl, by kernel_rfl, enters_ok (fn := Try.f44) (by kernel_rfl) (by kernel_rfl) (by kernel_rfl), auditor_Against.forms, auditor_Against.vc⟩

set_option maxRecDepth 100000 in
theorem extract_against.forms : extract_against.fd.formsOk = true := by kernel_rfl
set_option maxRecDepth 100000 in
theorem extract_against.vc : extract_against.fd.vc tt Γ := ⟨fun d => by kernel_rfl, fun k d => by kernel_rfl, ⟨trivial, ⟨⟨trivial, ⟨⟨trivial, ⟨⟨trivial, trivial⟩, ⟨⟨trivial, ⟨trivial, ⟨⟨trivial, ⟨⟨trivial, trivial⟩, ⟨⟨trivial, ⟨trivial, ⟨⟨trivial, trivial, trivial⟩, trivial⟩, trivial⟩, trivial⟩, trivial, trivial⟩, trivial⟩, trivial⟩, ⟨fun d => by kernel_rfl, fun k d => by kernel_rfl⟩⟩, trivial⟩, trivial⟩, trivial, trivial⟩, trivial⟩, trivial⟩, ⟨fun d => by kernel_rfl, fun k d => by kernel_rfl⟩⟩, trivial⟩, ⟨trivial, trivial, trivial⟩, trivial⟩, trivial⟩⟩
set_option maxRecDepth 100000 in
theorem extract_against.ok : FnOk Try.prog tt Γ 30 extract_against.fd := ⟨by kernel_rfl, by kernel_rfl, enters_ok (fn := Try.f30) (by kernel_rfl) (by kernel_rfl) (by kernel_rfl), extract_against.forms, extract_against.vc⟩

set_option maxRecDepth 100000 in
theorem mill_Mill_Twins.forms : mill_Mill_Twins.fd.formsOk = true := by kernel_rfl
set_option maxRecDepth 100000 in
theorem mill_Mill_Twins.vc : mill_Mill_Twins.fd.vc tt Γ := ⟨fun d => by kernel_rfl, fun k d => by kernel_rfl, ⟨trivial, ⟨⟨trivial, ⟨⟨trivial, trivial, trivial⟩, trivial⟩, trivial⟩, ⟨trivial, trivial, trivial⟩, trivial⟩, trivial⟩⟩
set_option maxRecDepth 100000 in
theorem mill_Mill_Twins.ok : FnOk Try.prog tt Γ 20 mill_Mill_Twins.fd := ⟨by kernel_rfl, by kernel_rfl, enters_ok (fn := Try.f20) (by kernel_rfl) (by kernel_rfl) (by kernel_rfl), mill_Mill_Twins.forms, mill_Mill_Twins.vc⟩

set_option maxRecDepth 100000 in
theorem extract_found.forms : extract_found.fd.formsOk = true := by kernel_rfl
set_option maxRecDepth 100000 in
theorem extract_found.vc : extract_found.fd.vc tt Γ := ⟨fun d => by kernel_rfl, fun k d => by kernel_rfl, ⟨trivial, ⟨trivial, ⟨⟨trivial, ⟨⟨trivial, trivial, trivial⟩, trivial⟩, trivial⟩, ⟨trivial, trivial, trivial⟩, trivial⟩, trivial⟩, trivial⟩⟩
set_option maxRecDepth 100000 in
theorem extract_found.ok : FnOk Try.prog tt Γ 31 extract_found.fd := ⟨by kernel_rfl, by kernel_rfl, enters_ok (fn := Try.f31) (by kernel_rfl) (by kernel_rfl) (by kernel_rfl), extract_found.forms, extract_found.vc⟩

set_option maxRecDepth 100000 in
theorem extract_Shows.forms : extract_Shows.fd.formsOk = true := by kernel_rfl
set_option maxRecDepth 100000 in
theorem extract_Shows.vc : extract_Shows.fd.vc tt Γ := ⟨fun d => by kernel_rfl, fun k d => by kernel_rfl, ⟨trivial, ⟨trivial, ⟨⟨trivial, ⟨⟨trivial, trivial, trivial⟩, trivial⟩, trivial⟩, ⟨trivial, ⟨⟨trivial, ⟨⟨trivial, trivial, trivial⟩, trivial⟩, trivial⟩, ⟨trivial, ⟨⟨trivial, ⟨⟨trivial, trivial, trivial⟩, trivial⟩, trivial⟩, ⟨trivial, ⟨⟨trivial, ⟨⟨trivial, trivial, trivial⟩, trivial⟩, trivial⟩, ⟨trivial, ⟨⟨trivial, ⟨⟨trivial, trivial, trivial⟩, trivial⟩, trivial⟩, ⟨trivial, trivial, trivial⟩, trivial⟩, trivial⟩, trivial⟩, trivial⟩, trivial⟩, trivial⟩, trivial⟩, trivial⟩, trivial⟩, trivial⟩, trivial⟩⟩
set_option maxRecDepth 100000 in
theorem extract_Shows.ok : FnOk Try.prog tt Γ 8 extract_Shows.fd := ⟨by kernel_rfl, by kernel_rfl, enters_ok (fn := Try.f8) (by kernel_rfl) (by kernel_rfl) (by kernel_rfl), extract_Shows.forms, extract_Shows.vc⟩

set_option maxRecDepth 100000 in
theorem octet_Writer_Flag.forms : octet_Writer_Flag.fd.formsOk = true := by kernel_rfl
set_option maxRecDepth 100000 in
theorem octet_Writer_Flag.vc : octet_Writer_Flag.fd.vc tt Γ := ⟨fun d => by kernel_rfl, fun k d => by kernel_rfl, ⟨trivial, ⟨trivial, trivial⟩, trivial⟩⟩
set_option maxRecDepth 100000 in
theorem octet_Writer_Flag.ok : FnOk Try.prog tt Γ 79 octet_Writer_Flag.fd := ⟨by kernel_rfl, by kernel_rfl, enters_ok (fn := Try.f79) (by kernel_rfl) (by kernel_rfl) (by kernel_rfl), octet_Writer_Flag.forms, octet_Writer_Flag.vc⟩

set_option maxRecDepth 100000 in
theorem proof_item.forms : proof_item.fd.formsOk = true := by kernel_rfl
set_option maxRecDepth 100000 in
theorem proof_item.vc : proof_item.fd.vc tt Γ := ⟨fun d => by kernel_rfl, fun k d => by kernel_rfl, ⟨trivial, ⟨trivial, ⟨trivial, ⟨trivial, ⟨⟨trivial, ⟨⟨trivial, trivial, trivial⟩, trivial⟩, trivial⟩, ⟨trivial, trivial, trivial⟩, trivial⟩, trivial⟩, trivial⟩, trivial⟩, trivial⟩⟩
set_option maxRecDepth 100000 in
theorem proof_item.ok : FnOk Try.prog tt Γ 49 proof_item.fd := ⟨by kernel_rfl, by kernel_rfl, enters_ok (fn := Try.f49) (by kernel_rfl) (by kernel_rfl) (by kernel_rfl), proof_item.forms, proof_item.vc⟩

set_option maxRecDepth 100000 in
theorem octet_Writer_Texts.forms : octet_Writer_Texts.fd.formsOk = true := by kernel_rfl
set_option maxRecDepth 100000 in
theorem octet_Writer_Texts.vc : octet_Writer_Texts.fd.vc tt Γ := ⟨fun d => by kernel_rfl, fun k d => by kernel_rfl, ⟨trivial, ⟨trivial, ⟨⟨trivial, ⟨⟨trivial, trivial⟩, ⟨⟨trivial, trivial, trivial⟩, trivial, trivial⟩, trivial⟩, trivial⟩, ⟨fun d => by kernel_rfl, fun k d => by kernel_rfl⟩⟩, trivial⟩, trivial⟩⟩
set_option maxRecDepth 100000 in
theorem octet_Writer_Texts.ok : FnOk Try.prog tt Γ 50 octet_Writer_Texts.fd := ⟨by kernel_rfl, by kernel_rfl, enters_ok (fn := Try.f50) (by kernel_rfl) (by kernel_rfl) (by kernel_rfl), octet_Writer_Texts.forms, octet_Writer_Texts.vc⟩

set_option maxRecDepth 100000 in
theorem proof_Bytes.forms : proof_Bytes.fd.formsOk = true := by kernel_rfl
set_option maxRecDepth 100000 in
theorem proof_Bytes.vc : proof_Bytes.fd.vc tt Γ := ⟨fun d => by kernel_rfl, fun k d => by kernel_rfl, ⟨trivial, ⟨⟨trivial, ⟨⟨trivial, trivial, trivial⟩, trivial⟩, trivial⟩, ⟨trivial, ⟨trivial, ⟨⟨trivial, ⟨⟨trivial, ⟨⟨trivial, trivial⟩, ⟨⟨trivial, trivial, trivial⟩, trivial, trivial⟩, trivial⟩, trivial⟩, ⟨fun d => by kernel_rfl, fun k d => by kernel_rfl⟩⟩, trivial⟩, ⟨⟨trivial, ⟨⟨trivial, ⟨⟨trivial, trivial⟩, ⟨⟨trivial, trivial, trivial⟩, trivial, trivial⟩, trivial⟩, trivial⟩, ⟨fun d => by kernel_rfl, fun k d => by kernel_rfl⟩⟩, trivial⟩, ⟨trivial, ⟨trivial, ⟨trivial, ⟨trivial, ⟨trivial, ⟨trivial, trivial, trivial⟩, trivial⟩, trivial⟩, trivial⟩, trivial⟩, trivial⟩, trivial⟩, trivial⟩, trivial⟩, trivial⟩, trivial⟩, trivial⟩⟩
set_option maxRecDepth 100000 in
theorem proof_Bytes.ok : FnOk Try.prog tt Γ 15 proof_Bytes.fd := ⟨by kernel_rfl, by kernel_rfl, enters_ok (fn := Try.f15) (by kernel_rfl) (by kernel_rfl) (by kernel_rfl), proof_Bytes.forms, proof_Bytes.vc⟩

set_option maxRecDepth 100000 in
theorem chartularylaw21_one.forms : chartularylaw21_one.fd.formsOk = true := by kernel_rfl
set_option maxRecDepth 100000 in
theorem chartularylaw21_one.vc : chartularylaw21_one.fd.vc tt Γ := ⟨fun d => by kernel_rfl, fun k d => by kernel_rfl, ⟨trivial, ⟨trivial, trivial, trivial⟩, trivial⟩⟩
set_option maxRecDepth 100000 in
theorem chartularylaw21_one.ok : FnOk Try.prog tt Γ 29 chartularylaw21_one.fd := ⟨by kernel_rfl, by kernel_rfl, enters_ok (fn := Try.f29) (by kernel_rfl) (by kernel_rfl) (by kernel_rfl), chartularylaw21_one.forms, chartularylaw21_one.vc⟩

set_option maxRecDepth 100000 in
theorem chartularylaw21_awake.forms : chartularylaw21_awake.fd.formsOk = true := by kernel_rfl
set_option maxRecDepth 100000 in
theorem chartularylaw21_awake.vc : chartularylaw21_awake.fd.vc tt Γ := ⟨fun d => by kernel_rfl, fun k d => by kernel_rfl, ⟨trivial, ⟨trivial, ⟨trivial, ⟨trivial, ⟨trivial, ⟨trivial, ⟨trivial, ⟨trivial, ⟨trivial, ⟨trivial, trivial, trivial⟩, trivial⟩, trivial⟩, trivial⟩, trivial⟩, trivial⟩, trivial⟩, trivial⟩, trivial⟩, trivial⟩⟩
set_option maxRecDepth 100000 in
theorem chartularylaw21_awake.ok : FnOk Try.prog tt Γ 7 chartularylaw21_awake.fd := ⟨by kernel_rfl, by kernel_rfl, enters_ok (fn := Try.f7) (by kernel_rfl) (by kernel_rfl) (by kernel_rfl), chartularylaw21_awake.forms, chartularylaw21_awake.vc⟩

set_option maxRecDepth 100000 in
theorem chartularylaw21_against.forms : chartularylaw21_against.fd.formsOk = true := by kernel_rfl
set_option maxRecDepth 100000 in
theorem chartularylaw21_against.vc : chartularylaw21_against.fd.vc tt Γ := ⟨fun d => by kernel_rfl, fun k d => by kernel_rfl, ⟨trivial, ⟨⟨trivial, ⟨⟨⟨trivial, ⟨trivial, trivial⟩, trivial⟩, ⟨⟨trivial, ⟨⟨⟨trivial, ⟨trivial, trivial⟩, trivial⟩, ⟨⟨trivial, ⟨⟨trivial, trivial, trivial⟩, trivial⟩, trivial⟩, trivial, trivial⟩, trivial⟩, ⟨fun d => by kernel_rfl, fun k d => by kernel_rfl⟩⟩, trivial⟩, trivial, trivial⟩, trivial⟩, ⟨fun d => by kernel_rfl, fun k d => by kernel_rfl⟩⟩, trivial⟩, ⟨trivial, trivial, trivial⟩, trivial⟩, trivial⟩⟩
set_option maxRecDepth 100000 in
theorem chartularylaw21_against.ok : FnOk Try.prog tt Γ 12 chartularylaw21_against.fd := ⟨by kernel_rfl, by kernel_rfl, enters_ok (fn := Try.f12) (by kernel_rfl) (by kernel_rfl) (by kernel_rfl), chartularylaw21_against.forms, chartularylaw21_against.vc⟩

set_option maxRecDepth 100000 in
theorem chartularylaw21_sum.forms : chartularylaw21_sum.fd.formsOk = true := by kernel_rfl
set_option maxRecDepth 100000 in
theorem chartularylaw21_sum.vc : chartularylaw21_sum.fd.vc tt Γ := ⟨fun d => by kernel_rfl, fun k d => by kernel_rfl, ⟨trivial, ⟨trivial, ⟨⟨trivial, ⟨⟨trivial, trivial, trivial⟩, trivial⟩, trivial⟩, ⟨trivial, trivial, trivial⟩, trivial⟩, trivial⟩, trivial⟩⟩
set_option maxRecDepth 100000 in
theorem chartularylaw21_sum.ok : FnOk Try.prog tt Γ 45 chartularylaw21_sum.fd := ⟨by kernel_rfl, by kernel_rfl, enters_ok (fn := Try.f45) (by kernel_rfl) (by kernel_rfl) (by kernel_rfl), chartularylaw21_sum.forms, chartularylaw21_sum.vc⟩

set_option maxRecDepth 100000 in
theorem chartularylaw21_twins.forms : chartularylaw21_twins.fd.formsOk = true := by kernel_rfl
set_option maxRecDepth 100000 in
theorem chartularylaw21_twins.vc : chartularylaw21_twins.fd.vc tt Γ := ⟨fun d => by kernel_rfl, fun k d => by kernel_rfl, ⟨trivial, ⟨trivial, ⟨trivial, trivial, trivial⟩, trivial⟩, trivial⟩⟩
set_option maxRecDepth 100000 in
theorem chartularylaw21_twins.ok : FnOk Try.prog tt Γ 13 chartularylaw21_twins.fd := ⟨by kernel_rfl, by kernel_rfl, enters_ok (fn := Try.f13) (by kernel_rfl) (by kernel_rfl) (by kernel_rfl), chartularylaw21_twins.forms, chartularylaw21_twins.vc⟩

set_option maxRecDepth 100000 in
theorem chartularylaw14_cut.forms : chartularylaw14_cut.fd.formsOk = true := by kernel_rfl
set_option maxRecDepth 100000 in
theorem chartularylaw14_cut.vc : chartularylaw14_cut.fd.vc tt Γ := ⟨fun d => by kernel_rfl, fun k d => by kernel_rfl, ⟨trivial, ⟨⟨trivial, ⟨⟨trivial, trivial, trivial⟩, trivial⟩, trivial⟩, ⟨trivial, trivial, trivial⟩, trivial⟩, trivial⟩⟩
set_option maxRecDepth 100000 in
theorem chartularylaw14_cut.ok : FnOk Try.prog tt Γ 46 chartularylaw14_cut.fd := ⟨by kernel_rfl, by kernel_rfl, enters_ok (fn := Try.f46) (by kernel_rfl) (by kernel_rfl) (by kernel_rfl), chartularylaw14_cut.forms, chartularylaw14_cut.vc⟩

set_option maxRecDepth 100000 in
theorem chartularylaw14_FewEntry.forms : chartularylaw14_FewEntry.fd.formsOk = true := by kernel_rfl
set_option maxRecDepth 100000 in
theorem chartularylaw14_FewEntry.vc : chartularylaw14_FewEntry.fd.vc tt Γ := ⟨fun d => by kernel_rfl, fun k d => by kernel_rfl, ⟨trivial, ⟨trivial, ⟨⟨trivial, ⟨⟨⟨trivial, ⟨trivial, trivial⟩, trivial⟩, ⟨⟨trivial, trivial, trivial⟩, trivial, trivial⟩, trivial⟩, ⟨fun d => by kernel_rfl, fun k d => by kernel_rfl⟩⟩, trivial⟩, ⟨⟨trivial, ⟨⟨⟨trivial, ⟨trivial, trivial⟩, trivial⟩, ⟨trivial, trivial, trivial⟩, trivial⟩, ⟨fun d => by kernel_rfl, fun k d => by kernel_rfl⟩⟩, trivial⟩, ⟨trivial, trivial, trivial⟩, trivial⟩, trivial⟩, trivial⟩, trivial⟩⟩
set_option maxRecDepth 100000 in
theorem chartularylaw14_FewEntry.ok : FnOk Try.prog tt Γ 14 chartularylaw14_FewEntry.fd := ⟨by kernel_rfl, by kernel_rfl, enters_ok (fn := Try.f14) (by kernel_rfl) (by kernel_rfl) (by kernel_rfl), chartularylaw14_FewEntry.forms, chartularylaw14_FewEntry.vc⟩

set_option maxRecDepth 100000 in
theorem chartularylaw19_cut.forms : chartularylaw19_cut.fd.formsOk = true := by kernel_rfl
set_option maxRecDepth 100000 in
theorem chartularylaw19_cut.vc : chartularylaw19_cut.fd.vc tt Γ := ⟨fun d => by kernel_rfl, fun k d => by kernel_rfl, ⟨trivial, ⟨⟨trivial, ⟨⟨trivial, trivial, trivial⟩, trivial⟩, trivial⟩, ⟨trivial, trivial, trivial⟩, trivial⟩, trivial⟩⟩
set_option maxRecDepth 100000 in
theorem chartularylaw19_cut.ok : FnOk Try.prog tt Γ 52 chartularylaw19_cut.fd := ⟨by kernel_rfl, by kernel_rfl, enters_ok (fn := Try.f52) (by kernel_rfl) (by kernel_rfl) (by kernel_rfl), chartularylaw19_cut.forms, chartularylaw19_cut.vc⟩

set_option maxRecDepth 100000 in
theorem chartularylaw19_texts.forms : chartularylaw19_texts.fd.formsOk = true := by kernel_rfl
set_option maxRecDepth 100000 in
theorem chartularylaw19_texts.vc : chartularylaw19_texts.fd.vc tt Γ := ⟨fun d => by kernel_rfl, fun k d => by kernel_rfl, ⟨trivial, ⟨trivial, ⟨⟨trivial, ⟨⟨⟨trivial, ⟨trivial, trivial⟩, trivial⟩, ⟨trivial, trivial, trivial⟩, trivial⟩, ⟨fun d => by kernel_rfl, fun k d => by kernel_rfl⟩⟩, trivial⟩, ⟨trivial, trivial, trivial⟩, trivial⟩, trivial⟩, trivial⟩⟩
set_option maxRecDepth 100000 in
theorem chartularylaw19_texts.ok : FnOk Try.prog tt Γ 53 chartularylaw19_texts.fd := ⟨by kernel_rfl, by kernel_rfl, enters_ok (fn := Try.f53) (by kernel_rfl) (by kernel_rfl) (by kernel_rfl), chartularylaw19_texts.forms, chartularylaw19_texts.vc⟩

set_option maxRecDepth 100000 in
theorem chartularylaw19_Few.forms : chartularylaw19_Few.fd.formsOk = true := by kernel_rfl
set_option maxRecDepth 100000 in
theorem chartularylaw19_Few.vc : chartularylaw19_Few.fd.vc tt Γ := ⟨fun d => by kernel_rfl, fun k d => by kernel_rfl, ⟨trivial, ⟨trivial, ⟨trivial, ⟨trivial, ⟨trivial, ⟨⟨trivial, ⟨⟨⟨trivial, ⟨trivial, trivial⟩, trivial⟩, ⟨⟨trivial, trivial, trivial⟩, trivial, trivial⟩, trivial⟩, ⟨fun d => by kernel_rfl, fun k d => by kernel_rfl⟩⟩, trivial⟩, ⟨trivial, ⟨trivial, trivial, trivial⟩, trivial⟩, trivial⟩, trivial⟩, trivial⟩, trivial⟩, trivial⟩, trivial⟩⟩
set_option maxRecDepth 100000 in
theorem chartularylaw19_Few.ok : FnOk Try.prog tt Γ 16 chartularylaw19_Few.fd := ⟨by kernel_rfl, by kernel_rfl, enters_ok (fn := Try.f16) (by kernel_rfl) (by kernel_rfl) (by kernel_rfl), chartularylaw19_Few.forms, chartularylaw19_Few.vc⟩

set_option maxRecDepth 100000 in
theorem pledge_None.forms : pledge_None.fd.formsOk = true := by kernel_rfl
set_option maxRecDepth 100000 in
theorem pledge_None.vc : pledge_None.fd.vc tt Γ := ⟨fun d => by kernel_rfl, fun k d => by kernel_rfl, ⟨trivial, ⟨trivial, trivial, trivial⟩, trivial⟩⟩
set_option maxRecDepth 100000 in
theorem pledge_None.ok : FnOk Try.prog tt Γ 55 pledge_None.fd := ⟨by kernel_rfl, by kernel_rfl, enters_ok (fn := Try.f55) (by kernel_rfl) (by kernel_rfl) (by kernel_rfl), pledge_None.forms, pledge_None.vc⟩

set_option maxRecDepth 100000 in
theorem merkle_Root.forms : merkle_Root.fd.formsOk = true := by kernel_rfl
set_option maxRecDepth 100000 in
theorem merkle_Root.vc : merkle_Root.fd.vc tt Γ := ⟨fun d => by kernel_rfl, fun k d => by kernel_rfl, ⟨trivial, ⟨⟨trivial, ⟨trivial, ⟨⟨trivial, trivial, trivial⟩, ⟨trivial, ⟨⟨trivial, trivial, trivial⟩, trivial⟩, trivial⟩⟩, trivial⟩, trivial⟩, ⟨trivial, ⟨trivial, trivial, trivial⟩, trivial⟩, trivial⟩, trivial⟩⟩
set_option maxRecDepth 100000 in
theorem merkle_Root.ok : FnOk Try.prog tt Γ 19 merkle_Root.fd := ⟨by kernel_rfl, by kernel_rfl, enters_ok (fn := Try.f19) (by kernel_rfl) (by kernel_rfl) (by kernel_rfl), merkle_Root.forms, merkle_Root.vc⟩

set_option maxRecDepth 100000 in
theorem sheet_leaves.forms : sheet_leaves.fd.formsOk = true := by kernel_rfl
set_option maxRecDepth 100000 in
theorem sheet_leaves.vc : sheet_leaves.fd.vc tt Γ := ⟨fun d => by kernel_rfl, fun k d => by kernel_rfl, ⟨trivial, ⟨trivial, ⟨⟨trivial, ⟨⟨trivial, ⟨⟨trivial, trivial⟩, ⟨⟨trivial, trivial, trivial⟩, trivial, trivial⟩, trivial⟩, trivial⟩, ⟨fun d => by kernel_rfl, fun k d => by kernel_rfl⟩⟩, trivial⟩, ⟨trivial, trivial, trivial⟩, trivial⟩, trivial⟩, trivial⟩⟩
set_option maxRecDepth 100000 in
theorem sheet_leaves.ok : FnOk Try.prog tt Γ 80 sheet_leaves.fd := ⟨by kernel_rfl, by kernel_rfl, enters_ok (fn := Try.f80) (by kernel_rfl) (by kernel_rfl) (by kernel_rfl), sheet_leaves.forms, sheet_leaves.vc⟩

set_option maxRecDepth 100000 in
theorem sheet_Root.forms : sheet_Root.fd.formsOk = true := by kernel_rfl
set_option maxRecDepth 100000 in
theorem sheet_Root.vc : sheet_Root.fd.vc tt Γ := ⟨fun d => by kernel_rfl, fun k d => by kernel_rfl, ⟨trivial, ⟨trivial, trivial, trivial⟩, trivial⟩⟩
set_option maxRecDepth 100000 in
theorem sheet_Root.ok : FnOk Try.prog tt Γ 54 sheet_Root.fd := ⟨by kernel_rfl, by kernel_rfl, enters_ok (fn := Try.f54) (by kernel_rfl) (by kernel_rfl) (by kernel_rfl), sheet_Root.forms, sheet_Root.vc⟩

set_option maxRecDepth 100000 in
theorem sheet_Entry.forms : sheet_Entry.fd.formsOk = true := by kernel_rfl
set_option maxRecDepth 100000 in
theorem sheet_Entry.vc : sheet_Entry.fd.vc tt Γ := ⟨fun d => by kernel_rfl, fun k d => by kernel_rfl, ⟨trivial, ⟨trivial, trivial, trivial⟩, trivial⟩⟩
set_option maxRecDepth 100000 in
theorem sheet_Entry.ok : FnOk Try.prog tt Γ 18 sheet_Entry.fd := ⟨by kernel_rfl, by kernel_rfl, enters_ok (fn := Try.f18) (by kernel_rfl) (by kernel_rfl) (by kernel_rfl), sheet_Entry.forms, sheet_Entry.vc⟩

set_option maxRecDepth 100000 in
theorem extract_Honest.forms : extract_Honest.fd.formsOk = true := by kernel_rfl
set_option maxRecDepth 100000 in
theorem extract_Honest.vc : extract_Honest.fd.vc tt Γ := ⟨fun d => by kernel_rfl, fun k d => by kernel_rfl, ⟨trivial, ⟨trivial, ⟨⟨trivial, ⟨⟨trivial, trivial, trivial⟩, trivial⟩, trivial⟩, ⟨trivial, ⟨⟨trivial, ⟨⟨trivial, ⟨⟨trivial, trivial⟩, ⟨⟨trivial, trivial, trivial⟩, trivial, trivial⟩, trivial⟩, trivial⟩, ⟨fun d => by kernel_rfl, fun k d => by kernel_rfl⟩⟩, trivial⟩, ⟨trivial, ⟨⟨trivial, ⟨⟨trivial, trivial, trivial⟩, trivial⟩, trivial⟩, ⟨trivial, ⟨⟨trivial, ⟨⟨trivial, trivial, trivial⟩, trivial⟩, trivial⟩, ⟨trivial, trivial, trivial⟩, trivial⟩, trivial⟩, trivial⟩, trivial⟩, trivial⟩, trivial⟩, trivial⟩, trivial⟩, trivial⟩⟩
set_option maxRecDepth 100000 in
theorem extract_Honest.ok : FnOk Try.prog tt Γ 17 extract_Honest.fd := ⟨by kernel_rfl, by kernel_rfl, enters_ok (fn := Try.f17) (by kernel_rfl) (by kernel_rfl) (by kernel_rfl), extract_Honest.forms, extract_Honest.vc⟩

set_option maxRecDepth 100000 in
theorem chartularylaw21_ExtractHonest.forms : chartularylaw21_ExtractHonest.fd.formsOk = true := by kernel_rfl
set_option maxRecDepth 100000 in
theorem chartularylaw21_ExtractHonest.vc : chartularylaw21_ExtractHonest.fd.vc tt Γ := ⟨fun d => by kernel_rfl, fun k d => by kernel_rfl, ⟨trivial, ⟨trivial, ⟨trivial, ⟨⟨trivial, ⟨⟨⟨trivial, ⟨trivial, trivial⟩, trivial⟩, ⟨trivial, trivial, trivial⟩, trivial⟩, ⟨fun d => by kernel_rfl, fun k d => by kernel_rfl⟩⟩, trivial⟩, ⟨⟨trivial, ⟨trivial, trivial⟩, trivial⟩, ⟨trivial, ⟨trivial, ⟨⟨trivial, ⟨⟨trivial, trivial, trivial⟩, trivial⟩, trivial⟩, ⟨trivial, ⟨⟨trivial, ⟨⟨trivial, trivial, trivial⟩, trivial⟩, trivial⟩, ⟨trivial, ⟨⟨trivial, ⟨⟨⟨trivial, ⟨trivial, trivial⟩, trivial⟩, ⟨trivial, trivial, trivial⟩, trivial⟩, ⟨fun d => by kernel_rfl, fun k d => by kernel_rfl⟩⟩, trivial⟩, ⟨trivial, ⟨trivial, ⟨⟨trivial, ⟨⟨trivial, trivial, trivial⟩, trivial⟩, trivial⟩, ⟨trivial, ⟨trivial, trivial, trivial⟩, trivial⟩, ⟨fun d => by kernel_rfl, fun k d => by kernel_rfl⟩⟩, trivial⟩, trivial⟩, trivial⟩, trivial⟩, trivial⟩, trivial⟩, ⟨fun d => by kernel_rfl, fun k d => by kernel_rfl⟩⟩, trivial⟩, trivial⟩, ⟨fun d => by kernel_rfl, fun k d => by kernel_rfl⟩⟩, trivial⟩, trivial⟩, trivial⟩, trivial⟩⟩
set_option maxRecDepth 100000 in
theorem chartularylaw21_ExtractHonest.ok : FnOk Try.prog tt Γ 4 chartularylaw21_ExtractHonest.fd := ⟨by kernel_rfl, by kernel_rfl, enters_ok (fn := Try.f4) (by kernel_rfl) (by kernel_rfl) (by kernel_rfl), chartularylaw21_ExtractHonest.forms, chartularylaw21_ExtractHonest.vc⟩

noncomputable def tab : Tab := [(6, chartularylaw21_few.fd), (25, mill_New.fd), (82, sha_New.fd), (97, bits_RotateLeft32.fd), (96, sha_turn.fd), (94, sha_words.fd), (95, sha_rounds.fd), (91, sha_State_mix.fd), (83, sha_State_Write.fd), (84, sha_State_Sum.fd), (65, sha_Sum.fd), (32, mill_name.fd), (9, mill_With_has.fd), (9, mill_With_nil.fd), (33, octet_Read.fd), (37, octet_Reader_Err.fd), (67, octet_Reader_Fail.fd), (66, octet_Reader_Raw.fd), (35, octet_Reader_Num.fd), (34, octet_Reader_Text.fd), (68, octet_Reader_Flag.fd), (36, proof_readItem.fd), (38, octet_Reader_Texts.fd), (69, octet_Reader_Left.fd), (39, octet_Reader_End.fd), (92, paper_sign.fd), (85, paper_word.fd), (70, paper_IsID.fd), (86, paper_IsName.fd), (71, proof_rightItem.fd), (72, proof_sums.fd), (40, proof_Right.fd), (10, proof_Read.fd), (58, mill_Mill_none.fd), (81, mill_Mill_note.fd), (62, mill_Mill_Sum.fd), (78, octet_Num.fd), (63, octet_Text.fd), (26, pledge_Of.fd), (47, octet_Writer_Text.fd), (48, octet_Writer_Num.fd), (51, octet_Writer_All.fd), (64, pledge_Leaf.fd), (27, sheet_Paper.fd), (28, sheet_Leaf.fd), (73, value_of.fd), (93, value_nan.fd), (87, value_Clean.fd), (74, value_Right.fd), (41, value_Read.fd), (75, sheet_Rising.fd), (57, pledge_Node.fd), (88, sheet_picked.fd), (89, sheet_next_v1.fd), (89, sheet_next_v2.fd), (90, sheet_split.fd), (76, sheet_walker_root.fd), (42, sheet_Rebuild.fd), (60, merkle_sums.fd), (56, merkle_split.fd), (77, merkle_climb.fd), (43, merkle_Climb.fd), (11, auditor_Check.fd), (44, auditor_Against.fd), (30, extract_against.fd), (20, mill_Mill_Twins.fd), (31, extract_found.fd), (8, extract_Shows.fd), (79, octet_Writer_Flag.fd), (49, proof_item.fd), (50, octet_Writer_Texts.fd), (15, proof_Bytes.fd), (29, chartularylaw21_one.fd), (7, chartularylaw21_awake.fd), (12, chartularylaw21_against.fd), (45, chartularylaw21_sum.fd), (13, chartularylaw21_twins.fd), (46, chartularylaw14_cut.fd), (14, chartularylaw14_FewEntry.fd), (52, chartularylaw19_cut.fd), (53, chartularylaw19_texts.fd), (16, chartularylaw19_Few.fd), (55, pledge_None.fd), (19, merkle_Root.fd), (80, sheet_leaves.fd), (54, sheet_Root.fd), (18, sheet_Entry.fd), (17, extract_Honest.fd), (4, chartularylaw21_ExtractHonest.fd)]
theorem Γ_eq (k : Nat) : Γ k = gamK tab k := by kernel_rfl
theorem tt_ok : TTok Try.prog tt := ttB_ok (by kernel_rfl)
theorem mixed : Try.prog.follows .mixedOrders = true := by kernel_rfl
theorem tab_all : ∀ x ∈ tab, FnOk Try.prog tt Γ x.1 x.2 := by
  unfold tab
  simp only [List.forall_mem_cons]
  exact ⟨chartularylaw21_few.ok, mill_New.ok, sha_New.ok, bits_RotateLeft32.ok, sha_turn.ok, sha_words.ok, sha_rounds.ok, sha_State_mix.ok, sha_State_Write.ok, sha_State_Sum.ok, sha_Sum.ok, mill_name.ok, mill_With_has.ok, mill_With_nil.ok, octet_Read.ok, octet_Reader_Err.ok, octet_Reader_Fail.ok, octet_Reader_Raw.ok, octet_Reader_Num.ok, octet_Reader_Text.ok, octet_Reader_Flag.ok, proof_readItem.ok, octet_Reader_Texts.ok, octet_Reader_Left.ok, octet_Reader_End.ok, paper_sign.ok, paper_word.ok, paper_IsID.ok, paper_IsName.ok, proof_rightItem.ok, proof_sums.ok, proof_Right.ok, proof_Read.ok, mill_Mill_none.ok, mill_Mill_note.ok, mill_Mill_Sum.ok, octet_Num.ok, octet_Text.ok, pledge_Of.ok, octet_Writer_Text.ok, octet_Writer_Num.ok, octet_Writer_All.ok, pledge_Leaf.ok, sheet_Paper.ok, sheet_Leaf.ok, value_of.ok, value_nan.ok, value_Clean.ok, value_Right.ok, value_Read.ok, sheet_Rising.ok, pledge_Node.ok, sheet_picked.ok, sheet_next_v1.ok, sheet_next_v2.ok, sheet_split.ok, sheet_walker_root.ok, sheet_Rebuild.ok, merkle_sums.ok, merkle_split.ok, merkle_climb.ok, merkle_Climb.ok, auditor_Check.ok, auditor_Against.ok, extract_against.ok, mill_Mill_Twins.ok, extract_found.ok, extract_Shows.ok, octet_Writer_Flag.ok, proof_item.ok, octet_Writer_Texts.ok, proof_Bytes.ok, chartularylaw21_one.ok, chartularylaw21_awake.ok, chartularylaw21_against.ok, chartularylaw21_sum.ok, chartularylaw21_twins.ok, chartularylaw14_cut.ok, chartularylaw14_FewEntry.ok, chartularylaw19_cut.ok, chartularylaw19_texts.ok, chartularylaw19_Few.ok, pledge_None.ok, merkle_Root.ok, sheet_leaves.ok, sheet_Root.ok, sheet_Entry.ok, extract_Honest.ok, chartularylaw21_ExtractHonest.ok, fun x h => nomatch h⟩
theorem chartularylaw21_ExtractHonest.spec (k : Nat) : SpecOk Try.prog 4 (chartularylaw21_ExtractHonest.fd.sp k) := spec_ok mixed tt_ok Γ_eq tab_all (f := 4) (F := chartularylaw21_ExtractHonest.fd) (by unfold tab; simp only [List.mem_cons, true_or, or_true]) k

end Go.Proofs.Ytioagphpiflplaa.E
