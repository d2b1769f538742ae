import Derived.Test.YtpidgdelfaidoaaEDefs
import Derived.Test.YtpidgdelfaidoaaETab
import Derived.Test.YtpidgdelfaidoaaEW26
namespace Go.Proofs.Ytpidgdelfaidoaa.E
open Go Go.Proofs.Ytpidgdelfaidoaa.Eng Go.Proofs
set_option maxRecDepth 100000 in
theorem chartularylaw26_cut.forms : chartularylaw26_cut.fd.formsOk = true := by kernel_rfl
set_option maxRecDepth 100000 in
theorem chartularylaw26_cut.vc : chartularylaw26_cut.fd.vc tt Γ := ⟨fun d => by kernel_rfl, fun k d => by kernel_rfl, ⟨trivial, ⟨⟨trivial, ⟨⟨trivial, trivial, trivial⟩, trivial⟩, trivial⟩, ⟨trivial, trivial, trivial⟩, trivial⟩, trivial⟩⟩
set_option maxRecDepth 100000 in
theorem chartularylaw26_cut.ok : FnOk Try.prog tt Γ 17 chartularylaw26_cut.fd := ⟨by kernel_rfl, by kernel_rfl, enters_ok (fn := Try.f17) (by kernel_rfl) (by kernel_rfl) (by kernel_rfl), chartularylaw26_cut.forms, chartularylaw26_cut.vc⟩

set_option maxRecDepth 100000 in
theorem chartularylaw26_few.forms : chartularylaw26_few.fd.formsOk = true := by kernel_rfl
set_option maxRecDepth 100000 in
theorem chartularylaw26_few.vc : chartularylaw26_few.fd.vc tt Γ := ⟨fun d => by kernel_rfl, fun k d => by kernel_rfl, ⟨trivial, ⟨trivial, ⟨⟨trivial, ⟨⟨⟨trivial, ⟨trivial, trivial⟩, trivial⟩, ⟨⟨trivial, ⟨trivial, ⟨trivial, ⟨trivial, trivial, trivial⟩, trivial⟩, trivial⟩, trivial⟩, trivial, trivial⟩, trivial⟩, ⟨⟨fun d => by kernel_rfl, fun k d => by kernel_rfl⟩, trivial⟩⟩, trivial⟩, ⟨trivial, trivial, trivial⟩, trivial⟩, trivial⟩, trivial⟩⟩
set_option maxRecDepth 100000 in
theorem chartularylaw26_few.ok : FnOk Try.prog tt Γ 6 chartularylaw26_few.fd := ⟨by kernel_rfl, by kernel_rfl, enters_ok (fn := Try.f6) (by kernel_rfl) (by kernel_rfl) (by kernel_rfl), chartularylaw26_few.forms, chartularylaw26_few.vc⟩

set_option maxRecDepth 100000 in
theorem paper_sign.forms : paper_sign.fd.formsOk = true := by kernel_rfl
set_option maxRecDepth 100000 in
theorem paper_sign.vc : paper_sign.fd.vc tt Γ := ⟨fun d => by kernel_rfl, fun k d => by kernel_rfl, ⟨trivial, ⟨trivial, trivial, trivial⟩, trivial⟩⟩
set_option maxRecDepth 100000 in
theorem paper_sign.ok : FnOk Try.prog tt Γ 57 paper_sign.fd := ⟨by kernel_rfl, by kernel_rfl, enters_ok (fn := Try.f57) (by kernel_rfl) (by kernel_rfl) (by kernel_rfl), paper_sign.forms, paper_sign.vc⟩

set_option maxRecDepth 100000 in
theorem paper_word.forms : paper_word.fd.formsOk = true := by kernel_rfl
set_option maxRecDepth 100000 in
theorem paper_word.vc : paper_word.fd.vc tt Γ := ⟨fun d => by kernel_rfl, fun k d => by kernel_rfl, ⟨trivial, ⟨⟨trivial, ⟨⟨trivial, trivial, trivial⟩, trivial⟩, trivial⟩, ⟨⟨trivial, ⟨⟨trivial, ⟨⟨trivial, trivial⟩, ⟨⟨trivial, ⟨trivial, ⟨⟨trivial, trivial, trivial⟩, trivial⟩, trivial⟩, trivial⟩, trivial, trivial⟩, trivial⟩, trivial⟩, ⟨⟨fun d => by kernel_rfl, fun k d => by kernel_rfl⟩, trivial⟩⟩, trivial⟩, ⟨trivial, trivial, trivial⟩, trivial⟩, ⟨⟨fun d => by kernel_rfl, fun k d => by kernel_rfl⟩, trivial⟩⟩, trivial⟩⟩
set_option maxRecDepth 100000 in
theorem paper_word.ok : FnOk Try.prog tt Γ 43 paper_word.fd := ⟨by kernel_rfl, by kernel_rfl, enters_ok (fn := Try.f43) (by kernel_rfl) (by kernel_rfl) (by kernel_rfl), paper_word.forms, paper_word.vc⟩

set_option maxRecDepth 100000 in
theorem paper_IsName.forms : paper_IsName.fd.formsOk = true := by kernel_rfl
set_option maxRecDepth 100000 in
theorem paper_IsName.vc : paper_IsName.fd.vc tt Γ := ⟨fun d => by kernel_rfl, fun k d => by kernel_rfl, ⟨trivial, ⟨trivial, trivial, trivial⟩, trivial⟩⟩
set_option maxRecDepth 100000 in
theorem paper_IsName.ok : FnOk Try.prog tt Γ 22 paper_IsName.fd := ⟨by kernel_rfl, by kernel_rfl, enters_ok (fn := Try.f22) (by kernel_rfl) (by kernel_rfl) (by kernel_rfl), paper_IsName.forms, paper_IsName.vc⟩

set_option maxRecDepth 100000 in
theorem value_nan.forms : value_nan.fd.formsOk = true := by kernel_rfl
set_option maxRecDepth 100000 in
theorem value_nan.vc : value_nan.fd.vc tt Γ := ⟨fun d => by kernel_rfl, fun k d => by kernel_rfl, ⟨trivial, ⟨trivial, trivial, trivial⟩, trivial⟩⟩
set_option maxRecDepth 100000 in
theorem value_nan.ok : FnOk Try.prog tt Γ 58 value_nan.fd := ⟨by kernel_rfl, by kernel_rfl, enters_ok (fn := Try.f58) (by kernel_rfl) (by kernel_rfl) (by kernel_rfl), value_nan.forms, value_nan.vc⟩

set_option maxRecDepth 100000 in
theorem value_Clean.forms : value_Clean.fd.formsOk = true := by kernel_rfl
set_option maxRecDepth 100000 in
theorem value_Clean.vc : value_Clean.fd.vc tt Γ := ⟨fun d => by kernel_rfl, fun k d => by kernel_rfl, ⟨trivial, ⟨trivial, ⟨⟨trivial, ⟨trivial, ⟨trivial, ⟨trivial, ⟨trivial, ⟨trivial, ⟨⟨trivial, ⟨trivial, ⟨trivial, trivial⟩, trivial⟩, trivial⟩, ⟨trivial, ⟨trivial, trivial⟩, trivial⟩⟩, trivial⟩⟩, trivial⟩⟩, trivial⟩, trivial⟩, ⟨trivial, trivial, trivial⟩, trivial⟩, trivial⟩, trivial⟩⟩
set_option maxRecDepth 100000 in
theorem value_Clean.ok : FnOk Try.prog tt Γ 44 value_Clean.fd := ⟨by kernel_rfl, by kernel_rfl, enters_ok (fn := Try.f44) (by kernel_rfl) (by kernel_rfl) (by kernel_rfl), value_Clean.forms, value_Clean.vc⟩

set_option maxRecDepth 100000 in
theorem value_Right.forms : value_Right.fd.formsOk = true := by kernel_rfl
set_option maxRecDepth 100000 in
theorem value_Right.vc : value_Right.fd.vc tt Γ := ⟨fun d => by kernel_rfl, fun k d => by kernel_rfl, ⟨trivial, ⟨trivial, trivial, trivial⟩, trivial⟩⟩
set_option maxRecDepth 100000 in
theorem value_Right.ok : FnOk Try.prog tt Γ 23 value_Right.fd := ⟨by kernel_rfl, by kernel_rfl, enters_ok (fn := Try.f23) (by kernel_rfl) (by kernel_rfl) (by kernel_rfl), value_Right.forms, value_Right.vc⟩

set_option maxRecDepth 100000 in
theorem find_Check.forms : find_Check.fd.formsOk = true := by kernel_rfl
set_option maxRecDepth 100000 in
theorem find_Check.vc : find_Check.fd.vc tt Γ := ⟨fun d => by kernel_rfl, fun k d => by kernel_rfl, ⟨trivial, ⟨⟨trivial, ⟨⟨trivial, trivial, trivial⟩, ⟨trivial, ⟨⟨trivial, trivial, trivial⟩, trivial⟩, trivial⟩⟩, trivial⟩, ⟨⟨trivial, ⟨⟨trivial, ⟨⟨trivial, trivial⟩, ⟨⟨trivial, ⟨⟨trivial, ⟨⟨trivial, trivial, trivial⟩, trivial⟩, trivial⟩, ⟨trivial, ⟨⟨trivial, trivial, trivial⟩, trivial⟩, trivial⟩, trivial⟩, trivial⟩, trivial, trivial⟩, trivial⟩, trivial⟩, ⟨⟨fun d => by kernel_rfl, fun k d => by kernel_rfl⟩, trivial⟩⟩, trivial⟩, ⟨trivial, trivial, trivial⟩, trivial⟩, ⟨⟨fun d => by kernel_rfl, fun k d => by kernel_rfl⟩, trivial⟩⟩, trivial⟩⟩
set_option maxRecDepth 100000 in
theorem find_Check.ok : FnOk Try.prog tt Γ 8 find_Check.fd := ⟨by kernel_rfl, by kernel_rfl, enters_ok (fn := Try.f8) (by kernel_rfl) (by kernel_rfl) (by kernel_rfl), find_Check.forms, find_Check.vc⟩

set_option maxRecDepth 100000 in
theorem strings_Builder_WriteByte_v0.forms : strings_Builder_WriteByte_v0.fd.formsOk = true := by kernel_rfl
set_option maxRecDepth 100000 in
theorem strings_Builder_WriteByte_v0.vc : strings_Builder_WriteByte_v0.fd.vc tt Γ := ⟨fun d => by kernel_rfl, fun k d => by kernel_rfl, ⟨trivial, ⟨trivial, ⟨trivial, ⟨trivial, trivial, trivial⟩, trivial⟩, trivial⟩, trivial⟩⟩
set_option maxRecDepth 100000 in
theorem strings_Builder_WriteByte_v0.ok : FnOk Try.prog tt Γ 37 strings_Builder_WriteByte_v0.fd := ⟨by kernel_rfl, by kernel_rfl, enters_ok (fn := Try.f37) (by kernel_rfl) (by kernel_rfl) (by kernel_rfl), strings_Builder_WriteByte_v0.forms, strings_Builder_WriteByte_v0.vc⟩

set_option maxRecDepth 100000 in
theorem strings_Builder_WriteByte_v1.forms : strings_Builder_WriteByte_v1.fd.formsOk = true := by kernel_rfl
set_option maxRecDepth 100000 in
theorem strings_Builder_WriteByte_v1.vc : strings_Builder_WriteByte_v1.fd.vc tt Γ := ⟨fun d => by kernel_rfl, fun k d => by kernel_rfl, ⟨trivial, ⟨trivial, ⟨trivial, ⟨trivial, trivial, trivial⟩, trivial⟩, trivial⟩, trivial⟩⟩
set_option maxRecDepth 100000 in
theorem strings_Builder_WriteByte_v1.ok : FnOk Try.prog tt Γ 37 strings_Builder_WriteByte_v1.fd := ⟨by kernel_rfl, by kernel_rfl, enters_ok (fn := Try.f37) (by kernel_rfl) (by kernel_rfl) (by kernel_rfl), strings_Builder_WriteByte_v1.forms, strings_Builder_WriteByte_v1.vc⟩

set_option maxRecDepth 100000 in
theorem say_plain.forms : say_plain.fd.formsOk = true := by kernel_rfl
set_option maxRecDepth 100000 in
theorem say_plain.vc : say_plain.fd.vc tt Γ := ⟨fun d => by kernel_rfl, fun k d => by kernel_rfl, ⟨trivial, ⟨trivial, trivial, trivial⟩, trivial⟩⟩
set_option maxRecDepth 100000 in
theorem say_plain.ok : FnOk Try.prog tt Γ 38 say_plain.fd := ⟨by kernel_rfl, by kernel_rfl, enters_ok (fn := Try.f38) (by kernel_rfl) (by kernel_rfl) (by kernel_rfl), say_plain.forms, say_plain.vc⟩

set_option maxRecDepth 100000 in
theorem strings_Builder_WriteString_v0.forms : strings_Builder_WriteString_v0.fd.formsOk = true := by kernel_rfl
set_option maxRecDepth 100000 in
theorem strings_Builder_WriteString_v0.vc : strings_Builder_WriteString_v0.fd.vc tt Γ := ⟨fun d => by kernel_rfl, fun k d => by kernel_rfl, ⟨trivial, ⟨trivial, ⟨trivial, ⟨trivial, trivial, trivial⟩, trivial⟩, trivial⟩, trivial⟩⟩
set_option maxRecDepth 100000 in
theorem strings_Builder_WriteString_v0.ok : FnOk Try.prog tt Γ 39 strings_Builder_WriteString_v0.fd := ⟨by kernel_rfl, by kernel_rfl, enters_ok (fn := Try.f39) (by kernel_rfl) (by kernel_rfl) (by kernel_rfl), strings_Builder_WriteString_v0.forms, strings_Builder_WriteString_v0.vc⟩

set_option maxRecDepth 100000 in
theorem say_Quoted.forms : say_Quoted.fd.formsOk = true := by kernel_rfl
set_option maxRecDepth 100000 in
theorem say_Quoted.vc : say_Quoted.fd.vc tt Γ := ⟨fun d => by kernel_rfl, fun k d => by kernel_rfl, ⟨trivial, ⟨trivial, ⟨trivial, ⟨⟨trivial, ⟨⟨trivial, ⟨⟨trivial, trivial⟩, ⟨⟨trivial, ⟨trivial, ⟨⟨trivial, ⟨⟨trivial, trivial, trivial⟩, trivial⟩, trivial⟩, ⟨trivial, ⟨trivial, trivial, trivial⟩, trivial⟩, trivial⟩, trivial⟩, trivial⟩, trivial, trivial⟩, trivial⟩, trivial⟩, ⟨⟨fun d => by kernel_rfl, fun k d => by kernel_rfl⟩, trivial⟩⟩, trivial⟩, ⟨trivial, ⟨trivial, trivial, trivial⟩, trivial⟩, trivial⟩, trivial⟩, trivial⟩, trivial⟩⟩
set_option maxRecDepth 100000 in
theorem say_Quoted.ok : FnOk Try.prog tt Γ 19 say_Quoted.fd := ⟨by kernel_rfl, by kernel_rfl, enters_ok (fn := Try.f19) (by kernel_rfl) (by kernel_rfl) (by kernel_rfl), say_Quoted.forms, say_Quoted.vc⟩

set_option maxRecDepth 100000 in
theorem say_count.forms : say_count.fd.formsOk = true := by kernel_rfl
set_option maxRecDepth 100000 in
theorem say_count.vc : say_count.fd.vc tt Γ := ⟨fun d => by kernel_rfl, fun k d => by kernel_rfl, ⟨trivial, ⟨trivial, ⟨⟨⟨⟨trivial, ⟨trivial, trivial⟩, trivial⟩, ⟨trivial, trivial, trivial⟩, trivial⟩, ⟨⟨fun d => by kernel_rfl, fun k d => by kernel_rfl⟩, trivial⟩⟩, ⟨trivial, ⟨⟨trivial, ⟨⟨⟨trivial, ⟨trivial, trivial⟩, trivial⟩, ⟨trivial, trivial, trivial⟩, trivial⟩, ⟨⟨fun d => by kernel_rfl, fun k d => by kernel_rfl⟩, trivial⟩⟩, trivial⟩, ⟨trivial, trivial, trivial⟩, trivial⟩, trivial⟩, trivial⟩, trivial⟩, trivial⟩⟩
set_option maxRecDepth 100000 in
theorem say_count.ok : FnOk Try.prog tt Γ 55 say_count.fd := ⟨by kernel_rfl, by kernel_rfl, enters_ok (fn := Try.f55) (by kernel_rfl) (by kernel_rfl) (by kernel_rfl), say_count.forms, say_count.vc⟩

set_option maxRecDepth 100000 in
theorem say_whole.forms : say_whole.fd.formsOk = true := by kernel_rfl
set_option maxRecDepth 100000 in
theorem say_whole.vc : say_whole.fd.vc tt Γ := ⟨fun d => by kernel_rfl, fun k d => by kernel_rfl, ⟨trivial, ⟨⟨trivial, ⟨⟨trivial, trivial, trivial⟩, trivial⟩, trivial⟩, ⟨trivial, trivial, trivial⟩, trivial⟩, trivial⟩⟩
set_option maxRecDepth 100000 in
theorem say_whole.ok : FnOk Try.prog tt Γ 41 say_whole.fd := ⟨by kernel_rfl, by kernel_rfl, enters_ok (fn := Try.f41) (by kernel_rfl) (by kernel_rfl) (by kernel_rfl), say_whole.forms, say_whole.vc⟩

set_option maxRecDepth 100000 in
theorem say_Value.forms : say_Value.fd.formsOk = true := by kernel_rfl
set_option maxRecDepth 100000 in
theorem say_Value.vc : say_Value.fd.vc tt Γ := ⟨fun d => by kernel_rfl, fun k d => by kernel_rfl, ⟨trivial, ⟨⟨trivial, ⟨trivial, ⟨⟨trivial, trivial, trivial⟩, ⟨trivial, ⟨⟨⟨trivial, ⟨⟨trivial, trivial, trivial⟩, trivial⟩, trivial⟩, ⟨trivial, trivial, trivial⟩, trivial⟩, ⟨trivial, ⟨⟨trivial, trivial, trivial⟩, ⟨trivial, ⟨⟨trivial, ⟨⟨trivial, ⟨⟨⟨trivial, ⟨trivial, trivial⟩, trivial⟩, ⟨trivial, trivial, trivial⟩, trivial⟩, ⟨⟨fun d => by kernel_rfl, fun k d => by kernel_rfl⟩, trivial⟩⟩, trivial⟩, ⟨trivial, trivial, trivial⟩, trivial⟩, trivial⟩, ⟨trivial, ⟨⟨trivial, trivial, trivial⟩, trivial⟩, trivial⟩⟩, trivial⟩⟩, trivial⟩⟩, trivial⟩⟩, trivial⟩, trivial⟩, ⟨trivial, trivial, trivial⟩, trivial⟩, trivial⟩⟩
set_option maxRecDepth 100000 in
theorem say_Value.ok : FnOk Try.prog tt Γ 20 say_Value.fd := ⟨by kernel_rfl, by kernel_rfl, enters_ok (fn := Try.f20) (by kernel_rfl) (by kernel_rfl) (by kernel_rfl), say_Value.forms, say_Value.vc⟩

set_option maxRecDepth 100000 in
theorem ask_term.forms : ask_term.fd.formsOk = true := by kernel_rfl
set_option maxRecDepth 100000 in
theorem ask_term.vc : ask_term.fd.vc tt Γ := ⟨fun d => by kernel_rfl, fun k d => by kernel_rfl, ⟨trivial, ⟨trivial, ⟨⟨trivial, ⟨trivial, trivial⟩, trivial⟩, ⟨⟨trivial, ⟨⟨trivial, trivial, trivial⟩, ⟨trivial, ⟨⟨trivial, trivial, trivial⟩, trivial⟩, trivial⟩⟩, trivial⟩, ⟨⟨trivial, ⟨trivial, trivial⟩, trivial⟩, ⟨⟨trivial, ⟨trivial, trivial⟩, trivial⟩, ⟨trivial, trivial, trivial⟩, trivial⟩, ⟨⟨fun d => by kernel_rfl, fun k d => by kernel_rfl⟩, trivial⟩⟩, trivial⟩, ⟨⟨fun d => by kernel_rfl, fun k d => by kernel_rfl⟩, trivial⟩⟩, trivial⟩, trivial⟩⟩
set_option maxRecDepth 100000 in
theorem ask_term.ok : FnOk Try.prog tt Γ 18 ask_term.fd := ⟨by kernel_rfl, by kernel_rfl, enters_ok (fn := Try.f18) (by kernel_rfl) (by kernel_rfl) (by kernel_rfl), ask_term.forms, ask_term.vc⟩

set_option maxRecDepth 100000 in
theorem strings_Join.forms : strings_Join.fd.formsOk = true := by kernel_rfl
set_option maxRecDepth 100000 in
theorem strings_Join.vc : strings_Join.fd.vc tt Γ := ⟨fun d => by kernel_rfl, fun k d => by kernel_rfl, ⟨trivial, ⟨⟨trivial, ⟨trivial, ⟨⟨trivial, trivial, trivial⟩, ⟨trivial, ⟨⟨trivial, trivial, trivial⟩, trivial⟩, trivial⟩⟩, trivial⟩, trivial⟩, ⟨trivial, ⟨⟨trivial, ⟨⟨⟨trivial, ⟨trivial, trivial⟩, trivial⟩, trivial, ⟨⟨fun d => by kernel_rfl, fun k d => by kernel_rfl⟩, trivial⟩⟩, trivial⟩, trivial⟩, ⟨⟨trivial, ⟨⟨trivial, ⟨⟨trivial, trivial⟩, ⟨⟨trivial, ⟨⟨trivial, ⟨trivial, trivial⟩, trivial⟩, trivial, trivial⟩, trivial⟩, trivial, trivial⟩, trivial⟩, trivial⟩, ⟨⟨fun d => by kernel_rfl, fun k d => by kernel_rfl⟩, trivial⟩⟩, trivial⟩, ⟨trivial, ⟨trivial, ⟨trivial, ⟨⟨trivial, ⟨⟨trivial, ⟨⟨trivial, trivial⟩, ⟨⟨trivial, ⟨trivial, trivial, trivial⟩, trivial⟩, trivial, trivial⟩, trivial⟩, trivial⟩, ⟨⟨fun d => by kernel_rfl, fun k d => by kernel_rfl⟩, trivial⟩⟩, trivial⟩, ⟨trivial, trivial, trivial⟩, trivial⟩, trivial⟩, trivial⟩, trivial⟩, trivial⟩, ⟨⟨fun d => by kernel_rfl, fun k d => by kernel_rfl⟩, trivial⟩⟩, trivial⟩, trivial⟩, trivial⟩⟩
set_option maxRecDepth 100000 in
theorem strings_Join.ok : FnOk Try.prog tt Γ 21 strings_Join.fd := ⟨by kernel_rfl, by kernel_rfl, enters_ok (fn := Try.f21) (by kernel_rfl) (by kernel_rfl) (by kernel_rfl), strings_Join.forms, strings_Join.vc⟩

set_option maxRecDepth 100000 in
theorem ask_Print.forms : ask_Print.fd.formsOk = true := by kernel_rfl
set_option maxRecDepth 100000 in
theorem ask_Print.vc : ask_Print.fd.vc tt Γ := ⟨fun d => by kernel_rfl, fun k d => by kernel_rfl, ⟨trivial, ⟨⟨trivial, ⟨⟨trivial, trivial, trivial⟩, trivial⟩, trivial⟩, ⟨trivial, ⟨⟨trivial, ⟨⟨trivial, ⟨⟨trivial, trivial⟩, ⟨⟨trivial, ⟨⟨trivial, ⟨trivial, trivial⟩, trivial⟩, trivial, trivial⟩, trivial⟩, trivial, trivial⟩, trivial⟩, trivial⟩, ⟨⟨fun d => by kernel_rfl, fun k d => by kernel_rfl⟩, trivial⟩⟩, trivial⟩, ⟨⟨trivial, ⟨⟨trivial, ⟨trivial, ⟨trivial, trivial⟩, trivial⟩, trivial⟩, trivial⟩, trivial⟩, ⟨trivial, ⟨trivial, trivial, trivial⟩, trivial⟩, ⟨⟨fun d => by kernel_rfl, fun k d => by kernel_rfl⟩, trivial⟩⟩, trivial⟩, trivial⟩, trivial⟩, trivial⟩⟩
set_option maxRecDepth 100000 in
theorem ask_Print.ok : FnOk Try.prog tt Γ 7 ask_Print.fd := ⟨by kernel_rfl, by kernel_rfl, enters_ok (fn := Try.f7) (by kernel_rfl) (by kernel_rfl) (by kernel_rfl), ask_Print.forms, ask_Print.vc⟩

set_option maxRecDepth 100000 in
theorem say_lexer_blanks_1.forms : say_lexer_blanks_1.fd.formsOk = true := by kernel_rfl
set_option maxRecDepth 100000 in
theorem say_lexer_blanks_1.vc : say_lexer_blanks_1.fd.vc tt Γ := ⟨fun d => by kernel_rfl, fun k d => by kernel_rfl, ⟨trivial, ⟨trivial, trivial, trivial⟩, trivial⟩⟩
set_option maxRecDepth 100000 in
theorem say_lexer_blanks_1.ok : FnOk Try.prog tt Γ 76 say_lexer_blanks_1.fd := ⟨by kernel_rfl, by kernel_rfl, enters_ok (fn := Try.f76) (by kernel_rfl) (by kernel_rfl) (by kernel_rfl), say_lexer_blanks_1.forms, say_lexer_blanks_1.vc⟩

set_option maxRecDepth 100000 in
theorem say_lexer_run_v0.forms : say_lexer_run_v0.fd.formsOk = true := by kernel_rfl
set_option maxRecDepth 100000 in
theorem say_lexer_run_v0.vc : say_lexer_run_v0.fd.vc tt Γ := ⟨fun d => by kernel_rfl, fun k d => by kernel_rfl, ⟨trivial, ⟨trivial, ⟨⟨⟨⟨trivial, ⟨trivial, trivial⟩, trivial⟩, trivial, trivial⟩, ⟨⟨fun d => by kernel_rfl, fun k d => by kernel_rfl⟩, trivial⟩⟩, ⟨trivial, trivial, trivial⟩, trivial⟩, trivial⟩, trivial⟩⟩
set_option maxRecDepth 100000 in
theorem say_lexer_run_v0.ok : FnOk Try.prog tt Γ 61 say_lexer_run_v0.fd := ⟨by kernel_rfl, by kernel_rfl, enters_ok (fn := Try.f61) (by kernel_rfl) (by kernel_rfl) (by kernel_rfl), say_lexer_run_v0.forms, say_lexer_run_v0.vc⟩

set_option maxRecDepth 100000 in
theorem say_lexer_blanks.forms : say_lexer_blanks.fd.formsOk = true := by kernel_rfl
set_option maxRecDepth 100000 in
theorem say_lexer_blanks.vc : say_lexer_blanks.fd.vc tt Γ := ⟨fun d => by kernel_rfl, fun k d => by kernel_rfl, ⟨⟨⟨trivial, ⟨trivial, trivial⟩, trivial⟩, ⟨trivial, ⟨trivial, ⟨trivial, ⟨trivial, ⟨trivial, trivial⟩, trivial⟩⟩, trivial⟩, trivial⟩, trivial⟩, ⟨⟨fun d => by kernel_rfl, fun k d => by kernel_rfl⟩, trivial⟩⟩⟩
set_option maxRecDepth 100000 in
theorem say_lexer_blanks.ok : FnOk Try.prog tt Γ 59 say_lexer_blanks.fd := ⟨by kernel_rfl, by kernel_rfl, enters_ok (fn := Try.f59) (by kernel_rfl) (by kernel_rfl) (by kernel_rfl), say_lexer_blanks.forms, say_lexer_blanks.vc⟩

set_option maxRecDepth 100000 in
theorem say_letter.forms : say_letter.fd.formsOk = true := by kernel_rfl
set_option maxRecDepth 100000 in
theorem say_letter.vc : say_letter.fd.vc tt Γ := ⟨fun d => by kernel_rfl, fun k d => by kernel_rfl, ⟨trivial, ⟨trivial, trivial, trivial⟩, trivial⟩⟩
set_option maxRecDepth 100000 in
theorem say_letter.ok : FnOk Try.prog tt Γ 60 say_letter.fd := ⟨by kernel_rfl, by kernel_rfl, enters_ok (fn := Try.f60) (by kernel_rfl) (by kernel_rfl) (by kernel_rfl), say_letter.forms, say_letter.vc⟩

set_option maxRecDepth 100000 in
theorem say_digit.forms : say_digit.fd.formsOk = true := by kernel_rfl
set_option maxRecDepth 100000 in
theorem say_digit.vc : say_digit.fd.vc tt Γ := ⟨fun d => by kernel_rfl, fun k d => by kernel_rfl, ⟨trivial, ⟨trivial, trivial, trivial⟩, trivial⟩⟩
set_option maxRecDepth 100000 in
theorem say_digit.ok : FnOk Try.prog tt Γ 63 say_digit.fd := ⟨by kernel_rfl, by kernel_rfl, enters_ok (fn := Try.f63) (by kernel_rfl) (by kernel_rfl) (by kernel_rfl), say_digit.forms, say_digit.vc⟩

set_option maxRecDepth 100000 in
theorem say_lexer_next_1.forms : say_lexer_next_1.fd.formsOk = true := by kernel_rfl
set_option maxRecDepth 100000 in
theorem say_lexer_next_1.vc : say_lexer_next_1.fd.vc tt Γ := ⟨fun d => by kernel_rfl, fun k d => by kernel_rfl, ⟨trivial, ⟨trivial, trivial, trivial⟩, trivial⟩⟩
set_option maxRecDepth 100000 in
theorem say_lexer_next_1.ok : FnOk Try.prog tt Γ 62 say_lexer_next_1.fd := ⟨by kernel_rfl, by kernel_rfl, enters_ok (fn := Try.f62) (by kernel_rfl) (by kernel_rfl) (by kernel_rfl), say_lexer_next_1.forms, say_lexer_next_1.vc⟩

set_option maxRecDepth 100000 in
theorem say_lexer_run_v1.forms : say_lexer_run_v1.fd.formsOk = true := by kernel_rfl
set_option maxRecDepth 100000 in
theorem say_lexer_run_v1.vc : say_lexer_run_v1.fd.vc tt Γ := ⟨fun d => by kernel_rfl, fun k d => by kernel_rfl, ⟨trivial, ⟨trivial, ⟨⟨⟨⟨trivial, ⟨trivial, trivial⟩, trivial⟩, trivial, trivial⟩, ⟨⟨fun d => by kernel_rfl, fun k d => by kernel_rfl⟩, trivial⟩⟩, ⟨trivial, trivial, trivial⟩, trivial⟩, trivial⟩, trivial⟩⟩
set_option maxRecDepth 100000 in
theorem say_lexer_run_v1.ok : FnOk Try.prog tt Γ 61 say_lexer_run_v1.fd := ⟨by kernel_rfl, by kernel_rfl, enters_ok (fn := Try.f61) (by kernel_rfl) (by kernel_rfl) (by kernel_rfl), say_lexer_run_v1.forms, say_lexer_run_v1.vc⟩

set_option maxRecDepth 100000 in
theorem say_lexer_run_v2.forms : say_lexer_run_v2.fd.formsOk = true := by kernel_rfl
set_option maxRecDepth 100000 in
theorem say_lexer_run_v2.vc : say_lexer_run_v2.fd.vc tt Γ := ⟨fun d => by kernel_rfl, fun k d => by kernel_rfl, ⟨trivial, ⟨trivial, ⟨⟨⟨⟨trivial, ⟨trivial, trivial⟩, trivial⟩, trivial, trivial⟩, ⟨⟨fun d => by kernel_rfl, fun k d => by kernel_rfl⟩, trivial⟩⟩, ⟨trivial, trivial, trivial⟩, trivial⟩, trivial⟩, trivial⟩⟩
set_option maxRecDepth 100000 in
theorem say_lexer_run_v2.ok : FnOk Try.prog tt Γ 61 say_lexer_run_v2.fd := ⟨by kernel_rfl, by kernel_rfl, enters_ok (fn := Try.f61) (by kernel_rfl) (by kernel_rfl) (by kernel_rfl), say_lexer_run_v2.forms, say_lexer_run_v2.vc⟩

set_option maxRecDepth 100000 in
theorem stringslite_IndexByte.forms : stringslite_IndexByte.fd.formsOk = true := by kernel_rfl
set_option maxRecDepth 100000 in
theorem stringslite_IndexByte.vc : stringslite_IndexByte.fd.vc tt Γ := ⟨fun d => by kernel_rfl, fun k d => by kernel_rfl, ⟨trivial, ⟨trivial, trivial, trivial⟩, trivial⟩⟩
set_option maxRecDepth 100000 in
theorem stringslite_IndexByte.ok : FnOk Try.prog tt Γ 78 stringslite_IndexByte.fd := ⟨by kernel_rfl, by kernel_rfl, enters_ok (fn := Try.f78) (by kernel_rfl) (by kernel_rfl) (by kernel_rfl), stringslite_IndexByte.forms, stringslite_IndexByte.vc⟩

set_option maxRecDepth 100000 in
theorem strings_IndexByte.forms : strings_IndexByte.fd.formsOk = true := by kernel_rfl
set_option maxRecDepth 100000 in
theorem strings_IndexByte.vc : strings_IndexByte.fd.vc tt Γ := ⟨fun d => by kernel_rfl, fun k d => by kernel_rfl, ⟨trivial, ⟨trivial, trivial, trivial⟩, trivial⟩⟩
set_option maxRecDepth 100000 in
theorem strings_IndexByte.ok : FnOk Try.prog tt Γ 65 strings_IndexByte.fd := ⟨by kernel_rfl, by kernel_rfl, enters_ok (fn := Try.f65) (by kernel_rfl) (by kernel_rfl) (by kernel_rfl), strings_IndexByte.forms, strings_IndexByte.vc⟩

set_option maxRecDepth 100000 in
theorem say_escape.forms : say_escape.fd.formsOk = true := by kernel_rfl
set_option maxRecDepth 100000 in
theorem say_escape.vc : say_escape.fd.vc tt Γ := ⟨fun d => by kernel_rfl, fun k d => by kernel_rfl, ⟨trivial, ⟨⟨trivial, ⟨⟨trivial, trivial, trivial⟩, trivial⟩, trivial⟩, ⟨trivial, ⟨trivial, trivial, trivial⟩, trivial⟩, trivial⟩, trivial⟩⟩
set_option maxRecDepth 100000 in
theorem say_escape.ok : FnOk Try.prog tt Γ 77 say_escape.fd := ⟨by kernel_rfl, by kernel_rfl, enters_ok (fn := Try.f77) (by kernel_rfl) (by kernel_rfl) (by kernel_rfl), say_escape.forms, say_escape.vc⟩

set_option maxRecDepth 100000 in
theorem say_lexer_quote.forms : say_lexer_quote.fd.formsOk = true := by kernel_rfl
set_option maxRecDepth 100000 in
theorem say_lexer_quote.vc : say_lexer_quote.fd.vc tt Γ := ⟨fun d => by kernel_rfl, fun k d => by kernel_rfl, ⟨trivial, ⟨trivial, ⟨⟨trivial, ⟨⟨⟨trivial, ⟨trivial, trivial⟩, trivial⟩, ⟨trivial, ⟨trivial, ⟨⟨trivial, ⟨trivial, trivial, trivial⟩, trivial⟩, ⟨trivial, ⟨⟨⟨trivial, ⟨⟨trivial, trivial, trivial⟩, trivial⟩, trivial⟩, ⟨trivial, ⟨⟨trivial, ⟨⟨trivial, trivial, trivial⟩, trivial⟩, trivial⟩, ⟨trivial, trivial, trivial⟩, trivial⟩, trivial⟩, trivial⟩, ⟨trivial, ⟨⟨trivial, trivial, trivial⟩, ⟨trivial, trivial, trivial⟩⟩, trivial⟩⟩, trivial⟩⟩, trivial⟩, trivial⟩, trivial⟩, ⟨⟨fun d => by kernel_rfl, fun k d => by kernel_rfl⟩, ⟨⟨fun d => by kernel_rfl, fun k d => by kernel_rfl⟩, trivial⟩⟩⟩, trivial⟩, ⟨trivial, trivial, trivial⟩, trivial⟩, trivial⟩, trivial⟩⟩
set_option maxRecDepth 100000 in
theorem say_lexer_quote.ok : FnOk Try.prog tt Γ 64 say_lexer_quote.fd := ⟨by kernel_rfl, by kernel_rfl, enters_ok (fn := Try.f64) (by kernel_rfl) (by kernel_rfl) (by kernel_rfl), say_lexer_quote.forms, say_lexer_quote.vc⟩

set_option maxRecDepth 100000 in
theorem say_lexer_next.forms : say_lexer_next.fd.formsOk = true := by kernel_rfl
set_option maxRecDepth 100000 in
theorem say_lexer_next.vc : say_lexer_next.fd.vc tt Γ := ⟨fun d => by kernel_rfl, fun k d => by kernel_rfl, ⟨trivial, ⟨trivial, ⟨⟨trivial, ⟨⟨trivial, trivial, trivial⟩, trivial⟩, trivial⟩, ⟨trivial, ⟨⟨trivial, ⟨trivial, ⟨trivial, ⟨trivial, ⟨⟨trivial, ⟨trivial, ⟨trivial, ⟨trivial, ⟨⟨trivial, trivial, trivial⟩, trivial⟩, trivial⟩, trivial⟩, trivial⟩, trivial⟩, ⟨trivial, ⟨⟨trivial, ⟨⟨trivial, ⟨⟨trivial, trivial, trivial⟩, trivial⟩, trivial⟩, trivial, trivial⟩, trivial⟩, ⟨trivial, ⟨⟨trivial, trivial, trivial⟩, ⟨trivial, trivial, trivial⟩⟩, trivial⟩⟩, trivial⟩⟩, trivial⟩⟩, trivial⟩, trivial⟩, ⟨trivial, trivial, trivial⟩, trivial⟩, trivial⟩, trivial⟩, trivial⟩, trivial⟩⟩
set_option maxRecDepth 100000 in
theorem say_lexer_next.ok : FnOk Try.prog tt Γ 45 say_lexer_next.fd := ⟨by kernel_rfl, by kernel_rfl, enters_ok (fn := Try.f45) (by kernel_rfl) (by kernel_rfl) (by kernel_rfl), say_lexer_next.forms, say_lexer_next.vc⟩

set_option maxRecDepth 100000 in
theorem say_Tokens.forms : say_Tokens.fd.formsOk = true := by kernel_rfl
set_option maxRecDepth 100000 in
theorem say_Tokens.vc : say_Tokens.fd.vc tt Γ := ⟨fun d => by kernel_rfl, fun k d => by kernel_rfl, ⟨trivial, ⟨⟨trivial, ⟨⟨trivial, trivial, trivial⟩, trivial⟩, trivial⟩, ⟨trivial, ⟨trivial, ⟨⟨trivial, ⟨⟨trivial, ⟨⟨trivial, trivial, trivial⟩, trivial⟩, trivial⟩, ⟨⟨trivial, ⟨⟨trivial, trivial, trivial⟩, trivial⟩, trivial⟩, trivial, trivial⟩, trivial⟩, trivial⟩, ⟨⟨fun d => by kernel_rfl, fun k d => by kernel_rfl⟩, trivial⟩⟩, trivial⟩, trivial⟩, trivial⟩, trivial⟩⟩
set_option maxRecDepth 100000 in
theorem say_Tokens.ok : FnOk Try.prog tt Γ 24 say_Tokens.fd := ⟨by kernel_rfl, by kernel_rfl, enters_ok (fn := Try.f24) (by kernel_rfl) (by kernel_rfl) (by kernel_rfl), say_Tokens.forms, say_Tokens.vc⟩

set_option maxRecDepth 100000 in
theorem ask_asker_word.forms : ask_asker_word.fd.formsOk = true := by kernel_rfl
set_option maxRecDepth 100000 in
theorem ask_asker_word.vc : ask_asker_word.fd.vc tt Γ := ⟨fun d => by kernel_rfl, fun k d => by kernel_rfl, ⟨trivial, ⟨⟨trivial, ⟨⟨trivial, trivial, trivial⟩, trivial⟩, trivial⟩, ⟨trivial, ⟨trivial, trivial, trivial⟩, trivial⟩, ⟨⟨fun d => by kernel_rfl, fun k d => by kernel_rfl⟩, trivial⟩⟩, trivial⟩⟩
set_option maxRecDepth 100000 in
theorem ask_asker_word.ok : FnOk Try.prog tt Γ 25 ask_asker_word.fd := ⟨by kernel_rfl, by kernel_rfl, enters_ok (fn := Try.f25) (by kernel_rfl) (by kernel_rfl) (by kernel_rfl), ask_asker_word.forms, ask_asker_word.vc⟩

set_option maxRecDepth 100000 in
theorem ask_asker_fail.forms : ask_asker_fail.fd.formsOk = true := by kernel_rfl
set_option maxRecDepth 100000 in
theorem ask_asker_fail.vc : ask_asker_fail.fd.vc tt Γ := ⟨fun d => by kernel_rfl, fun k d => by kernel_rfl, ⟨⟨trivial, ⟨trivial, trivial⟩, trivial⟩, ⟨trivial, ⟨trivial, ⟨trivial, trivial⟩, trivial⟩, trivial⟩, trivial⟩⟩
set_option maxRecDepth 100000 in
theorem ask_asker_fail.ok : FnOk Try.prog tt Γ 28 ask_asker_fail.fd := ⟨by kernel_rfl, by kernel_rfl, enters_ok (fn := Try.f28) (by kernel_rfl) (by kernel_rfl) (by kernel_rfl), ask_asker_fail.forms, ask_asker_fail.vc⟩

set_option maxRecDepth 100000 in
theorem ask_asker_name.forms : ask_asker_name.fd.formsOk = true := by kernel_rfl
set_option maxRecDepth 100000 in
theorem ask_asker_name.vc : ask_asker_name.fd.vc tt Γ := ⟨fun d => by kernel_rfl, fun k d => by kernel_rfl, ⟨trivial, ⟨⟨trivial, ⟨⟨trivial, ⟨trivial, trivial, trivial⟩, trivial⟩, trivial⟩, trivial⟩, ⟨trivial, ⟨trivial, trivial, trivial⟩, trivial⟩, ⟨⟨fun d => by kernel_rfl, fun k d => by kernel_rfl⟩, trivial⟩⟩, trivial⟩⟩
set_option maxRecDepth 100000 in
theorem ask_asker_name.ok : FnOk Try.prog tt Γ 27 ask_asker_name.fd := ⟨by kernel_rfl, by kernel_rfl, enters_ok (fn := Try.f27) (by kernel_rfl) (by kernel_rfl) (by kernel_rfl), ask_asker_name.forms, ask_asker_name.vc⟩

set_option maxRecDepth 100000 in
theorem say_parser_here.forms : say_parser_here.fd.formsOk = true := by kernel_rfl
set_option maxRecDepth 100000 in
theorem say_parser_here.vc : say_parser_here.fd.vc tt Γ := ⟨fun d => by kernel_rfl, fun k d => by kernel_rfl, ⟨trivial, ⟨⟨trivial, ⟨⟨trivial, trivial, trivial⟩, trivial⟩, trivial⟩, ⟨trivial, trivial, trivial⟩, trivial⟩, trivial⟩⟩
set_option maxRecDepth 100000 in
theorem say_parser_here.ok : FnOk Try.prog tt Γ 88 say_parser_here.fd := ⟨by kernel_rfl, by kernel_rfl, enters_ok (fn := Try.f88) (by kernel_rfl) (by kernel_rfl) (by kernel_rfl), say_parser_here.forms, say_parser_here.vc⟩

set_option maxRecDepth 100000 in
theorem say_parser_fail.forms : say_parser_fail.fd.formsOk = true := by kernel_rfl
set_option maxRecDepth 100000 in
theorem say_parser_fail.vc : say_parser_fail.fd.vc tt Γ := ⟨fun d => by kernel_rfl, fun k d => by kernel_rfl, ⟨trivial, ⟨trivial, trivial⟩, trivial⟩⟩
set_option maxRecDepth 100000 in
theorem say_parser_fail.ok : FnOk Try.prog tt Γ 83 say_parser_fail.fd := ⟨by kernel_rfl, by kernel_rfl, enters_ok (fn := Try.f83) (by kernel_rfl) (by kernel_rfl) (by kernel_rfl), say_parser_fail.forms, say_parser_fail.vc⟩

set_option maxRecDepth 100000 in
theorem say_parser_take.forms : say_parser_take.fd.formsOk = true := by kernel_rfl
set_option maxRecDepth 100000 in
theorem say_parser_take.vc : say_parser_take.fd.vc tt Γ := ⟨fun d => by kernel_rfl, fun k d => by kernel_rfl, ⟨trivial, ⟨⟨trivial, ⟨⟨trivial, trivial, trivial⟩, trivial⟩, trivial⟩, ⟨⟨trivial, ⟨⟨trivial, ⟨trivial, trivial, trivial⟩, trivial⟩, trivial⟩, trivial⟩, ⟨trivial, ⟨trivial, trivial, trivial⟩, trivial⟩, ⟨⟨fun d => by kernel_rfl, fun k d => by kernel_rfl⟩, trivial⟩⟩, trivial⟩, trivial⟩⟩
set_option maxRecDepth 100000 in
theorem say_parser_take.ok : FnOk Try.prog tt Γ 89 say_parser_take.fd := ⟨by kernel_rfl, by kernel_rfl, enters_ok (fn := Try.f89) (by kernel_rfl) (by kernel_rfl) (by kernel_rfl), say_parser_take.forms, say_parser_take.vc⟩

set_option maxRecDepth 100000 in
theorem say_digits.forms : say_digits.fd.formsOk = true := by kernel_rfl
set_option maxRecDepth 100000 in
theorem say_digits.vc : say_digits.fd.vc tt Γ := ⟨fun d => by kernel_rfl, fun k d => by kernel_rfl, ⟨trivial, ⟨⟨trivial, ⟨⟨trivial, trivial, trivial⟩, trivial⟩, trivial⟩, ⟨trivial, ⟨⟨trivial, ⟨⟨trivial, ⟨⟨trivial, trivial⟩, ⟨⟨trivial, ⟨trivial, ⟨⟨trivial, ⟨⟨trivial, trivial, trivial⟩, trivial⟩, trivial⟩, trivial, trivial⟩, trivial⟩, trivial⟩, trivial, trivial⟩, trivial⟩, trivial⟩, ⟨⟨fun d => by kernel_rfl, fun k d => by kernel_rfl⟩, trivial⟩⟩, trivial⟩, ⟨trivial, trivial, trivial⟩, trivial⟩, trivial⟩, ⟨⟨fun d => by kernel_rfl, fun k d => by kernel_rfl⟩, trivial⟩⟩, trivial⟩⟩
set_option maxRecDepth 100000 in
theorem say_digits.ok : FnOk Try.prog tt Γ 90 say_digits.fd := ⟨by kernel_rfl, by kernel_rfl, enters_ok (fn := Try.f90) (by kernel_rfl) (by kernel_rfl) (by kernel_rfl), say_digits.forms, say_digits.vc⟩

set_option maxRecDepth 100000 in
theorem say_parser_number.forms : say_parser_number.fd.formsOk = true := by kernel_rfl
set_option maxRecDepth 100000 in
theorem say_parser_number.vc : say_parser_number.fd.vc tt Γ := ⟨fun d => by kernel_rfl, fun k d => by kernel_rfl, ⟨trivial, ⟨trivial, ⟨trivial, ⟨⟨trivial, ⟨⟨trivial, trivial, trivial⟩, trivial⟩, trivial⟩, ⟨trivial, ⟨⟨trivial, ⟨trivial, trivial⟩, trivial⟩, ⟨trivial, ⟨⟨trivial, ⟨⟨trivial, ⟨trivial, ⟨trivial, trivial, trivial⟩, trivial⟩, trivial⟩, trivial⟩, trivial⟩, ⟨⟨trivial, ⟨⟨trivial, trivial, trivial⟩, trivial⟩, trivial⟩, ⟨trivial, trivial, trivial⟩, trivial⟩, trivial⟩, trivial⟩, ⟨⟨fun d => by kernel_rfl, fun k d => by kernel_rfl⟩, trivial⟩⟩, trivial⟩, trivial⟩, trivial⟩, trivial⟩, trivial⟩⟩
set_option maxRecDepth 100000 in
theorem say_parser_number.ok : FnOk Try.prog tt Γ 84 say_parser_number.fd := ⟨by kernel_rfl, by kernel_rfl, enters_ok (fn := Try.f84) (by kernel_rfl) (by kernel_rfl) (by kernel_rfl), say_parser_number.forms, say_parser_number.vc⟩

set_option maxRecDepth 100000 in
theorem say_parser_peek.forms : say_parser_peek.fd.formsOk = true := by kernel_rfl
set_option maxRecDepth 100000 in
theorem say_parser_peek.vc : say_parser_peek.fd.vc tt Γ := ⟨fun d => by kernel_rfl, fun k d => by kernel_rfl, ⟨trivial, ⟨trivial, trivial, trivial⟩, trivial⟩⟩
set_option maxRecDepth 100000 in
theorem say_parser_peek.ok : FnOk Try.prog tt Γ 94 say_parser_peek.fd := ⟨by kernel_rfl, by kernel_rfl, enters_ok (fn := Try.f94) (by kernel_rfl) (by kernel_rfl) (by kernel_rfl), say_parser_peek.forms, say_parser_peek.vc⟩

set_option maxRecDepth 100000 in
theorem say_parser_mark.forms : say_parser_mark.fd.formsOk = true := by kernel_rfl
set_option maxRecDepth 100000 in
theorem say_parser_mark.vc : say_parser_mark.fd.vc tt Γ := ⟨fun d => by kernel_rfl, fun k d => by kernel_rfl, ⟨⟨trivial, ⟨⟨trivial, trivial, trivial⟩, trivial⟩, trivial⟩, trivial, trivial⟩⟩
set_option maxRecDepth 100000 in
theorem say_parser_mark.ok : FnOk Try.prog tt Γ 92 say_parser_mark.fd := ⟨by kernel_rfl, by kernel_rfl, enters_ok (fn := Try.f92) (by kernel_rfl) (by kernel_rfl) (by kernel_rfl), say_parser_mark.forms, say_parser_mark.vc⟩

set_option maxRecDepth 100000 in
theorem say_nibble.forms : say_nibble.fd.formsOk = true := by kernel_rfl
set_option maxRecDepth 100000 in
theorem say_nibble.vc : say_nibble.fd.vc tt Γ := ⟨fun d => by kernel_rfl, fun k d => by kernel_rfl, ⟨trivial, ⟨⟨trivial, ⟨⟨trivial, trivial, trivial⟩, ⟨trivial, ⟨⟨trivial, trivial, trivial⟩, trivial⟩, trivial⟩⟩, trivial⟩, ⟨trivial, trivial, trivial⟩, trivial⟩, trivial⟩⟩
set_option maxRecDepth 100000 in
theorem say_nibble.ok : FnOk Try.prog tt Γ 93 say_nibble.fd := ⟨by kernel_rfl, by kernel_rfl, enters_ok (fn := Try.f93) (by kernel_rfl) (by kernel_rfl) (by kernel_rfl), say_nibble.forms, say_nibble.vc⟩

set_option maxRecDepth 100000 in
theorem say_parser_float.forms : say_parser_float.fd.formsOk = true := by kernel_rfl
set_option maxRecDepth 100000 in
theorem say_parser_float.vc : say_parser_float.fd.vc tt Γ := ⟨fun d => by kernel_rfl, fun k d => by kernel_rfl, ⟨trivial, ⟨trivial, ⟨trivial, ⟨trivial, ⟨⟨trivial, ⟨⟨trivial, trivial, trivial⟩, trivial⟩, trivial⟩, ⟨trivial, ⟨⟨trivial, ⟨⟨trivial, ⟨⟨trivial, trivial⟩, ⟨⟨trivial, ⟨trivial, ⟨⟨trivial, ⟨⟨trivial, ⟨trivial, ⟨trivial, trivial, trivial⟩, trivial⟩, trivial⟩, trivial⟩, trivial⟩, trivial, trivial⟩, trivial⟩, trivial⟩, trivial, trivial⟩, trivial⟩, trivial⟩, ⟨⟨fun d => by kernel_rfl, fun k d => by kernel_rfl⟩, trivial⟩⟩, trivial⟩, ⟨⟨trivial, ⟨⟨trivial, trivial, trivial⟩, trivial⟩, trivial⟩, ⟨trivial, ⟨trivial, trivial, trivial⟩, trivial⟩, trivial⟩, trivial⟩, trivial⟩, trivial⟩, trivial⟩, trivial⟩, trivial⟩, trivial⟩⟩
set_option maxRecDepth 100000 in
theorem say_parser_float.ok : FnOk Try.prog tt Γ 91 say_parser_float.fd := ⟨by kernel_rfl, by kernel_rfl, enters_ok (fn := Try.f91) (by kernel_rfl) (by kernel_rfl) (by kernel_rfl), say_parser_float.forms, say_parser_float.vc⟩

set_option maxRecDepth 100000 in
theorem say_parser_word.forms : say_parser_word.fd.formsOk = true := by kernel_rfl
set_option maxRecDepth 100000 in
theorem say_parser_word.vc : say_parser_word.fd.vc tt Γ := ⟨fun d => by kernel_rfl, fun k d => by kernel_rfl, ⟨trivial, ⟨⟨trivial, ⟨trivial, ⟨⟨trivial, ⟨trivial, trivial, trivial⟩, trivial⟩, ⟨⟨trivial, ⟨trivial, trivial⟩, trivial⟩, ⟨⟨trivial, ⟨trivial, trivial, trivial⟩, trivial⟩, ⟨trivial, ⟨⟨trivial, ⟨trivial, trivial, trivial⟩, trivial⟩, trivial⟩, trivial⟩⟩, ⟨⟨fun d => by kernel_rfl, fun k d => by kernel_rfl⟩, trivial⟩⟩⟩, trivial⟩, trivial⟩, ⟨trivial, ⟨trivial, trivial, trivial⟩, trivial⟩, trivial⟩, trivial⟩⟩
set_option maxRecDepth 100000 in
theorem say_parser_word.ok : FnOk Try.prog tt Γ 85 say_parser_word.fd := ⟨by kernel_rfl, by kernel_rfl, enters_ok (fn := Try.f85) (by kernel_rfl) (by kernel_rfl) (by kernel_rfl), say_parser_word.forms, say_parser_word.vc⟩

set_option maxRecDepth 100000 in
theorem say_parser_value.forms : say_parser_value.fd.formsOk = true := by kernel_rfl
set_option maxRecDepth 100000 in
theorem say_parser_value.vc : say_parser_value.fd.vc tt Γ := ⟨fun d => by kernel_rfl, fun k d => by kernel_rfl, ⟨trivial, ⟨⟨trivial, ⟨⟨trivial, ⟨trivial, trivial, trivial⟩, trivial⟩, trivial⟩, trivial⟩, ⟨⟨trivial, ⟨trivial, ⟨trivial, ⟨⟨trivial, trivial, trivial⟩, ⟨trivial, ⟨⟨trivial, ⟨trivial, trivial, trivial⟩, trivial⟩, ⟨trivial, ⟨⟨trivial, trivial, trivial⟩, trivial⟩, trivial⟩⟩, trivial⟩⟩, trivial⟩, trivial⟩, trivial⟩, ⟨trivial, ⟨trivial, trivial, trivial⟩, trivial⟩, trivial⟩, ⟨⟨fun d => by kernel_rfl, fun k d => by kernel_rfl⟩, trivial⟩⟩, trivial⟩⟩
set_option maxRecDepth 100000 in
theorem say_parser_value.ok : FnOk Try.prog tt Γ 79 say_parser_value.fd := ⟨by kernel_rfl, by kernel_rfl, enters_ok (fn := Try.f79) (by kernel_rfl) (by kernel_rfl) (by kernel_rfl), say_parser_value.forms, say_parser_value.vc⟩

set_option maxRecDepth 100000 in
theorem say_TakeValue.forms : say_TakeValue.fd.formsOk = true := by kernel_rfl
set_option maxRecDepth 100000 in
theorem say_TakeValue.vc : say_TakeValue.fd.vc tt Γ := ⟨fun d => by kernel_rfl, fun k d => by kernel_rfl, ⟨trivial, ⟨trivial, ⟨trivial, ⟨⟨trivial, ⟨⟨trivial, trivial, trivial⟩, trivial⟩, trivial⟩, ⟨trivial, trivial, trivial⟩, trivial⟩, trivial⟩, trivial⟩, trivial⟩⟩
set_option maxRecDepth 100000 in
theorem say_TakeValue.ok : FnOk Try.prog tt Γ 66 say_TakeValue.fd := ⟨by kernel_rfl, by kernel_rfl, enters_ok (fn := Try.f66) (by kernel_rfl) (by kernel_rfl) (by kernel_rfl), say_TakeValue.forms, say_TakeValue.vc⟩

set_option maxRecDepth 100000 in
theorem ask_asker_value.forms : ask_asker_value.fd.formsOk = true := by kernel_rfl
set_option maxRecDepth 100000 in
theorem ask_asker_value.vc : ask_asker_value.fd.vc tt Γ := ⟨fun d => by kernel_rfl, fun k d => by kernel_rfl, ⟨trivial, ⟨⟨trivial, ⟨⟨trivial, trivial, trivial⟩, trivial⟩, trivial⟩, ⟨trivial, ⟨⟨trivial, ⟨⟨trivial, ⟨trivial, trivial, trivial⟩, trivial⟩, trivial⟩, trivial⟩, ⟨trivial, ⟨trivial, trivial, trivial⟩, trivial⟩, trivial⟩, trivial⟩, trivial⟩, trivial⟩⟩
set_option maxRecDepth 100000 in
theorem ask_asker_value.ok : FnOk Try.prog tt Γ 46 ask_asker_value.fd := ⟨by kernel_rfl, by kernel_rfl, enters_ok (fn := Try.f46) (by kernel_rfl) (by kernel_rfl) (by kernel_rfl), ask_asker_value.forms, ask_asker_value.vc⟩

set_option maxRecDepth 100000 in
theorem ask_asker_term.forms : ask_asker_term.fd.formsOk = true := by kernel_rfl
set_option maxRecDepth 100000 in
theorem ask_asker_term.vc : ask_asker_term.fd.vc tt Γ := ⟨fun d => by kernel_rfl, fun k d => by kernel_rfl, ⟨trivial, ⟨trivial, ⟨trivial, ⟨trivial, ⟨⟨trivial, ⟨trivial, ⟨trivial, ⟨⟨trivial, trivial, trivial⟩, ⟨trivial, ⟨⟨trivial, ⟨trivial, ⟨trivial, trivial⟩, trivial⟩, trivial⟩, ⟨trivial, ⟨trivial, trivial⟩, trivial⟩⟩, trivial⟩⟩, trivial⟩⟩, trivial⟩, ⟨trivial, trivial, trivial⟩, trivial⟩, trivial⟩, trivial⟩, trivial⟩, trivial⟩⟩
set_option maxRecDepth 100000 in
theorem ask_asker_term.ok : FnOk Try.prog tt Γ 26 ask_asker_term.fd := ⟨by kernel_rfl, by kernel_rfl, enters_ok (fn := Try.f26) (by kernel_rfl) (by kernel_rfl) (by kernel_rfl), ask_asker_term.forms, ask_asker_term.vc⟩

set_option maxRecDepth 100000 in
theorem ask_asker_number.forms : ask_asker_number.fd.formsOk = true := by kernel_rfl
set_option maxRecDepth 100000 in
theorem ask_asker_number.vc : ask_asker_number.fd.vc tt Γ := ⟨fun d => by kernel_rfl, fun k d => by kernel_rfl, ⟨trivial, ⟨trivial, ⟨trivial, ⟨⟨trivial, ⟨⟨trivial, trivial, trivial⟩, trivial⟩, trivial⟩, ⟨trivial, trivial, trivial⟩, trivial⟩, trivial⟩, trivial⟩, trivial⟩⟩
set_option maxRecDepth 100000 in
theorem ask_asker_number.ok : FnOk Try.prog tt Γ 29 ask_asker_number.fd := ⟨by kernel_rfl, by kernel_rfl, enters_ok (fn := Try.f29) (by kernel_rfl) (by kernel_rfl) (by kernel_rfl), ask_asker_number.forms, ask_asker_number.vc⟩

set_option maxRecDepth 100000 in
theorem ask_Read.forms : ask_Read.fd.formsOk = true := by kernel_rfl
set_option maxRecDepth 100000 in
theorem ask_Read.vc : ask_Read.fd.vc tt Γ := ⟨fun d => by kernel_rfl, fun k d => by kernel_rfl, ⟨trivial, ⟨trivial, ⟨⟨trivial, ⟨⟨trivial, trivial, trivial⟩, trivial⟩, trivial⟩, ⟨trivial, ⟨trivial, ⟨⟨trivial, ⟨⟨trivial, ⟨⟨⟨trivial, ⟨trivial, trivial⟩, trivial⟩, trivial, trivial⟩, ⟨⟨fun d => by kernel_rfl, fun k d => by kernel_rfl⟩, trivial⟩⟩, trivial⟩, trivial⟩, trivial⟩, ⟨⟨trivial, ⟨⟨trivial, ⟨⟨trivial, ⟨⟨trivial, trivial, trivial⟩, trivial⟩, trivial⟩, trivial, trivial⟩, trivial⟩, trivial⟩, trivial⟩, ⟨⟨trivial, ⟨trivial, trivial⟩, trivial⟩, ⟨⟨trivial, ⟨trivial, trivial⟩, trivial⟩, ⟨⟨trivial, ⟨⟨trivial, trivial, trivial⟩, trivial⟩, trivial⟩, ⟨trivial, trivial, trivial⟩, trivial⟩, ⟨⟨fun d => by kernel_rfl, fun k d => by kernel_rfl⟩, trivial⟩⟩, ⟨⟨fun d => by kernel_rfl, fun k d => by kernel_rfl⟩, trivial⟩⟩, ⟨⟨fun d => by kernel_rfl, fun k d => by kernel_rfl⟩, trivial⟩⟩, ⟨⟨fun d => by kernel_rfl, fun k d => by kernel_rfl⟩, trivial⟩⟩, trivial⟩, trivial⟩, trivial⟩, trivial⟩, trivial⟩⟩
set_option maxRecDepth 100000 in
theorem ask_Read.ok : FnOk Try.prog tt Γ 10 ask_Read.fd := ⟨by kernel_rfl, by kernel_rfl, enters_ok (fn := Try.f10) (by kernel_rfl) (by kernel_rfl) (by kernel_rfl), ask_Read.forms, ask_Read.vc⟩

set_option maxRecDepth 100000 in
theorem chartularylaw26_awake.forms : chartularylaw26_awake.fd.formsOk = true := by kernel_rfl
set_option maxRecDepth 100000 in
theorem chartularylaw26_awake.vc : chartularylaw26_awake.fd.vc tt Γ := ⟨fun d => by kernel_rfl, fun k d => by kernel_rfl, ⟨trivial, ⟨trivial, ⟨trivial, trivial, trivial⟩, trivial⟩, trivial⟩⟩
set_option maxRecDepth 100000 in
theorem chartularylaw26_awake.ok : FnOk Try.prog tt Γ 9 chartularylaw26_awake.fd := ⟨by kernel_rfl, by kernel_rfl, enters_ok (fn := Try.f9) (by kernel_rfl) (by kernel_rfl) (by kernel_rfl), chartularylaw26_awake.forms, chartularylaw26_awake.vc⟩

set_option maxRecDepth 100000 in
theorem chartularylaw05_Few.forms : chartularylaw05_Few.fd.formsOk = true := by kernel_rfl
set_option maxRecDepth 100000 in
theorem chartularylaw05_Few.vc : chartularylaw05_Few.fd.vc tt Γ := ⟨fun d => by kernel_rfl, fun k d => by kernel_rfl, ⟨trivial, ⟨trivial, ⟨⟨trivial, ⟨trivial, trivial⟩, trivial⟩, ⟨⟨trivial, ⟨⟨⟨trivial, ⟨trivial, trivial⟩, trivial⟩, ⟨⟨trivial, ⟨⟨trivial, ⟨trivial, trivial⟩, trivial⟩, ⟨⟨trivial, ⟨trivial, trivial⟩, trivial⟩, trivial, trivial⟩, trivial⟩, trivial⟩, trivial, trivial⟩, trivial⟩, ⟨⟨fun d => by kernel_rfl, fun k d => by kernel_rfl⟩, trivial⟩⟩, trivial⟩, ⟨trivial, trivial, trivial⟩, trivial⟩, ⟨⟨fun d => by kernel_rfl, fun k d => by kernel_rfl⟩, trivial⟩⟩, trivial⟩, trivial⟩⟩
set_option maxRecDepth 100000 in
theorem chartularylaw05_Few.ok : FnOk Try.prog tt Γ 14 chartularylaw05_Few.fd := ⟨by kernel_rfl, by kernel_rfl, enters_ok (fn := Try.f14) (by kernel_rfl) (by kernel_rfl) (by kernel_rfl), chartularylaw05_Few.forms, chartularylaw05_Few.vc⟩

set_option maxRecDepth 100000 in
theorem paper_Find_1_v0.forms : paper_Find_1_v0.fd.formsOk = true := by kernel_rfl
set_option maxRecDepth 100000 in
theorem paper_Find_1_v0.vc : paper_Find_1_v0.fd.vc tt Γ := ⟨fun d => by kernel_rfl, fun k d => by kernel_rfl, ⟨trivial, ⟨trivial, trivial, trivial⟩, trivial⟩⟩
set_option maxRecDepth 100000 in
theorem paper_Find_1_v0.ok : FnOk Try.prog tt Γ 68 paper_Find_1_v0.fd := ⟨by kernel_rfl, by kernel_rfl, enters_ok (fn := Try.f68) (by kernel_rfl) (by kernel_rfl) (by kernel_rfl), paper_Find_1_v0.forms, paper_Find_1_v0.vc⟩

set_option maxRecDepth 100000 in
theorem slices_IndexFunc_api_Field_v0.forms : slices_IndexFunc_api_Field_v0.fd.formsOk = true := by kernel_rfl
set_option maxRecDepth 100000 in
theorem slices_IndexFunc_api_Field_v0.vc : slices_IndexFunc_api_Field_v0.fd.vc tt Γ := ⟨fun d => by kernel_rfl, fun k d => by kernel_rfl, ⟨trivial, ⟨⟨trivial, ⟨⟨trivial, ⟨⟨trivial, trivial⟩, ⟨⟨trivial, ⟨trivial, ⟨⟨trivial, trivial, trivial⟩, trivial⟩, trivial⟩, trivial⟩, trivial, trivial⟩, trivial⟩, trivial⟩, ⟨⟨fun d => by kernel_rfl, fun k d => by kernel_rfl⟩, trivial⟩⟩, trivial⟩, ⟨trivial, trivial, trivial⟩, trivial⟩, trivial⟩⟩
set_option maxRecDepth 100000 in
theorem slices_IndexFunc_api_Field_v0.ok : FnOk Try.prog tt Γ 67 slices_IndexFunc_api_Field_v0.fd := ⟨by kernel_rfl, by kernel_rfl, enters_ok (fn := Try.f67) (by kernel_rfl) (by kernel_rfl) (by kernel_rfl), slices_IndexFunc_api_Field_v0.forms, slices_IndexFunc_api_Field_v0.vc⟩

set_option maxRecDepth 100000 in
theorem paper_Find.forms : paper_Find.fd.formsOk = true := by kernel_rfl
set_option maxRecDepth 100000 in
theorem paper_Find.vc : paper_Find.fd.vc tt Γ := ⟨fun d => by kernel_rfl, fun k d => by kernel_rfl, ⟨trivial, ⟨trivial, trivial, trivial⟩, trivial⟩⟩
set_option maxRecDepth 100000 in
theorem paper_Find.ok : FnOk Try.prog tt Γ 49 paper_Find.fd := ⟨by kernel_rfl, by kernel_rfl, enters_ok (fn := Try.f49) (by kernel_rfl) (by kernel_rfl) (by kernel_rfl), paper_Find.forms, paper_Find.vc⟩

set_option maxRecDepth 100000 in
theorem value_sign.forms : value_sign.fd.formsOk = true := by kernel_rfl
set_option maxRecDepth 100000 in
theorem value_sign.vc : value_sign.fd.vc tt Γ := ⟨fun d => by kernel_rfl, fun k d => by kernel_rfl, ⟨trivial, ⟨⟨trivial, ⟨⟨trivial, trivial, trivial⟩, ⟨trivial, ⟨⟨trivial, trivial, trivial⟩, trivial⟩, trivial⟩⟩, trivial⟩, ⟨trivial, trivial, trivial⟩, trivial⟩, trivial⟩⟩
set_option maxRecDepth 100000 in
theorem value_sign.ok : FnOk Try.prog tt Γ 71 value_sign.fd := ⟨by kernel_rfl, by kernel_rfl, enters_ok (fn := Try.f71) (by kernel_rfl) (by kernel_rfl) (by kernel_rfl), value_sign.forms, value_sign.vc⟩

set_option maxRecDepth 100000 in
theorem value_rank.forms : value_rank.fd.formsOk = true := by kernel_rfl
set_option maxRecDepth 100000 in
theorem value_rank.vc : value_rank.fd.vc tt Γ := ⟨fun d => by kernel_rfl, fun k d => by kernel_rfl, ⟨trivial, ⟨⟨trivial, ⟨⟨trivial, trivial, trivial⟩, trivial⟩, trivial⟩, ⟨trivial, trivial, trivial⟩, trivial⟩, trivial⟩⟩
set_option maxRecDepth 100000 in
theorem value_rank.ok : FnOk Try.prog tt Γ 72 value_rank.fd := ⟨by kernel_rfl, by kernel_rfl, enters_ok (fn := Try.f72) (by kernel_rfl) (by kernel_rfl) (by kernel_rfl), value_rank.forms, value_rank.vc⟩

set_option maxRecDepth 100000 in
theorem bytealg_CompareString.forms : bytealg_CompareString.fd.formsOk = true := by kernel_rfl
set_option maxRecDepth 100000 in
theorem bytealg_CompareString.vc : bytealg_CompareString.fd.vc tt Γ := ⟨fun d => by kernel_rfl, fun k d => by kernel_rfl, ⟨trivial, ⟨trivial, trivial, trivial⟩, trivial⟩⟩
set_option maxRecDepth 100000 in
theorem bytealg_CompareString.ok : FnOk Try.prog tt Γ 81 bytealg_CompareString.fd := ⟨by kernel_rfl, by kernel_rfl, enters_ok (fn := Try.f81) (by kernel_rfl) (by kernel_rfl) (by kernel_rfl), bytealg_CompareString.forms, bytealg_CompareString.vc⟩

set_option maxRecDepth 100000 in
theorem strings_Compare.forms : strings_Compare.fd.formsOk = true := by kernel_rfl
set_option maxRecDepth 100000 in
theorem strings_Compare.vc : strings_Compare.fd.vc tt Γ := ⟨fun d => by kernel_rfl, fun k d => by kernel_rfl, ⟨trivial, ⟨trivial, trivial, trivial⟩, trivial⟩⟩
set_option maxRecDepth 100000 in
theorem strings_Compare.ok : FnOk Try.prog tt Γ 73 strings_Compare.fd := ⟨by kernel_rfl, by kernel_rfl, enters_ok (fn := Try.f73) (by kernel_rfl) (by kernel_rfl) (by kernel_rfl), strings_Compare.forms, strings_Compare.vc⟩

set_option maxRecDepth 100000 in
theorem value_Compare.forms : value_Compare.fd.formsOk = true := by kernel_rfl
set_option maxRecDepth 100000 in
theorem value_Compare.vc : value_Compare.fd.vc tt Γ := ⟨fun d => by kernel_rfl, fun k d => by kernel_rfl, ⟨trivial, ⟨⟨trivial, ⟨⟨trivial, trivial, trivial⟩, trivial⟩, trivial⟩, ⟨⟨trivial, ⟨trivial, ⟨⟨trivial, trivial, trivial⟩, ⟨trivial, ⟨⟨trivial, trivial, trivial⟩, ⟨trivial, ⟨⟨trivial, ⟨trivial, trivial, trivial⟩, trivial⟩, ⟨trivial, ⟨⟨trivial, trivial, trivial⟩, trivial⟩, trivial⟩⟩, trivial⟩⟩, trivial⟩⟩, trivial⟩, trivial⟩, ⟨trivial, trivial, trivial⟩, trivial⟩, trivial⟩, trivial⟩⟩
set_option maxRecDepth 100000 in
theorem value_Compare.ok : FnOk Try.prog tt Γ 53 value_Compare.fd := ⟨by kernel_rfl, by kernel_rfl, enters_ok (fn := Try.f53) (by kernel_rfl) (by kernel_rfl) (by kernel_rfl), value_Compare.forms, value_Compare.vc⟩

set_option maxRecDepth 100000 in
theorem find_between.forms : find_between.fd.formsOk = true := by kernel_rfl
set_option maxRecDepth 100000 in
theorem find_between.vc : find_between.fd.vc tt Γ := ⟨fun d => by kernel_rfl, fun k d => by kernel_rfl, ⟨trivial, ⟨⟨trivial, ⟨⟨trivial, trivial, trivial⟩, trivial⟩, trivial⟩, ⟨trivial, trivial, trivial⟩, ⟨⟨fun d => by kernel_rfl, fun k d => by kernel_rfl⟩, trivial⟩⟩, trivial⟩⟩
set_option maxRecDepth 100000 in
theorem find_between.ok : FnOk Try.prog tt Γ 50 find_between.fd := ⟨by kernel_rfl, by kernel_rfl, enters_ok (fn := Try.f50) (by kernel_rfl) (by kernel_rfl) (by kernel_rfl), find_between.forms, find_between.vc⟩

set_option maxRecDepth 100000 in
theorem find_Holds.forms : find_Holds.fd.formsOk = true := by kernel_rfl
set_option maxRecDepth 100000 in
theorem find_Holds.vc : find_Holds.fd.vc tt Γ := ⟨fun d => by kernel_rfl, fun k d => by kernel_rfl, ⟨trivial, ⟨trivial, ⟨trivial, trivial, trivial⟩, trivial⟩, trivial⟩⟩
set_option maxRecDepth 100000 in
theorem find_Holds.ok : FnOk Try.prog tt Γ 33 find_Holds.fd := ⟨by kernel_rfl, by kernel_rfl, enters_ok (fn := Try.f33) (by kernel_rfl) (by kernel_rfl) (by kernel_rfl), find_Holds.forms, find_Holds.vc⟩

set_option maxRecDepth 100000 in
theorem find_by.forms : find_by.fd.formsOk = true := by kernel_rfl
set_option maxRecDepth 100000 in
theorem find_by.vc : find_by.fd.vc tt Γ := ⟨fun d => by kernel_rfl, fun k d => by kernel_rfl, ⟨trivial, ⟨trivial, ⟨⟨trivial, ⟨⟨trivial, trivial, trivial⟩, trivial⟩, trivial⟩, ⟨trivial, trivial, trivial⟩, trivial⟩, trivial⟩, trivial⟩⟩
set_option maxRecDepth 100000 in
theorem find_by.ok : FnOk Try.prog tt Γ 52 find_by.fd := ⟨by kernel_rfl, by kernel_rfl, enters_ok (fn := Try.f52) (by kernel_rfl) (by kernel_rfl) (by kernel_rfl), find_by.forms, find_by.vc⟩

set_option maxRecDepth 100000 in
theorem find_compare.forms : find_compare.fd.formsOk = true := by kernel_rfl
set_option maxRecDepth 100000 in
theorem find_compare.vc : find_compare.fd.vc tt Γ := ⟨fun d => by kernel_rfl, fun k d => by kernel_rfl, ⟨trivial, ⟨trivial, ⟨trivial, ⟨⟨trivial, ⟨⟨trivial, trivial, trivial⟩, ⟨trivial, ⟨⟨trivial, trivial, trivial⟩, ⟨trivial, ⟨⟨trivial, trivial, trivial⟩, ⟨trivial, ⟨⟨trivial, trivial, trivial⟩, trivial⟩, trivial⟩⟩, trivial⟩⟩, trivial⟩⟩, trivial⟩, ⟨trivial, trivial, trivial⟩, trivial⟩, trivial⟩, trivial⟩, trivial⟩⟩
set_option maxRecDepth 100000 in
theorem find_compare.ok : FnOk Try.prog tt Γ 36 find_compare.fd := ⟨by kernel_rfl, by kernel_rfl, enters_ok (fn := Try.f36) (by kernel_rfl) (by kernel_rfl) (by kernel_rfl), find_compare.forms, find_compare.vc⟩

set_option maxRecDepth 100000 in
theorem find_Run_1_v0.forms : find_Run_1_v0.fd.formsOk = true := by kernel_rfl
set_option maxRecDepth 100000 in
theorem find_Run_1_v0.vc : find_Run_1_v0.fd.vc tt Γ := ⟨fun d => by kernel_rfl, fun k d => by kernel_rfl, ⟨trivial, ⟨trivial, trivial, trivial⟩, trivial⟩⟩
set_option maxRecDepth 100000 in
theorem find_Run_1_v0.ok : FnOk Try.prog tt Γ 35 find_Run_1_v0.fd := ⟨by kernel_rfl, by kernel_rfl, enters_ok (fn := Try.f35) (by kernel_rfl) (by kernel_rfl) (by kernel_rfl), find_Run_1_v0.forms, find_Run_1_v0.vc⟩

set_option maxRecDepth 100000 in
theorem slices_insertionSortCmpFunc_int_v0.forms : slices_insertionSortCmpFunc_int_v0.fd.formsOk = true := by kernel_rfl
set_option maxRecDepth 100000 in
theorem slices_insertionSortCmpFunc_int_v0.vc : slices_insertionSortCmpFunc_int_v0.fd.vc tt Γ := ⟨fun d => by kernel_rfl, fun k d => by kernel_rfl, ⟨trivial, ⟨⟨⟨trivial, ⟨trivial, trivial⟩, trivial⟩, ⟨⟨trivial, ⟨⟨⟨trivial, ⟨trivial, trivial⟩, trivial⟩, ⟨trivial, trivial, trivial⟩, trivial⟩, ⟨⟨fun d => by kernel_rfl, fun k d => by kernel_rfl⟩, trivial⟩⟩, trivial⟩, trivial, trivial⟩, trivial⟩, ⟨⟨fun d => by kernel_rfl, fun k d => by kernel_rfl⟩, trivial⟩⟩, trivial⟩⟩
set_option maxRecDepth 100000 in
theorem slices_insertionSortCmpFunc_int_v0.ok : FnOk Try.prog tt Γ 69 slices_insertionSortCmpFunc_int_v0.fd := ⟨by kernel_rfl, by kernel_rfl, enters_ok (fn := Try.f69) (by kernel_rfl) (by kernel_rfl) (by kernel_rfl), slices_insertionSortCmpFunc_int_v0.forms, slices_insertionSortCmpFunc_int_v0.vc⟩

set_option maxRecDepth 100000 in
theorem slices_swapRangeCmpFunc_int_v0.forms : slices_swapRangeCmpFunc_int_v0.fd.formsOk = true := by kernel_rfl
set_option maxRecDepth 100000 in
theorem slices_swapRangeCmpFunc_int_v0.vc : slices_swapRangeCmpFunc_int_v0.fd.vc tt Γ := ⟨fun d => by kernel_rfl, fun k d => by kernel_rfl, ⟨trivial, ⟨⟨⟨trivial, ⟨trivial, trivial⟩, trivial⟩, ⟨trivial, trivial, trivial⟩, trivial⟩, ⟨⟨fun d => by kernel_rfl, fun k d => by kernel_rfl⟩, trivial⟩⟩, trivial⟩⟩
set_option maxRecDepth 100000 in
theorem slices_swapRangeCmpFunc_int_v0.ok : FnOk Try.prog tt Γ 86 slices_swapRangeCmpFunc_int_v0.fd := ⟨by kernel_rfl, by kernel_rfl, enters_ok (fn := Try.f86) (by kernel_rfl) (by kernel_rfl) (by kernel_rfl), slices_swapRangeCmpFunc_int_v0.forms, slices_swapRangeCmpFunc_int_v0.vc⟩

set_option maxRecDepth 100000 in
theorem slices_rotateCmpFunc_int_v0.forms : slices_rotateCmpFunc_int_v0.fd.formsOk = true := by kernel_rfl
set_option maxRecDepth 100000 in
theorem slices_rotateCmpFunc_int_v0.vc : slices_rotateCmpFunc_int_v0.fd.vc tt Γ := ⟨fun d => by kernel_rfl, fun k d => by kernel_rfl, ⟨trivial, ⟨trivial, ⟨⟨⟨⟨trivial, ⟨trivial, trivial⟩, trivial⟩, ⟨trivial, ⟨⟨trivial, trivial, trivial⟩, ⟨trivial, trivial, trivial⟩⟩, trivial⟩, trivial⟩, ⟨⟨fun d => by kernel_rfl, fun k d => by kernel_rfl⟩, trivial⟩⟩, trivial, trivial⟩, trivial⟩, trivial⟩⟩
set_option maxRecDepth 100000 in
theorem slices_rotateCmpFunc_int_v0.ok : FnOk Try.prog tt Γ 80 slices_rotateCmpFunc_int_v0.fd := ⟨by kernel_rfl, by kernel_rfl, enters_ok (fn := Try.f80) (by kernel_rfl) (by kernel_rfl) (by kernel_rfl), slices_rotateCmpFunc_int_v0.forms, slices_rotateCmpFunc_int_v0.vc⟩

set_option maxRecDepth 100000 in
theorem slices_symMergeCmpFunc_int_v0.forms : slices_symMergeCmpFunc_int_v0.fd.formsOk = true := by kernel_rfl
set_option maxRecDepth 100000 in
theorem slices_symMergeCmpFunc_int_v0.vc : slices_symMergeCmpFunc_int_v0.fd.vc tt Γ := ⟨fun d => by kernel_rfl, fun k d => by kernel_rfl, ⟨⟨trivial, ⟨⟨trivial, ⟨trivial, ⟨⟨⟨⟨trivial, ⟨trivial, trivial⟩, trivial⟩, ⟨trivial, ⟨trivial, ⟨trivial, trivial⟩, trivial⟩, trivial⟩, trivial⟩, ⟨⟨fun d => by kernel_rfl, fun k d => by kernel_rfl⟩, trivial⟩⟩, ⟨⟨trivial, ⟨⟨⟨trivial, ⟨trivial, trivial⟩, trivial⟩, ⟨trivial, trivial, trivial⟩, trivial⟩, ⟨⟨fun d => by kernel_rfl, fun k d => by kernel_rfl⟩, trivial⟩⟩, trivial⟩, trivial, trivial⟩, trivial⟩, trivial⟩, trivial⟩, trivial⟩, trivial⟩, ⟨⟨trivial, ⟨⟨trivial, ⟨trivial, ⟨⟨⟨⟨trivial, ⟨trivial, trivial⟩, trivial⟩, ⟨trivial, ⟨trivial, ⟨trivial, trivial⟩, trivial⟩, trivial⟩, trivial⟩, ⟨⟨fun d => by kernel_rfl, fun k d => by kernel_rfl⟩, trivial⟩⟩, ⟨⟨trivial, ⟨⟨⟨trivial, ⟨trivial, trivial⟩, trivial⟩, ⟨trivial, trivial, trivial⟩, trivial⟩, ⟨⟨fun d => by kernel_rfl, fun k d => by kernel_rfl⟩, trivial⟩⟩, trivial⟩, trivial, trivial⟩, trivial⟩, trivial⟩, trivial⟩, trivial⟩, trivial⟩, ⟨trivial, ⟨trivial, ⟨trivial, ⟨⟨trivial, ⟨⟨trivial, trivial, trivial⟩, ⟨trivial, trivial, trivial⟩⟩, trivial⟩, ⟨trivial, ⟨⟨⟨⟨trivial, ⟨trivial, trivial⟩, trivial⟩, ⟨trivial, ⟨trivial, ⟨trivial, trivial⟩, trivial⟩, trivial⟩, trivial⟩, ⟨⟨fun d => by kernel_rfl, fun k d => by kernel_rfl⟩, trivial⟩⟩, ⟨trivial, ⟨⟨trivial, ⟨trivial, trivial⟩, trivial⟩, ⟨⟨trivial, ⟨trivial, trivial⟩, trivial⟩, ⟨trivial, ⟨trivial, trivial⟩, trivial⟩, ⟨⟨fun d => by kernel_rfl, fun k d => by kernel_rfl⟩, trivial⟩⟩, ⟨⟨fun d => by kernel_rfl, fun k d => by kernel_rfl⟩, trivial⟩⟩, trivial⟩, trivial⟩, trivial⟩, ⟨⟨fun d => by kernel_rfl, fun k d => by kernel_rfl⟩, trivial⟩⟩, trivial⟩, trivial⟩, trivial⟩, trivial⟩, trivial⟩⟩
set_option maxRecDepth 100000 in
theorem slices_symMergeCmpFunc_int_v0.ok : FnOk Try.prog tt Γ 70 slices_symMergeCmpFunc_int_v0.fd := ⟨by kernel_rfl, by kernel_rfl, enters_ok (fn := Try.f70) (by kernel_rfl) (by kernel_rfl) (by kernel_rfl), slices_symMergeCmpFunc_int_v0.forms, slices_symMergeCmpFunc_int_v0.vc⟩

set_option maxRecDepth 100000 in
theorem slices_stableCmpFunc_int_v0.forms : slices_stableCmpFunc_int_v0.fd.formsOk = true := by kernel_rfl
set_option maxRecDepth 100000 in
theorem slices_stableCmpFunc_int_v0.vc : slices_stableCmpFunc_int_v0.fd.vc tt Γ := ⟨fun d => by kernel_rfl, fun k d => by kernel_rfl, ⟨trivial, ⟨trivial, ⟨⟨⟨⟨trivial, ⟨trivial, trivial⟩, trivial⟩, ⟨trivial, ⟨trivial, trivial, trivial⟩, trivial⟩, trivial⟩, ⟨⟨fun d => by kernel_rfl, fun k d => by kernel_rfl⟩, trivial⟩⟩, ⟨trivial, ⟨⟨⟨trivial, ⟨trivial, trivial⟩, trivial⟩, ⟨trivial, ⟨⟨⟨⟨trivial, ⟨trivial, trivial⟩, trivial⟩, ⟨trivial, ⟨trivial, trivial, trivial⟩, trivial⟩, trivial⟩, ⟨⟨fun d => by kernel_rfl, fun k d => by kernel_rfl⟩, trivial⟩⟩, ⟨⟨trivial, ⟨trivial, ⟨trivial, trivial⟩, trivial⟩, trivial⟩, trivial, trivial⟩, trivial⟩, trivial⟩, trivial⟩, ⟨⟨fun d => by kernel_rfl, fun k d => by kernel_rfl⟩, trivial⟩⟩, trivial⟩, trivial⟩, trivial⟩, trivial⟩⟩
set_option maxRecDepth 100000 in
theorem slices_stableCmpFunc_int_v0.ok : FnOk Try.prog tt Γ 51 slices_stableCmpFunc_int_v0.fd := ⟨by kernel_rfl, by kernel_rfl, enters_ok (fn := Try.f51) (by kernel_rfl) (by kernel_rfl) (by kernel_rfl), slices_stableCmpFunc_int_v0.forms, slices_stableCmpFunc_int_v0.vc⟩

set_option maxRecDepth 100000 in
theorem slices_SortStableFunc__int_int_v0.forms : slices_SortStableFunc__int_int_v0.fd.formsOk = true := by kernel_rfl
set_option maxRecDepth 100000 in
theorem slices_SortStableFunc__int_int_v0.vc : slices_SortStableFunc__int_int_v0.fd.vc tt Γ := ⟨fun d => by kernel_rfl, fun k d => by kernel_rfl, trivial⟩
set_option maxRecDepth 100000 in
theorem slices_SortStableFunc__int_int_v0.ok : FnOk Try.prog tt Γ 34 slices_SortStableFunc__int_int_v0.fd := ⟨by kernel_rfl, by kernel_rfl, enters_ok (fn := Try.f34) (by kernel_rfl) (by kernel_rfl) (by kernel_rfl), slices_SortStableFunc__int_int_v0.forms, slices_SortStableFunc__int_int_v0.vc⟩

set_option maxRecDepth 100000 in
theorem find_Run.forms : find_Run.fd.formsOk = true := by kernel_rfl
set_option maxRecDepth 100000 in
theorem find_Run.vc : find_Run.fd.vc tt Γ := ⟨fun d => by kernel_rfl, fun k d => by kernel_rfl, ⟨trivial, ⟨⟨trivial, ⟨trivial, ⟨⟨trivial, trivial, trivial⟩, trivial⟩, trivial⟩, trivial⟩, ⟨trivial, ⟨trivial, ⟨⟨trivial, ⟨⟨trivial, ⟨⟨trivial, trivial⟩, ⟨⟨trivial, ⟨⟨trivial, ⟨⟨trivial, ⟨⟨trivial, trivial⟩, ⟨⟨trivial, ⟨trivial, ⟨trivial, trivial⟩, trivial⟩, trivial⟩, trivial, trivial⟩, trivial⟩, trivial⟩, ⟨⟨fun d => by kernel_rfl, fun k d => by kernel_rfl⟩, trivial⟩⟩, trivial⟩, trivial, trivial⟩, trivial⟩, trivial, trivial⟩, trivial⟩, trivial⟩, ⟨⟨fun d => by kernel_rfl, fun k d => by kernel_rfl⟩, trivial⟩⟩, trivial⟩, ⟨⟨trivial, ⟨trivial, trivial⟩, trivial⟩, ⟨trivial, trivial, trivial⟩, ⟨⟨fun d => by kernel_rfl, fun k d => by kernel_rfl⟩, trivial⟩⟩, trivial⟩, trivial⟩, trivial⟩, trivial⟩, trivial⟩⟩
set_option maxRecDepth 100000 in
theorem find_Run.ok : FnOk Try.prog tt Γ 16 find_Run.fd := ⟨by kernel_rfl, by kernel_rfl, enters_ok (fn := Try.f16) (by kernel_rfl) (by kernel_rfl) (by kernel_rfl), find_Run.forms, find_Run.vc⟩

set_option maxRecDepth 100000 in
theorem ask_Run.forms : ask_Run.fd.formsOk = true := by kernel_rfl
set_option maxRecDepth 100000 in
theorem ask_Run.vc : ask_Run.fd.vc tt Γ := ⟨fun d => by kernel_rfl, fun k d => by kernel_rfl, ⟨trivial, ⟨trivial, ⟨⟨trivial, ⟨⟨trivial, trivial, trivial⟩, trivial⟩, trivial⟩, ⟨trivial, ⟨trivial, trivial, trivial⟩, trivial⟩, trivial⟩, trivial⟩, trivial⟩⟩
set_option maxRecDepth 100000 in
theorem ask_Run.ok : FnOk Try.prog tt Γ 15 ask_Run.fd := ⟨by kernel_rfl, by kernel_rfl, enters_ok (fn := Try.f15) (by kernel_rfl) (by kernel_rfl) (by kernel_rfl), ask_Run.forms, ask_Run.vc⟩

set_option maxRecDepth 100000 in
theorem chartularylaw26_AskRuns.forms : chartularylaw26_AskRuns.fd.formsOk = true := by kernel_rfl
set_option maxRecDepth 100000 in
theorem chartularylaw26_AskRuns.vc : chartularylaw26_AskRuns.fd.vc tt Γ := ⟨fun d => by kernel_rfl, fun k d => by kernel_rfl, ⟨trivial, ⟨trivial, ⟨trivial, ⟨⟨trivial, ⟨⟨⟨trivial, ⟨trivial, trivial⟩, trivial⟩, ⟨trivial, trivial, trivial⟩, trivial⟩, ⟨⟨fun d => by kernel_rfl, fun k d => by kernel_rfl⟩, trivial⟩⟩, trivial⟩, ⟨trivial, ⟨trivial, ⟨⟨trivial, ⟨trivial, trivial⟩, trivial⟩, ⟨trivial, ⟨⟨trivial, ⟨⟨trivial, trivial, trivial⟩, trivial⟩, trivial⟩, ⟨⟨trivial, ⟨⟨⟨trivial, ⟨trivial, trivial⟩, trivial⟩, ⟨⟨trivial, ⟨⟨trivial, trivial, trivial⟩, trivial⟩, trivial⟩, trivial, trivial⟩, trivial⟩, ⟨⟨fun d => by kernel_rfl, fun k d => by kernel_rfl⟩, trivial⟩⟩, trivial⟩, ⟨trivial, trivial, trivial⟩, trivial⟩, ⟨⟨fun d => by kernel_rfl, fun k d => by kernel_rfl⟩, trivial⟩⟩, trivial⟩, ⟨⟨fun d => by kernel_rfl, fun k d => by kernel_rfl⟩, trivial⟩⟩, trivial⟩, trivial⟩, trivial⟩, trivial⟩, trivial⟩, trivial⟩⟩
set_option maxRecDepth 100000 in
theorem chartularylaw26_AskRuns.ok : FnOk Try.prog tt Γ 5 chartularylaw26_AskRuns.fd := ⟨by kernel_rfl, by kernel_rfl, enters_ok (fn := Try.f5) (by kernel_rfl) (by kernel_rfl) (by kernel_rfl), chartularylaw26_AskRuns.forms, chartularylaw26_AskRuns.vc⟩

noncomputable def ents : Gam := [(40, [strFresh 76, strUsed 76 5]), (42, [growFresh 76 5]), (54, [ccFresh 76, ccUsed 76 5]), (82, [idxB]), (87, [strCmp])]
theorem ent87_run : ∀ (a b : ByteArray) (w : World), (callFunc 87 #[.string a, .string b]).run Try.prog w = .ok (.value (.int .i64 (Lib.compareBytes a.data.toList b.data.toList))) w := fun a b w => by
  rw [run_callFunc_extern (fn := Try.f87) (by kernel_rfl) (by kernel_rfl) (by kernel_rfl) (by kernel_rfl) (e := Extern.BytealgCompare.compare) (by kernel_rfl), Lib.run_compareString]
  rfl
theorem ent82_run : ∀ (a : ByteArray) (b : Int) (w : World), (callFunc 82 #[.string a, .int .u8 b]).run Try.prog w = .ok (.value (.int .i64 (Lib.indexByte a.data.toList b.toNat.toUInt8))) w := fun a b w => by
  rw [run_callFunc_extern (fn := Try.f82) (by kernel_rfl) (by kernel_rfl) (by kernel_rfl) (by kernel_rfl) (e := Extern.BytealgIndexByte.indexByte) (by kernel_rfl), Lib.run_indexByteString]
  rfl
theorem ents_ok : GamOk Try.prog ents := (GamOk.cons2 (strFresh_ok (enters_ok (fn := Try.f40) (by kernel_rfl) (by kernel_rfl) (by kernel_rfl)) EW.str_nil) (strUsed_ok (enters_ok (fn := Try.f40) (by kernel_rfl) (by kernel_rfl) (by kernel_rfl)) (fun b g off c cells l w h0 h1 h2 h3 h4 h5 h6 => EW.str_used b g off c cells l w h0 h1 h2 h3 h4 h5 h6)) (GamOk.cons (growFresh_ok (enters_ok (fn := Try.f42) (by kernel_rfl) (by kernel_rfl) (by kernel_rfl)) EW.Grow_fresh) (GamOk.cons2 (ccFresh_ok (enters_ok (fn := Try.f54) (by kernel_rfl) (by kernel_rfl) (by kernel_rfl)) (fun b w h => EW.cc_fresh b w (by rw [Lib.cell_of_heap h]; rfl) (by simp [World.shape?, h]) (Lib.frozen_of_heap h 0))) (ccUsed_ok (enters_ok (fn := Try.f54) (by kernel_rfl) (by kernel_rfl) (by kernel_rfl)) EW.cc_used) (GamOk.cons (idxB_ok ent82_run) (GamOk.cons (strCmp_ok ent87_run) GamOk.nil)))))
noncomputable def tab : Tab := [(17, chartularylaw26_cut.fd), (6, chartularylaw26_few.fd), (57, paper_sign.fd), (43, paper_word.fd), (22, paper_IsName.fd), (58, value_nan.fd), (44, value_Clean.fd), (23, value_Right.fd), (8, find_Check.fd), (37, strings_Builder_WriteByte_v0.fd), (37, strings_Builder_WriteByte_v1.fd), (38, say_plain.fd), (39, strings_Builder_WriteString_v0.fd), (19, say_Quoted.fd), (55, say_count.fd), (41, say_whole.fd), (20, say_Value.fd), (18, ask_term.fd), (21, strings_Join.fd), (7, ask_Print.fd), (76, say_lexer_blanks_1.fd), (61, say_lexer_run_v0.fd), (59, say_lexer_blanks.fd), (60, say_letter.fd), (63, say_digit.fd), (62, say_lexer_next_1.fd), (61, say_lexer_run_v1.fd), (61, say_lexer_run_v2.fd), (78, stringslite_IndexByte.fd), (65, strings_IndexByte.fd), (77, say_escape.fd), (64, say_lexer_quote.fd), (45, say_lexer_next.fd), (24, say_Tokens.fd), (25, ask_asker_word.fd), (28, ask_asker_fail.fd), (27, ask_asker_name.fd), (88, say_parser_here.fd), (83, say_parser_fail.fd), (89, say_parser_take.fd), (90, say_digits.fd), (84, say_parser_number.fd), (94, say_parser_peek.fd), (92, say_parser_mark.fd), (93, say_nibble.fd), (91, say_parser_float.fd), (85, say_parser_word.fd), (79, say_parser_value.fd), (66, say_TakeValue.fd), (46, ask_asker_value.fd), (26, ask_asker_term.fd), (29, ask_asker_number.fd), (10, ask_Read.fd), (9, chartularylaw26_awake.fd), (14, chartularylaw05_Few.fd), (68, paper_Find_1_v0.fd), (67, slices_IndexFunc_api_Field_v0.fd), (49, paper_Find.fd), (71, value_sign.fd), (72, value_rank.fd), (81, bytealg_CompareString.fd), (73, strings_Compare.fd), (53, value_Compare.fd), (50, find_between.fd), (33, find_Holds.fd), (52, find_by.fd), (36, find_compare.fd), (35, find_Run_1_v0.fd), (69, slices_insertionSortCmpFunc_int_v0.fd), (86, slices_swapRangeCmpFunc_int_v0.fd), (80, slices_rotateCmpFunc_int_v0.fd), (70, slices_symMergeCmpFunc_int_v0.fd), (51, slices_stableCmpFunc_int_v0.fd), (34, slices_SortStableFunc__int_int_v0.fd), (16, find_Run.fd), (15, ask_Run.fd), (5, chartularylaw26_AskRuns.fd)]
theorem Γ_eq (k : Nat) : Γ k = gamK tab k ++ ents := by kernel_rfl
theorem tt_ok : TTok Try.prog tt := ttB_ok (by kernel_rfl)
theorem mixed : Try.prog.follows .mixedOrders = true := by kernel_rfl
theorem tab_all : ∀ x ∈ tab, FnOk Try.prog tt Γ x.1 x.2 := by
  unfold tab
  simp only [List.forall_mem_cons]
  exact ⟨chartularylaw26_cut.ok, chartularylaw26_few.ok, paper_sign.ok, paper_word.ok, paper_IsName.ok, value_nan.ok, value_Clean.ok, value_Right.ok, find_Check.ok, strings_Builder_WriteByte_v0.ok, strings_Builder_WriteByte_v1.ok, say_plain.ok, strings_Builder_WriteString_v0.ok, say_Quoted.ok, say_count.ok, say_whole.ok, say_Value.ok, ask_term.ok, strings_Join.ok, ask_Print.ok, say_lexer_blanks_1.ok, say_lexer_run_v0.ok, say_lexer_blanks.ok, say_letter.ok, say_digit.ok, say_lexer_next_1.ok, say_lexer_run_v1.ok, say_lexer_run_v2.ok, stringslite_IndexByte.ok, strings_IndexByte.ok, say_escape.ok, say_lexer_quote.ok, say_lexer_next.ok, say_Tokens.ok, ask_asker_word.ok, ask_asker_fail.ok, ask_asker_name.ok, say_parser_here.ok, say_parser_fail.ok, say_parser_take.ok, say_digits.ok, say_parser_number.ok, say_parser_peek.ok, say_parser_mark.ok, say_nibble.ok, say_parser_float.ok, say_parser_word.ok, say_parser_value.ok, say_TakeValue.ok, ask_asker_value.ok, ask_asker_term.ok, ask_asker_number.ok, ask_Read.ok, chartularylaw26_awake.ok, chartularylaw05_Few.ok, paper_Find_1_v0.ok, slices_IndexFunc_api_Field_v0.ok, paper_Find.ok, value_sign.ok, value_rank.ok, bytealg_CompareString.ok, strings_Compare.ok, value_Compare.ok, find_between.ok, find_Holds.ok, find_by.ok, find_compare.ok, find_Run_1_v0.ok, slices_insertionSortCmpFunc_int_v0.ok, slices_swapRangeCmpFunc_int_v0.ok, slices_rotateCmpFunc_int_v0.ok, slices_symMergeCmpFunc_int_v0.ok, slices_stableCmpFunc_int_v0.ok, slices_SortStableFunc__int_int_v0.ok, find_Run.ok, ask_Run.ok, chartularylaw26_AskRuns.ok, fun x h => nomatch h⟩
theorem chartularylaw26_AskRuns.spec (k : Nat) : SpecOk Try.prog 5 (chartularylaw26_AskRuns.fd.sp k) := spec_ok mixed tt_ok Γ_eq ents_ok tab_all (f := 5) (F := chartularylaw26_AskRuns.fd) (by unfold tab; simp only [List.mem_cons, true_or, or_true]) k

end Go.Proofs.Ytpidgdelfaidoaa.E
