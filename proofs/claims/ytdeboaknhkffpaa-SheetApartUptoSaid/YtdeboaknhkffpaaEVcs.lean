import Derived.Test.YtdeboaknhkffpaaEDefs
import Derived.Test.YtdeboaknhkffpaaETab
namespace Go.Proofs.Ytdeboaknhkffpaa.E
open Go Go.Proofs.Ytdeboaknhkffpaa.Eng Go.Proofs
set_option maxRecDepth 100000 in
theorem mill_New.forms : mill_New.fd.formsOk = true := by kernel_rfl
set_option maxRecDepth 100000 in
theorem mill_New.vc : mill_New.fd.vc tt Γ := ⟨fun d => by kernel_rfl, fun k d => by kernel_rfl, ⟨trivial, ⟨trivial, trivial, trivial⟩, trivial⟩⟩
set_option maxRecDepth 100000 in
theorem mill_New.ok : FnOk Try.prog tt Γ 8 mill_New.fd := ⟨by kernel_rfl, by kernel_rfl, enters_ok (fn := Try.f8) (by kernel_rfl) (by kernel_rfl) (by kernel_rfl), mill_New.forms, mill_New.vc⟩

set_option maxRecDepth 100000 in
theorem chartularylaw08_few.forms : chartularylaw08_few.fd.formsOk = true := by kernel_rfl
set_option maxRecDepth 100000 in
theorem chartularylaw08_few.vc : chartularylaw08_few.fd.vc tt Γ := ⟨fun d => by kernel_rfl, fun k d => by kernel_rfl, ⟨trivial, ⟨trivial, ⟨⟨trivial, ⟨⟨⟨trivial, ⟨trivial, trivial⟩, trivial⟩, ⟨⟨trivial, ⟨⟨trivial, ⟨trivial, trivial⟩, trivial⟩, ⟨⟨trivial, ⟨trivial, trivial⟩, trivial⟩, trivial, trivial⟩, trivial⟩, trivial⟩, trivial, trivial⟩, trivial⟩, ⟨fun d => by kernel_rfl, fun k d => by kernel_rfl⟩⟩, trivial⟩, ⟨trivial, trivial, trivial⟩, trivial⟩, trivial⟩, trivial⟩⟩
set_option maxRecDepth 100000 in
theorem chartularylaw08_few.ok : FnOk Try.prog tt Γ 9 chartularylaw08_few.fd := ⟨by kernel_rfl, by kernel_rfl, enters_ok (fn := Try.f9) (by kernel_rfl) (by kernel_rfl) (by kernel_rfl), chartularylaw08_few.forms, chartularylaw08_few.vc⟩

set_option maxRecDepth 100000 in
theorem sha_New.forms : sha_New.fd.formsOk = true := by kernel_rfl
set_option maxRecDepth 100000 in
theorem sha_New.vc : sha_New.fd.vc tt Γ := ⟨fun d => by kernel_rfl, fun k d => by kernel_rfl, ⟨trivial, ⟨trivial, trivial, trivial⟩, trivial⟩⟩
set_option maxRecDepth 100000 in
theorem sha_New.ok : FnOk Try.prog tt Γ 48 sha_New.fd := ⟨by kernel_rfl, by kernel_rfl, enters_ok (fn := Try.f48) (by kernel_rfl) (by kernel_rfl) (by kernel_rfl), sha_New.forms, sha_New.vc⟩

set_option maxRecDepth 100000 in
theorem bits_RotateLeft32.forms : bits_RotateLeft32.fd.formsOk = true := by kernel_rfl
set_option maxRecDepth 100000 in
theorem bits_RotateLeft32.vc : bits_RotateLeft32.fd.vc tt Γ := ⟨fun d => by kernel_rfl, fun k d => by kernel_rfl, ⟨trivial, ⟨trivial, ⟨trivial, trivial, trivial⟩, trivial⟩, trivial⟩⟩
set_option maxRecDepth 100000 in
theorem bits_RotateLeft32.ok : FnOk Try.prog tt Γ 55 bits_RotateLeft32.fd := ⟨by kernel_rfl, by kernel_rfl, enters_ok (fn := Try.f55) (by kernel_rfl) (by kernel_rfl) (by kernel_rfl), bits_RotateLeft32.forms, bits_RotateLeft32.vc⟩

set_option maxRecDepth 100000 in
theorem sha_turn.forms : sha_turn.fd.formsOk = true := by kernel_rfl
set_option maxRecDepth 100000 in
theorem sha_turn.vc : sha_turn.fd.vc tt Γ := ⟨fun d => by kernel_rfl, fun k d => by kernel_rfl, ⟨trivial, ⟨trivial, trivial, trivial⟩, trivial⟩⟩
set_option maxRecDepth 100000 in
theorem sha_turn.ok : FnOk Try.prog tt Γ 54 sha_turn.fd := ⟨by kernel_rfl, by kernel_rfl, enters_ok (fn := Try.f54) (by kernel_rfl) (by kernel_rfl) (by kernel_rfl), sha_turn.forms, sha_turn.vc⟩

set_option maxRecDepth 100000 in
theorem sha_words.forms : sha_words.fd.formsOk = true := by kernel_rfl
set_option maxRecDepth 100000 in
theorem sha_words.vc : sha_words.fd.vc tt Γ := ⟨fun d => by kernel_rfl, fun k d => by kernel_rfl, ⟨trivial, ⟨trivial, ⟨⟨trivial, ⟨⟨trivial, ⟨⟨trivial, trivial⟩, ⟨⟨trivial, trivial, trivial⟩, trivial, trivial⟩, trivial⟩, trivial⟩, ⟨fun d => by kernel_rfl, fun k d => by kernel_rfl⟩⟩, trivial⟩, ⟨⟨trivial, ⟨⟨⟨trivial, ⟨trivial, trivial⟩, trivial⟩, ⟨⟨trivial, trivial, trivial⟩, trivial, trivial⟩, trivial⟩, ⟨fun d => by kernel_rfl, fun k d => by kernel_rfl⟩⟩, trivial⟩, ⟨trivial, trivial, trivial⟩, trivial⟩, trivial⟩, trivial⟩, trivial⟩⟩
set_option maxRecDepth 100000 in
theorem sha_words.ok : FnOk Try.prog tt Γ 52 sha_words.fd := ⟨by kernel_rfl, by kernel_rfl, enters_ok (fn := Try.f52) (by kernel_rfl) (by kernel_rfl) (by kernel_rfl), sha_words.forms, sha_words.vc⟩

set_option maxRecDepth 100000 in
theorem sha_rounds.forms : sha_rounds.fd.formsOk = true := by kernel_rfl
set_option maxRecDepth 100000 in
theorem sha_rounds.vc : sha_rounds.fd.vc tt Γ := ⟨fun d => by kernel_rfl, fun k d => by kernel_rfl, ⟨trivial, ⟨trivial, trivial, trivial⟩, trivial⟩⟩
set_option maxRecDepth 100000 in
theorem sha_rounds.ok : FnOk Try.prog tt Γ 53 sha_rounds.fd := ⟨by kernel_rfl, by kernel_rfl, enters_ok (fn := Try.f53) (by kernel_rfl) (by kernel_rfl) (by kernel_rfl), sha_rounds.forms, sha_rounds.vc⟩

set_option maxRecDepth 100000 in
theorem sha_State_mix.forms : sha_State_mix.fd.formsOk = true := by kernel_rfl
set_option maxRecDepth 100000 in
theorem sha_State_mix.vc : sha_State_mix.fd.vc tt Γ := ⟨fun d => by kernel_rfl, fun k d => by kernel_rfl, ⟨trivial, ⟨trivial, ⟨⟨trivial, ⟨⟨trivial, ⟨⟨trivial, trivial⟩, ⟨⟨trivial, ⟨trivial, ⟨trivial, ⟨trivial, ⟨trivial, ⟨trivial, trivial, trivial⟩, trivial⟩, trivial⟩, trivial⟩, trivial⟩, trivial⟩, trivial, trivial⟩, trivial⟩, trivial⟩, ⟨fun d => by kernel_rfl, fun k d => by kernel_rfl⟩⟩, trivial⟩, ⟨trivial, ⟨⟨trivial, ⟨⟨trivial, trivial⟩, ⟨⟨trivial, trivial, trivial⟩, trivial, trivial⟩, trivial⟩, trivial⟩, ⟨fun d => by kernel_rfl, fun k d => by kernel_rfl⟩⟩, trivial⟩, trivial⟩, trivial⟩, trivial⟩⟩
set_option maxRecDepth 100000 in
theorem sha_State_mix.ok : FnOk Try.prog tt Γ 51 sha_State_mix.fd := ⟨by kernel_rfl, by kernel_rfl, enters_ok (fn := Try.f51) (by kernel_rfl) (by kernel_rfl) (by kernel_rfl), sha_State_mix.forms, sha_State_mix.vc⟩

set_option maxRecDepth 100000 in
theorem sha_State_Write.forms : sha_State_Write.fd.formsOk = true := by kernel_rfl
set_option maxRecDepth 100000 in
theorem sha_State_Write.vc : sha_State_Write.fd.vc tt Γ := ⟨fun d => by kernel_rfl, fun k d => by kernel_rfl, ⟨⟨trivial, ⟨trivial, trivial⟩, trivial⟩, ⟨trivial, ⟨trivial, ⟨⟨⟨⟨trivial, ⟨trivial, trivial⟩, trivial⟩, ⟨trivial, trivial, trivial⟩, trivial⟩, ⟨fun d => by kernel_rfl, fun k d => by kernel_rfl⟩⟩, trivial, trivial⟩, trivial⟩, trivial⟩, trivial⟩⟩
set_option maxRecDepth 100000 in
theorem sha_State_Write.ok : FnOk Try.prog tt Γ 49 sha_State_Write.fd := ⟨by kernel_rfl, by kernel_rfl, enters_ok (fn := Try.f49) (by kernel_rfl) (by kernel_rfl) (by kernel_rfl), sha_State_Write.forms, sha_State_Write.vc⟩

set_option maxRecDepth 100000 in
theorem sha_State_Sum.forms : sha_State_Sum.fd.formsOk = true := by kernel_rfl
set_option maxRecDepth 100000 in
theorem sha_State_Sum.vc : sha_State_Sum.fd.vc tt Γ := ⟨fun d => by kernel_rfl, fun k d => by kernel_rfl, ⟨trivial, ⟨⟨trivial, ⟨⟨trivial, trivial, trivial⟩, trivial⟩, trivial⟩, ⟨trivial, ⟨trivial, ⟨⟨⟨⟨trivial, ⟨trivial, trivial⟩, trivial⟩, trivial, trivial⟩, ⟨fun d => by kernel_rfl, fun k d => by kernel_rfl⟩⟩, ⟨⟨trivial, ⟨⟨trivial, ⟨⟨trivial, trivial⟩, ⟨⟨trivial, trivial, trivial⟩, trivial, trivial⟩, trivial⟩, trivial⟩, ⟨fun d => by kernel_rfl, fun k d => by kernel_rfl⟩⟩, trivial⟩, ⟨trivial, ⟨trivial, ⟨⟨trivial, ⟨⟨trivial, ⟨⟨trivial, trivial⟩, ⟨⟨trivial, trivial, trivial⟩, trivial, trivial⟩, trivial⟩, trivial⟩, ⟨fun d => by kernel_rfl, fun k d => by kernel_rfl⟩⟩, trivial⟩, ⟨trivial, trivial, trivial⟩, trivial⟩, trivial⟩, trivial⟩, trivial⟩, trivial⟩, trivial⟩, trivial⟩, trivial⟩, trivial⟩⟩
set_option maxRecDepth 100000 in
theorem sha_State_Sum.ok : FnOk Try.prog tt Γ 50 sha_State_Sum.fd := ⟨by kernel_rfl, by kernel_rfl, enters_ok (fn := Try.f50) (by kernel_rfl) (by kernel_rfl) (by kernel_rfl), sha_State_Sum.forms, sha_State_Sum.vc⟩

set_option maxRecDepth 100000 in
theorem sha_Sum.forms : sha_Sum.fd.formsOk = true := by kernel_rfl
set_option maxRecDepth 100000 in
theorem sha_Sum.vc : sha_Sum.fd.vc tt Γ := ⟨fun d => by kernel_rfl, fun k d => by kernel_rfl, ⟨trivial, ⟨trivial, ⟨trivial, ⟨trivial, trivial, trivial⟩, trivial⟩, trivial⟩, trivial⟩⟩
set_option maxRecDepth 100000 in
theorem sha_Sum.ok : FnOk Try.prog tt Γ 43 sha_Sum.fd := ⟨by kernel_rfl, by kernel_rfl, enters_ok (fn := Try.f43) (by kernel_rfl) (by kernel_rfl) (by kernel_rfl), sha_Sum.forms, sha_Sum.vc⟩

set_option maxRecDepth 100000 in
theorem mill_name.forms : mill_name.fd.formsOk = true := by kernel_rfl
set_option maxRecDepth 100000 in
theorem mill_name.vc : mill_name.fd.vc tt Γ := ⟨fun d => by kernel_rfl, fun k d => by kernel_rfl, ⟨trivial, ⟨⟨trivial, ⟨⟨trivial, trivial, trivial⟩, trivial⟩, trivial⟩, ⟨trivial, trivial, trivial⟩, trivial⟩, trivial⟩⟩
set_option maxRecDepth 100000 in
theorem mill_name.ok : FnOk Try.prog tt Γ 40 mill_name.fd := ⟨by kernel_rfl, by kernel_rfl, enters_ok (fn := Try.f40) (by kernel_rfl) (by kernel_rfl) (by kernel_rfl), mill_name.forms, mill_name.vc⟩

set_option maxRecDepth 100000 in
theorem mill_Mill_none.forms : mill_Mill_none.fd.formsOk = true := by kernel_rfl
set_option maxRecDepth 100000 in
theorem mill_Mill_none.vc : mill_Mill_none.fd.vc tt Γ := ⟨fun d => by kernel_rfl, fun k d => by kernel_rfl, ⟨trivial, ⟨trivial, trivial, trivial⟩, trivial⟩⟩
set_option maxRecDepth 100000 in
theorem mill_Mill_none.ok : FnOk Try.prog tt Γ 41 mill_Mill_none.fd := ⟨by kernel_rfl, by kernel_rfl, enters_ok (fn := Try.f41) (by kernel_rfl) (by kernel_rfl) (by kernel_rfl), mill_Mill_none.forms, mill_Mill_none.vc⟩

set_option maxRecDepth 100000 in
theorem mill_Mill_note.forms : mill_Mill_note.fd.formsOk = true := by kernel_rfl
set_option maxRecDepth 100000 in
theorem mill_Mill_note.vc : mill_Mill_note.fd.vc tt Γ := ⟨fun d => by kernel_rfl, fun k d => by kernel_rfl, ⟨trivial, ⟨trivial, ⟨trivial, ⟨trivial, ⟨trivial, ⟨trivial, ⟨trivial, ⟨trivial, trivial⟩, trivial⟩⟩, trivial⟩⟩, trivial⟩, trivial⟩, trivial⟩⟩
set_option maxRecDepth 100000 in
theorem mill_Mill_note.ok : FnOk Try.prog tt Γ 44 mill_Mill_note.fd := ⟨by kernel_rfl, by kernel_rfl, enters_ok (fn := Try.f44) (by kernel_rfl) (by kernel_rfl) (by kernel_rfl), mill_Mill_note.forms, mill_Mill_note.vc⟩

set_option maxRecDepth 100000 in
theorem mill_Mill_Sum.forms : mill_Mill_Sum.fd.formsOk = true := by kernel_rfl
set_option maxRecDepth 100000 in
theorem mill_Mill_Sum.vc : mill_Mill_Sum.fd.vc tt Γ := ⟨fun d => by kernel_rfl, fun k d => by kernel_rfl, ⟨trivial, ⟨⟨trivial, ⟨⟨trivial, trivial, trivial⟩, trivial⟩, trivial⟩, ⟨trivial, ⟨⟨trivial, ⟨trivial, trivial⟩, trivial⟩, ⟨trivial, ⟨trivial, trivial, trivial⟩, trivial⟩, trivial⟩, trivial⟩, trivial⟩, trivial⟩⟩
set_option maxRecDepth 100000 in
theorem mill_Mill_Sum.ok : FnOk Try.prog tt Γ 37 mill_Mill_Sum.fd := ⟨by kernel_rfl, by kernel_rfl, enters_ok (fn := Try.f37) (by kernel_rfl) (by kernel_rfl) (by kernel_rfl), mill_Mill_Sum.forms, mill_Mill_Sum.vc⟩

set_option maxRecDepth 100000 in
theorem pledge_Leaf.forms : pledge_Leaf.fd.formsOk = true := by kernel_rfl
set_option maxRecDepth 100000 in
theorem pledge_Leaf.vc : pledge_Leaf.fd.vc tt Γ := ⟨fun d => by kernel_rfl, fun k d => by kernel_rfl, ⟨trivial, ⟨trivial, trivial, trivial⟩, trivial⟩⟩
set_option maxRecDepth 100000 in
theorem pledge_Leaf.ok : FnOk Try.prog tt Γ 19 pledge_Leaf.fd := ⟨by kernel_rfl, by kernel_rfl, enters_ok (fn := Try.f19) (by kernel_rfl) (by kernel_rfl) (by kernel_rfl), pledge_Leaf.forms, pledge_Leaf.vc⟩

set_option maxRecDepth 100000 in
theorem octet_Num.forms : octet_Num.fd.formsOk = true := by kernel_rfl
set_option maxRecDepth 100000 in
theorem octet_Num.vc : octet_Num.fd.vc tt Γ := ⟨fun d => by kernel_rfl, fun k d => by kernel_rfl, ⟨trivial, ⟨⟨trivial, ⟨⟨trivial, trivial, trivial⟩, trivial⟩, trivial⟩, ⟨trivial, ⟨⟨⟨⟨trivial, ⟨trivial, trivial⟩, trivial⟩, ⟨trivial, trivial, trivial⟩, trivial⟩, ⟨fun d => by kernel_rfl, fun k d => by kernel_rfl⟩⟩, ⟨trivial, trivial, trivial⟩, trivial⟩, trivial⟩, trivial⟩, trivial⟩⟩
set_option maxRecDepth 100000 in
theorem octet_Num.ok : FnOk Try.prog tt Γ 17 octet_Num.fd := ⟨by kernel_rfl, by kernel_rfl, enters_ok (fn := Try.f17) (by kernel_rfl) (by kernel_rfl) (by kernel_rfl), octet_Num.forms, octet_Num.vc⟩

set_option maxRecDepth 100000 in
theorem octet_Text.forms : octet_Text.fd.formsOk = true := by kernel_rfl
set_option maxRecDepth 100000 in
theorem octet_Text.vc : octet_Text.fd.vc tt Γ := ⟨fun d => by kernel_rfl, fun k d => by kernel_rfl, ⟨trivial, ⟨trivial, trivial, trivial⟩, trivial⟩⟩
set_option maxRecDepth 100000 in
theorem octet_Text.ok : FnOk Try.prog tt Γ 20 octet_Text.fd := ⟨by kernel_rfl, by kernel_rfl, enters_ok (fn := Try.f20) (by kernel_rfl) (by kernel_rfl) (by kernel_rfl), octet_Text.forms, octet_Text.vc⟩

set_option maxRecDepth 100000 in
theorem sheet_Leaf.forms : sheet_Leaf.fd.formsOk = true := by kernel_rfl
set_option maxRecDepth 100000 in
theorem sheet_Leaf.vc : sheet_Leaf.fd.vc tt Γ := ⟨fun d => by kernel_rfl, fun k d => by kernel_rfl, ⟨trivial, ⟨trivial, trivial, trivial⟩, trivial⟩⟩
set_option maxRecDepth 100000 in
theorem sheet_Leaf.ok : FnOk Try.prog tt Γ 10 sheet_Leaf.fd := ⟨by kernel_rfl, by kernel_rfl, enters_ok (fn := Try.f10) (by kernel_rfl) (by kernel_rfl) (by kernel_rfl), sheet_Leaf.forms, sheet_Leaf.vc⟩

set_option maxRecDepth 100000 in
theorem chartularylaw08_leaf.forms : chartularylaw08_leaf.fd.formsOk = true := by kernel_rfl
set_option maxRecDepth 100000 in
theorem chartularylaw08_leaf.vc : chartularylaw08_leaf.fd.vc tt Γ := ⟨fun d => by kernel_rfl, fun k d => by kernel_rfl, ⟨trivial, ⟨trivial, trivial, trivial⟩, trivial⟩⟩
set_option maxRecDepth 100000 in
theorem chartularylaw08_leaf.ok : FnOk Try.prog tt Γ 11 chartularylaw08_leaf.fd := ⟨by kernel_rfl, by kernel_rfl, enters_ok (fn := Try.f11) (by kernel_rfl) (by kernel_rfl) (by kernel_rfl), chartularylaw08_leaf.forms, chartularylaw08_leaf.vc⟩

set_option maxRecDepth 100000 in
theorem pledge_None.forms : pledge_None.fd.formsOk = true := by kernel_rfl
set_option maxRecDepth 100000 in
theorem pledge_None.vc : pledge_None.fd.vc tt Γ := ⟨fun d => by kernel_rfl, fun k d => by kernel_rfl, ⟨trivial, ⟨trivial, trivial, trivial⟩, trivial⟩⟩
set_option maxRecDepth 100000 in
theorem pledge_None.ok : FnOk Try.prog tt Γ 29 pledge_None.fd := ⟨by kernel_rfl, by kernel_rfl, enters_ok (fn := Try.f29) (by kernel_rfl) (by kernel_rfl) (by kernel_rfl), pledge_None.forms, pledge_None.vc⟩

set_option maxRecDepth 100000 in
theorem chartularylaw07_below.forms : chartularylaw07_below.fd.formsOk = true := by kernel_rfl
set_option maxRecDepth 100000 in
theorem chartularylaw07_below.vc : chartularylaw07_below.fd.vc tt Γ := ⟨fun d => by kernel_rfl, fun k d => by kernel_rfl, ⟨trivial, ⟨trivial, ⟨⟨⟨⟨trivial, ⟨trivial, trivial⟩, trivial⟩, trivial, trivial⟩, ⟨fun d => by kernel_rfl, fun k d => by kernel_rfl⟩⟩, ⟨trivial, trivial, trivial⟩, trivial⟩, trivial⟩, trivial⟩⟩
set_option maxRecDepth 100000 in
theorem chartularylaw07_below.ok : FnOk Try.prog tt Γ 30 chartularylaw07_below.fd := ⟨by kernel_rfl, by kernel_rfl, enters_ok (fn := Try.f30) (by kernel_rfl) (by kernel_rfl) (by kernel_rfl), chartularylaw07_below.forms, chartularylaw07_below.vc⟩

set_option maxRecDepth 100000 in
theorem pledge_Node.forms : pledge_Node.fd.formsOk = true := by kernel_rfl
set_option maxRecDepth 100000 in
theorem pledge_Node.vc : pledge_Node.fd.vc tt Γ := ⟨fun d => by kernel_rfl, fun k d => by kernel_rfl, ⟨trivial, ⟨trivial, trivial, trivial⟩, trivial⟩⟩
set_option maxRecDepth 100000 in
theorem pledge_Node.ok : FnOk Try.prog tt Γ 31 pledge_Node.fd := ⟨by kernel_rfl, by kernel_rfl, enters_ok (fn := Try.f31) (by kernel_rfl) (by kernel_rfl) (by kernel_rfl), pledge_Node.forms, pledge_Node.vc⟩

set_option maxRecDepth 100000 in
theorem chartularylaw07_Root.forms : chartularylaw07_Root.fd.formsOk = true := by kernel_rfl
set_option maxRecDepth 100000 in
theorem chartularylaw07_Root.vc : chartularylaw07_Root.fd.vc tt Γ := ⟨fun d => by kernel_rfl, fun k d => by kernel_rfl, ⟨trivial, ⟨⟨trivial, ⟨⟨trivial, trivial, trivial⟩, trivial⟩, trivial⟩, ⟨⟨trivial, ⟨⟨trivial, trivial, trivial⟩, trivial⟩, trivial⟩, ⟨trivial, ⟨trivial, trivial, trivial⟩, trivial⟩, trivial⟩, trivial⟩, trivial⟩⟩
set_option maxRecDepth 100000 in
theorem chartularylaw07_Root.ok : FnOk Try.prog tt Γ 12 chartularylaw07_Root.fd := ⟨by kernel_rfl, by kernel_rfl, enters_ok (fn := Try.f12) (by kernel_rfl) (by kernel_rfl) (by kernel_rfl), chartularylaw07_Root.forms, chartularylaw07_Root.vc⟩

set_option maxRecDepth 100000 in
theorem chartularylaw08_leaves.forms : chartularylaw08_leaves.fd.formsOk = true := by kernel_rfl
set_option maxRecDepth 100000 in
theorem chartularylaw08_leaves.vc : chartularylaw08_leaves.fd.vc tt Γ := ⟨fun d => by kernel_rfl, fun k d => by kernel_rfl, ⟨trivial, ⟨trivial, ⟨⟨trivial, ⟨⟨⟨trivial, ⟨trivial, trivial⟩, trivial⟩, ⟨trivial, trivial, trivial⟩, trivial⟩, ⟨fun d => by kernel_rfl, fun k d => by kernel_rfl⟩⟩, trivial⟩, ⟨trivial, trivial, trivial⟩, trivial⟩, trivial⟩, trivial⟩⟩
set_option maxRecDepth 100000 in
theorem chartularylaw08_leaves.ok : FnOk Try.prog tt Γ 13 chartularylaw08_leaves.fd := ⟨by kernel_rfl, by kernel_rfl, enters_ok (fn := Try.f13) (by kernel_rfl) (by kernel_rfl) (by kernel_rfl), chartularylaw08_leaves.forms, chartularylaw08_leaves.vc⟩

set_option maxRecDepth 100000 in
theorem merkle_split.forms : merkle_split.fd.formsOk = true := by kernel_rfl
set_option maxRecDepth 100000 in
theorem merkle_split.vc : merkle_split.fd.vc tt Γ := ⟨fun d => by kernel_rfl, fun k d => by kernel_rfl, ⟨trivial, ⟨trivial, ⟨⟨⟨⟨trivial, ⟨trivial, trivial⟩, trivial⟩, trivial, trivial⟩, ⟨fun d => by kernel_rfl, fun k d => by kernel_rfl⟩⟩, ⟨trivial, trivial, trivial⟩, trivial⟩, trivial⟩, trivial⟩⟩
set_option maxRecDepth 100000 in
theorem merkle_split.ok : FnOk Try.prog tt Γ 42 merkle_split.fd := ⟨by kernel_rfl, by kernel_rfl, enters_ok (fn := Try.f42) (by kernel_rfl) (by kernel_rfl) (by kernel_rfl), merkle_split.forms, merkle_split.vc⟩

set_option maxRecDepth 100000 in
theorem merkle_Root.forms : merkle_Root.fd.formsOk = true := by kernel_rfl
set_option maxRecDepth 100000 in
theorem merkle_Root.vc : merkle_Root.fd.vc tt Γ := ⟨fun d => by kernel_rfl, fun k d => by kernel_rfl, ⟨trivial, ⟨⟨trivial, ⟨trivial, ⟨⟨trivial, trivial, trivial⟩, ⟨trivial, ⟨⟨trivial, trivial, trivial⟩, trivial⟩, trivial⟩⟩, trivial⟩, trivial⟩, ⟨trivial, ⟨trivial, trivial, trivial⟩, trivial⟩, trivial⟩, trivial⟩⟩
set_option maxRecDepth 100000 in
theorem merkle_Root.ok : FnOk Try.prog tt Γ 32 merkle_Root.fd := ⟨by kernel_rfl, by kernel_rfl, enters_ok (fn := Try.f32) (by kernel_rfl) (by kernel_rfl) (by kernel_rfl), merkle_Root.forms, merkle_Root.vc⟩

set_option maxRecDepth 100000 in
theorem sheet_leaves.forms : sheet_leaves.fd.formsOk = true := by kernel_rfl
set_option maxRecDepth 100000 in
theorem sheet_leaves.vc : sheet_leaves.fd.vc tt Γ := ⟨fun d => by kernel_rfl, fun k d => by kernel_rfl, ⟨trivial, ⟨trivial, ⟨⟨trivial, ⟨⟨trivial, ⟨⟨trivial, trivial⟩, ⟨⟨trivial, trivial, trivial⟩, trivial, trivial⟩, trivial⟩, trivial⟩, ⟨fun d => by kernel_rfl, fun k d => by kernel_rfl⟩⟩, trivial⟩, ⟨trivial, trivial, trivial⟩, trivial⟩, trivial⟩, trivial⟩⟩
set_option maxRecDepth 100000 in
theorem sheet_leaves.ok : FnOk Try.prog tt Γ 33 sheet_leaves.fd := ⟨by kernel_rfl, by kernel_rfl, enters_ok (fn := Try.f33) (by kernel_rfl) (by kernel_rfl) (by kernel_rfl), sheet_leaves.forms, sheet_leaves.vc⟩

set_option maxRecDepth 100000 in
theorem sheet_Root.forms : sheet_Root.fd.formsOk = true := by kernel_rfl
set_option maxRecDepth 100000 in
theorem sheet_Root.vc : sheet_Root.fd.vc tt Γ := ⟨fun d => by kernel_rfl, fun k d => by kernel_rfl, ⟨trivial, ⟨trivial, trivial, trivial⟩, trivial⟩⟩
set_option maxRecDepth 100000 in
theorem sheet_Root.ok : FnOk Try.prog tt Γ 14 sheet_Root.fd := ⟨by kernel_rfl, by kernel_rfl, enters_ok (fn := Try.f14) (by kernel_rfl) (by kernel_rfl) (by kernel_rfl), sheet_Root.forms, sheet_Root.vc⟩

set_option maxRecDepth 100000 in
theorem sheet_Rising.forms : sheet_Rising.fd.formsOk = true := by kernel_rfl
set_option maxRecDepth 100000 in
theorem sheet_Rising.vc : sheet_Rising.fd.vc tt Γ := ⟨fun d => by kernel_rfl, fun k d => by kernel_rfl, ⟨trivial, ⟨⟨trivial, ⟨⟨trivial, ⟨⟨trivial, trivial⟩, ⟨⟨trivial, ⟨trivial, ⟨⟨trivial, trivial, trivial⟩, trivial⟩, trivial⟩, trivial⟩, trivial, trivial⟩, trivial⟩, trivial⟩, ⟨fun d => by kernel_rfl, fun k d => by kernel_rfl⟩⟩, trivial⟩, ⟨trivial, trivial, trivial⟩, trivial⟩, trivial⟩⟩
set_option maxRecDepth 100000 in
theorem sheet_Rising.ok : FnOk Try.prog tt Γ 25 sheet_Rising.fd := ⟨by kernel_rfl, by kernel_rfl, enters_ok (fn := Try.f25) (by kernel_rfl) (by kernel_rfl) (by kernel_rfl), sheet_Rising.forms, sheet_Rising.vc⟩

set_option maxRecDepth 100000 in
theorem sheet_picked.forms : sheet_picked.fd.formsOk = true := by kernel_rfl
set_option maxRecDepth 100000 in
theorem sheet_picked.vc : sheet_picked.fd.vc tt Γ := ⟨fun d => by kernel_rfl, fun k d => by kernel_rfl, ⟨trivial, ⟨⟨trivial, ⟨⟨trivial, ⟨⟨trivial, trivial⟩, ⟨⟨trivial, ⟨trivial, ⟨⟨trivial, trivial, trivial⟩, trivial⟩, trivial⟩, trivial⟩, trivial, trivial⟩, trivial⟩, trivial⟩, ⟨fun d => by kernel_rfl, fun k d => by kernel_rfl⟩⟩, trivial⟩, ⟨trivial, trivial, trivial⟩, trivial⟩, trivial⟩⟩
set_option maxRecDepth 100000 in
theorem sheet_picked.ok : FnOk Try.prog tt Γ 45 sheet_picked.fd := ⟨by kernel_rfl, by kernel_rfl, enters_ok (fn := Try.f45) (by kernel_rfl) (by kernel_rfl) (by kernel_rfl), sheet_picked.forms, sheet_picked.vc⟩

set_option maxRecDepth 100000 in
theorem sheet_split.forms : sheet_split.fd.formsOk = true := by kernel_rfl
set_option maxRecDepth 100000 in
theorem sheet_split.vc : sheet_split.fd.vc tt Γ := ⟨fun d => by kernel_rfl, fun k d => by kernel_rfl, ⟨trivial, ⟨trivial, ⟨⟨⟨⟨trivial, ⟨trivial, trivial⟩, trivial⟩, trivial, trivial⟩, ⟨fun d => by kernel_rfl, fun k d => by kernel_rfl⟩⟩, ⟨trivial, trivial, trivial⟩, trivial⟩, trivial⟩, trivial⟩⟩
set_option maxRecDepth 100000 in
theorem sheet_split.ok : FnOk Try.prog tt Γ 47 sheet_split.fd := ⟨by kernel_rfl, by kernel_rfl, enters_ok (fn := Try.f47) (by kernel_rfl) (by kernel_rfl) (by kernel_rfl), sheet_split.forms, sheet_split.vc⟩

set_option maxRecDepth 100000 in
theorem sheet_gather.forms : sheet_gather.fd.formsOk = true := by kernel_rfl
set_option maxRecDepth 100000 in
theorem sheet_gather.vc : sheet_gather.fd.vc tt Γ := ⟨fun d => by kernel_rfl, fun k d => by kernel_rfl, ⟨trivial, ⟨⟨trivial, ⟨⟨trivial, trivial, trivial⟩, ⟨trivial, ⟨⟨trivial, trivial, trivial⟩, trivial⟩, trivial⟩⟩, trivial⟩, ⟨trivial, ⟨trivial, trivial, trivial⟩, trivial⟩, trivial⟩, trivial⟩⟩
set_option maxRecDepth 100000 in
theorem sheet_gather.ok : FnOk Try.prog tt Γ 39 sheet_gather.fd := ⟨by kernel_rfl, by kernel_rfl, enters_ok (fn := Try.f39) (by kernel_rfl) (by kernel_rfl) (by kernel_rfl), sheet_gather.forms, sheet_gather.vc⟩

set_option maxRecDepth 100000 in
theorem sheet_Nodes.forms : sheet_Nodes.fd.formsOk = true := by kernel_rfl
set_option maxRecDepth 100000 in
theorem sheet_Nodes.vc : sheet_Nodes.fd.vc tt Γ := ⟨fun d => by kernel_rfl, fun k d => by kernel_rfl, ⟨trivial, ⟨⟨trivial, ⟨⟨trivial, trivial, trivial⟩, trivial⟩, trivial⟩, ⟨trivial, trivial, trivial⟩, ⟨fun d => by kernel_rfl, fun k d => by kernel_rfl⟩⟩, trivial⟩⟩
set_option maxRecDepth 100000 in
theorem sheet_Nodes.ok : FnOk Try.prog tt Γ 24 sheet_Nodes.fd := ⟨by kernel_rfl, by kernel_rfl, enters_ok (fn := Try.f24) (by kernel_rfl) (by kernel_rfl) (by kernel_rfl), sheet_Nodes.forms, sheet_Nodes.vc⟩

set_option maxRecDepth 100000 in
theorem chartularylaw08_awake.forms : chartularylaw08_awake.fd.formsOk = true := by kernel_rfl
set_option maxRecDepth 100000 in
theorem chartularylaw08_awake.vc : chartularylaw08_awake.fd.vc tt Γ := ⟨fun d => by kernel_rfl, fun k d => by kernel_rfl, ⟨trivial, ⟨trivial, ⟨trivial, ⟨trivial, ⟨trivial, trivial, trivial⟩, trivial⟩, trivial⟩, trivial⟩, trivial⟩⟩
set_option maxRecDepth 100000 in
theorem chartularylaw08_awake.ok : FnOk Try.prog tt Γ 15 chartularylaw08_awake.fd := ⟨by kernel_rfl, by kernel_rfl, enters_ok (fn := Try.f15) (by kernel_rfl) (by kernel_rfl) (by kernel_rfl), chartularylaw08_awake.forms, chartularylaw08_awake.vc⟩

set_option maxRecDepth 100000 in
theorem chartularylaw08_SheetRoots.forms : chartularylaw08_SheetRoots.fd.formsOk = true := by kernel_rfl
set_option maxRecDepth 100000 in
theorem chartularylaw08_SheetRoots.vc : chartularylaw08_SheetRoots.fd.vc tt Γ := ⟨fun d => by kernel_rfl, fun k d => by kernel_rfl, ⟨trivial, ⟨trivial, ⟨trivial, ⟨trivial, ⟨⟨trivial, ⟨⟨⟨trivial, ⟨trivial, trivial⟩, trivial⟩, ⟨⟨trivial, ⟨trivial, ⟨⟨trivial, trivial, trivial⟩, trivial⟩, trivial⟩, trivial⟩, trivial, trivial⟩, trivial⟩, ⟨fun d => by kernel_rfl, fun k d => by kernel_rfl⟩⟩, trivial⟩, ⟨trivial, ⟨trivial, trivial, trivial⟩, trivial⟩, trivial⟩, trivial⟩, trivial⟩, trivial⟩, trivial⟩⟩
set_option maxRecDepth 100000 in
theorem chartularylaw08_SheetRoots.ok : FnOk Try.prog tt Γ 3 chartularylaw08_SheetRoots.fd := ⟨by kernel_rfl, by kernel_rfl, enters_ok (fn := Try.f3) (by kernel_rfl) (by kernel_rfl) (by kernel_rfl), chartularylaw08_SheetRoots.forms, chartularylaw08_SheetRoots.vc⟩

set_option maxRecDepth 100000 in
theorem octet_Writer_Text.forms : octet_Writer_Text.fd.formsOk = true := by kernel_rfl
set_option maxRecDepth 100000 in
theorem octet_Writer_Text.vc : octet_Writer_Text.fd.vc tt Γ := ⟨fun d => by kernel_rfl, fun k d => by kernel_rfl, trivial⟩
set_option maxRecDepth 100000 in
theorem octet_Writer_Text.ok : FnOk Try.prog tt Γ 34 octet_Writer_Text.fd := ⟨by kernel_rfl, by kernel_rfl, enters_ok (fn := Try.f34) (by kernel_rfl) (by kernel_rfl) (by kernel_rfl), octet_Writer_Text.forms, octet_Writer_Text.vc⟩

set_option maxRecDepth 100000 in
theorem octet_Writer_Num.forms : octet_Writer_Num.fd.formsOk = true := by kernel_rfl
set_option maxRecDepth 100000 in
theorem octet_Writer_Num.vc : octet_Writer_Num.fd.vc tt Γ := ⟨fun d => by kernel_rfl, fun k d => by kernel_rfl, ⟨trivial, ⟨trivial, trivial, trivial⟩, trivial⟩⟩
set_option maxRecDepth 100000 in
theorem octet_Writer_Num.ok : FnOk Try.prog tt Γ 35 octet_Writer_Num.fd := ⟨by kernel_rfl, by kernel_rfl, enters_ok (fn := Try.f35) (by kernel_rfl) (by kernel_rfl) (by kernel_rfl), octet_Writer_Num.forms, octet_Writer_Num.vc⟩

set_option maxRecDepth 100000 in
theorem octet_Writer_All.forms : octet_Writer_All.fd.formsOk = true := by kernel_rfl
set_option maxRecDepth 100000 in
theorem octet_Writer_All.vc : octet_Writer_All.fd.vc tt Γ := ⟨fun d => by kernel_rfl, fun k d => by kernel_rfl, ⟨trivial, ⟨⟨trivial, ⟨⟨trivial, trivial, trivial⟩, trivial⟩, trivial⟩, ⟨trivial, trivial, trivial⟩, trivial⟩, trivial⟩⟩
set_option maxRecDepth 100000 in
theorem octet_Writer_All.ok : FnOk Try.prog tt Γ 36 octet_Writer_All.fd := ⟨by kernel_rfl, by kernel_rfl, enters_ok (fn := Try.f36) (by kernel_rfl) (by kernel_rfl) (by kernel_rfl), octet_Writer_All.forms, octet_Writer_All.vc⟩

set_option maxRecDepth 100000 in
theorem sheet_Paper.forms : sheet_Paper.fd.formsOk = true := by kernel_rfl
set_option maxRecDepth 100000 in
theorem sheet_Paper.vc : sheet_Paper.fd.vc tt Γ := ⟨fun d => by kernel_rfl, fun k d => by kernel_rfl, ⟨trivial, ⟨trivial, ⟨trivial, ⟨trivial, ⟨trivial, ⟨trivial, ⟨trivial, ⟨trivial, ⟨⟨trivial, ⟨⟨trivial, trivial, trivial⟩, trivial⟩, trivial⟩, ⟨trivial, trivial, trivial⟩, trivial⟩, trivial⟩, trivial⟩, trivial⟩, trivial⟩, trivial⟩, trivial⟩, trivial⟩, trivial⟩⟩
set_option maxRecDepth 100000 in
theorem sheet_Paper.ok : FnOk Try.prog tt Γ 16 sheet_Paper.fd := ⟨by kernel_rfl, by kernel_rfl, enters_ok (fn := Try.f16) (by kernel_rfl) (by kernel_rfl) (by kernel_rfl), sheet_Paper.forms, sheet_Paper.vc⟩

set_option maxRecDepth 100000 in
theorem sheet_Entry.forms : sheet_Entry.fd.formsOk = true := by kernel_rfl
set_option maxRecDepth 100000 in
theorem sheet_Entry.vc : sheet_Entry.fd.vc tt Γ := ⟨fun d => by kernel_rfl, fun k d => by kernel_rfl, ⟨trivial, ⟨trivial, trivial, trivial⟩, trivial⟩⟩
set_option maxRecDepth 100000 in
theorem sheet_Entry.ok : FnOk Try.prog tt Γ 18 sheet_Entry.fd := ⟨by kernel_rfl, by kernel_rfl, enters_ok (fn := Try.f18) (by kernel_rfl) (by kernel_rfl) (by kernel_rfl), sheet_Entry.forms, sheet_Entry.vc⟩

set_option maxRecDepth 100000 in
theorem chartularylaw08_SheetPapers.forms : chartularylaw08_SheetPapers.fd.formsOk = true := by kernel_rfl
set_option maxRecDepth 100000 in
theorem chartularylaw08_SheetPapers.vc : chartularylaw08_SheetPapers.fd.vc tt Γ := ⟨fun d => by kernel_rfl, fun k d => by kernel_rfl, ⟨trivial, ⟨trivial, ⟨⟨trivial, ⟨trivial, trivial⟩, trivial⟩, ⟨trivial, ⟨trivial, ⟨trivial, ⟨⟨trivial, ⟨⟨trivial, trivial, trivial⟩, trivial⟩, ⟨fun d => by kernel_rfl, fun k d => by kernel_rfl⟩⟩, ⟨trivial, ⟨trivial, trivial, trivial⟩, trivial⟩, trivial⟩, trivial⟩, trivial⟩, trivial⟩, ⟨fun d => by kernel_rfl, fun k d => by kernel_rfl⟩⟩, trivial⟩, trivial⟩⟩
set_option maxRecDepth 100000 in
theorem chartularylaw08_SheetPapers.ok : FnOk Try.prog tt Γ 4 chartularylaw08_SheetPapers.fd := ⟨by kernel_rfl, by kernel_rfl, enters_ok (fn := Try.f4) (by kernel_rfl) (by kernel_rfl) (by kernel_rfl), chartularylaw08_SheetPapers.forms, chartularylaw08_SheetPapers.vc⟩

set_option maxRecDepth 100000 in
theorem sheet_next_v1.forms : sheet_next_v1.fd.formsOk = true := by kernel_rfl
set_option maxRecDepth 100000 in
theorem sheet_next_v1.vc : sheet_next_v1.fd.vc tt Γ := ⟨fun d => by kernel_rfl, fun k d => by kernel_rfl, ⟨trivial, ⟨⟨trivial, ⟨⟨trivial, ⟨trivial, trivial, trivial⟩, trivial⟩, trivial⟩, trivial⟩, ⟨trivial, ⟨trivial, ⟨trivial, trivial, trivial⟩, trivial⟩, trivial⟩, trivial⟩, trivial⟩⟩
set_option maxRecDepth 100000 in
theorem sheet_next_v1.ok : FnOk Try.prog tt Γ 46 sheet_next_v1.fd := ⟨by kernel_rfl, by kernel_rfl, enters_ok (fn := Try.f46) (by kernel_rfl) (by kernel_rfl) (by kernel_rfl), sheet_next_v1.forms, sheet_next_v1.vc⟩

set_option maxRecDepth 100000 in
theorem sheet_next_v2.forms : sheet_next_v2.fd.formsOk = true := by kernel_rfl
set_option maxRecDepth 100000 in
theorem sheet_next_v2.vc : sheet_next_v2.fd.vc tt Γ := ⟨fun d => by kernel_rfl, fun k d => by kernel_rfl, ⟨trivial, ⟨⟨trivial, ⟨⟨trivial, ⟨trivial, trivial, trivial⟩, trivial⟩, trivial⟩, trivial⟩, ⟨trivial, ⟨trivial, ⟨trivial, trivial, trivial⟩, trivial⟩, trivial⟩, trivial⟩, trivial⟩⟩
set_option maxRecDepth 100000 in
theorem sheet_next_v2.ok : FnOk Try.prog tt Γ 46 sheet_next_v2.fd := ⟨by kernel_rfl, by kernel_rfl, enters_ok (fn := Try.f46) (by kernel_rfl) (by kernel_rfl) (by kernel_rfl), sheet_next_v2.forms, sheet_next_v2.vc⟩

set_option maxRecDepth 100000 in
theorem sheet_walker_root.forms : sheet_walker_root.fd.formsOk = true := by kernel_rfl
set_option maxRecDepth 100000 in
theorem sheet_walker_root.vc : sheet_walker_root.fd.vc tt Γ := ⟨fun d => by kernel_rfl, fun k d => by kernel_rfl, ⟨trivial, ⟨⟨trivial, ⟨⟨trivial, trivial, trivial⟩, ⟨trivial, ⟨⟨trivial, trivial, trivial⟩, ⟨trivial, ⟨⟨trivial, trivial, trivial⟩, trivial⟩, trivial⟩⟩, trivial⟩⟩, trivial⟩, ⟨trivial, ⟨trivial, ⟨trivial, trivial, trivial⟩, trivial⟩, trivial⟩, trivial⟩, trivial⟩⟩
set_option maxRecDepth 100000 in
theorem sheet_walker_root.ok : FnOk Try.prog tt Γ 38 sheet_walker_root.fd := ⟨by kernel_rfl, by kernel_rfl, enters_ok (fn := Try.f38) (by kernel_rfl) (by kernel_rfl) (by kernel_rfl), sheet_walker_root.forms, sheet_walker_root.vc⟩

set_option maxRecDepth 100000 in
theorem sheet_Rebuild.forms : sheet_Rebuild.fd.formsOk = true := by kernel_rfl
set_option maxRecDepth 100000 in
theorem sheet_Rebuild.vc : sheet_Rebuild.fd.vc tt Γ := ⟨fun d => by kernel_rfl, fun k d => by kernel_rfl, ⟨trivial, ⟨⟨trivial, ⟨⟨trivial, trivial, trivial⟩, trivial⟩, trivial⟩, ⟨⟨trivial, ⟨⟨trivial, ⟨⟨trivial, trivial⟩, ⟨⟨trivial, ⟨trivial, ⟨⟨trivial, trivial, trivial⟩, trivial⟩, trivial⟩, trivial⟩, trivial, trivial⟩, trivial⟩, trivial⟩, ⟨fun d => by kernel_rfl, fun k d => by kernel_rfl⟩⟩, trivial⟩, ⟨trivial, ⟨trivial, ⟨⟨trivial, ⟨⟨trivial, trivial, trivial⟩, trivial⟩, trivial⟩, ⟨trivial, trivial, trivial⟩, trivial⟩, trivial⟩, trivial⟩, trivial⟩, ⟨fun d => by kernel_rfl, fun k d => by kernel_rfl⟩⟩, trivial⟩⟩
set_option maxRecDepth 100000 in
theorem sheet_Rebuild.ok : FnOk Try.prog tt Γ 21 sheet_Rebuild.fd := ⟨by kernel_rfl, by kernel_rfl, enters_ok (fn := Try.f21) (by kernel_rfl) (by kernel_rfl) (by kernel_rfl), sheet_Rebuild.forms, sheet_Rebuild.vc⟩

set_option maxRecDepth 100000 in
theorem chartularylaw08_rising.forms : chartularylaw08_rising.fd.formsOk = true := by kernel_rfl
set_option maxRecDepth 100000 in
theorem chartularylaw08_rising.vc : chartularylaw08_rising.fd.vc tt Γ := ⟨fun d => by kernel_rfl, fun k d => by kernel_rfl, ⟨trivial, ⟨⟨trivial, ⟨⟨⟨trivial, ⟨trivial, trivial⟩, trivial⟩, ⟨⟨trivial, ⟨⟨trivial, trivial, trivial⟩, trivial⟩, trivial⟩, trivial, trivial⟩, trivial⟩, ⟨fun d => by kernel_rfl, fun k d => by kernel_rfl⟩⟩, trivial⟩, ⟨trivial, trivial, trivial⟩, trivial⟩, trivial⟩⟩
set_option maxRecDepth 100000 in
theorem chartularylaw08_rising.ok : FnOk Try.prog tt Γ 22 chartularylaw08_rising.fd := ⟨by kernel_rfl, by kernel_rfl, enters_ok (fn := Try.f22) (by kernel_rfl) (by kernel_rfl) (by kernel_rfl), chartularylaw08_rising.forms, chartularylaw08_rising.vc⟩

set_option maxRecDepth 100000 in
theorem chartularylaw08_plain_build.forms : chartularylaw08_plain_build.fd.formsOk = true := by kernel_rfl
set_option maxRecDepth 100000 in
theorem chartularylaw08_plain_build.vc : chartularylaw08_plain_build.fd.vc tt Γ := ⟨fun d => by kernel_rfl, fun k d => by kernel_rfl, ⟨trivial, ⟨trivial, ⟨⟨trivial, ⟨⟨⟨trivial, ⟨trivial, trivial⟩, trivial⟩, ⟨trivial, trivial, trivial⟩, trivial⟩, ⟨fun d => by kernel_rfl, fun k d => by kernel_rfl⟩⟩, trivial⟩, ⟨⟨trivial, ⟨⟨⟨trivial, ⟨⟨trivial, ⟨trivial, trivial, trivial⟩, trivial⟩, trivial⟩, trivial⟩, ⟨trivial, ⟨trivial, ⟨trivial, trivial, trivial⟩, trivial⟩, trivial⟩, trivial⟩, trivial⟩, trivial⟩, ⟨⟨trivial, ⟨⟨⟨trivial, ⟨⟨trivial, ⟨trivial, trivial, trivial⟩, trivial⟩, trivial⟩, trivial⟩, ⟨trivial, ⟨trivial, ⟨trivial, trivial, trivial⟩, trivial⟩, trivial⟩, trivial⟩, trivial⟩, trivial⟩, ⟨trivial, ⟨⟨⟨⟨trivial, ⟨trivial, trivial⟩, trivial⟩, trivial, trivial⟩, ⟨fun d => by kernel_rfl, fun k d => by kernel_rfl⟩⟩, ⟨trivial, ⟨trivial, ⟨trivial, trivial, trivial⟩, trivial⟩, trivial⟩, trivial⟩, trivial⟩, trivial⟩, trivial⟩, trivial⟩, trivial⟩, trivial⟩⟩
set_option maxRecDepth 100000 in
theorem chartularylaw08_plain_build.ok : FnOk Try.prog tt Γ 23 chartularylaw08_plain_build.fd := ⟨by kernel_rfl, by kernel_rfl, enters_ok (fn := Try.f23) (by kernel_rfl) (by kernel_rfl) (by kernel_rfl), chartularylaw08_plain_build.forms, chartularylaw08_plain_build.vc⟩

set_option maxRecDepth 100000 in
theorem chartularylaw08_SheetBuilds.forms : chartularylaw08_SheetBuilds.fd.formsOk = true := by kernel_rfl
set_option maxRecDepth 100000 in
theorem chartularylaw08_SheetBuilds.vc : chartularylaw08_SheetBuilds.fd.vc tt Γ := ⟨fun d => by kernel_rfl, fun k d => by kernel_rfl, ⟨trivial, ⟨trivial, ⟨⟨trivial, ⟨⟨trivial, trivial, trivial⟩, trivial⟩, trivial⟩, ⟨trivial, ⟨⟨trivial, ⟨⟨trivial, trivial, trivial⟩, trivial⟩, ⟨fun d => by kernel_rfl, fun k d => by kernel_rfl⟩⟩, ⟨trivial, ⟨⟨trivial, ⟨⟨⟨trivial, ⟨trivial, trivial⟩, trivial⟩, ⟨trivial, trivial, trivial⟩, trivial⟩, ⟨fun d => by kernel_rfl, fun k d => by kernel_rfl⟩⟩, trivial⟩, ⟨trivial, ⟨trivial, ⟨⟨trivial, ⟨⟨trivial, trivial, trivial⟩, trivial⟩, ⟨fun d => by kernel_rfl, fun k d => by kernel_rfl⟩⟩, ⟨trivial, trivial, trivial⟩, trivial⟩, trivial⟩, trivial⟩, trivial⟩, trivial⟩, trivial⟩, trivial⟩, ⟨fun d => by kernel_rfl, fun k d => by kernel_rfl⟩⟩, trivial⟩, trivial⟩⟩
set_option maxRecDepth 100000 in
theorem chartularylaw08_SheetBuilds.ok : FnOk Try.prog tt Γ 5 chartularylaw08_SheetBuilds.fd := ⟨by kernel_rfl, by kernel_rfl, enters_ok (fn := Try.f5) (by kernel_rfl) (by kernel_rfl) (by kernel_rfl), chartularylaw08_SheetBuilds.forms, chartularylaw08_SheetBuilds.vc⟩

set_option maxRecDepth 100000 in
theorem chartularylaw08_beside.forms : chartularylaw08_beside.fd.formsOk = true := by kernel_rfl
set_option maxRecDepth 100000 in
theorem chartularylaw08_beside.vc : chartularylaw08_beside.fd.vc tt Γ := ⟨fun d => by kernel_rfl, fun k d => by kernel_rfl, ⟨trivial, ⟨trivial, ⟨⟨trivial, ⟨⟨⟨trivial, ⟨trivial, trivial⟩, trivial⟩, ⟨trivial, trivial, trivial⟩, trivial⟩, ⟨fun d => by kernel_rfl, fun k d => by kernel_rfl⟩⟩, trivial⟩, ⟨⟨trivial, ⟨⟨trivial, trivial, trivial⟩, trivial⟩, trivial⟩, ⟨⟨trivial, ⟨⟨trivial, trivial, trivial⟩, trivial⟩, trivial⟩, ⟨trivial, ⟨⟨⟨⟨trivial, ⟨trivial, trivial⟩, trivial⟩, trivial, trivial⟩, ⟨fun d => by kernel_rfl, fun k d => by kernel_rfl⟩⟩, ⟨trivial, ⟨trivial, ⟨⟨trivial, ⟨⟨⟨trivial, ⟨trivial, trivial⟩, trivial⟩, ⟨trivial, trivial, trivial⟩, trivial⟩, ⟨fun d => by kernel_rfl, fun k d => by kernel_rfl⟩⟩, trivial⟩, ⟨trivial, trivial, trivial⟩, trivial⟩, trivial⟩, trivial⟩, trivial⟩, trivial⟩, trivial⟩, trivial⟩, trivial⟩, trivial⟩, trivial⟩⟩
set_option maxRecDepth 100000 in
theorem chartularylaw08_beside.ok : FnOk Try.prog tt Γ 26 chartularylaw08_beside.fd := ⟨by kernel_rfl, by kernel_rfl, enters_ok (fn := Try.f26) (by kernel_rfl) (by kernel_rfl) (by kernel_rfl), chartularylaw08_beside.forms, chartularylaw08_beside.vc⟩

set_option maxRecDepth 100000 in
theorem chartularylaw08_SheetNodes.forms : chartularylaw08_SheetNodes.fd.formsOk = true := by kernel_rfl
set_option maxRecDepth 100000 in
theorem chartularylaw08_SheetNodes.vc : chartularylaw08_SheetNodes.fd.vc tt Γ := ⟨fun d => by kernel_rfl, fun k d => by kernel_rfl, ⟨trivial, ⟨trivial, ⟨trivial, ⟨⟨trivial, ⟨trivial, trivial⟩, trivial⟩, ⟨trivial, ⟨⟨trivial, ⟨⟨trivial, trivial, trivial⟩, trivial⟩, trivial⟩, ⟨⟨trivial, ⟨⟨trivial, trivial, trivial⟩, trivial⟩, ⟨fun d => by kernel_rfl, fun k d => by kernel_rfl⟩⟩, ⟨trivial, ⟨trivial, ⟨⟨trivial, ⟨⟨⟨trivial, ⟨trivial, trivial⟩, trivial⟩, ⟨trivial, trivial, trivial⟩, trivial⟩, ⟨fun d => by kernel_rfl, fun k d => by kernel_rfl⟩⟩, trivial⟩, ⟨⟨trivial, ⟨⟨trivial, trivial, trivial⟩, trivial⟩, trivial⟩, ⟨⟨trivial, ⟨⟨⟨trivial, ⟨trivial, trivial⟩, trivial⟩, ⟨⟨trivial, ⟨⟨trivial, trivial, trivial⟩, trivial⟩, trivial⟩, trivial, trivial⟩, trivial⟩, ⟨fun d => by kernel_rfl, fun k d => by kernel_rfl⟩⟩, trivial⟩, ⟨trivial, ⟨trivial, trivial, trivial⟩, trivial⟩, trivial⟩, ⟨fun d => by kernel_rfl, fun k d => by kernel_rfl⟩⟩, trivial⟩, trivial⟩, trivial⟩, trivial⟩, trivial⟩, trivial⟩, ⟨fun d => by kernel_rfl, fun k d => by kernel_rfl⟩⟩, trivial⟩, trivial⟩, trivial⟩⟩
set_option maxRecDepth 100000 in
theorem chartularylaw08_SheetNodes.ok : FnOk Try.prog tt Γ 6 chartularylaw08_SheetNodes.fd := ⟨by kernel_rfl, by kernel_rfl, enters_ok (fn := Try.f6) (by kernel_rfl) (by kernel_rfl) (by kernel_rfl), chartularylaw08_SheetNodes.forms, chartularylaw08_SheetNodes.vc⟩

set_option maxRecDepth 100000 in
theorem mill_With_has.forms : mill_With_has.fd.formsOk = true := by kernel_rfl
set_option maxRecDepth 100000 in
theorem mill_With_has.vc : mill_With_has.fd.vc tt Γ := ⟨fun d => by kernel_rfl, fun k d => by kernel_rfl, ⟨trivial, ⟨trivial, ⟨⟨trivial, ⟨⟨trivial, ⟨⟨trivial, trivial⟩, ⟨⟨trivial, ⟨⟨trivial, ⟨⟨trivial, trivial, trivial⟩, trivial⟩, trivial⟩, ⟨trivial, ⟨trivial, ⟨trivial, ⟨trivial, trivial⟩, trivial⟩, trivial⟩, trivial⟩, trivial⟩, trivial⟩, trivial, trivial⟩, trivial⟩, trivial⟩, ⟨fun d => by kernel_rfl, fun k d => by kernel_rfl⟩⟩, trivial⟩, ⟨trivial, trivial, trivial⟩, trivial⟩, trivial⟩, trivial⟩⟩
set_option maxRecDepth 100000 in
theorem mill_With_has.ok : FnOk Try.prog tt Γ 27 mill_With_has.fd := ⟨by kernel_rfl, by kernel_rfl, enters_ok (fn := Try.f27) (by kernel_rfl) (by kernel_rfl) (by kernel_rfl), mill_With_has.forms, mill_With_has.vc⟩

set_option maxRecDepth 100000 in
theorem mill_With_nil.forms : mill_With_nil.fd.formsOk = true := by kernel_rfl
set_option maxRecDepth 100000 in
theorem mill_With_nil.vc : mill_With_nil.fd.vc tt Γ := ⟨fun d => by kernel_rfl, fun k d => by kernel_rfl, ⟨trivial, ⟨trivial, ⟨⟨trivial, ⟨⟨trivial, ⟨⟨trivial, trivial⟩, ⟨⟨trivial, ⟨⟨trivial, ⟨⟨trivial, trivial, trivial⟩, trivial⟩, trivial⟩, ⟨trivial, ⟨trivial, ⟨trivial, ⟨trivial, trivial⟩, trivial⟩, trivial⟩, trivial⟩, trivial⟩, trivial⟩, trivial, trivial⟩, trivial⟩, trivial⟩, ⟨fun d => by kernel_rfl, fun k d => by kernel_rfl⟩⟩, trivial⟩, ⟨trivial, trivial, trivial⟩, trivial⟩, trivial⟩, trivial⟩⟩
set_option maxRecDepth 100000 in
theorem mill_With_nil.ok : FnOk Try.prog tt Γ 27 mill_With_nil.fd := ⟨by kernel_rfl, by kernel_rfl, enters_ok (fn := Try.f27) (by kernel_rfl) (by kernel_rfl) (by kernel_rfl), mill_With_nil.forms, mill_With_nil.vc⟩

set_option maxRecDepth 100000 in
theorem mill_Mill_Twins.forms : mill_Mill_Twins.fd.formsOk = true := by kernel_rfl
set_option maxRecDepth 100000 in
theorem mill_Mill_Twins.vc : mill_Mill_Twins.fd.vc tt Γ := ⟨fun d => by kernel_rfl, fun k d => by kernel_rfl, ⟨trivial, ⟨⟨trivial, ⟨⟨trivial, trivial, trivial⟩, trivial⟩, trivial⟩, ⟨trivial, trivial, trivial⟩, trivial⟩, trivial⟩⟩
set_option maxRecDepth 100000 in
theorem mill_Mill_Twins.ok : FnOk Try.prog tt Γ 28 mill_Mill_Twins.fd := ⟨by kernel_rfl, by kernel_rfl, enters_ok (fn := Try.f28) (by kernel_rfl) (by kernel_rfl) (by kernel_rfl), mill_Mill_Twins.forms, mill_Mill_Twins.vc⟩

set_option maxRecDepth 100000 in
theorem chartularylaw08_SheetApart.forms : chartularylaw08_SheetApart.fd.formsOk = true := by kernel_rfl
set_option maxRecDepth 100000 in
theorem chartularylaw08_SheetApart.vc : chartularylaw08_SheetApart.fd.vc tt Γ := ⟨fun d => by kernel_rfl, fun k d => by kernel_rfl, ⟨trivial, ⟨⟨trivial, ⟨trivial, trivial⟩, trivial⟩, ⟨trivial, ⟨⟨trivial, ⟨⟨trivial, trivial, trivial⟩, trivial⟩, trivial⟩, ⟨trivial, ⟨⟨trivial, ⟨⟨⟨trivial, ⟨trivial, trivial⟩, trivial⟩, ⟨⟨⟨trivial, ⟨⟨trivial, trivial, trivial⟩, trivial⟩, trivial⟩, trivial, trivial⟩, trivial, trivial⟩, trivial⟩, ⟨fun d => by kernel_rfl, fun k d => by kernel_rfl⟩⟩, trivial⟩, ⟨trivial, ⟨trivial, ⟨trivial, ⟨trivial, trivial, trivial⟩, trivial⟩, trivial⟩, trivial⟩, trivial⟩, trivial⟩, trivial⟩, trivial⟩, ⟨fun d => by kernel_rfl, fun k d => by kernel_rfl⟩⟩, trivial⟩⟩
set_option maxRecDepth 100000 in
theorem chartularylaw08_SheetApart.ok : FnOk Try.prog tt Γ 7 chartularylaw08_SheetApart.fd := ⟨by kernel_rfl, by kernel_rfl, enters_ok (fn := Try.f7) (by kernel_rfl) (by kernel_rfl) (by kernel_rfl), chartularylaw08_SheetApart.forms, chartularylaw08_SheetApart.vc⟩

noncomputable def tab : Tab := [(8, mill_New.fd), (9, chartularylaw08_few.fd), (48, sha_New.fd), (55, bits_RotateLeft32.fd), (54, sha_turn.fd), (52, sha_words.fd), (53, sha_rounds.fd), (51, sha_State_mix.fd), (49, sha_State_Write.fd), (50, sha_State_Sum.fd), (43, sha_Sum.fd), (40, mill_name.fd), (41, mill_Mill_none.fd), (44, mill_Mill_note.fd), (37, mill_Mill_Sum.fd), (19, pledge_Leaf.fd), (17, octet_Num.fd), (20, octet_Text.fd), (10, sheet_Leaf.fd), (11, chartularylaw08_leaf.fd), (29, pledge_None.fd), (30, chartularylaw07_below.fd), (31, pledge_Node.fd), (12, chartularylaw07_Root.fd), (13, chartularylaw08_leaves.fd), (42, merkle_split.fd), (32, merkle_Root.fd), (33, sheet_leaves.fd), (14, sheet_Root.fd), (25, sheet_Rising.fd), (45, sheet_picked.fd), (47, sheet_split.fd), (39, sheet_gather.fd), (24, sheet_Nodes.fd), (15, chartularylaw08_awake.fd), (3, chartularylaw08_SheetRoots.fd), (34, octet_Writer_Text.fd), (35, octet_Writer_Num.fd), (36, octet_Writer_All.fd), (16, sheet_Paper.fd), (18, sheet_Entry.fd), (4, chartularylaw08_SheetPapers.fd), (46, sheet_next_v1.fd), (46, sheet_next_v2.fd), (38, sheet_walker_root.fd), (21, sheet_Rebuild.fd), (22, chartularylaw08_rising.fd), (23, chartularylaw08_plain_build.fd), (5, chartularylaw08_SheetBuilds.fd), (26, chartularylaw08_beside.fd), (6, chartularylaw08_SheetNodes.fd), (27, mill_With_has.fd), (27, mill_With_nil.fd), (28, mill_Mill_Twins.fd), (7, chartularylaw08_SheetApart.fd)]
theorem Γ_eq (k : Nat) : Γ k = gamK tab k := by kernel_rfl
theorem tt_ok : TTok Try.prog tt := ttB_ok (by kernel_rfl)
theorem mixed : Try.prog.follows .mixedOrders = true := by kernel_rfl
theorem tab_all : ∀ x ∈ tab, FnOk Try.prog tt Γ x.1 x.2 := by
  unfold tab
  simp only [List.forall_mem_cons]
  exact ⟨mill_New.ok, chartularylaw08_few.ok, sha_New.ok, bits_RotateLeft32.ok, sha_turn.ok, sha_words.ok, sha_rounds.ok, sha_State_mix.ok, sha_State_Write.ok, sha_State_Sum.ok, sha_Sum.ok, mill_name.ok, mill_Mill_none.ok, mill_Mill_note.ok, mill_Mill_Sum.ok, pledge_Leaf.ok, octet_Num.ok, octet_Text.ok, sheet_Leaf.ok, chartularylaw08_leaf.ok, pledge_None.ok, chartularylaw07_below.ok, pledge_Node.ok, chartularylaw07_Root.ok, chartularylaw08_leaves.ok, merkle_split.ok, merkle_Root.ok, sheet_leaves.ok, sheet_Root.ok, sheet_Rising.ok, sheet_picked.ok, sheet_split.ok, sheet_gather.ok, sheet_Nodes.ok, chartularylaw08_awake.ok, chartularylaw08_SheetRoots.ok, octet_Writer_Text.ok, octet_Writer_Num.ok, octet_Writer_All.ok, sheet_Paper.ok, sheet_Entry.ok, chartularylaw08_SheetPapers.ok, sheet_next_v1.ok, sheet_next_v2.ok, sheet_walker_root.ok, sheet_Rebuild.ok, chartularylaw08_rising.ok, chartularylaw08_plain_build.ok, chartularylaw08_SheetBuilds.ok, chartularylaw08_beside.ok, chartularylaw08_SheetNodes.ok, mill_With_has.ok, mill_With_nil.ok, mill_Mill_Twins.ok, chartularylaw08_SheetApart.ok, fun x h => nomatch h⟩
theorem chartularylaw08_SheetRoots.spec (k : Nat) : SpecOk Try.prog 3 (chartularylaw08_SheetRoots.fd.sp k) := spec_ok mixed tt_ok Γ_eq tab_all (f := 3) (F := chartularylaw08_SheetRoots.fd) (by unfold tab; simp only [List.mem_cons, true_or, or_true]) k
theorem chartularylaw08_SheetPapers.spec (k : Nat) : SpecOk Try.prog 4 (chartularylaw08_SheetPapers.fd.sp k) := spec_ok mixed tt_ok Γ_eq tab_all (f := 4) (F := chartularylaw08_SheetPapers.fd) (by unfold tab; simp only [List.mem_cons, true_or, or_true]) k
theorem chartularylaw08_SheetBuilds.spec (k : Nat) : SpecOk Try.prog 5 (chartularylaw08_SheetBuilds.fd.sp k) := spec_ok mixed tt_ok Γ_eq tab_all (f := 5) (F := chartularylaw08_SheetBuilds.fd) (by unfold tab; simp only [List.mem_cons, true_or, or_true]) k
theorem chartularylaw08_SheetNodes.spec (k : Nat) : SpecOk Try.prog 6 (chartularylaw08_SheetNodes.fd.sp k) := spec_ok mixed tt_ok Γ_eq tab_all (f := 6) (F := chartularylaw08_SheetNodes.fd) (by unfold tab; simp only [List.mem_cons, true_or, or_true]) k
theorem chartularylaw08_SheetApart.spec (k : Nat) : SpecOk Try.prog 7 (chartularylaw08_SheetApart.fd.sp k) := spec_ok mixed tt_ok Γ_eq tab_all (f := 7) (F := chartularylaw08_SheetApart.fd) (by unfold tab; simp only [List.mem_cons, true_or, or_true]) k

end Go.Proofs.Ytdeboaknhkffpaa.E
