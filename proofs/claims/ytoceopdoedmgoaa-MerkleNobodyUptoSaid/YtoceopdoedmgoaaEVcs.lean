import Derived.Test.YtoceopdoedmgoaaEDefs
import Derived.Test.YtoceopdoedmgoaaETab
namespace Go.Proofs.Ytoceopdoedmgoaa.E
open Go Go.Proofs.Ytoceopdoedmgoaa.Eng Go.Proofs
set_option maxRecDepth 100000 in
theorem mill_New.forms : mill_New.fd.formsOk = true := by kernel_rfl
set_option maxRecDepth 100000 in
theorem mill_New.vc : mill_New.fd.vc tt Γ := ⟨fun d => by kernel_rfl, fun k d => by kernel_rfl, ⟨trivial, ⟨trivial, trivial, trivial⟩, trivial⟩⟩
set_option maxRecDepth 100000 in
theorem mill_New.ok : FnOk Try.prog tt Γ 11 mill_New.fd := ⟨by kernel_rfl, by kernel_rfl, enters_ok (fn := Try.f11) (by kernel_rfl) (by kernel_rfl) (by kernel_rfl), mill_New.forms, mill_New.vc⟩

set_option maxRecDepth 100000 in
theorem sha_New.forms : sha_New.fd.formsOk = true := by kernel_rfl
set_option maxRecDepth 100000 in
theorem sha_New.vc : sha_New.fd.vc tt Γ := ⟨fun d => by kernel_rfl, fun k d => by kernel_rfl, ⟨trivial, ⟨trivial, trivial, trivial⟩, trivial⟩⟩
set_option maxRecDepth 100000 in
theorem sha_New.ok : FnOk Try.prog tt Γ 49 sha_New.fd := ⟨by kernel_rfl, by kernel_rfl, enters_ok (fn := Try.f49) (by kernel_rfl) (by kernel_rfl) (by kernel_rfl), sha_New.forms, sha_New.vc⟩

set_option maxRecDepth 100000 in
theorem bits_RotateLeft32.forms : bits_RotateLeft32.fd.formsOk = true := by kernel_rfl
set_option maxRecDepth 100000 in
theorem bits_RotateLeft32.vc : bits_RotateLeft32.fd.vc tt Γ := ⟨fun d => by kernel_rfl, fun k d => by kernel_rfl, ⟨trivial, ⟨trivial, ⟨trivial, trivial, trivial⟩, trivial⟩, trivial⟩⟩
set_option maxRecDepth 100000 in
theorem bits_RotateLeft32.ok : FnOk Try.prog tt Γ 56 bits_RotateLeft32.fd := ⟨by kernel_rfl, by kernel_rfl, enters_ok (fn := Try.f56) (by kernel_rfl) (by kernel_rfl) (by kernel_rfl), bits_RotateLeft32.forms, bits_RotateLeft32.vc⟩

set_option maxRecDepth 100000 in
theorem sha_turn.forms : sha_turn.fd.formsOk = true := by kernel_rfl
set_option maxRecDepth 100000 in
theorem sha_turn.vc : sha_turn.fd.vc tt Γ := ⟨fun d => by kernel_rfl, fun k d => by kernel_rfl, ⟨trivial, ⟨trivial, trivial, trivial⟩, trivial⟩⟩
set_option maxRecDepth 100000 in
theorem sha_turn.ok : FnOk Try.prog tt Γ 55 sha_turn.fd := ⟨by kernel_rfl, by kernel_rfl, enters_ok (fn := Try.f55) (by kernel_rfl) (by kernel_rfl) (by kernel_rfl), sha_turn.forms, sha_turn.vc⟩

set_option maxRecDepth 100000 in
theorem sha_words.forms : sha_words.fd.formsOk = true := by kernel_rfl
set_option maxRecDepth 100000 in
theorem sha_words.vc : sha_words.fd.vc tt Γ := ⟨fun d => by kernel_rfl, fun k d => by kernel_rfl, ⟨trivial, ⟨trivial, ⟨⟨trivial, ⟨⟨trivial, ⟨⟨trivial, trivial⟩, ⟨⟨trivial, trivial, trivial⟩, trivial, trivial⟩, trivial⟩, trivial⟩, ⟨fun d => by kernel_rfl, fun k d => by kernel_rfl⟩⟩, trivial⟩, ⟨⟨trivial, ⟨⟨⟨trivial, ⟨trivial, trivial⟩, trivial⟩, ⟨⟨trivial, trivial, trivial⟩, trivial, trivial⟩, trivial⟩, ⟨fun d => by kernel_rfl, fun k d => by kernel_rfl⟩⟩, trivial⟩, ⟨trivial, trivial, trivial⟩, trivial⟩, trivial⟩, trivial⟩, trivial⟩⟩
set_option maxRecDepth 100000 in
theorem sha_words.ok : FnOk Try.prog tt Γ 53 sha_words.fd := ⟨by kernel_rfl, by kernel_rfl, enters_ok (fn := Try.f53) (by kernel_rfl) (by kernel_rfl) (by kernel_rfl), sha_words.forms, sha_words.vc⟩

set_option maxRecDepth 100000 in
theorem sha_rounds.forms : sha_rounds.fd.formsOk = true := by kernel_rfl
set_option maxRecDepth 100000 in
theorem sha_rounds.vc : sha_rounds.fd.vc tt Γ := ⟨fun d => by kernel_rfl, fun k d => by kernel_rfl, ⟨trivial, ⟨trivial, trivial, trivial⟩, trivial⟩⟩
set_option maxRecDepth 100000 in
theorem sha_rounds.ok : FnOk Try.prog tt Γ 54 sha_rounds.fd := ⟨by kernel_rfl, by kernel_rfl, enters_ok (fn := Try.f54) (by kernel_rfl) (by kernel_rfl) (by kernel_rfl), sha_rounds.forms, sha_rounds.vc⟩

set_option maxRecDepth 100000 in
theorem sha_State_mix.forms : sha_State_mix.fd.formsOk = true := by kernel_rfl
set_option maxRecDepth 100000 in
theorem sha_State_mix.vc : sha_State_mix.fd.vc tt Γ := ⟨fun d => by kernel_rfl, fun k d => by kernel_rfl, ⟨trivial, ⟨trivial, ⟨⟨trivial, ⟨⟨trivial, ⟨⟨trivial, trivial⟩, ⟨⟨trivial, ⟨trivial, ⟨trivial, ⟨trivial, ⟨trivial, ⟨trivial, trivial, trivial⟩, trivial⟩, trivial⟩, trivial⟩, trivial⟩, trivial⟩, trivial, trivial⟩, trivial⟩, trivial⟩, ⟨fun d => by kernel_rfl, fun k d => by kernel_rfl⟩⟩, trivial⟩, ⟨trivial, ⟨⟨trivial, ⟨⟨trivial, trivial⟩, ⟨⟨trivial, trivial, trivial⟩, trivial, trivial⟩, trivial⟩, trivial⟩, ⟨fun d => by kernel_rfl, fun k d => by kernel_rfl⟩⟩, trivial⟩, trivial⟩, trivial⟩, trivial⟩⟩
set_option maxRecDepth 100000 in
theorem sha_State_mix.ok : FnOk Try.prog tt Γ 52 sha_State_mix.fd := ⟨by kernel_rfl, by kernel_rfl, enters_ok (fn := Try.f52) (by kernel_rfl) (by kernel_rfl) (by kernel_rfl), sha_State_mix.forms, sha_State_mix.vc⟩

set_option maxRecDepth 100000 in
theorem sha_State_Write.forms : sha_State_Write.fd.formsOk = true := by kernel_rfl
set_option maxRecDepth 100000 in
theorem sha_State_Write.vc : sha_State_Write.fd.vc tt Γ := ⟨fun d => by kernel_rfl, fun k d => by kernel_rfl, ⟨⟨trivial, ⟨trivial, trivial⟩, trivial⟩, ⟨trivial, ⟨trivial, ⟨⟨⟨⟨trivial, ⟨trivial, trivial⟩, trivial⟩, ⟨trivial, trivial, trivial⟩, trivial⟩, ⟨fun d => by kernel_rfl, fun k d => by kernel_rfl⟩⟩, trivial, trivial⟩, trivial⟩, trivial⟩, trivial⟩⟩
set_option maxRecDepth 100000 in
theorem sha_State_Write.ok : FnOk Try.prog tt Γ 50 sha_State_Write.fd := ⟨by kernel_rfl, by kernel_rfl, enters_ok (fn := Try.f50) (by kernel_rfl) (by kernel_rfl) (by kernel_rfl), sha_State_Write.forms, sha_State_Write.vc⟩

set_option maxRecDepth 100000 in
theorem sha_State_Sum.forms : sha_State_Sum.fd.formsOk = true := by kernel_rfl
set_option maxRecDepth 100000 in
theorem sha_State_Sum.vc : sha_State_Sum.fd.vc tt Γ := ⟨fun d => by kernel_rfl, fun k d => by kernel_rfl, ⟨trivial, ⟨⟨trivial, ⟨⟨trivial, trivial, trivial⟩, trivial⟩, trivial⟩, ⟨trivial, ⟨trivial, ⟨⟨⟨⟨trivial, ⟨trivial, trivial⟩, trivial⟩, trivial, trivial⟩, ⟨fun d => by kernel_rfl, fun k d => by kernel_rfl⟩⟩, ⟨⟨trivial, ⟨⟨trivial, ⟨⟨trivial, trivial⟩, ⟨⟨trivial, trivial, trivial⟩, trivial, trivial⟩, trivial⟩, trivial⟩, ⟨fun d => by kernel_rfl, fun k d => by kernel_rfl⟩⟩, trivial⟩, ⟨trivial, ⟨trivial, ⟨⟨trivial, ⟨⟨trivial, ⟨⟨trivial, trivial⟩, ⟨⟨trivial, trivial, trivial⟩, trivial, trivial⟩, trivial⟩, trivial⟩, ⟨fun d => by kernel_rfl, fun k d => by kernel_rfl⟩⟩, trivial⟩, ⟨trivial, trivial, trivial⟩, trivial⟩, trivial⟩, trivial⟩, trivial⟩, trivial⟩, trivial⟩, trivial⟩, trivial⟩, trivial⟩⟩
set_option maxRecDepth 100000 in
theorem sha_State_Sum.ok : FnOk Try.prog tt Γ 51 sha_State_Sum.fd := ⟨by kernel_rfl, by kernel_rfl, enters_ok (fn := Try.f51) (by kernel_rfl) (by kernel_rfl) (by kernel_rfl), sha_State_Sum.forms, sha_State_Sum.vc⟩

set_option maxRecDepth 100000 in
theorem sha_Sum.forms : sha_Sum.fd.formsOk = true := by kernel_rfl
set_option maxRecDepth 100000 in
theorem sha_Sum.vc : sha_Sum.fd.vc tt Γ := ⟨fun d => by kernel_rfl, fun k d => by kernel_rfl, ⟨trivial, ⟨trivial, ⟨trivial, ⟨trivial, trivial, trivial⟩, trivial⟩, trivial⟩, trivial⟩⟩
set_option maxRecDepth 100000 in
theorem sha_Sum.ok : FnOk Try.prog tt Γ 47 sha_Sum.fd := ⟨by kernel_rfl, by kernel_rfl, enters_ok (fn := Try.f47) (by kernel_rfl) (by kernel_rfl) (by kernel_rfl), sha_Sum.forms, sha_Sum.vc⟩

set_option maxRecDepth 100000 in
theorem mill_name.forms : mill_name.fd.formsOk = true := by kernel_rfl
set_option maxRecDepth 100000 in
theorem mill_name.vc : mill_name.fd.vc tt Γ := ⟨fun d => by kernel_rfl, fun k d => by kernel_rfl, ⟨trivial, ⟨⟨trivial, ⟨⟨trivial, trivial, trivial⟩, trivial⟩, trivial⟩, ⟨trivial, trivial, trivial⟩, trivial⟩, trivial⟩⟩
set_option maxRecDepth 100000 in
theorem mill_name.ok : FnOk Try.prog tt Γ 42 mill_name.fd := ⟨by kernel_rfl, by kernel_rfl, enters_ok (fn := Try.f42) (by kernel_rfl) (by kernel_rfl) (by kernel_rfl), mill_name.forms, mill_name.vc⟩

set_option maxRecDepth 100000 in
theorem mill_Mill_none.forms : mill_Mill_none.fd.formsOk = true := by kernel_rfl
set_option maxRecDepth 100000 in
theorem mill_Mill_none.vc : mill_Mill_none.fd.vc tt Γ := ⟨fun d => by kernel_rfl, fun k d => by kernel_rfl, ⟨trivial, ⟨trivial, trivial, trivial⟩, trivial⟩⟩
set_option maxRecDepth 100000 in
theorem mill_Mill_none.ok : FnOk Try.prog tt Γ 43 mill_Mill_none.fd := ⟨by kernel_rfl, by kernel_rfl, enters_ok (fn := Try.f43) (by kernel_rfl) (by kernel_rfl) (by kernel_rfl), mill_Mill_none.forms, mill_Mill_none.vc⟩

set_option maxRecDepth 100000 in
theorem mill_Mill_note.forms : mill_Mill_note.fd.formsOk = true := by kernel_rfl
set_option maxRecDepth 100000 in
theorem mill_Mill_note.vc : mill_Mill_note.fd.vc tt Γ := ⟨fun d => by kernel_rfl, fun k d => by kernel_rfl, ⟨trivial, ⟨trivial, ⟨trivial, ⟨trivial, ⟨trivial, ⟨trivial, ⟨trivial, ⟨trivial, trivial⟩, trivial⟩⟩, trivial⟩⟩, trivial⟩, trivial⟩, trivial⟩⟩
set_option maxRecDepth 100000 in
theorem mill_Mill_note.ok : FnOk Try.prog tt Γ 48 mill_Mill_note.fd := ⟨by kernel_rfl, by kernel_rfl, enters_ok (fn := Try.f48) (by kernel_rfl) (by kernel_rfl) (by kernel_rfl), mill_Mill_note.forms, mill_Mill_note.vc⟩

set_option maxRecDepth 100000 in
theorem mill_Mill_Sum.forms : mill_Mill_Sum.fd.formsOk = true := by kernel_rfl
set_option maxRecDepth 100000 in
theorem mill_Mill_Sum.vc : mill_Mill_Sum.fd.vc tt Γ := ⟨fun d => by kernel_rfl, fun k d => by kernel_rfl, ⟨trivial, ⟨⟨trivial, ⟨⟨trivial, trivial, trivial⟩, trivial⟩, trivial⟩, ⟨trivial, ⟨⟨trivial, ⟨trivial, trivial⟩, trivial⟩, ⟨trivial, ⟨trivial, trivial, trivial⟩, trivial⟩, trivial⟩, trivial⟩, trivial⟩, trivial⟩⟩
set_option maxRecDepth 100000 in
theorem mill_Mill_Sum.ok : FnOk Try.prog tt Γ 41 mill_Mill_Sum.fd := ⟨by kernel_rfl, by kernel_rfl, enters_ok (fn := Try.f41) (by kernel_rfl) (by kernel_rfl) (by kernel_rfl), mill_Mill_Sum.forms, mill_Mill_Sum.vc⟩

set_option maxRecDepth 100000 in
theorem pledge_Leaf.forms : pledge_Leaf.fd.formsOk = true := by kernel_rfl
set_option maxRecDepth 100000 in
theorem pledge_Leaf.vc : pledge_Leaf.fd.vc tt Γ := ⟨fun d => by kernel_rfl, fun k d => by kernel_rfl, ⟨trivial, ⟨trivial, trivial, trivial⟩, trivial⟩⟩
set_option maxRecDepth 100000 in
theorem pledge_Leaf.ok : FnOk Try.prog tt Γ 35 pledge_Leaf.fd := ⟨by kernel_rfl, by kernel_rfl, enters_ok (fn := Try.f35) (by kernel_rfl) (by kernel_rfl) (by kernel_rfl), pledge_Leaf.forms, pledge_Leaf.vc⟩

set_option maxRecDepth 100000 in
theorem chartularylaw07_Leaves.forms : chartularylaw07_Leaves.fd.formsOk = true := by kernel_rfl
set_option maxRecDepth 100000 in
theorem chartularylaw07_Leaves.vc : chartularylaw07_Leaves.fd.vc tt Γ := ⟨fun d => by kernel_rfl, fun k d => by kernel_rfl, ⟨trivial, ⟨trivial, ⟨⟨trivial, ⟨⟨⟨trivial, ⟨trivial, trivial⟩, trivial⟩, ⟨⟨trivial, ⟨⟨trivial, ⟨trivial, trivial⟩, trivial⟩, trivial, trivial⟩, trivial⟩, trivial, trivial⟩, trivial⟩, ⟨fun d => by kernel_rfl, fun k d => by kernel_rfl⟩⟩, trivial⟩, ⟨trivial, trivial, trivial⟩, trivial⟩, trivial⟩, trivial⟩⟩
set_option maxRecDepth 100000 in
theorem chartularylaw07_Leaves.ok : FnOk Try.prog tt Γ 12 chartularylaw07_Leaves.fd := ⟨by kernel_rfl, by kernel_rfl, enters_ok (fn := Try.f12) (by kernel_rfl) (by kernel_rfl) (by kernel_rfl), chartularylaw07_Leaves.forms, chartularylaw07_Leaves.vc⟩

set_option maxRecDepth 100000 in
theorem pledge_None.forms : pledge_None.fd.formsOk = true := by kernel_rfl
set_option maxRecDepth 100000 in
theorem pledge_None.vc : pledge_None.fd.vc tt Γ := ⟨fun d => by kernel_rfl, fun k d => by kernel_rfl, ⟨trivial, ⟨trivial, trivial, trivial⟩, trivial⟩⟩
set_option maxRecDepth 100000 in
theorem pledge_None.ok : FnOk Try.prog tt Γ 24 pledge_None.fd := ⟨by kernel_rfl, by kernel_rfl, enters_ok (fn := Try.f24) (by kernel_rfl) (by kernel_rfl) (by kernel_rfl), pledge_None.forms, pledge_None.vc⟩

set_option maxRecDepth 100000 in
theorem merkle_split.forms : merkle_split.fd.formsOk = true := by kernel_rfl
set_option maxRecDepth 100000 in
theorem merkle_split.vc : merkle_split.fd.vc tt Γ := ⟨fun d => by kernel_rfl, fun k d => by kernel_rfl, ⟨trivial, ⟨trivial, ⟨⟨⟨⟨trivial, ⟨trivial, trivial⟩, trivial⟩, trivial, trivial⟩, ⟨fun d => by kernel_rfl, fun k d => by kernel_rfl⟩⟩, ⟨trivial, trivial, trivial⟩, trivial⟩, trivial⟩, trivial⟩⟩
set_option maxRecDepth 100000 in
theorem merkle_split.ok : FnOk Try.prog tt Γ 36 merkle_split.fd := ⟨by kernel_rfl, by kernel_rfl, enters_ok (fn := Try.f36) (by kernel_rfl) (by kernel_rfl) (by kernel_rfl), merkle_split.forms, merkle_split.vc⟩

set_option maxRecDepth 100000 in
theorem pledge_Node.forms : pledge_Node.fd.formsOk = true := by kernel_rfl
set_option maxRecDepth 100000 in
theorem pledge_Node.vc : pledge_Node.fd.vc tt Γ := ⟨fun d => by kernel_rfl, fun k d => by kernel_rfl, ⟨trivial, ⟨trivial, trivial, trivial⟩, trivial⟩⟩
set_option maxRecDepth 100000 in
theorem pledge_Node.ok : FnOk Try.prog tt Γ 37 pledge_Node.fd := ⟨by kernel_rfl, by kernel_rfl, enters_ok (fn := Try.f37) (by kernel_rfl) (by kernel_rfl) (by kernel_rfl), pledge_Node.forms, pledge_Node.vc⟩

set_option maxRecDepth 100000 in
theorem merkle_Root.forms : merkle_Root.fd.formsOk = true := by kernel_rfl
set_option maxRecDepth 100000 in
theorem merkle_Root.vc : merkle_Root.fd.vc tt Γ := ⟨fun d => by kernel_rfl, fun k d => by kernel_rfl, ⟨trivial, ⟨⟨trivial, ⟨trivial, ⟨⟨trivial, trivial, trivial⟩, ⟨trivial, ⟨⟨trivial, trivial, trivial⟩, trivial⟩, trivial⟩⟩, trivial⟩, trivial⟩, ⟨trivial, ⟨trivial, trivial, trivial⟩, trivial⟩, trivial⟩, trivial⟩⟩
set_option maxRecDepth 100000 in
theorem merkle_Root.ok : FnOk Try.prog tt Γ 18 merkle_Root.fd := ⟨by kernel_rfl, by kernel_rfl, enters_ok (fn := Try.f18) (by kernel_rfl) (by kernel_rfl) (by kernel_rfl), merkle_Root.forms, merkle_Root.vc⟩

set_option maxRecDepth 100000 in
theorem merkle_Path.forms : merkle_Path.fd.formsOk = true := by kernel_rfl
set_option maxRecDepth 100000 in
theorem merkle_Path.vc : merkle_Path.fd.vc tt Γ := ⟨fun d => by kernel_rfl, fun k d => by kernel_rfl, ⟨trivial, ⟨⟨trivial, ⟨⟨trivial, trivial, trivial⟩, trivial⟩, trivial⟩, ⟨⟨trivial, ⟨⟨trivial, trivial, trivial⟩, trivial⟩, trivial⟩, ⟨trivial, ⟨⟨trivial, ⟨⟨trivial, ⟨trivial, trivial, trivial⟩, trivial⟩, trivial⟩, trivial⟩, ⟨trivial, ⟨trivial, trivial, trivial⟩, trivial⟩, trivial⟩, trivial⟩, trivial⟩, ⟨fun d => by kernel_rfl, fun k d => by kernel_rfl⟩⟩, trivial⟩⟩
set_option maxRecDepth 100000 in
theorem merkle_Path.ok : FnOk Try.prog tt Γ 13 merkle_Path.fd := ⟨by kernel_rfl, by kernel_rfl, enters_ok (fn := Try.f13) (by kernel_rfl) (by kernel_rfl) (by kernel_rfl), merkle_Path.forms, merkle_Path.vc⟩

set_option maxRecDepth 100000 in
theorem chartularylaw07_awake.forms : chartularylaw07_awake.fd.formsOk = true := by kernel_rfl
set_option maxRecDepth 100000 in
theorem chartularylaw07_awake.vc : chartularylaw07_awake.fd.vc tt Γ := ⟨fun d => by kernel_rfl, fun k d => by kernel_rfl, ⟨trivial, ⟨trivial, ⟨trivial, ⟨trivial, ⟨trivial, trivial, trivial⟩, trivial⟩, trivial⟩, trivial⟩, trivial⟩⟩
set_option maxRecDepth 100000 in
theorem chartularylaw07_awake.ok : FnOk Try.prog tt Γ 14 chartularylaw07_awake.fd := ⟨by kernel_rfl, by kernel_rfl, enters_ok (fn := Try.f14) (by kernel_rfl) (by kernel_rfl) (by kernel_rfl), chartularylaw07_awake.forms, chartularylaw07_awake.vc⟩

set_option maxRecDepth 100000 in
theorem merkle_New.forms : merkle_New.fd.formsOk = true := by kernel_rfl
set_option maxRecDepth 100000 in
theorem merkle_New.vc : merkle_New.fd.vc tt Γ := ⟨fun d => by kernel_rfl, fun k d => by kernel_rfl, ⟨trivial, ⟨⟨trivial, ⟨⟨trivial, trivial, trivial⟩, trivial⟩, trivial⟩, ⟨trivial, trivial, trivial⟩, trivial⟩, trivial⟩⟩
set_option maxRecDepth 100000 in
theorem merkle_New.ok : FnOk Try.prog tt Γ 22 merkle_New.fd := ⟨by kernel_rfl, by kernel_rfl, enters_ok (fn := Try.f22) (by kernel_rfl) (by kernel_rfl) (by kernel_rfl), merkle_New.forms, merkle_New.vc⟩

set_option maxRecDepth 100000 in
theorem merkle_Front_Root.forms : merkle_Front_Root.fd.formsOk = true := by kernel_rfl
set_option maxRecDepth 100000 in
theorem merkle_Front_Root.vc : merkle_Front_Root.fd.vc tt Γ := ⟨fun d => by kernel_rfl, fun k d => by kernel_rfl, ⟨trivial, ⟨⟨trivial, ⟨⟨trivial, trivial, trivial⟩, trivial⟩, trivial⟩, ⟨trivial, ⟨⟨trivial, ⟨⟨trivial, trivial, trivial⟩, trivial⟩, trivial⟩, ⟨trivial, ⟨⟨trivial, ⟨⟨⟨trivial, ⟨trivial, trivial⟩, trivial⟩, ⟨trivial, trivial, trivial⟩, trivial⟩, ⟨fun d => by kernel_rfl, fun k d => by kernel_rfl⟩⟩, trivial⟩, ⟨trivial, trivial, trivial⟩, trivial⟩, trivial⟩, trivial⟩, trivial⟩, trivial⟩, trivial⟩⟩
set_option maxRecDepth 100000 in
theorem merkle_Front_Root.ok : FnOk Try.prog tt Γ 23 merkle_Front_Root.fd := ⟨by kernel_rfl, by kernel_rfl, enters_ok (fn := Try.f23) (by kernel_rfl) (by kernel_rfl) (by kernel_rfl), merkle_Front_Root.forms, merkle_Front_Root.vc⟩

set_option maxRecDepth 100000 in
theorem merkle_Front_Add.forms : merkle_Front_Add.fd.formsOk = true := by kernel_rfl
set_option maxRecDepth 100000 in
theorem merkle_Front_Add.vc : merkle_Front_Add.fd.vc tt Γ := ⟨fun d => by kernel_rfl, fun k d => by kernel_rfl, ⟨⟨trivial, ⟨trivial, trivial⟩, trivial⟩, ⟨trivial, ⟨trivial, ⟨trivial, ⟨⟨⟨trivial, ⟨trivial, trivial⟩, trivial⟩, ⟨⟨trivial, trivial, trivial⟩, trivial, trivial⟩, trivial⟩, ⟨fun d => by kernel_rfl, fun k d => by kernel_rfl⟩⟩, trivial⟩, trivial⟩, trivial⟩, trivial⟩⟩
set_option maxRecDepth 100000 in
theorem merkle_Front_Add.ok : FnOk Try.prog tt Γ 25 merkle_Front_Add.fd := ⟨by kernel_rfl, by kernel_rfl, enters_ok (fn := Try.f25) (by kernel_rfl) (by kernel_rfl) (by kernel_rfl), merkle_Front_Add.forms, merkle_Front_Add.vc⟩

set_option maxRecDepth 100000 in
theorem merkle_Front_Size.forms : merkle_Front_Size.fd.formsOk = true := by kernel_rfl
set_option maxRecDepth 100000 in
theorem merkle_Front_Size.vc : merkle_Front_Size.fd.vc tt Γ := ⟨fun d => by kernel_rfl, fun k d => by kernel_rfl, ⟨trivial, ⟨⟨trivial, ⟨⟨trivial, trivial, trivial⟩, trivial⟩, trivial⟩, ⟨trivial, trivial, trivial⟩, trivial⟩, trivial⟩⟩
set_option maxRecDepth 100000 in
theorem merkle_Front_Size.ok : FnOk Try.prog tt Γ 26 merkle_Front_Size.fd := ⟨by kernel_rfl, by kernel_rfl, enters_ok (fn := Try.f26) (by kernel_rfl) (by kernel_rfl) (by kernel_rfl), merkle_Front_Size.forms, merkle_Front_Size.vc⟩

set_option maxRecDepth 100000 in
theorem chartularylaw07_below.forms : chartularylaw07_below.fd.formsOk = true := by kernel_rfl
set_option maxRecDepth 100000 in
theorem chartularylaw07_below.vc : chartularylaw07_below.fd.vc tt Γ := ⟨fun d => by kernel_rfl, fun k d => by kernel_rfl, ⟨trivial, ⟨trivial, ⟨⟨⟨⟨trivial, ⟨trivial, trivial⟩, trivial⟩, trivial, trivial⟩, ⟨fun d => by kernel_rfl, fun k d => by kernel_rfl⟩⟩, ⟨trivial, trivial, trivial⟩, trivial⟩, trivial⟩, trivial⟩⟩
set_option maxRecDepth 100000 in
theorem chartularylaw07_below.ok : FnOk Try.prog tt Γ 40 chartularylaw07_below.fd := ⟨by kernel_rfl, by kernel_rfl, enters_ok (fn := Try.f40) (by kernel_rfl) (by kernel_rfl) (by kernel_rfl), chartularylaw07_below.forms, chartularylaw07_below.vc⟩

set_option maxRecDepth 100000 in
theorem chartularylaw07_Root.forms : chartularylaw07_Root.fd.formsOk = true := by kernel_rfl
set_option maxRecDepth 100000 in
theorem chartularylaw07_Root.vc : chartularylaw07_Root.fd.vc tt Γ := ⟨fun d => by kernel_rfl, fun k d => by kernel_rfl, ⟨trivial, ⟨⟨trivial, ⟨⟨trivial, trivial, trivial⟩, trivial⟩, trivial⟩, ⟨⟨trivial, ⟨⟨trivial, trivial, trivial⟩, trivial⟩, trivial⟩, ⟨trivial, ⟨trivial, trivial, trivial⟩, trivial⟩, trivial⟩, trivial⟩, trivial⟩⟩
set_option maxRecDepth 100000 in
theorem chartularylaw07_Root.ok : FnOk Try.prog tt Γ 27 chartularylaw07_Root.fd := ⟨by kernel_rfl, by kernel_rfl, enters_ok (fn := Try.f27) (by kernel_rfl) (by kernel_rfl) (by kernel_rfl), chartularylaw07_Root.forms, chartularylaw07_Root.vc⟩

set_option maxRecDepth 100000 in
theorem chartularylaw07_MerkleRoots.forms : chartularylaw07_MerkleRoots.fd.formsOk = true := by kernel_rfl
set_option maxRecDepth 100000 in
theorem chartularylaw07_MerkleRoots.vc : chartularylaw07_MerkleRoots.fd.vc tt Γ := ⟨fun d => by kernel_rfl, fun k d => by kernel_rfl, ⟨trivial, ⟨trivial, ⟨trivial, ⟨trivial, ⟨⟨trivial, ⟨⟨trivial, trivial, trivial⟩, trivial⟩, trivial⟩, ⟨⟨trivial, ⟨⟨⟨trivial, ⟨trivial, trivial⟩, trivial⟩, ⟨⟨trivial, ⟨trivial, ⟨⟨trivial, trivial, trivial⟩, trivial⟩, trivial⟩, trivial⟩, trivial, trivial⟩, trivial⟩, ⟨fun d => by kernel_rfl, fun k d => by kernel_rfl⟩⟩, trivial⟩, ⟨trivial, trivial, trivial⟩, trivial⟩, trivial⟩, trivial⟩, trivial⟩, trivial⟩, trivial⟩⟩
set_option maxRecDepth 100000 in
theorem chartularylaw07_MerkleRoots.ok : FnOk Try.prog tt Γ 5 chartularylaw07_MerkleRoots.fd := ⟨by kernel_rfl, by kernel_rfl, enters_ok (fn := Try.f5) (by kernel_rfl) (by kernel_rfl) (by kernel_rfl), chartularylaw07_MerkleRoots.forms, chartularylaw07_MerkleRoots.vc⟩

set_option maxRecDepth 100000 in
theorem merkle_New_v1.forms : merkle_New_v1.fd.formsOk = true := by kernel_rfl
set_option maxRecDepth 100000 in
theorem merkle_New_v1.vc : merkle_New_v1.fd.vc tt Γ := ⟨fun d => by kernel_rfl, fun k d => by kernel_rfl, ⟨trivial, ⟨⟨trivial, ⟨⟨trivial, trivial, trivial⟩, trivial⟩, trivial⟩, ⟨trivial, trivial, trivial⟩, trivial⟩, trivial⟩⟩
set_option maxRecDepth 100000 in
theorem merkle_New_v1.ok : FnOk Try.prog tt Γ 22 merkle_New_v1.fd := ⟨by kernel_rfl, by kernel_rfl, enters_ok (fn := Try.f22) (by kernel_rfl) (by kernel_rfl) (by kernel_rfl), merkle_New_v1.forms, merkle_New_v1.vc⟩

set_option maxRecDepth 100000 in
theorem merkle_Front_Root_v1.forms : merkle_Front_Root_v1.fd.formsOk = true := by kernel_rfl
set_option maxRecDepth 100000 in
theorem merkle_Front_Root_v1.vc : merkle_Front_Root_v1.fd.vc tt Γ := ⟨fun d => by kernel_rfl, fun k d => by kernel_rfl, ⟨trivial, ⟨⟨trivial, ⟨⟨trivial, trivial, trivial⟩, trivial⟩, trivial⟩, ⟨trivial, ⟨⟨trivial, ⟨⟨trivial, trivial, trivial⟩, trivial⟩, trivial⟩, ⟨trivial, ⟨⟨trivial, ⟨⟨⟨trivial, ⟨trivial, trivial⟩, trivial⟩, ⟨trivial, trivial, trivial⟩, trivial⟩, trivial⟩, trivial⟩, ⟨trivial, trivial, trivial⟩, trivial⟩, trivial⟩, trivial⟩, trivial⟩, trivial⟩, trivial⟩⟩
set_option maxRecDepth 100000 in
theorem merkle_Front_Root_v1.ok : FnOk Try.prog tt Γ 23 merkle_Front_Root_v1.fd := ⟨by kernel_rfl, by kernel_rfl, enters_ok (fn := Try.f23) (by kernel_rfl) (by kernel_rfl) (by kernel_rfl), merkle_Front_Root_v1.forms, merkle_Front_Root_v1.vc⟩

set_option maxRecDepth 100000 in
theorem merkle_Front_Add_v1.forms : merkle_Front_Add_v1.fd.formsOk = true := by kernel_rfl
set_option maxRecDepth 100000 in
theorem merkle_Front_Add_v1.vc : merkle_Front_Add_v1.fd.vc tt Γ := ⟨fun d => by kernel_rfl, fun k d => by kernel_rfl, ⟨⟨trivial, ⟨trivial, trivial⟩, trivial⟩, ⟨trivial, ⟨trivial, ⟨trivial, ⟨⟨⟨trivial, ⟨trivial, trivial⟩, trivial⟩, ⟨⟨trivial, trivial, trivial⟩, trivial, trivial⟩, trivial⟩, trivial⟩, trivial⟩, trivial⟩, trivial⟩, trivial⟩⟩
set_option maxRecDepth 100000 in
theorem merkle_Front_Add_v1.ok : FnOk Try.prog tt Γ 25 merkle_Front_Add_v1.fd := ⟨by kernel_rfl, by kernel_rfl, enters_ok (fn := Try.f25) (by kernel_rfl) (by kernel_rfl) (by kernel_rfl), merkle_Front_Add_v1.forms, merkle_Front_Add_v1.vc⟩

set_option maxRecDepth 100000 in
theorem merkle_Front_Size_v1.forms : merkle_Front_Size_v1.fd.formsOk = true := by kernel_rfl
set_option maxRecDepth 100000 in
theorem merkle_Front_Size_v1.vc : merkle_Front_Size_v1.fd.vc tt Γ := ⟨fun d => by kernel_rfl, fun k d => by kernel_rfl, ⟨trivial, ⟨⟨trivial, ⟨⟨trivial, trivial, trivial⟩, trivial⟩, trivial⟩, ⟨trivial, trivial, trivial⟩, trivial⟩, trivial⟩⟩
set_option maxRecDepth 100000 in
theorem merkle_Front_Size_v1.ok : FnOk Try.prog tt Γ 26 merkle_Front_Size_v1.fd := ⟨by kernel_rfl, by kernel_rfl, enters_ok (fn := Try.f26) (by kernel_rfl) (by kernel_rfl) (by kernel_rfl), merkle_Front_Size_v1.forms, merkle_Front_Size_v1.vc⟩

set_option maxRecDepth 100000 in
theorem chartularylaw07_MerkleNobody.forms : chartularylaw07_MerkleNobody.fd.formsOk = true := by kernel_rfl
set_option maxRecDepth 100000 in
theorem chartularylaw07_MerkleNobody.vc : chartularylaw07_MerkleNobody.fd.vc tt Γ := ⟨fun d => by kernel_rfl, fun k d => by kernel_rfl, ⟨trivial, ⟨trivial, ⟨trivial, ⟨trivial, trivial, trivial⟩, trivial⟩, trivial⟩, trivial⟩⟩
set_option maxRecDepth 100000 in
theorem chartularylaw07_MerkleNobody.ok : FnOk Try.prog tt Γ 6 chartularylaw07_MerkleNobody.fd := ⟨by kernel_rfl, by kernel_rfl, enters_ok (fn := Try.f6) (by kernel_rfl) (by kernel_rfl) (by kernel_rfl), chartularylaw07_MerkleNobody.forms, chartularylaw07_MerkleNobody.vc⟩

noncomputable def ents : Gam := []
theorem ents_ok : GamOk Try.prog ents := GamOk.nil
noncomputable def tab : Tab := [(11, mill_New.fd), (49, sha_New.fd), (56, bits_RotateLeft32.fd), (55, sha_turn.fd), (53, sha_words.fd), (54, sha_rounds.fd), (52, sha_State_mix.fd), (50, sha_State_Write.fd), (51, sha_State_Sum.fd), (47, sha_Sum.fd), (42, mill_name.fd), (43, mill_Mill_none.fd), (48, mill_Mill_note.fd), (41, mill_Mill_Sum.fd), (35, pledge_Leaf.fd), (12, chartularylaw07_Leaves.fd), (24, pledge_None.fd), (36, merkle_split.fd), (37, pledge_Node.fd), (18, merkle_Root.fd), (13, merkle_Path.fd), (14, chartularylaw07_awake.fd), (22, merkle_New.fd), (23, merkle_Front_Root.fd), (25, merkle_Front_Add.fd), (26, merkle_Front_Size.fd), (40, chartularylaw07_below.fd), (27, chartularylaw07_Root.fd), (5, chartularylaw07_MerkleRoots.fd), (22, merkle_New_v1.fd), (23, merkle_Front_Root_v1.fd), (25, merkle_Front_Add_v1.fd), (26, merkle_Front_Size_v1.fd), (6, chartularylaw07_MerkleNobody.fd)]
theorem Γ_eq (k : Nat) : Γ k = gamK tab k ++ ents := by kernel_rfl
theorem tt_ok : TTok Try.prog tt := ttB_ok (by kernel_rfl)
theorem mixed : Try.prog.follows .mixedOrders = true := by kernel_rfl
theorem tab_all : ∀ x ∈ tab, FnOk Try.prog tt Γ x.1 x.2 := by
  unfold tab
  simp only [List.forall_mem_cons]
  exact ⟨mill_New.ok, sha_New.ok, bits_RotateLeft32.ok, sha_turn.ok, sha_words.ok, sha_rounds.ok, sha_State_mix.ok, sha_State_Write.ok, sha_State_Sum.ok, sha_Sum.ok, mill_name.ok, mill_Mill_none.ok, mill_Mill_note.ok, mill_Mill_Sum.ok, pledge_Leaf.ok, chartularylaw07_Leaves.ok, pledge_None.ok, merkle_split.ok, pledge_Node.ok, merkle_Root.ok, merkle_Path.ok, chartularylaw07_awake.ok, merkle_New.ok, merkle_Front_Root.ok, merkle_Front_Add.ok, merkle_Front_Size.ok, chartularylaw07_below.ok, chartularylaw07_Root.ok, chartularylaw07_MerkleRoots.ok, merkle_New_v1.ok, merkle_Front_Root_v1.ok, merkle_Front_Add_v1.ok, merkle_Front_Size_v1.ok, chartularylaw07_MerkleNobody.ok, fun x h => nomatch h⟩
theorem chartularylaw07_MerkleRoots.spec (k : Nat) : SpecOk Try.prog 5 (chartularylaw07_MerkleRoots.fd.sp k) := spec_ok mixed tt_ok Γ_eq ents_ok tab_all (f := 5) (F := chartularylaw07_MerkleRoots.fd) (by unfold tab; simp only [List.mem_cons, true_or, or_true]) k
theorem chartularylaw07_MerkleNobody.spec (k : Nat) : SpecOk Try.prog 6 (chartularylaw07_MerkleNobody.fd.sp k) := spec_ok mixed tt_ok Γ_eq ents_ok tab_all (f := 6) (F := chartularylaw07_MerkleNobody.fd) (by unfold tab; simp only [List.mem_cons, true_or, or_true]) k

end Go.Proofs.Ytoceopdoedmgoaa.E
