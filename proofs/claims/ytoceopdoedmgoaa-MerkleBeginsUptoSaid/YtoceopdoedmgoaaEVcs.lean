import Derived.Test.YtoceopdoedmgoaaEDefs
import Derived.Test.YtoceopdoedmgoaaETab
namespace Go.Proofs.Ytoceopdoedmgoaa.E
open Go Go.Proofs.Ytoceopdoedmgoaa.Eng Go.Proofs
set_option maxRecDepth 100000 in
theorem mill_New.forms : mill_New.fd.formsOk = true := by kernel_rfl
set_option maxRecDepth 100000 in
theorem mill_New.vc : mill_New.fd.vc tt Γ := ⟨fun d => by kernel_rfl, fun k d => by kernel_rfl, ⟨trivial, ⟨trivial, trivial, trivial⟩, trivial⟩⟩
set_option maxRecDepth 100000 in
theorem mill_New.ok : FnOk Try.prog tt Γ 11 mill_New.fd := ⟨by kernel_rfl, by kernel_rfl, enters_ok (fn := Try.f11) (by kernel_rfl) (by kernel_rfl) (by kernel_rfl), mill_New.forms, mill_New.vc⟩

set_option maxRecDepth 100000 in
theorem sha_New.forms : sha_New.fd.formsOk = true := by kernel_rfl
set_option maxRecDepth 100000 in
theorem sha_New.vc : sha_New.fd.vc tt Γ := ⟨fun d => by kernel_rfl, fun k d => by kernel_rfl, ⟨trivial, ⟨trivial, trivial, trivial⟩, trivial⟩⟩
set_option maxRecDepth 100000 in
theorem sha_New.ok : FnOk Try.prog tt Γ 49 sha_New.fd := ⟨by kernel_rfl, by kernel_rfl, enters_ok (fn := Try.f49) (by kernel_rfl) (by kernel_rfl) (by kernel_rfl), sha_New.forms, sha_New.vc⟩

set_option maxRecDepth 100000 in
theorem bits_RotateLeft32.forms : bits_RotateLeft32.fd.formsOk = true := by kernel_rfl
set_option maxRecDepth 100000 in
theorem bits_RotateLeft32.vc : bits_RotateLeft32.fd.vc tt Γ := ⟨fun d => by kernel_rfl, fun k d => by kernel_rfl, ⟨trivial, ⟨trivial, ⟨trivial, trivial, trivial⟩, trivial⟩, trivial⟩⟩
set_option maxRecDepth 100000 in
theorem bits_RotateLeft32.ok : FnOk Try.prog tt Γ 56 bits_RotateLeft32.fd := ⟨by kernel_rfl, by kernel_rfl, enters_ok (fn := Try.f56) (by kernel_rfl) (by kernel_rfl) (by kernel_rfl), bits_RotateLeft32.forms, bits_RotateLeft32.vc⟩

set_option maxRecDepth 100000 in
theorem sha_turn.forms : sha_turn.fd.formsOk = true := by kernel_rfl
set_option maxRecDepth 100000 in
theorem sha_turn.vc : sha_turn.fd.vc tt Γ := ⟨fun d => by kernel_rfl, fun k d => by kernel_rfl, ⟨trivial, ⟨trivial, trivial, trivial⟩, trivial⟩⟩
set_option maxRecDepth 100000 in
theorem sha_turn.ok : FnOk Try.prog tt Γ 55 sha_turn.fd := ⟨by kernel_rfl, by kernel_rfl, enters_ok (fn := Try.f55) (by kernel_rfl) (by kernel_rfl) (by kernel_rfl), sha_turn.forms, sha_turn.vc⟩

set_option maxRecDepth 100000 in
theorem sha_words.forms : sha_words.fd.formsOk = true := by kernel_rfl
set_option maxRecDepth 100000 in
theorem sha_words.vc : sha_words.fd.vc tt Γ := ⟨fun d => by kernel_rfl, fun k d => by kernel_rfl, ⟨trivial, ⟨trivial, ⟨⟨trivial, ⟨⟨trivial, ⟨⟨trivial, trivial⟩, ⟨⟨trivial, trivial, trivial⟩, trivial, trivial⟩, trivial⟩, trivial⟩, ⟨fun d => by kernel_rfl, fun k d => by kernel_rfl⟩⟩, trivial⟩, ⟨⟨trivial, ⟨⟨⟨trivial, ⟨trivial, trivial⟩, trivial⟩, ⟨⟨trivial, trivial, trivial⟩, trivial, trivial⟩, trivial⟩, ⟨fun d => by kernel_rfl, fun k d => by kernel_rfl⟩⟩, trivial⟩, ⟨trivial, trivial, trivial⟩, trivial⟩, trivial⟩, trivial⟩, trivial⟩⟩
set_option maxRecDepth 100000 in
theorem sha_words.ok : FnOk Try.prog tt Γ 53 sha_words.fd := ⟨by kernel_rfl, by kernel_rfl, enters_ok (fn := Try.f53) (by kernel_rfl) (by kernel_rfl) (by kernel_rfl), sha_words.forms, sha_words.vc⟩

set_option maxRecDepth 100000 in
theorem sha_rounds.forms : sha_rounds.fd.formsOk = true := by kernel_rfl
set_option maxRecDepth 100000 in
theorem sha_rounds.vc : sha_rounds.fd.vc tt Γ := ⟨fun d => by kernel_rfl, fun k d => by kernel_rfl, ⟨trivial, ⟨trivial, trivial, trivial⟩, trivial⟩⟩
set_option maxRecDepth 100000 in
theorem sha_rounds.ok : FnOk Try.prog tt Γ 54 sha_rounds.fd := ⟨by kernel_rfl, by kernel_rfl, enters_ok (fn := Try.f54) (by kernel_rfl) (by kernel_rfl) (by kernel_rfl), sha_rounds.forms, sha_rounds.vc⟩

set_option maxRecDepth 100000 in
theorem sha_State_mix.forms : sha_State_mix.fd.formsOk = true := by kernel_rfl
set_option maxRecDepth 100000 in
theorem sha_State_mix.vc : sha_State_mix.fd.vc tt Γ := ⟨fun d => by kernel_rfl, fun k d => by kernel_rfl, ⟨trivial, ⟨trivial, ⟨⟨trivial, ⟨⟨trivial, ⟨⟨trivial, trivial⟩, ⟨⟨trivial, ⟨trivial, ⟨trivial, ⟨trivial, ⟨trivial, ⟨trivial, trivial, trivial⟩, trivial⟩, trivial⟩, trivial⟩, trivial⟩, trivial⟩, trivial, trivial⟩, trivial⟩, trivial⟩, ⟨fun d => by kernel_rfl, fun k d => by kernel_rfl⟩⟩, trivial⟩, ⟨trivial, ⟨⟨trivial, ⟨⟨trivial, trivial⟩, ⟨⟨trivial, trivial, trivial⟩, trivial, trivial⟩, trivial⟩, trivial⟩, ⟨fun d => by kernel_rfl, fun k d => by kernel_rfl⟩⟩, trivial⟩, trivial⟩, trivial⟩, trivial⟩⟩
set_option maxRecDepth 100000 in
theorem sha_State_mix.ok : FnOk Try.prog tt Γ 52 sha_State_mix.fd := ⟨by kernel_rfl, by kernel_rfl, enters_ok (fn := Try.f52) (by kernel_rfl) (by kernel_rfl) (by kernel_rfl), sha_State_mix.forms, sha_State_mix.vc⟩

set_option maxRecDepth 100000 in
theorem sha_State_Write.forms : sha_State_Write.fd.formsOk = true := by kernel_rfl
set_option maxRecDepth 100000 in
theorem sha_State_Write.vc : sha_State_Write.fd.vc tt Γ := ⟨fun d => by kernel_rfl, fun k d => by kernel_rfl, ⟨⟨trivial, ⟨trivial, trivial⟩, trivial⟩, ⟨trivial, ⟨trivial, ⟨⟨⟨⟨trivial, ⟨trivial, trivial⟩, trivial⟩, ⟨trivial, trivial, trivial⟩, trivial⟩, ⟨fun d => by kernel_rfl, fun k d => by kernel_rfl⟩⟩, trivial, trivial⟩, trivial⟩, trivial⟩, trivial⟩⟩
set_option maxRecDepth 100000 in
theorem sha_State_Write.ok : FnOk Try.prog tt Γ 50 sha_State_Write.fd := ⟨by kernel_rfl, by kernel_rfl, enters_ok (fn := Try.f50) (by kernel_rfl) (by kernel_rfl) (by kernel_rfl), sha_State_Write.forms, sha_State_Write.vc⟩

set_option maxRecDepth 100000 in
theorem sha_State_Sum.forms : sha_State_Sum.fd.formsOk = true := by kernel_rfl
set_option maxRecDepth 100000 in
theorem sha_State_Sum.vc : sha_State_Sum.fd.vc tt Γ := ⟨fun d => by kernel_rfl, fun k d => by kernel_rfl, ⟨trivial, ⟨⟨trivial, ⟨⟨trivial, trivial, trivial⟩, trivial⟩, trivial⟩, ⟨trivial, ⟨trivial, ⟨⟨⟨⟨trivial, ⟨trivial, trivial⟩, trivial⟩, trivial, trivial⟩, ⟨fun d => by kernel_rfl, fun k d => by kernel_rfl⟩⟩, ⟨⟨trivial, ⟨⟨trivial, ⟨⟨trivial, trivial⟩, ⟨⟨trivial, trivial, trivial⟩, trivial, trivial⟩, trivial⟩, trivial⟩, ⟨fun d => by kernel_rfl, fun k d => by kernel_rfl⟩⟩, trivial⟩, ⟨trivial, ⟨trivial, ⟨⟨trivial, ⟨⟨trivial, ⟨⟨trivial, trivial⟩, ⟨⟨trivial, trivial, trivial⟩, trivial, trivial⟩, trivial⟩, trivial⟩, ⟨fun d => by kernel_rfl, fun k d => by kernel_rfl⟩⟩, trivial⟩, ⟨trivial, trivial, trivial⟩, trivial⟩, trivial⟩, trivial⟩, trivial⟩, trivial⟩, trivial⟩, trivial⟩, trivial⟩, trivial⟩⟩
set_option maxRecDepth 100000 in
theorem sha_State_Sum.ok : FnOk Try.prog tt Γ 51 sha_State_Sum.fd := ⟨by kernel_rfl, by kernel_rfl, enters_ok (fn := Try.f51) (by kernel_rfl) (by kernel_rfl) (by kernel_rfl), sha_State_Sum.forms, sha_State_Sum.vc⟩

set_option maxRecDepth 100000 in
theorem sha_Sum.forms : sha_Sum.fd.formsOk = true := by kernel_rfl
set_option maxRecDepth 100000 in
theorem sha_Sum.vc : sha_Sum.fd.vc tt Γ := ⟨fun d => by kernel_rfl, fun k d => by kernel_rfl, ⟨trivial, ⟨trivial, ⟨trivial, ⟨trivial, trivial, trivial⟩, trivial⟩, trivial⟩, trivial⟩⟩
set_option maxRecDepth 100000 in
theorem sha_Sum.ok : FnOk Try.prog tt Γ 47 sha_Sum.fd := ⟨by kernel_rfl, by kernel_rfl, enters_ok (fn := Try.f47) (by kernel_rfl) (by kernel_rfl) (by kernel_rfl), sha_Sum.forms, sha_Sum.vc⟩

set_option maxRecDepth 100000 in
theorem mill_name.forms : mill_name.fd.formsOk = true := by kernel_rfl
set_option maxRecDepth 100000 in
theorem mill_name.vc : mill_name.fd.vc tt Γ := ⟨fun d => by kernel_rfl, fun k d => by kernel_rfl, ⟨trivial, ⟨⟨trivial, ⟨⟨trivial, trivial, trivial⟩, trivial⟩, trivial⟩, ⟨trivial, trivial, trivial⟩, trivial⟩, trivial⟩⟩
set_option maxRecDepth 100000 in
theorem mill_name.ok : FnOk Try.prog tt Γ 42 mill_name.fd := ⟨by kernel_rfl, by kernel_rfl, enters_ok (fn := Try.f42) (by kernel_rfl) (by kernel_rfl) (by kernel_rfl), mill_name.forms, mill_name.vc⟩

set_option maxRecDepth 100000 in
theorem mill_Mill_none.forms : mill_Mill_none.fd.formsOk = true := by kernel_rfl
set_option maxRecDepth 100000 in
theorem mill_Mill_none.vc : mill_Mill_none.fd.vc tt Γ := ⟨fun d => by kernel_rfl, fun k d => by kernel_rfl, ⟨trivial, ⟨trivial, trivial, trivial⟩, trivial⟩⟩
set_option maxRecDepth 100000 in
theorem mill_Mill_none.ok : FnOk Try.prog tt Γ 43 mill_Mill_none.fd := ⟨by kernel_rfl, by kernel_rfl, enters_ok (fn := Try.f43) (by kernel_rfl) (by kernel_rfl) (by kernel_rfl), mill_Mill_none.forms, mill_Mill_none.vc⟩

set_option maxRecDepth 100000 in
theorem mill_Mill_note.forms : mill_Mill_note.fd.formsOk = true := by kernel_rfl
set_option maxRecDepth 100000 in
theorem mill_Mill_note.vc : mill_Mill_note.fd.vc tt Γ := ⟨fun d => by kernel_rfl, fun k d => by kernel_rfl, ⟨trivial, ⟨trivial, ⟨trivial, ⟨trivial, ⟨trivial, ⟨trivial, ⟨trivial, ⟨trivial, trivial⟩, trivial⟩⟩, trivial⟩⟩, trivial⟩, trivial⟩, trivial⟩⟩
set_option maxRecDepth 100000 in
theorem mill_Mill_note.ok : FnOk Try.prog tt Γ 48 mill_Mill_note.fd := ⟨by kernel_rfl, by kernel_rfl, enters_ok (fn := Try.f48) (by kernel_rfl) (by kernel_rfl) (by kernel_rfl), mill_Mill_note.forms, mill_Mill_note.vc⟩

set_option maxRecDepth 100000 in
theorem mill_Mill_Sum.forms : mill_Mill_Sum.fd.formsOk = true := by kernel_rfl
set_option maxRecDepth 100000 in
theorem mill_Mill_Sum.vc : mill_Mill_Sum.fd.vc tt Γ := ⟨fun d => by kernel_rfl, fun k d => by kernel_rfl, ⟨trivial, ⟨⟨trivial, ⟨⟨trivial, trivial, trivial⟩, trivial⟩, trivial⟩, ⟨trivial, ⟨⟨trivial, ⟨trivial, trivial⟩, trivial⟩, ⟨trivial, ⟨trivial, trivial, trivial⟩, trivial⟩, trivial⟩, trivial⟩, trivial⟩, trivial⟩⟩
set_option maxRecDepth 100000 in
theorem mill_Mill_Sum.ok : FnOk Try.prog tt Γ 41 mill_Mill_Sum.fd := ⟨by kernel_rfl, by kernel_rfl, enters_ok (fn := Try.f41) (by kernel_rfl) (by kernel_rfl) (by kernel_rfl), mill_Mill_Sum.forms, mill_Mill_Sum.vc⟩

set_option maxRecDepth 100000 in
theorem pledge_Leaf.forms : pledge_Leaf.fd.formsOk = true := by kernel_rfl
set_option maxRecDepth 100000 in
theorem pledge_Leaf.vc : pledge_Leaf.fd.vc tt Γ := ⟨fun d => by kernel_rfl, fun k d => by kernel_rfl, ⟨trivial, ⟨trivial, trivial, trivial⟩, trivial⟩⟩
set_option maxRecDepth 100000 in
theorem pledge_Leaf.ok : FnOk Try.prog tt Γ 35 pledge_Leaf.fd := ⟨by kernel_rfl, by kernel_rfl, enters_ok (fn := Try.f35) (by kernel_rfl) (by kernel_rfl) (by kernel_rfl), pledge_Leaf.forms, pledge_Leaf.vc⟩

set_option maxRecDepth 100000 in
theorem chartularylaw07_Leaves.forms : chartularylaw07_Leaves.fd.formsOk = true := by kernel_rfl
set_option maxRecDepth 100000 in
theorem chartularylaw07_Leaves.vc : chartularylaw07_Leaves.fd.vc tt Γ := ⟨fun d => by kernel_rfl, fun k d => by kernel_rfl, ⟨trivial, ⟨trivial, ⟨⟨trivial, ⟨⟨⟨trivial, ⟨trivial, trivial⟩, trivial⟩, ⟨⟨trivial, ⟨⟨trivial, ⟨trivial, trivial⟩, trivial⟩, trivial, trivial⟩, trivial⟩, trivial, trivial⟩, trivial⟩, ⟨fun d => by kernel_rfl, fun k d => by kernel_rfl⟩⟩, trivial⟩, ⟨trivial, trivial, trivial⟩, trivial⟩, trivial⟩, trivial⟩⟩
set_option maxRecDepth 100000 in
theorem chartularylaw07_Leaves.ok : FnOk Try.prog tt Γ 12 chartularylaw07_Leaves.fd := ⟨by kernel_rfl, by kernel_rfl, enters_ok (fn := Try.f12) (by kernel_rfl) (by kernel_rfl) (by kernel_rfl), chartularylaw07_Leaves.forms, chartularylaw07_Leaves.vc⟩

set_option maxRecDepth 100000 in
theorem pledge_None.forms : pledge_None.fd.formsOk = true := by kernel_rfl
set_option maxRecDepth 100000 in
theorem pledge_None.vc : pledge_None.fd.vc tt Γ := ⟨fun d => by kernel_rfl, fun k d => by kernel_rfl, ⟨trivial, ⟨trivial, trivial, trivial⟩, trivial⟩⟩
set_option maxRecDepth 100000 in
theorem pledge_None.ok : FnOk Try.prog tt Γ 24 pledge_None.fd := ⟨by kernel_rfl, by kernel_rfl, enters_ok (fn := Try.f24) (by kernel_rfl) (by kernel_rfl) (by kernel_rfl), pledge_None.forms, pledge_None.vc⟩

set_option maxRecDepth 100000 in
theorem merkle_split.forms : merkle_split.fd.formsOk = true := by kernel_rfl
set_option maxRecDepth 100000 in
theorem merkle_split.vc : merkle_split.fd.vc tt Γ := ⟨fun d => by kernel_rfl, fun k d => by kernel_rfl, ⟨trivial, ⟨trivial, ⟨⟨⟨⟨trivial, ⟨trivial, trivial⟩, trivial⟩, trivial, trivial⟩, ⟨fun d => by kernel_rfl, fun k d => by kernel_rfl⟩⟩, ⟨trivial, trivial, trivial⟩, trivial⟩, trivial⟩, trivial⟩⟩
set_option maxRecDepth 100000 in
theorem merkle_split.ok : FnOk Try.prog tt Γ 36 merkle_split.fd := ⟨by kernel_rfl, by kernel_rfl, enters_ok (fn := Try.f36) (by kernel_rfl) (by kernel_rfl) (by kernel_rfl), merkle_split.forms, merkle_split.vc⟩

set_option maxRecDepth 100000 in
theorem pledge_Node.forms : pledge_Node.fd.formsOk = true := by kernel_rfl
set_option maxRecDepth 100000 in
theorem pledge_Node.vc : pledge_Node.fd.vc tt Γ := ⟨fun d => by kernel_rfl, fun k d => by kernel_rfl, ⟨trivial, ⟨trivial, trivial, trivial⟩, trivial⟩⟩
set_option maxRecDepth 100000 in
theorem pledge_Node.ok : FnOk Try.prog tt Γ 37 pledge_Node.fd := ⟨by kernel_rfl, by kernel_rfl, enters_ok (fn := Try.f37) (by kernel_rfl) (by kernel_rfl) (by kernel_rfl), pledge_Node.forms, pledge_Node.vc⟩

set_option maxRecDepth 100000 in
theorem merkle_Root.forms : merkle_Root.fd.formsOk = true := by kernel_rfl
set_option maxRecDepth 100000 in
theorem merkle_Root.vc : merkle_Root.fd.vc tt Γ := ⟨fun d => by kernel_rfl, fun k d => by kernel_rfl, ⟨trivial, ⟨⟨trivial, ⟨trivial, ⟨⟨trivial, trivial, trivial⟩, ⟨trivial, ⟨⟨trivial, trivial, trivial⟩, trivial⟩, trivial⟩⟩, trivial⟩, trivial⟩, ⟨trivial, ⟨trivial, trivial, trivial⟩, trivial⟩, trivial⟩, trivial⟩⟩
set_option maxRecDepth 100000 in
theorem merkle_Root.ok : FnOk Try.prog tt Γ 18 merkle_Root.fd := ⟨by kernel_rfl, by kernel_rfl, enters_ok (fn := Try.f18) (by kernel_rfl) (by kernel_rfl) (by kernel_rfl), merkle_Root.forms, merkle_Root.vc⟩

set_option maxRecDepth 100000 in
theorem merkle_Path.forms : merkle_Path.fd.formsOk = true := by kernel_rfl
set_option maxRecDepth 100000 in
theorem merkle_Path.vc : merkle_Path.fd.vc tt Γ := ⟨fun d => by kernel_rfl, fun k d => by kernel_rfl, ⟨trivial, ⟨⟨trivial, ⟨⟨trivial, trivial, trivial⟩, trivial⟩, trivial⟩, ⟨⟨trivial, ⟨⟨trivial, trivial, trivial⟩, trivial⟩, trivial⟩, ⟨trivial, ⟨⟨trivial, ⟨⟨trivial, ⟨trivial, trivial, trivial⟩, trivial⟩, trivial⟩, trivial⟩, ⟨trivial, ⟨trivial, trivial, trivial⟩, trivial⟩, trivial⟩, trivial⟩, trivial⟩, ⟨fun d => by kernel_rfl, fun k d => by kernel_rfl⟩⟩, trivial⟩⟩
set_option maxRecDepth 100000 in
theorem merkle_Path.ok : FnOk Try.prog tt Γ 13 merkle_Path.fd := ⟨by kernel_rfl, by kernel_rfl, enters_ok (fn := Try.f13) (by kernel_rfl) (by kernel_rfl) (by kernel_rfl), merkle_Path.forms, merkle_Path.vc⟩

set_option maxRecDepth 100000 in
theorem chartularylaw07_awake.forms : chartularylaw07_awake.fd.formsOk = true := by kernel_rfl
set_option maxRecDepth 100000 in
theorem chartularylaw07_awake.vc : chartularylaw07_awake.fd.vc tt Γ := ⟨fun d => by kernel_rfl, fun k d => by kernel_rfl, ⟨trivial, ⟨trivial, ⟨trivial, ⟨trivial, ⟨trivial, trivial, trivial⟩, trivial⟩, trivial⟩, trivial⟩, trivial⟩⟩
set_option maxRecDepth 100000 in
theorem chartularylaw07_awake.ok : FnOk Try.prog tt Γ 14 chartularylaw07_awake.fd := ⟨by kernel_rfl, by kernel_rfl, enters_ok (fn := Try.f14) (by kernel_rfl) (by kernel_rfl) (by kernel_rfl), chartularylaw07_awake.forms, chartularylaw07_awake.vc⟩

set_option maxRecDepth 100000 in
theorem merkle_sums.forms : merkle_sums.fd.formsOk = true := by kernel_rfl
set_option maxRecDepth 100000 in
theorem merkle_sums.vc : merkle_sums.fd.vc tt Γ := ⟨fun d => by kernel_rfl, fun k d => by kernel_rfl, ⟨trivial, ⟨⟨trivial, ⟨⟨trivial, ⟨⟨trivial, trivial⟩, ⟨⟨trivial, ⟨trivial, ⟨⟨trivial, trivial, trivial⟩, trivial⟩, trivial⟩, trivial⟩, trivial, trivial⟩, trivial⟩, trivial⟩, ⟨fun d => by kernel_rfl, fun k d => by kernel_rfl⟩⟩, trivial⟩, ⟨trivial, trivial, trivial⟩, trivial⟩, trivial⟩⟩
set_option maxRecDepth 100000 in
theorem merkle_sums.ok : FnOk Try.prog tt Γ 38 merkle_sums.fd := ⟨by kernel_rfl, by kernel_rfl, enters_ok (fn := Try.f38) (by kernel_rfl) (by kernel_rfl) (by kernel_rfl), merkle_sums.forms, merkle_sums.vc⟩

set_option maxRecDepth 100000 in
theorem merkle_climb.forms : merkle_climb.fd.formsOk = true := by kernel_rfl
set_option maxRecDepth 100000 in
theorem merkle_climb.vc : merkle_climb.fd.vc tt Γ := ⟨fun d => by kernel_rfl, fun k d => by kernel_rfl, ⟨trivial, ⟨⟨trivial, ⟨⟨trivial, trivial, trivial⟩, trivial⟩, trivial⟩, ⟨⟨trivial, ⟨⟨trivial, trivial, trivial⟩, trivial⟩, trivial⟩, ⟨trivial, ⟨⟨trivial, ⟨⟨trivial, ⟨trivial, trivial, trivial⟩, trivial⟩, trivial⟩, trivial⟩, ⟨trivial, ⟨trivial, trivial, trivial⟩, trivial⟩, trivial⟩, trivial⟩, trivial⟩, trivial⟩, trivial⟩⟩
set_option maxRecDepth 100000 in
theorem merkle_climb.ok : FnOk Try.prog tt Γ 39 merkle_climb.fd := ⟨by kernel_rfl, by kernel_rfl, enters_ok (fn := Try.f39) (by kernel_rfl) (by kernel_rfl) (by kernel_rfl), merkle_climb.forms, merkle_climb.vc⟩

set_option maxRecDepth 100000 in
theorem merkle_Climb.forms : merkle_Climb.fd.formsOk = true := by kernel_rfl
set_option maxRecDepth 100000 in
theorem merkle_Climb.vc : merkle_Climb.fd.vc tt Γ := ⟨fun d => by kernel_rfl, fun k d => by kernel_rfl, ⟨trivial, ⟨⟨trivial, ⟨⟨trivial, trivial, trivial⟩, ⟨trivial, ⟨⟨trivial, trivial, trivial⟩, trivial⟩, trivial⟩⟩, trivial⟩, ⟨trivial, ⟨⟨trivial, ⟨⟨trivial, trivial, trivial⟩, trivial⟩, trivial⟩, ⟨trivial, trivial, trivial⟩, trivial⟩, trivial⟩, ⟨fun d => by kernel_rfl, fun k d => by kernel_rfl⟩⟩, trivial⟩⟩
set_option maxRecDepth 100000 in
theorem merkle_Climb.ok : FnOk Try.prog tt Γ 15 merkle_Climb.fd := ⟨by kernel_rfl, by kernel_rfl, enters_ok (fn := Try.f15) (by kernel_rfl) (by kernel_rfl) (by kernel_rfl), merkle_Climb.forms, merkle_Climb.vc⟩

set_option maxRecDepth 100000 in
theorem chartularylaw07_same.forms : chartularylaw07_same.fd.formsOk = true := by kernel_rfl
set_option maxRecDepth 100000 in
theorem chartularylaw07_same.vc : chartularylaw07_same.fd.vc tt Γ := ⟨fun d => by kernel_rfl, fun k d => by kernel_rfl, ⟨trivial, ⟨⟨trivial, ⟨⟨trivial, trivial, trivial⟩, trivial⟩, trivial⟩, ⟨⟨trivial, ⟨⟨⟨trivial, ⟨trivial, trivial⟩, trivial⟩, ⟨⟨trivial, ⟨⟨trivial, trivial, trivial⟩, trivial⟩, trivial⟩, trivial, trivial⟩, trivial⟩, ⟨fun d => by kernel_rfl, fun k d => by kernel_rfl⟩⟩, trivial⟩, ⟨trivial, trivial, trivial⟩, trivial⟩, trivial⟩, trivial⟩⟩
set_option maxRecDepth 100000 in
theorem chartularylaw07_same.ok : FnOk Try.prog tt Γ 16 chartularylaw07_same.fd := ⟨by kernel_rfl, by kernel_rfl, enters_ok (fn := Try.f16) (by kernel_rfl) (by kernel_rfl) (by kernel_rfl), chartularylaw07_same.forms, chartularylaw07_same.vc⟩

set_option maxRecDepth 100000 in
theorem chartularylaw07_below.forms : chartularylaw07_below.fd.formsOk = true := by kernel_rfl
set_option maxRecDepth 100000 in
theorem chartularylaw07_below.vc : chartularylaw07_below.fd.vc tt Γ := ⟨fun d => by kernel_rfl, fun k d => by kernel_rfl, ⟨trivial, ⟨trivial, ⟨⟨⟨⟨trivial, ⟨trivial, trivial⟩, trivial⟩, trivial, trivial⟩, ⟨fun d => by kernel_rfl, fun k d => by kernel_rfl⟩⟩, ⟨trivial, trivial, trivial⟩, trivial⟩, trivial⟩, trivial⟩⟩
set_option maxRecDepth 100000 in
theorem chartularylaw07_below.ok : FnOk Try.prog tt Γ 40 chartularylaw07_below.fd := ⟨by kernel_rfl, by kernel_rfl, enters_ok (fn := Try.f40) (by kernel_rfl) (by kernel_rfl) (by kernel_rfl), chartularylaw07_below.forms, chartularylaw07_below.vc⟩

set_option maxRecDepth 100000 in
theorem chartularylaw07_Root.forms : chartularylaw07_Root.fd.formsOk = true := by kernel_rfl
set_option maxRecDepth 100000 in
theorem chartularylaw07_Root.vc : chartularylaw07_Root.fd.vc tt Γ := ⟨fun d => by kernel_rfl, fun k d => by kernel_rfl, ⟨trivial, ⟨⟨trivial, ⟨⟨trivial, trivial, trivial⟩, trivial⟩, trivial⟩, ⟨⟨trivial, ⟨⟨trivial, trivial, trivial⟩, trivial⟩, trivial⟩, ⟨trivial, ⟨trivial, trivial, trivial⟩, trivial⟩, trivial⟩, trivial⟩, trivial⟩⟩
set_option maxRecDepth 100000 in
theorem chartularylaw07_Root.ok : FnOk Try.prog tt Γ 27 chartularylaw07_Root.fd := ⟨by kernel_rfl, by kernel_rfl, enters_ok (fn := Try.f27) (by kernel_rfl) (by kernel_rfl) (by kernel_rfl), chartularylaw07_Root.forms, chartularylaw07_Root.vc⟩

set_option maxRecDepth 100000 in
theorem chartularylaw07_Path.forms : chartularylaw07_Path.fd.formsOk = true := by kernel_rfl
set_option maxRecDepth 100000 in
theorem chartularylaw07_Path.vc : chartularylaw07_Path.fd.vc tt Γ := ⟨fun d => by kernel_rfl, fun k d => by kernel_rfl, ⟨trivial, ⟨⟨trivial, ⟨⟨trivial, trivial, trivial⟩, trivial⟩, trivial⟩, ⟨trivial, ⟨⟨trivial, ⟨⟨trivial, ⟨trivial, trivial, trivial⟩, trivial⟩, trivial⟩, trivial⟩, ⟨trivial, ⟨trivial, trivial, trivial⟩, trivial⟩, trivial⟩, trivial⟩, trivial⟩, trivial⟩⟩
set_option maxRecDepth 100000 in
theorem chartularylaw07_Path.ok : FnOk Try.prog tt Γ 17 chartularylaw07_Path.fd := ⟨by kernel_rfl, by kernel_rfl, enters_ok (fn := Try.f17) (by kernel_rfl) (by kernel_rfl) (by kernel_rfl), chartularylaw07_Path.forms, chartularylaw07_Path.vc⟩

set_option maxRecDepth 100000 in
theorem chartularylaw07_MerklePaths.forms : chartularylaw07_MerklePaths.fd.formsOk = true := by kernel_rfl
set_option maxRecDepth 100000 in
theorem chartularylaw07_MerklePaths.vc : chartularylaw07_MerklePaths.fd.vc tt Γ := ⟨fun d => by kernel_rfl, fun k d => by kernel_rfl, ⟨trivial, ⟨trivial, ⟨trivial, ⟨trivial, ⟨⟨trivial, ⟨⟨trivial, trivial, trivial⟩, trivial⟩, ⟨fun d => by kernel_rfl, fun k d => by kernel_rfl⟩⟩, ⟨trivial, ⟨trivial, trivial, trivial⟩, trivial⟩, trivial⟩, trivial⟩, trivial⟩, trivial⟩, trivial⟩⟩
set_option maxRecDepth 100000 in
theorem chartularylaw07_MerklePaths.ok : FnOk Try.prog tt Γ 3 chartularylaw07_MerklePaths.fd := ⟨by kernel_rfl, by kernel_rfl, enters_ok (fn := Try.f3) (by kernel_rfl) (by kernel_rfl) (by kernel_rfl), chartularylaw07_MerklePaths.forms, chartularylaw07_MerklePaths.vc⟩

set_option maxRecDepth 100000 in
theorem chartularylaw07_sums.forms : chartularylaw07_sums.fd.formsOk = true := by kernel_rfl
set_option maxRecDepth 100000 in
theorem chartularylaw07_sums.vc : chartularylaw07_sums.fd.vc tt Γ := ⟨fun d => by kernel_rfl, fun k d => by kernel_rfl, ⟨trivial, ⟨⟨trivial, ⟨⟨⟨trivial, ⟨trivial, trivial⟩, trivial⟩, ⟨⟨trivial, ⟨⟨trivial, trivial, trivial⟩, trivial⟩, trivial⟩, trivial, trivial⟩, trivial⟩, ⟨fun d => by kernel_rfl, fun k d => by kernel_rfl⟩⟩, trivial⟩, ⟨trivial, trivial, trivial⟩, trivial⟩, trivial⟩⟩
set_option maxRecDepth 100000 in
theorem chartularylaw07_sums.ok : FnOk Try.prog tt Γ 19 chartularylaw07_sums.fd := ⟨by kernel_rfl, by kernel_rfl, enters_ok (fn := Try.f19) (by kernel_rfl) (by kernel_rfl) (by kernel_rfl), chartularylaw07_sums.forms, chartularylaw07_sums.vc⟩

set_option maxRecDepth 100000 in
theorem chartularylaw07_Depth.forms : chartularylaw07_Depth.fd.formsOk = true := by kernel_rfl
set_option maxRecDepth 100000 in
theorem chartularylaw07_Depth.vc : chartularylaw07_Depth.fd.vc tt Γ := ⟨fun d => by kernel_rfl, fun k d => by kernel_rfl, ⟨trivial, ⟨trivial, ⟨⟨⟨⟨trivial, ⟨trivial, trivial⟩, trivial⟩, ⟨trivial, ⟨⟨trivial, ⟨trivial, ⟨trivial, trivial, trivial⟩⟩, trivial⟩, trivial, trivial⟩, trivial⟩, trivial⟩, ⟨fun d => by kernel_rfl, fun k d => by kernel_rfl⟩⟩, ⟨trivial, trivial, trivial⟩, trivial⟩, trivial⟩, trivial⟩⟩
set_option maxRecDepth 100000 in
theorem chartularylaw07_Depth.ok : FnOk Try.prog tt Γ 20 chartularylaw07_Depth.fd := ⟨by kernel_rfl, by kernel_rfl, enters_ok (fn := Try.f20) (by kernel_rfl) (by kernel_rfl) (by kernel_rfl), chartularylaw07_Depth.forms, chartularylaw07_Depth.vc⟩

set_option maxRecDepth 100000 in
theorem chartularylaw07_Climb.forms : chartularylaw07_Climb.fd.formsOk = true := by kernel_rfl
set_option maxRecDepth 100000 in
theorem chartularylaw07_Climb.vc : chartularylaw07_Climb.fd.vc tt Γ := ⟨fun d => by kernel_rfl, fun k d => by kernel_rfl, ⟨trivial, ⟨⟨trivial, ⟨⟨trivial, trivial, trivial⟩, trivial⟩, trivial⟩, ⟨trivial, ⟨trivial, ⟨trivial, ⟨⟨trivial, ⟨⟨trivial, trivial, trivial⟩, trivial⟩, trivial⟩, ⟨trivial, trivial, trivial⟩, trivial⟩, trivial⟩, trivial⟩, trivial⟩, ⟨fun d => by kernel_rfl, fun k d => by kernel_rfl⟩⟩, trivial⟩⟩
set_option maxRecDepth 100000 in
theorem chartularylaw07_Climb.ok : FnOk Try.prog tt Γ 21 chartularylaw07_Climb.fd := ⟨by kernel_rfl, by kernel_rfl, enters_ok (fn := Try.f21) (by kernel_rfl) (by kernel_rfl) (by kernel_rfl), chartularylaw07_Climb.forms, chartularylaw07_Climb.vc⟩

set_option maxRecDepth 100000 in
theorem chartularylaw07_MerkleClimbs.forms : chartularylaw07_MerkleClimbs.fd.formsOk = true := by kernel_rfl
set_option maxRecDepth 100000 in
theorem chartularylaw07_MerkleClimbs.vc : chartularylaw07_MerkleClimbs.fd.vc tt Γ := ⟨fun d => by kernel_rfl, fun k d => by kernel_rfl, ⟨trivial, ⟨trivial, ⟨⟨trivial, ⟨trivial, trivial⟩, trivial⟩, ⟨trivial, ⟨⟨trivial, ⟨⟨trivial, trivial, trivial⟩, trivial⟩, trivial⟩, ⟨⟨trivial, ⟨⟨trivial, trivial, trivial⟩, trivial⟩, ⟨fun d => by kernel_rfl, fun k d => by kernel_rfl⟩⟩, ⟨trivial, trivial, trivial⟩, trivial⟩, trivial⟩, trivial⟩, ⟨fun d => by kernel_rfl, fun k d => by kernel_rfl⟩⟩, trivial⟩, trivial⟩⟩
set_option maxRecDepth 100000 in
theorem chartularylaw07_MerkleClimbs.ok : FnOk Try.prog tt Γ 4 chartularylaw07_MerkleClimbs.fd := ⟨by kernel_rfl, by kernel_rfl, enters_ok (fn := Try.f4) (by kernel_rfl) (by kernel_rfl) (by kernel_rfl), chartularylaw07_MerkleClimbs.forms, chartularylaw07_MerkleClimbs.vc⟩

set_option maxRecDepth 100000 in
theorem mill_With_has.forms : mill_With_has.fd.formsOk = true := by kernel_rfl
set_option maxRecDepth 100000 in
theorem mill_With_has.vc : mill_With_has.fd.vc tt Γ := ⟨fun d => by kernel_rfl, fun k d => by kernel_rfl, ⟨trivial, ⟨trivial, ⟨⟨trivial, ⟨⟨trivial, ⟨⟨trivial, trivial⟩, ⟨⟨trivial, ⟨⟨trivial, ⟨⟨trivial, trivial, trivial⟩, trivial⟩, trivial⟩, ⟨trivial, ⟨trivial, ⟨trivial, ⟨trivial, trivial⟩, trivial⟩, trivial⟩, trivial⟩, trivial⟩, trivial⟩, trivial, trivial⟩, trivial⟩, trivial⟩, ⟨fun d => by kernel_rfl, fun k d => by kernel_rfl⟩⟩, trivial⟩, ⟨trivial, trivial, trivial⟩, trivial⟩, trivial⟩, trivial⟩⟩
set_option maxRecDepth 100000 in
theorem mill_With_has.ok : FnOk Try.prog tt Γ 28 mill_With_has.fd := ⟨by kernel_rfl, by kernel_rfl, enters_ok (fn := Try.f28) (by kernel_rfl) (by kernel_rfl) (by kernel_rfl), mill_With_has.forms, mill_With_has.vc⟩

set_option maxRecDepth 100000 in
theorem mill_With_nil.forms : mill_With_nil.fd.formsOk = true := by kernel_rfl
set_option maxRecDepth 100000 in
theorem mill_With_nil.vc : mill_With_nil.fd.vc tt Γ := ⟨fun d => by kernel_rfl, fun k d => by kernel_rfl, ⟨trivial, ⟨trivial, ⟨⟨trivial, ⟨⟨trivial, ⟨⟨trivial, trivial⟩, ⟨⟨trivial, ⟨⟨trivial, ⟨⟨trivial, trivial, trivial⟩, trivial⟩, trivial⟩, ⟨trivial, ⟨trivial, ⟨trivial, ⟨trivial, trivial⟩, trivial⟩, trivial⟩, trivial⟩, trivial⟩, trivial⟩, trivial, trivial⟩, trivial⟩, trivial⟩, ⟨fun d => by kernel_rfl, fun k d => by kernel_rfl⟩⟩, trivial⟩, ⟨trivial, trivial, trivial⟩, trivial⟩, trivial⟩, trivial⟩⟩
set_option maxRecDepth 100000 in
theorem mill_With_nil.ok : FnOk Try.prog tt Γ 28 mill_With_nil.fd := ⟨by kernel_rfl, by kernel_rfl, enters_ok (fn := Try.f28) (by kernel_rfl) (by kernel_rfl) (by kernel_rfl), mill_With_nil.forms, mill_With_nil.vc⟩

set_option maxRecDepth 100000 in
theorem mill_Mill_Twins.forms : mill_Mill_Twins.fd.formsOk = true := by kernel_rfl
set_option maxRecDepth 100000 in
theorem mill_Mill_Twins.vc : mill_Mill_Twins.fd.vc tt Γ := ⟨fun d => by kernel_rfl, fun k d => by kernel_rfl, ⟨trivial, ⟨⟨trivial, ⟨⟨trivial, trivial, trivial⟩, trivial⟩, trivial⟩, ⟨trivial, trivial, trivial⟩, trivial⟩, trivial⟩⟩
set_option maxRecDepth 100000 in
theorem mill_Mill_Twins.ok : FnOk Try.prog tt Γ 29 mill_Mill_Twins.fd := ⟨by kernel_rfl, by kernel_rfl, enters_ok (fn := Try.f29) (by kernel_rfl) (by kernel_rfl) (by kernel_rfl), mill_Mill_Twins.forms, mill_Mill_Twins.vc⟩

set_option maxRecDepth 100000 in
theorem chartularylaw07_MerkleLeaf.forms : chartularylaw07_MerkleLeaf.fd.formsOk = true := by kernel_rfl
set_option maxRecDepth 100000 in
theorem chartularylaw07_MerkleLeaf.vc : chartularylaw07_MerkleLeaf.fd.vc tt Γ := ⟨fun d => by kernel_rfl, fun k d => by kernel_rfl, ⟨trivial, ⟨⟨trivial, ⟨trivial, trivial⟩, trivial⟩, ⟨trivial, ⟨⟨trivial, ⟨⟨trivial, trivial, trivial⟩, trivial⟩, trivial⟩, ⟨trivial, ⟨trivial, ⟨trivial, ⟨trivial, trivial, trivial⟩, trivial⟩, trivial⟩, trivial⟩, trivial⟩, trivial⟩, ⟨fun d => by kernel_rfl, fun k d => by kernel_rfl⟩⟩, trivial⟩⟩
set_option maxRecDepth 100000 in
theorem chartularylaw07_MerkleLeaf.ok : FnOk Try.prog tt Γ 7 chartularylaw07_MerkleLeaf.fd := ⟨by kernel_rfl, by kernel_rfl, enters_ok (fn := Try.f7) (by kernel_rfl) (by kernel_rfl) (by kernel_rfl), chartularylaw07_MerkleLeaf.forms, chartularylaw07_MerkleLeaf.vc⟩

set_option maxRecDepth 100000 in
theorem chartularylaw07_Long.forms : chartularylaw07_Long.fd.formsOk = true := by kernel_rfl
set_option maxRecDepth 100000 in
theorem chartularylaw07_Long.vc : chartularylaw07_Long.fd.vc tt Γ := ⟨fun d => by kernel_rfl, fun k d => by kernel_rfl, ⟨trivial, ⟨⟨trivial, ⟨⟨trivial, trivial, trivial⟩, trivial⟩, trivial⟩, ⟨⟨trivial, ⟨⟨trivial, trivial, trivial⟩, trivial⟩, trivial⟩, ⟨trivial, ⟨⟨trivial, ⟨⟨trivial, trivial, trivial⟩, trivial⟩, trivial⟩, ⟨trivial, trivial, trivial⟩, trivial⟩, trivial⟩, trivial⟩, trivial⟩, trivial⟩⟩
set_option maxRecDepth 100000 in
theorem chartularylaw07_Long.ok : FnOk Try.prog tt Γ 30 chartularylaw07_Long.fd := ⟨by kernel_rfl, by kernel_rfl, enters_ok (fn := Try.f30) (by kernel_rfl) (by kernel_rfl) (by kernel_rfl), chartularylaw07_Long.forms, chartularylaw07_Long.vc⟩

set_option maxRecDepth 100000 in
theorem chartularylaw07_Both.forms : chartularylaw07_Both.fd.formsOk = true := by kernel_rfl
set_option maxRecDepth 100000 in
theorem chartularylaw07_Both.vc : chartularylaw07_Both.fd.vc tt Γ := ⟨fun d => by kernel_rfl, fun k d => by kernel_rfl, ⟨trivial, ⟨⟨trivial, ⟨⟨trivial, trivial, trivial⟩, trivial⟩, trivial⟩, ⟨trivial, ⟨⟨trivial, ⟨⟨trivial, trivial, trivial⟩, trivial⟩, trivial⟩, ⟨trivial, ⟨trivial, ⟨⟨trivial, ⟨⟨trivial, ⟨trivial, trivial, trivial⟩, trivial⟩, trivial⟩, trivial⟩, ⟨trivial, ⟨trivial, trivial, trivial⟩, trivial⟩, trivial⟩, trivial⟩, trivial⟩, trivial⟩, trivial⟩, ⟨fun d => by kernel_rfl, fun k d => by kernel_rfl⟩⟩, trivial⟩⟩
set_option maxRecDepth 100000 in
theorem chartularylaw07_Both.ok : FnOk Try.prog tt Γ 31 chartularylaw07_Both.fd := ⟨by kernel_rfl, by kernel_rfl, enters_ok (fn := Try.f31) (by kernel_rfl) (by kernel_rfl) (by kernel_rfl), chartularylaw07_Both.forms, chartularylaw07_Both.vc⟩

set_option maxRecDepth 100000 in
theorem merkle_both.forms : merkle_both.fd.formsOk = true := by kernel_rfl
set_option maxRecDepth 100000 in
theorem merkle_both.vc : merkle_both.fd.vc tt Γ := ⟨fun d => by kernel_rfl, fun k d => by kernel_rfl, ⟨trivial, ⟨⟨trivial, ⟨⟨⟨trivial, ⟨⟨trivial, trivial, trivial⟩, trivial⟩, trivial⟩, ⟨⟨trivial, ⟨⟨trivial, trivial, trivial⟩, trivial⟩, trivial⟩, ⟨trivial, trivial, trivial⟩, trivial⟩, trivial⟩, trivial⟩, trivial⟩, ⟨⟨trivial, ⟨⟨trivial, trivial, trivial⟩, trivial⟩, trivial⟩, ⟨trivial, ⟨⟨trivial, ⟨⟨trivial, ⟨trivial, trivial, trivial⟩, trivial⟩, trivial⟩, trivial⟩, ⟨trivial, ⟨trivial, trivial, trivial⟩, trivial⟩, trivial⟩, trivial⟩, trivial⟩, trivial⟩, trivial⟩⟩
set_option maxRecDepth 100000 in
theorem merkle_both.ok : FnOk Try.prog tt Γ 44 merkle_both.fd := ⟨by kernel_rfl, by kernel_rfl, enters_ok (fn := Try.f44) (by kernel_rfl) (by kernel_rfl) (by kernel_rfl), merkle_both.forms, merkle_both.vc⟩

set_option maxRecDepth 100000 in
theorem merkle_Grown.forms : merkle_Grown.fd.formsOk = true := by kernel_rfl
set_option maxRecDepth 100000 in
theorem merkle_Grown.vc : merkle_Grown.fd.vc tt Γ := ⟨fun d => by kernel_rfl, fun k d => by kernel_rfl, ⟨trivial, ⟨⟨trivial, ⟨⟨trivial, trivial, trivial⟩, ⟨trivial, ⟨⟨trivial, trivial, trivial⟩, ⟨trivial, ⟨⟨trivial, trivial, trivial⟩, trivial⟩, trivial⟩⟩, trivial⟩⟩, trivial⟩, ⟨⟨trivial, ⟨⟨⟨trivial, ⟨⟨trivial, trivial, trivial⟩, trivial⟩, trivial⟩, ⟨⟨trivial, ⟨⟨trivial, trivial, trivial⟩, trivial⟩, trivial⟩, ⟨trivial, trivial, trivial⟩, trivial⟩, trivial⟩, trivial⟩, trivial⟩, ⟨trivial, ⟨⟨trivial, ⟨⟨trivial, trivial, trivial⟩, ⟨trivial, ⟨⟨trivial, trivial, trivial⟩, trivial⟩, trivial⟩⟩, trivial⟩, ⟨trivial, trivial, trivial⟩, trivial⟩, trivial⟩, trivial⟩, ⟨fun d => by kernel_rfl, fun k d => by kernel_rfl⟩⟩, trivial⟩⟩
set_option maxRecDepth 100000 in
theorem merkle_Grown.ok : FnOk Try.prog tt Γ 32 merkle_Grown.fd := ⟨by kernel_rfl, by kernel_rfl, enters_ok (fn := Try.f32) (by kernel_rfl) (by kernel_rfl) (by kernel_rfl), merkle_Grown.forms, merkle_Grown.vc⟩

set_option maxRecDepth 100000 in
theorem chartularylaw07_MerkleGrowns.forms : chartularylaw07_MerkleGrowns.fd.formsOk = true := by kernel_rfl
set_option maxRecDepth 100000 in
theorem chartularylaw07_MerkleGrowns.vc : chartularylaw07_MerkleGrowns.fd.vc tt Γ := ⟨fun d => by kernel_rfl, fun k d => by kernel_rfl, ⟨trivial, ⟨trivial, ⟨⟨trivial, ⟨trivial, trivial⟩, trivial⟩, ⟨trivial, ⟨⟨trivial, ⟨trivial, ⟨trivial, ⟨trivial, ⟨trivial, ⟨trivial, ⟨trivial, ⟨⟨trivial, ⟨trivial, ⟨trivial, ⟨trivial, trivial⟩, trivial⟩⟩, trivial⟩, ⟨trivial, ⟨trivial, ⟨trivial, ⟨trivial, ⟨trivial, trivial⟩, trivial⟩, trivial⟩⟩, trivial⟩⟩, trivial⟩⟩, ⟨fun d => by kernel_rfl, fun k d => by kernel_rfl⟩⟩⟩, ⟨fun d => by kernel_rfl, fun k d => by kernel_rfl⟩⟩⟩, trivial⟩, ⟨trivial, trivial, trivial⟩, ⟨fun d => by kernel_rfl, fun k d => by kernel_rfl⟩⟩, trivial⟩, ⟨fun d => by kernel_rfl, fun k d => by kernel_rfl⟩⟩, trivial⟩, trivial⟩⟩
set_option maxRecDepth 100000 in
theorem chartularylaw07_MerkleGrowns.ok : FnOk Try.prog tt Γ 8 chartularylaw07_MerkleGrowns.fd := ⟨by kernel_rfl, by kernel_rfl, enters_ok (fn := Try.f8) (by kernel_rfl) (by kernel_rfl) (by kernel_rfl), chartularylaw07_MerkleGrowns.forms, chartularylaw07_MerkleGrowns.vc⟩

set_option maxRecDepth 100000 in
theorem chartularylaw07_MerkleBegins.forms : chartularylaw07_MerkleBegins.fd.formsOk = true := by kernel_rfl
set_option maxRecDepth 100000 in
theorem chartularylaw07_MerkleBegins.vc : chartularylaw07_MerkleBegins.fd.vc tt Γ := ⟨fun d => by kernel_rfl, fun k d => by kernel_rfl, ⟨trivial, ⟨⟨trivial, ⟨trivial, trivial⟩, trivial⟩, ⟨trivial, ⟨⟨trivial, ⟨⟨trivial, trivial, trivial⟩, trivial⟩, trivial⟩, ⟨trivial, ⟨trivial, ⟨trivial, ⟨trivial, ⟨trivial, trivial, trivial⟩, trivial⟩, trivial⟩, trivial⟩, trivial⟩, trivial⟩, trivial⟩, ⟨fun d => by kernel_rfl, fun k d => by kernel_rfl⟩⟩, trivial⟩⟩
set_option maxRecDepth 100000 in
theorem chartularylaw07_MerkleBegins.ok : FnOk Try.prog tt Γ 9 chartularylaw07_MerkleBegins.fd := ⟨by kernel_rfl, by kernel_rfl, enters_ok (fn := Try.f9) (by kernel_rfl) (by kernel_rfl) (by kernel_rfl), chartularylaw07_MerkleBegins.forms, chartularylaw07_MerkleBegins.vc⟩

set_option maxRecDepth 100000 in
theorem merkle_grow.forms : merkle_grow.fd.formsOk = true := by kernel_rfl
set_option maxRecDepth 100000 in
theorem merkle_grow.vc : merkle_grow.fd.vc tt Γ := ⟨fun d => by kernel_rfl, fun k d => by kernel_rfl, ⟨trivial, ⟨⟨trivial, ⟨⟨⟨trivial, ⟨⟨trivial, trivial, trivial⟩, trivial⟩, trivial⟩, ⟨trivial, trivial, trivial⟩, trivial⟩, trivial⟩, trivial⟩, ⟨trivial, ⟨⟨trivial, ⟨⟨trivial, trivial, trivial⟩, trivial⟩, trivial⟩, ⟨trivial, trivial, trivial⟩, trivial⟩, trivial⟩, trivial⟩, trivial⟩⟩
set_option maxRecDepth 100000 in
theorem merkle_grow.ok : FnOk Try.prog tt Γ 45 merkle_grow.fd := ⟨by kernel_rfl, by kernel_rfl, enters_ok (fn := Try.f45) (by kernel_rfl) (by kernel_rfl) (by kernel_rfl), merkle_grow.forms, merkle_grow.vc⟩

set_option maxRecDepth 100000 in
theorem merkle_Growth.forms : merkle_Growth.fd.formsOk = true := by kernel_rfl
set_option maxRecDepth 100000 in
theorem merkle_Growth.vc : merkle_Growth.fd.vc tt Γ := ⟨fun d => by kernel_rfl, fun k d => by kernel_rfl, ⟨trivial, ⟨⟨trivial, ⟨⟨trivial, trivial, trivial⟩, trivial⟩, trivial⟩, ⟨⟨trivial, ⟨⟨trivial, trivial, trivial⟩, trivial⟩, trivial⟩, ⟨trivial, trivial, trivial⟩, trivial⟩, ⟨fun d => by kernel_rfl, fun k d => by kernel_rfl⟩⟩, trivial⟩⟩
set_option maxRecDepth 100000 in
theorem merkle_Growth.ok : FnOk Try.prog tt Γ 33 merkle_Growth.fd := ⟨by kernel_rfl, by kernel_rfl, enters_ok (fn := Try.f33) (by kernel_rfl) (by kernel_rfl) (by kernel_rfl), merkle_Growth.forms, merkle_Growth.vc⟩

set_option maxRecDepth 100000 in
theorem chartularylaw07_proof.forms : chartularylaw07_proof.fd.formsOk = true := by kernel_rfl
set_option maxRecDepth 100000 in
theorem chartularylaw07_proof.vc : chartularylaw07_proof.fd.vc tt Γ := ⟨fun d => by kernel_rfl, fun k d => by kernel_rfl, ⟨trivial, ⟨⟨trivial, ⟨⟨trivial, trivial, trivial⟩, trivial⟩, trivial⟩, ⟨⟨trivial, ⟨⟨trivial, trivial, trivial⟩, trivial⟩, trivial⟩, ⟨trivial, ⟨⟨trivial, ⟨⟨trivial, ⟨trivial, trivial, trivial⟩, trivial⟩, trivial⟩, trivial⟩, ⟨trivial, ⟨trivial, trivial, trivial⟩, trivial⟩, trivial⟩, trivial⟩, trivial⟩, trivial⟩, trivial⟩⟩
set_option maxRecDepth 100000 in
theorem chartularylaw07_proof.ok : FnOk Try.prog tt Γ 46 chartularylaw07_proof.fd := ⟨by kernel_rfl, by kernel_rfl, enters_ok (fn := Try.f46) (by kernel_rfl) (by kernel_rfl) (by kernel_rfl), chartularylaw07_proof.forms, chartularylaw07_proof.vc⟩

set_option maxRecDepth 100000 in
theorem chartularylaw07_Growth.forms : chartularylaw07_Growth.fd.formsOk = true := by kernel_rfl
set_option maxRecDepth 100000 in
theorem chartularylaw07_Growth.vc : chartularylaw07_Growth.fd.vc tt Γ := ⟨fun d => by kernel_rfl, fun k d => by kernel_rfl, ⟨trivial, ⟨⟨trivial, ⟨⟨trivial, trivial, trivial⟩, trivial⟩, trivial⟩, ⟨trivial, trivial, trivial⟩, trivial⟩, trivial⟩⟩
set_option maxRecDepth 100000 in
theorem chartularylaw07_Growth.ok : FnOk Try.prog tt Γ 34 chartularylaw07_Growth.fd := ⟨by kernel_rfl, by kernel_rfl, enters_ok (fn := Try.f34) (by kernel_rfl) (by kernel_rfl) (by kernel_rfl), chartularylaw07_Growth.forms, chartularylaw07_Growth.vc⟩

set_option maxRecDepth 100000 in
theorem chartularylaw07_MerkleGrowths.forms : chartularylaw07_MerkleGrowths.fd.formsOk = true := by kernel_rfl
set_option maxRecDepth 100000 in
theorem chartularylaw07_MerkleGrowths.vc : chartularylaw07_MerkleGrowths.fd.vc tt Γ := ⟨fun d => by kernel_rfl, fun k d => by kernel_rfl, ⟨trivial, ⟨trivial, ⟨trivial, ⟨trivial, ⟨⟨trivial, ⟨⟨trivial, trivial, trivial⟩, trivial⟩, ⟨fun d => by kernel_rfl, fun k d => by kernel_rfl⟩⟩, ⟨trivial, ⟨trivial, ⟨trivial, trivial, trivial⟩, trivial⟩, trivial⟩, trivial⟩, trivial⟩, trivial⟩, trivial⟩, trivial⟩⟩
set_option maxRecDepth 100000 in
theorem chartularylaw07_MerkleGrowths.ok : FnOk Try.prog tt Γ 10 chartularylaw07_MerkleGrowths.fd := ⟨by kernel_rfl, by kernel_rfl, enters_ok (fn := Try.f10) (by kernel_rfl) (by kernel_rfl) (by kernel_rfl), chartularylaw07_MerkleGrowths.forms, chartularylaw07_MerkleGrowths.vc⟩

noncomputable def tab : Tab := [(11, mill_New.fd), (49, sha_New.fd), (56, bits_RotateLeft32.fd), (55, sha_turn.fd), (53, sha_words.fd), (54, sha_rounds.fd), (52, sha_State_mix.fd), (50, sha_State_Write.fd), (51, sha_State_Sum.fd), (47, sha_Sum.fd), (42, mill_name.fd), (43, mill_Mill_none.fd), (48, mill_Mill_note.fd), (41, mill_Mill_Sum.fd), (35, pledge_Leaf.fd), (12, chartularylaw07_Leaves.fd), (24, pledge_None.fd), (36, merkle_split.fd), (37, pledge_Node.fd), (18, merkle_Root.fd), (13, merkle_Path.fd), (14, chartularylaw07_awake.fd), (38, merkle_sums.fd), (39, merkle_climb.fd), (15, merkle_Climb.fd), (16, chartularylaw07_same.fd), (40, chartularylaw07_below.fd), (27, chartularylaw07_Root.fd), (17, chartularylaw07_Path.fd), (3, chartularylaw07_MerklePaths.fd), (19, chartularylaw07_sums.fd), (20, chartularylaw07_Depth.fd), (21, chartularylaw07_Climb.fd), (4, chartularylaw07_MerkleClimbs.fd), (28, mill_With_has.fd), (28, mill_With_nil.fd), (29, mill_Mill_Twins.fd), (7, chartularylaw07_MerkleLeaf.fd), (30, chartularylaw07_Long.fd), (31, chartularylaw07_Both.fd), (44, merkle_both.fd), (32, merkle_Grown.fd), (8, chartularylaw07_MerkleGrowns.fd), (9, chartularylaw07_MerkleBegins.fd), (45, merkle_grow.fd), (33, merkle_Growth.fd), (46, chartularylaw07_proof.fd), (34, chartularylaw07_Growth.fd), (10, chartularylaw07_MerkleGrowths.fd)]
theorem Γ_eq (k : Nat) : Γ k = gamK tab k := by kernel_rfl
theorem tt_ok : TTok Try.prog tt := ttB_ok (by kernel_rfl)
theorem mixed : Try.prog.follows .mixedOrders = true := by kernel_rfl
theorem tab_all : ∀ x ∈ tab, FnOk Try.prog tt Γ x.1 x.2 := by
  unfold tab
  simp only [List.forall_mem_cons]
  exact ⟨mill_New.ok, sha_New.ok, bits_RotateLeft32.ok, sha_turn.ok, sha_words.ok, sha_rounds.ok, sha_State_mix.ok, sha_State_Write.ok, sha_State_Sum.ok, sha_Sum.ok, mill_name.ok, mill_Mill_none.ok, mill_Mill_note.ok, mill_Mill_Sum.ok, pledge_Leaf.ok, chartularylaw07_Leaves.ok, pledge_None.ok, merkle_split.ok, pledge_Node.ok, merkle_Root.ok, merkle_Path.ok, chartularylaw07_awake.ok, merkle_sums.ok, merkle_climb.ok, merkle_Climb.ok, chartularylaw07_same.ok, chartularylaw07_below.ok, chartularylaw07_Root.ok, chartularylaw07_Path.ok, chartularylaw07_MerklePaths.ok, chartularylaw07_sums.ok, chartularylaw07_Depth.ok, chartularylaw07_Climb.ok, chartularylaw07_MerkleClimbs.ok, mill_With_has.ok, mill_With_nil.ok, mill_Mill_Twins.ok, chartularylaw07_MerkleLeaf.ok, chartularylaw07_Long.ok, chartularylaw07_Both.ok, merkle_both.ok, merkle_Grown.ok, chartularylaw07_MerkleGrowns.ok, chartularylaw07_MerkleBegins.ok, merkle_grow.ok, merkle_Growth.ok, chartularylaw07_proof.ok, chartularylaw07_Growth.ok, chartularylaw07_MerkleGrowths.ok, fun x h => nomatch h⟩
theorem chartularylaw07_MerklePaths.spec (k : Nat) : SpecOk Try.prog 3 (chartularylaw07_MerklePaths.fd.sp k) := spec_ok mixed tt_ok Γ_eq tab_all (f := 3) (F := chartularylaw07_MerklePaths.fd) (by unfold tab; simp only [List.mem_cons, true_or, or_true]) k
theorem chartularylaw07_MerkleClimbs.spec (k : Nat) : SpecOk Try.prog 4 (chartularylaw07_MerkleClimbs.fd.sp k) := spec_ok mixed tt_ok Γ_eq tab_all (f := 4) (F := chartularylaw07_MerkleClimbs.fd) (by unfold tab; simp only [List.mem_cons, true_or, or_true]) k
theorem chartularylaw07_MerkleLeaf.spec (k : Nat) : SpecOk Try.prog 7 (chartularylaw07_MerkleLeaf.fd.sp k) := spec_ok mixed tt_ok Γ_eq tab_all (f := 7) (F := chartularylaw07_MerkleLeaf.fd) (by unfold tab; simp only [List.mem_cons, true_or, or_true]) k
theorem chartularylaw07_MerkleGrowns.spec (k : Nat) : SpecOk Try.prog 8 (chartularylaw07_MerkleGrowns.fd.sp k) := spec_ok mixed tt_ok Γ_eq tab_all (f := 8) (F := chartularylaw07_MerkleGrowns.fd) (by unfold tab; simp only [List.mem_cons, true_or, or_true]) k
theorem chartularylaw07_MerkleBegins.spec (k : Nat) : SpecOk Try.prog 9 (chartularylaw07_MerkleBegins.fd.sp k) := spec_ok mixed tt_ok Γ_eq tab_all (f := 9) (F := chartularylaw07_MerkleBegins.fd) (by unfold tab; simp only [List.mem_cons, true_or, or_true]) k
theorem chartularylaw07_MerkleGrowths.spec (k : Nat) : SpecOk Try.prog 10 (chartularylaw07_MerkleGrowths.fd.sp k) := spec_ok mixed tt_ok Γ_eq tab_all (f := 10) (F := chartularylaw07_MerkleGrowths.fd) (by unfold tab; simp only [List.mem_cons, true_or, or_true]) k

end Go.Proofs.Ytoceopdoedmgoaa.E
