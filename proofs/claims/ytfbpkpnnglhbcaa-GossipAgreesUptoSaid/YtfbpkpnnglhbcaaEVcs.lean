import Derived.Test.YtfbpkpnnglhbcaaEDefs
import Derived.Test.YtfbpkpnnglhbcaaETab
namespace Go.Proofs.Ytfbpkpnnglhbcaa.E
open Go Go.Proofs.Ytfbpkpnnglhbcaa.Eng Go.Proofs
set_option maxRecDepth 100000 in
theorem mill_New.forms : mill_New.fd.formsOk = true := by kernel_rfl
set_option maxRecDepth 100000 in
theorem mill_New.vc : mill_New.fd.vc tt Γ := ⟨fun d => by kernel_rfl, fun k d => by kernel_rfl, ⟨trivial, ⟨trivial, trivial, trivial⟩, trivial⟩⟩
set_option maxRecDepth 100000 in
theorem mill_New.ok : FnOk Try.prog tt Γ 12 mill_New.fd := ⟨by kernel_rfl, by kernel_rfl, enters_ok (fn := Try.f12) (by kernel_rfl) (by kernel_rfl) (by kernel_rfl), mill_New.forms, mill_New.vc⟩

set_option maxRecDepth 100000 in
theorem auditor_New.forms : auditor_New.fd.formsOk = true := by kernel_rfl
set_option maxRecDepth 100000 in
theorem auditor_New.vc : auditor_New.fd.vc tt Γ := ⟨fun d => by kernel_rfl, fun k d => by kernel_rfl, ⟨trivial, ⟨⟨trivial, ⟨⟨trivial, trivial, trivial⟩, trivial⟩, trivial⟩, ⟨trivial, trivial, trivial⟩, trivial⟩, trivial⟩⟩
set_option maxRecDepth 100000 in
theorem auditor_New.ok : FnOk Try.prog tt Γ 15 auditor_New.fd := ⟨by kernel_rfl, by kernel_rfl, enters_ok (fn := Try.f15) (by kernel_rfl) (by kernel_rfl) (by kernel_rfl), auditor_New.forms, auditor_New.vc⟩

set_option maxRecDepth 100000 in
theorem gossip_New_v0.forms : gossip_New_v0.fd.formsOk = true := by kernel_rfl
set_option maxRecDepth 100000 in
theorem gossip_New_v0.vc : gossip_New_v0.fd.vc tt Γ := ⟨fun d => by kernel_rfl, fun k d => by kernel_rfl, ⟨trivial, ⟨⟨trivial, ⟨⟨trivial, trivial, trivial⟩, trivial⟩, trivial⟩, ⟨trivial, ⟨⟨trivial, ⟨⟨trivial, ⟨⟨trivial, trivial⟩, ⟨trivial, trivial, trivial⟩, trivial⟩, trivial⟩, ⟨⟨fun d => by kernel_rfl, fun k d => by kernel_rfl⟩, ⟨⟨fun d => by kernel_rfl, fun k d => by kernel_rfl⟩, ⟨⟨fun d => by kernel_rfl, fun k d => by kernel_rfl⟩, trivial⟩⟩⟩⟩, trivial⟩, ⟨trivial, trivial, trivial⟩, trivial⟩, trivial⟩, trivial⟩, trivial⟩⟩
set_option maxRecDepth 100000 in
theorem gossip_New_v0.ok : FnOk Try.prog tt Γ 14 gossip_New_v0.fd := ⟨by kernel_rfl, by kernel_rfl, enters_ok (fn := Try.f14) (by kernel_rfl) (by kernel_rfl) (by kernel_rfl), gossip_New_v0.forms, gossip_New_v0.vc⟩

set_option maxRecDepth 100000 in
theorem gossip_Ring_Forks_v0.forms : gossip_Ring_Forks_v0.fd.formsOk = true := by kernel_rfl
set_option maxRecDepth 100000 in
theorem gossip_Ring_Forks_v0.vc : gossip_Ring_Forks_v0.fd.vc tt Γ := ⟨fun d => by kernel_rfl, fun k d => by kernel_rfl, ⟨trivial, ⟨⟨trivial, ⟨⟨trivial, trivial, trivial⟩, trivial⟩, trivial⟩, ⟨trivial, trivial, trivial⟩, trivial⟩, trivial⟩⟩
set_option maxRecDepth 100000 in
theorem gossip_Ring_Forks_v0.ok : FnOk Try.prog tt Γ 17 gossip_Ring_Forks_v0.fd := ⟨by kernel_rfl, by kernel_rfl, enters_ok (fn := Try.f17) (by kernel_rfl) (by kernel_rfl) (by kernel_rfl), gossip_Ring_Forks_v0.forms, gossip_Ring_Forks_v0.vc⟩

set_option maxRecDepth 100000 in
theorem gossip_Compare.forms : gossip_Compare.fd.formsOk = true := by kernel_rfl
set_option maxRecDepth 100000 in
theorem gossip_Compare.vc : gossip_Compare.fd.vc tt Γ := ⟨fun d => by kernel_rfl, fun k d => by kernel_rfl, ⟨trivial, ⟨trivial, ⟨⟨trivial, ⟨⟨trivial, ⟨⟨trivial, trivial⟩, ⟨⟨trivial, ⟨trivial, ⟨⟨trivial, ⟨⟨trivial, trivial⟩, ⟨⟨trivial, ⟨trivial, ⟨trivial, ⟨trivial, ⟨trivial, ⟨trivial, ⟨trivial, trivial⟩, trivial⟩⟩, trivial⟩⟩, trivial⟩, trivial⟩, trivial, trivial⟩, trivial⟩, trivial⟩, ⟨⟨fun d => by kernel_rfl, fun k d => by kernel_rfl⟩, trivial⟩⟩, trivial⟩, trivial⟩, trivial, trivial⟩, trivial⟩, trivial⟩, ⟨⟨fun d => by kernel_rfl, fun k d => by kernel_rfl⟩, trivial⟩⟩, trivial⟩, ⟨trivial, trivial, trivial⟩, trivial⟩, trivial⟩, trivial⟩⟩
set_option maxRecDepth 100000 in
theorem gossip_Compare.ok : FnOk Try.prog tt Γ 9 gossip_Compare.fd := ⟨by kernel_rfl, by kernel_rfl, enters_ok (fn := Try.f9) (by kernel_rfl) (by kernel_rfl) (by kernel_rfl), gossip_Compare.forms, gossip_Compare.vc⟩

set_option maxRecDepth 100000 in
theorem auditor_Auditor_none.forms : auditor_Auditor_none.fd.formsOk = true := by kernel_rfl
set_option maxRecDepth 100000 in
theorem auditor_Auditor_none.vc : auditor_Auditor_none.fd.vc tt Γ := ⟨fun d => by kernel_rfl, fun k d => by kernel_rfl, ⟨trivial, ⟨trivial, trivial, trivial⟩, trivial⟩⟩
set_option maxRecDepth 100000 in
theorem auditor_Auditor_none.ok : FnOk Try.prog tt Γ 37 auditor_Auditor_none.fd := ⟨by kernel_rfl, by kernel_rfl, enters_ok (fn := Try.f37) (by kernel_rfl) (by kernel_rfl) (by kernel_rfl), auditor_Auditor_none.forms, auditor_Auditor_none.vc⟩

set_option maxRecDepth 100000 in
theorem slices_Clone_api_Point.forms : slices_Clone_api_Point.fd.formsOk = true := by kernel_rfl
set_option maxRecDepth 100000 in
theorem slices_Clone_api_Point.vc : slices_Clone_api_Point.fd.vc tt Γ := ⟨fun d => by kernel_rfl, fun k d => by kernel_rfl, ⟨trivial, ⟨⟨trivial, ⟨⟨trivial, trivial, trivial⟩, trivial⟩, trivial⟩, ⟨trivial, trivial, trivial⟩, trivial⟩, trivial⟩⟩
set_option maxRecDepth 100000 in
theorem slices_Clone_api_Point.ok : FnOk Try.prog tt Γ 38 slices_Clone_api_Point.fd := ⟨by kernel_rfl, by kernel_rfl, enters_ok (fn := Try.f38) (by kernel_rfl) (by kernel_rfl) (by kernel_rfl), slices_Clone_api_Point.forms, slices_Clone_api_Point.vc⟩

set_option maxRecDepth 100000 in
theorem auditor_Auditor_Points.forms : auditor_Auditor_Points.fd.formsOk = true := by kernel_rfl
set_option maxRecDepth 100000 in
theorem auditor_Auditor_Points.vc : auditor_Auditor_Points.fd.vc tt Γ := ⟨fun d => by kernel_rfl, fun k d => by kernel_rfl, ⟨trivial, ⟨⟨trivial, ⟨⟨trivial, trivial, trivial⟩, trivial⟩, trivial⟩, ⟨trivial, trivial, trivial⟩, trivial⟩, trivial⟩⟩
set_option maxRecDepth 100000 in
theorem auditor_Auditor_Points.ok : FnOk Try.prog tt Γ 18 auditor_Auditor_Points.fd := ⟨by kernel_rfl, by kernel_rfl, enters_ok (fn := Try.f18) (by kernel_rfl) (by kernel_rfl) (by kernel_rfl), auditor_Auditor_Points.forms, auditor_Auditor_Points.vc⟩

set_option maxRecDepth 100000 in
theorem gossip_Ring_Agree_v0.forms : gossip_Ring_Agree_v0.fd.formsOk = true := by kernel_rfl
set_option maxRecDepth 100000 in
theorem gossip_Ring_Agree_v0.vc : gossip_Ring_Agree_v0.fd.vc tt Γ := ⟨fun d => by kernel_rfl, fun k d => by kernel_rfl, ⟨trivial, ⟨⟨trivial, ⟨⟨trivial, trivial, trivial⟩, trivial⟩, trivial⟩, ⟨⟨trivial, ⟨⟨trivial, ⟨⟨trivial, trivial⟩, ⟨⟨trivial, ⟨trivial, ⟨⟨trivial, ⟨⟨trivial, trivial⟩, ⟨⟨trivial, ⟨trivial, ⟨⟨trivial, trivial, trivial⟩, trivial⟩, trivial⟩, trivial⟩, trivial, trivial⟩, trivial⟩, trivial⟩, ⟨⟨fun d => by kernel_rfl, fun k d => by kernel_rfl⟩, ⟨⟨fun d => by kernel_rfl, fun k d => by kernel_rfl⟩, ⟨⟨fun d => by kernel_rfl, fun k d => by kernel_rfl⟩, trivial⟩⟩⟩⟩, trivial⟩, trivial⟩, trivial, trivial⟩, trivial⟩, trivial⟩, ⟨⟨fun d => by kernel_rfl, fun k d => by kernel_rfl⟩, ⟨⟨fun d => by kernel_rfl, fun k d => by kernel_rfl⟩, ⟨⟨fun d => by kernel_rfl, fun k d => by kernel_rfl⟩, trivial⟩⟩⟩⟩, trivial⟩, ⟨trivial, trivial, trivial⟩, trivial⟩, trivial⟩, trivial⟩⟩
set_option maxRecDepth 100000 in
theorem gossip_Ring_Agree_v0.ok : FnOk Try.prog tt Γ 19 gossip_Ring_Agree_v0.fd := ⟨by kernel_rfl, by kernel_rfl, enters_ok (fn := Try.f19) (by kernel_rfl) (by kernel_rfl) (by kernel_rfl), gossip_Ring_Agree_v0.forms, gossip_Ring_Agree_v0.vc⟩

set_option maxRecDepth 100000 in
theorem gossip_at_auditor_Auditor_v0.forms : gossip_at_auditor_Auditor_v0.fd.formsOk = true := by kernel_rfl
set_option maxRecDepth 100000 in
theorem gossip_at_auditor_Auditor_v0.vc : gossip_at_auditor_Auditor_v0.fd.vc tt Γ := ⟨fun d => by kernel_rfl, fun k d => by kernel_rfl, ⟨trivial, ⟨⟨trivial, ⟨⟨trivial, ⟨trivial, trivial, trivial⟩, trivial⟩, trivial⟩, trivial⟩, ⟨trivial, trivial, trivial⟩, trivial⟩, trivial⟩⟩
set_option maxRecDepth 100000 in
theorem gossip_at_auditor_Auditor_v0.ok : FnOk Try.prog tt Γ 39 gossip_at_auditor_Auditor_v0.fd := ⟨by kernel_rfl, by kernel_rfl, enters_ok (fn := Try.f39) (by kernel_rfl) (by kernel_rfl) (by kernel_rfl), gossip_at_auditor_Auditor_v0.forms, gossip_at_auditor_Auditor_v0.vc⟩

set_option maxRecDepth 100000 in
theorem gossip_Ring_Auditor_v0.forms : gossip_Ring_Auditor_v0.fd.formsOk = true := by kernel_rfl
set_option maxRecDepth 100000 in
theorem gossip_Ring_Auditor_v0.vc : gossip_Ring_Auditor_v0.fd.vc tt Γ := ⟨fun d => by kernel_rfl, fun k d => by kernel_rfl, ⟨trivial, ⟨⟨trivial, ⟨⟨trivial, trivial, trivial⟩, trivial⟩, trivial⟩, ⟨trivial, trivial, trivial⟩, trivial⟩, trivial⟩⟩
set_option maxRecDepth 100000 in
theorem gossip_Ring_Auditor_v0.ok : FnOk Try.prog tt Γ 20 gossip_Ring_Auditor_v0.fd := ⟨by kernel_rfl, by kernel_rfl, enters_ok (fn := Try.f20) (by kernel_rfl) (by kernel_rfl) (by kernel_rfl), gossip_Ring_Auditor_v0.forms, gossip_Ring_Auditor_v0.vc⟩

set_option maxRecDepth 100000 in
theorem gossip_at_auditor_Auditor_v1.forms : gossip_at_auditor_Auditor_v1.fd.formsOk = true := by kernel_rfl
set_option maxRecDepth 100000 in
theorem gossip_at_auditor_Auditor_v1.vc : gossip_at_auditor_Auditor_v1.fd.vc tt Γ := ⟨fun d => by kernel_rfl, fun k d => by kernel_rfl, ⟨trivial, ⟨⟨trivial, ⟨⟨trivial, ⟨trivial, trivial, trivial⟩, trivial⟩, trivial⟩, trivial⟩, ⟨trivial, trivial, trivial⟩, trivial⟩, trivial⟩⟩
set_option maxRecDepth 100000 in
theorem gossip_at_auditor_Auditor_v1.ok : FnOk Try.prog tt Γ 39 gossip_at_auditor_Auditor_v1.fd := ⟨by kernel_rfl, by kernel_rfl, enters_ok (fn := Try.f39) (by kernel_rfl) (by kernel_rfl) (by kernel_rfl), gossip_at_auditor_Auditor_v1.forms, gossip_at_auditor_Auditor_v1.vc⟩

set_option maxRecDepth 100000 in
theorem gossip_Ring_Auditor_v1.forms : gossip_Ring_Auditor_v1.fd.formsOk = true := by kernel_rfl
set_option maxRecDepth 100000 in
theorem gossip_Ring_Auditor_v1.vc : gossip_Ring_Auditor_v1.fd.vc tt Γ := ⟨fun d => by kernel_rfl, fun k d => by kernel_rfl, ⟨trivial, ⟨⟨trivial, ⟨⟨trivial, trivial, trivial⟩, trivial⟩, trivial⟩, ⟨trivial, trivial, trivial⟩, trivial⟩, trivial⟩⟩
set_option maxRecDepth 100000 in
theorem gossip_Ring_Auditor_v1.ok : FnOk Try.prog tt Γ 20 gossip_Ring_Auditor_v1.fd := ⟨by kernel_rfl, by kernel_rfl, enters_ok (fn := Try.f20) (by kernel_rfl) (by kernel_rfl) (by kernel_rfl), gossip_Ring_Auditor_v1.forms, gossip_Ring_Auditor_v1.vc⟩

set_option maxRecDepth 100000 in
theorem gossip_Ring_Hear_v0.forms : gossip_Ring_Hear_v0.fd.formsOk = true := by kernel_rfl
set_option maxRecDepth 100000 in
theorem gossip_Ring_Hear_v0.vc : gossip_Ring_Hear_v0.fd.vc tt Γ := ⟨fun d => by kernel_rfl, fun k d => by kernel_rfl, ⟨trivial, ⟨trivial, ⟨⟨trivial, ⟨⟨trivial, trivial, trivial⟩, trivial⟩, trivial⟩, ⟨trivial, ⟨⟨trivial, ⟨⟨trivial, ⟨trivial, trivial, trivial⟩, trivial⟩, trivial⟩, trivial⟩, ⟨trivial, trivial, trivial⟩, trivial⟩, trivial⟩, trivial⟩, trivial⟩, trivial⟩⟩
set_option maxRecDepth 100000 in
theorem gossip_Ring_Hear_v0.ok : FnOk Try.prog tt Γ 21 gossip_Ring_Hear_v0.fd := ⟨by kernel_rfl, by kernel_rfl, enters_ok (fn := Try.f21) (by kernel_rfl) (by kernel_rfl) (by kernel_rfl), gossip_Ring_Hear_v0.forms, gossip_Ring_Hear_v0.vc⟩

set_option maxRecDepth 100000 in
theorem merkle_sums.forms : merkle_sums.fd.formsOk = true := by kernel_rfl
set_option maxRecDepth 100000 in
theorem merkle_sums.vc : merkle_sums.fd.vc tt Γ := ⟨fun d => by kernel_rfl, fun k d => by kernel_rfl, ⟨trivial, ⟨⟨trivial, ⟨⟨trivial, ⟨⟨trivial, trivial⟩, ⟨⟨trivial, ⟨trivial, ⟨⟨trivial, trivial, trivial⟩, trivial⟩, trivial⟩, trivial⟩, trivial, trivial⟩, trivial⟩, trivial⟩, ⟨⟨fun d => by kernel_rfl, fun k d => by kernel_rfl⟩, trivial⟩⟩, trivial⟩, ⟨trivial, trivial, trivial⟩, trivial⟩, trivial⟩⟩
set_option maxRecDepth 100000 in
theorem merkle_sums.ok : FnOk Try.prog tt Γ 31 merkle_sums.fd := ⟨by kernel_rfl, by kernel_rfl, enters_ok (fn := Try.f31) (by kernel_rfl) (by kernel_rfl) (by kernel_rfl), merkle_sums.forms, merkle_sums.vc⟩

set_option maxRecDepth 100000 in
theorem mill_Mill_none.forms : mill_Mill_none.fd.formsOk = true := by kernel_rfl
set_option maxRecDepth 100000 in
theorem mill_Mill_none.vc : mill_Mill_none.fd.vc tt Γ := ⟨fun d => by kernel_rfl, fun k d => by kernel_rfl, ⟨trivial, ⟨trivial, trivial, trivial⟩, trivial⟩⟩
set_option maxRecDepth 100000 in
theorem mill_Mill_none.ok : FnOk Try.prog tt Γ 58 mill_Mill_none.fd := ⟨by kernel_rfl, by kernel_rfl, enters_ok (fn := Try.f58) (by kernel_rfl) (by kernel_rfl) (by kernel_rfl), mill_Mill_none.forms, mill_Mill_none.vc⟩

set_option maxRecDepth 100000 in
theorem sha_New.forms : sha_New.fd.formsOk = true := by kernel_rfl
set_option maxRecDepth 100000 in
theorem sha_New.vc : sha_New.fd.vc tt Γ := ⟨fun d => by kernel_rfl, fun k d => by kernel_rfl, ⟨trivial, ⟨trivial, trivial, trivial⟩, trivial⟩⟩
set_option maxRecDepth 100000 in
theorem sha_New.ok : FnOk Try.prog tt Γ 69 sha_New.fd := ⟨by kernel_rfl, by kernel_rfl, enters_ok (fn := Try.f69) (by kernel_rfl) (by kernel_rfl) (by kernel_rfl), sha_New.forms, sha_New.vc⟩

set_option maxRecDepth 100000 in
theorem bits_RotateLeft32.forms : bits_RotateLeft32.fd.formsOk = true := by kernel_rfl
set_option maxRecDepth 100000 in
theorem bits_RotateLeft32.vc : bits_RotateLeft32.fd.vc tt Γ := ⟨fun d => by kernel_rfl, fun k d => by kernel_rfl, ⟨trivial, ⟨trivial, ⟨trivial, trivial, trivial⟩, trivial⟩, trivial⟩⟩
set_option maxRecDepth 100000 in
theorem bits_RotateLeft32.ok : FnOk Try.prog tt Γ 80 bits_RotateLeft32.fd := ⟨by kernel_rfl, by kernel_rfl, enters_ok (fn := Try.f80) (by kernel_rfl) (by kernel_rfl) (by kernel_rfl), bits_RotateLeft32.forms, bits_RotateLeft32.vc⟩

set_option maxRecDepth 100000 in
theorem sha_turn.forms : sha_turn.fd.formsOk = true := by kernel_rfl
set_option maxRecDepth 100000 in
theorem sha_turn.vc : sha_turn.fd.vc tt Γ := ⟨fun d => by kernel_rfl, fun k d => by kernel_rfl, ⟨trivial, ⟨trivial, trivial, trivial⟩, trivial⟩⟩
set_option maxRecDepth 100000 in
theorem sha_turn.ok : FnOk Try.prog tt Γ 79 sha_turn.fd := ⟨by kernel_rfl, by kernel_rfl, enters_ok (fn := Try.f79) (by kernel_rfl) (by kernel_rfl) (by kernel_rfl), sha_turn.forms, sha_turn.vc⟩

set_option maxRecDepth 100000 in
theorem sha_words.forms : sha_words.fd.formsOk = true := by kernel_rfl
set_option maxRecDepth 100000 in
theorem sha_words.vc : sha_words.fd.vc tt Γ := ⟨fun d => by kernel_rfl, fun k d => by kernel_rfl, ⟨trivial, ⟨trivial, ⟨⟨trivial, ⟨⟨trivial, ⟨⟨trivial, trivial⟩, ⟨⟨trivial, trivial, trivial⟩, trivial, trivial⟩, trivial⟩, trivial⟩, ⟨⟨fun d => by kernel_rfl, fun k d => by kernel_rfl⟩, trivial⟩⟩, trivial⟩, ⟨⟨trivial, ⟨⟨⟨trivial, ⟨trivial, trivial⟩, trivial⟩, ⟨⟨trivial, trivial, trivial⟩, trivial, trivial⟩, trivial⟩, ⟨⟨fun d => by kernel_rfl, fun k d => by kernel_rfl⟩, trivial⟩⟩, trivial⟩, ⟨trivial, trivial, trivial⟩, trivial⟩, trivial⟩, trivial⟩, trivial⟩⟩
set_option maxRecDepth 100000 in
theorem sha_words.ok : FnOk Try.prog tt Γ 77 sha_words.fd := ⟨by kernel_rfl, by kernel_rfl, enters_ok (fn := Try.f77) (by kernel_rfl) (by kernel_rfl) (by kernel_rfl), sha_words.forms, sha_words.vc⟩

set_option maxRecDepth 100000 in
theorem sha_rounds.forms : sha_rounds.fd.formsOk = true := by kernel_rfl
set_option maxRecDepth 100000 in
theorem sha_rounds.vc : sha_rounds.fd.vc tt Γ := ⟨fun d => by kernel_rfl, fun k d => by kernel_rfl, ⟨trivial, ⟨trivial, trivial, trivial⟩, trivial⟩⟩
set_option maxRecDepth 100000 in
theorem sha_rounds.ok : FnOk Try.prog tt Γ 78 sha_rounds.fd := ⟨by kernel_rfl, by kernel_rfl, enters_ok (fn := Try.f78) (by kernel_rfl) (by kernel_rfl) (by kernel_rfl), sha_rounds.forms, sha_rounds.vc⟩

set_option maxRecDepth 100000 in
theorem sha_State_mix.forms : sha_State_mix.fd.formsOk = true := by kernel_rfl
set_option maxRecDepth 100000 in
theorem sha_State_mix.vc : sha_State_mix.fd.vc tt Γ := ⟨fun d => by kernel_rfl, fun k d => by kernel_rfl, ⟨trivial, ⟨trivial, ⟨⟨trivial, ⟨⟨trivial, ⟨⟨trivial, trivial⟩, ⟨⟨trivial, ⟨trivial, ⟨trivial, ⟨trivial, ⟨trivial, ⟨trivial, trivial, trivial⟩, trivial⟩, trivial⟩, trivial⟩, trivial⟩, trivial⟩, trivial, trivial⟩, trivial⟩, trivial⟩, ⟨⟨fun d => by kernel_rfl, fun k d => by kernel_rfl⟩, trivial⟩⟩, trivial⟩, ⟨trivial, ⟨⟨trivial, ⟨⟨trivial, trivial⟩, ⟨⟨trivial, trivial, trivial⟩, trivial, trivial⟩, trivial⟩, trivial⟩, ⟨⟨fun d => by kernel_rfl, fun k d => by kernel_rfl⟩, trivial⟩⟩, trivial⟩, trivial⟩, trivial⟩, trivial⟩⟩
set_option maxRecDepth 100000 in
theorem sha_State_mix.ok : FnOk Try.prog tt Γ 76 sha_State_mix.fd := ⟨by kernel_rfl, by kernel_rfl, enters_ok (fn := Try.f76) (by kernel_rfl) (by kernel_rfl) (by kernel_rfl), sha_State_mix.forms, sha_State_mix.vc⟩

set_option maxRecDepth 100000 in
theorem sha_State_Write.forms : sha_State_Write.fd.formsOk = true := by kernel_rfl
set_option maxRecDepth 100000 in
theorem sha_State_Write.vc : sha_State_Write.fd.vc tt Γ := ⟨fun d => by kernel_rfl, fun k d => by kernel_rfl, ⟨⟨trivial, ⟨trivial, trivial⟩, trivial⟩, ⟨trivial, ⟨trivial, ⟨⟨⟨⟨trivial, ⟨trivial, trivial⟩, trivial⟩, ⟨trivial, trivial, trivial⟩, trivial⟩, ⟨⟨fun d => by kernel_rfl, fun k d => by kernel_rfl⟩, trivial⟩⟩, trivial, trivial⟩, trivial⟩, trivial⟩, trivial⟩⟩
set_option maxRecDepth 100000 in
theorem sha_State_Write.ok : FnOk Try.prog tt Γ 70 sha_State_Write.fd := ⟨by kernel_rfl, by kernel_rfl, enters_ok (fn := Try.f70) (by kernel_rfl) (by kernel_rfl) (by kernel_rfl), sha_State_Write.forms, sha_State_Write.vc⟩

set_option maxRecDepth 100000 in
theorem sha_State_Sum.forms : sha_State_Sum.fd.formsOk = true := by kernel_rfl
set_option maxRecDepth 100000 in
theorem sha_State_Sum.vc : sha_State_Sum.fd.vc tt Γ := ⟨fun d => by kernel_rfl, fun k d => by kernel_rfl, ⟨trivial, ⟨⟨trivial, ⟨⟨trivial, trivial, trivial⟩, trivial⟩, trivial⟩, ⟨trivial, ⟨trivial, ⟨⟨⟨⟨trivial, ⟨trivial, trivial⟩, trivial⟩, trivial, trivial⟩, ⟨⟨fun d => by kernel_rfl, fun k d => by kernel_rfl⟩, trivial⟩⟩, ⟨⟨trivial, ⟨⟨trivial, ⟨⟨trivial, trivial⟩, ⟨⟨trivial, trivial, trivial⟩, trivial, trivial⟩, trivial⟩, trivial⟩, ⟨⟨fun d => by kernel_rfl, fun k d => by kernel_rfl⟩, trivial⟩⟩, trivial⟩, ⟨trivial, ⟨trivial, ⟨⟨trivial, ⟨⟨trivial, ⟨⟨trivial, trivial⟩, ⟨⟨trivial, trivial, trivial⟩, trivial, trivial⟩, trivial⟩, trivial⟩, ⟨⟨fun d => by kernel_rfl, fun k d => by kernel_rfl⟩, trivial⟩⟩, trivial⟩, ⟨trivial, trivial, trivial⟩, trivial⟩, trivial⟩, trivial⟩, trivial⟩, trivial⟩, trivial⟩, trivial⟩, trivial⟩, trivial⟩⟩
set_option maxRecDepth 100000 in
theorem sha_State_Sum.ok : FnOk Try.prog tt Γ 71 sha_State_Sum.fd := ⟨by kernel_rfl, by kernel_rfl, enters_ok (fn := Try.f71) (by kernel_rfl) (by kernel_rfl) (by kernel_rfl), sha_State_Sum.forms, sha_State_Sum.vc⟩

set_option maxRecDepth 100000 in
theorem sha_Sum.forms : sha_Sum.fd.formsOk = true := by kernel_rfl
set_option maxRecDepth 100000 in
theorem sha_Sum.vc : sha_Sum.fd.vc tt Γ := ⟨fun d => by kernel_rfl, fun k d => by kernel_rfl, ⟨trivial, ⟨trivial, ⟨trivial, ⟨trivial, trivial, trivial⟩, trivial⟩, trivial⟩, trivial⟩⟩
set_option maxRecDepth 100000 in
theorem sha_Sum.ok : FnOk Try.prog tt Γ 60 sha_Sum.fd := ⟨by kernel_rfl, by kernel_rfl, enters_ok (fn := Try.f60) (by kernel_rfl) (by kernel_rfl) (by kernel_rfl), sha_Sum.forms, sha_Sum.vc⟩

set_option maxRecDepth 100000 in
theorem mill_name.forms : mill_name.fd.formsOk = true := by kernel_rfl
set_option maxRecDepth 100000 in
theorem mill_name.vc : mill_name.fd.vc tt Γ := ⟨fun d => by kernel_rfl, fun k d => by kernel_rfl, ⟨trivial, ⟨⟨trivial, ⟨⟨trivial, trivial, trivial⟩, trivial⟩, trivial⟩, ⟨trivial, trivial, trivial⟩, trivial⟩, trivial⟩⟩
set_option maxRecDepth 100000 in
theorem mill_name.ok : FnOk Try.prog tt Γ 59 mill_name.fd := ⟨by kernel_rfl, by kernel_rfl, enters_ok (fn := Try.f59) (by kernel_rfl) (by kernel_rfl) (by kernel_rfl), mill_name.forms, mill_name.vc⟩

set_option maxRecDepth 100000 in
theorem mill_Mill_note.forms : mill_Mill_note.fd.formsOk = true := by kernel_rfl
set_option maxRecDepth 100000 in
theorem mill_Mill_note.vc : mill_Mill_note.fd.vc tt Γ := ⟨fun d => by kernel_rfl, fun k d => by kernel_rfl, ⟨trivial, ⟨trivial, ⟨trivial, ⟨trivial, ⟨trivial, ⟨trivial, ⟨trivial, ⟨trivial, trivial⟩, trivial⟩⟩, trivial⟩⟩, trivial⟩, trivial⟩, trivial⟩⟩
set_option maxRecDepth 100000 in
theorem mill_Mill_note.ok : FnOk Try.prog tt Γ 61 mill_Mill_note.fd := ⟨by kernel_rfl, by kernel_rfl, enters_ok (fn := Try.f61) (by kernel_rfl) (by kernel_rfl) (by kernel_rfl), mill_Mill_note.forms, mill_Mill_note.vc⟩

set_option maxRecDepth 100000 in
theorem mill_Mill_Sum.forms : mill_Mill_Sum.fd.formsOk = true := by kernel_rfl
set_option maxRecDepth 100000 in
theorem mill_Mill_Sum.vc : mill_Mill_Sum.fd.vc tt Γ := ⟨fun d => by kernel_rfl, fun k d => by kernel_rfl, ⟨trivial, ⟨⟨trivial, ⟨⟨trivial, trivial, trivial⟩, trivial⟩, trivial⟩, ⟨trivial, ⟨⟨trivial, ⟨trivial, trivial⟩, trivial⟩, ⟨trivial, ⟨trivial, trivial, trivial⟩, trivial⟩, trivial⟩, trivial⟩, trivial⟩, trivial⟩⟩
set_option maxRecDepth 100000 in
theorem mill_Mill_Sum.ok : FnOk Try.prog tt Γ 50 mill_Mill_Sum.fd := ⟨by kernel_rfl, by kernel_rfl, enters_ok (fn := Try.f50) (by kernel_rfl) (by kernel_rfl) (by kernel_rfl), mill_Mill_Sum.forms, mill_Mill_Sum.vc⟩

set_option maxRecDepth 100000 in
theorem pledge_None.forms : pledge_None.fd.formsOk = true := by kernel_rfl
set_option maxRecDepth 100000 in
theorem pledge_None.vc : pledge_None.fd.vc tt Γ := ⟨fun d => by kernel_rfl, fun k d => by kernel_rfl, ⟨trivial, ⟨trivial, trivial, trivial⟩, trivial⟩⟩
set_option maxRecDepth 100000 in
theorem pledge_None.ok : FnOk Try.prog tt Γ 32 pledge_None.fd := ⟨by kernel_rfl, by kernel_rfl, enters_ok (fn := Try.f32) (by kernel_rfl) (by kernel_rfl) (by kernel_rfl), pledge_None.forms, pledge_None.vc⟩

set_option maxRecDepth 100000 in
theorem merkle_split.forms : merkle_split.fd.formsOk = true := by kernel_rfl
set_option maxRecDepth 100000 in
theorem merkle_split.vc : merkle_split.fd.vc tt Γ := ⟨fun d => by kernel_rfl, fun k d => by kernel_rfl, ⟨trivial, ⟨trivial, ⟨⟨⟨⟨trivial, ⟨trivial, trivial⟩, trivial⟩, trivial, trivial⟩, ⟨⟨fun d => by kernel_rfl, fun k d => by kernel_rfl⟩, trivial⟩⟩, ⟨trivial, trivial, trivial⟩, trivial⟩, trivial⟩, trivial⟩⟩
set_option maxRecDepth 100000 in
theorem merkle_split.ok : FnOk Try.prog tt Γ 48 merkle_split.fd := ⟨by kernel_rfl, by kernel_rfl, enters_ok (fn := Try.f48) (by kernel_rfl) (by kernel_rfl) (by kernel_rfl), merkle_split.forms, merkle_split.vc⟩

set_option maxRecDepth 100000 in
theorem pledge_Node.forms : pledge_Node.fd.formsOk = true := by kernel_rfl
set_option maxRecDepth 100000 in
theorem pledge_Node.vc : pledge_Node.fd.vc tt Γ := ⟨fun d => by kernel_rfl, fun k d => by kernel_rfl, ⟨trivial, ⟨trivial, trivial, trivial⟩, trivial⟩⟩
set_option maxRecDepth 100000 in
theorem pledge_Node.ok : FnOk Try.prog tt Γ 49 pledge_Node.fd := ⟨by kernel_rfl, by kernel_rfl, enters_ok (fn := Try.f49) (by kernel_rfl) (by kernel_rfl) (by kernel_rfl), pledge_Node.forms, pledge_Node.vc⟩

set_option maxRecDepth 100000 in
theorem merkle_both.forms : merkle_both.fd.formsOk = true := by kernel_rfl
set_option maxRecDepth 100000 in
theorem merkle_both.vc : merkle_both.fd.vc tt Γ := ⟨fun d => by kernel_rfl, fun k d => by kernel_rfl, ⟨trivial, ⟨⟨trivial, ⟨⟨⟨trivial, ⟨⟨trivial, trivial, trivial⟩, trivial⟩, trivial⟩, ⟨⟨trivial, ⟨⟨trivial, trivial, trivial⟩, trivial⟩, trivial⟩, ⟨trivial, trivial, trivial⟩, trivial⟩, trivial⟩, trivial⟩, trivial⟩, ⟨⟨trivial, ⟨⟨trivial, trivial, trivial⟩, trivial⟩, trivial⟩, ⟨trivial, ⟨⟨trivial, ⟨⟨trivial, ⟨trivial, trivial, trivial⟩, trivial⟩, trivial⟩, trivial⟩, ⟨trivial, ⟨trivial, trivial, trivial⟩, trivial⟩, trivial⟩, trivial⟩, trivial⟩, trivial⟩, trivial⟩⟩
set_option maxRecDepth 100000 in
theorem merkle_both.ok : FnOk Try.prog tt Γ 33 merkle_both.fd := ⟨by kernel_rfl, by kernel_rfl, enters_ok (fn := Try.f33) (by kernel_rfl) (by kernel_rfl) (by kernel_rfl), merkle_both.forms, merkle_both.vc⟩

set_option maxRecDepth 100000 in
theorem merkle_Grown.forms : merkle_Grown.fd.formsOk = true := by kernel_rfl
set_option maxRecDepth 100000 in
theorem merkle_Grown.vc : merkle_Grown.fd.vc tt Γ := ⟨fun d => by kernel_rfl, fun k d => by kernel_rfl, ⟨trivial, ⟨⟨trivial, ⟨⟨trivial, trivial, trivial⟩, ⟨trivial, ⟨⟨trivial, trivial, trivial⟩, ⟨trivial, ⟨⟨trivial, trivial, trivial⟩, trivial⟩, trivial⟩⟩, trivial⟩⟩, trivial⟩, ⟨⟨trivial, ⟨⟨⟨trivial, ⟨⟨trivial, trivial, trivial⟩, trivial⟩, trivial⟩, ⟨⟨trivial, ⟨⟨trivial, trivial, trivial⟩, trivial⟩, trivial⟩, ⟨trivial, trivial, trivial⟩, trivial⟩, trivial⟩, trivial⟩, trivial⟩, ⟨trivial, ⟨⟨trivial, ⟨⟨trivial, trivial, trivial⟩, ⟨trivial, ⟨⟨trivial, trivial, trivial⟩, trivial⟩, trivial⟩⟩, trivial⟩, ⟨trivial, trivial, trivial⟩, trivial⟩, trivial⟩, trivial⟩, ⟨⟨fun d => by kernel_rfl, fun k d => by kernel_rfl⟩, trivial⟩⟩, trivial⟩⟩
set_option maxRecDepth 100000 in
theorem merkle_Grown.ok : FnOk Try.prog tt Γ 13 merkle_Grown.fd := ⟨by kernel_rfl, by kernel_rfl, enters_ok (fn := Try.f13) (by kernel_rfl) (by kernel_rfl) (by kernel_rfl), merkle_Grown.forms, merkle_Grown.vc⟩

set_option maxRecDepth 100000 in
theorem auditor_Auditor_Last.forms : auditor_Auditor_Last.fd.formsOk = true := by kernel_rfl
set_option maxRecDepth 100000 in
theorem auditor_Auditor_Last.vc : auditor_Auditor_Last.fd.vc tt Γ := ⟨fun d => by kernel_rfl, fun k d => by kernel_rfl, ⟨trivial, ⟨⟨trivial, ⟨⟨trivial, trivial, trivial⟩, trivial⟩, trivial⟩, ⟨trivial, trivial, trivial⟩, ⟨⟨fun d => by kernel_rfl, fun k d => by kernel_rfl⟩, trivial⟩⟩, trivial⟩⟩
set_option maxRecDepth 100000 in
theorem auditor_Auditor_Last.ok : FnOk Try.prog tt Γ 25 auditor_Auditor_Last.fd := ⟨by kernel_rfl, by kernel_rfl, enters_ok (fn := Try.f25) (by kernel_rfl) (by kernel_rfl) (by kernel_rfl), auditor_Auditor_Last.forms, auditor_Auditor_Last.vc⟩

set_option maxRecDepth 100000 in
theorem auditor_Auditor_count.forms : auditor_Auditor_count.fd.formsOk = true := by kernel_rfl
set_option maxRecDepth 100000 in
theorem auditor_Auditor_count.vc : auditor_Auditor_count.fd.vc tt Γ := ⟨fun d => by kernel_rfl, fun k d => by kernel_rfl, trivial⟩
set_option maxRecDepth 100000 in
theorem auditor_Auditor_count.ok : FnOk Try.prog tt Γ 51 auditor_Auditor_count.fd := ⟨by kernel_rfl, by kernel_rfl, enters_ok (fn := Try.f51) (by kernel_rfl) (by kernel_rfl) (by kernel_rfl), auditor_Auditor_count.forms, auditor_Auditor_count.vc⟩

set_option maxRecDepth 100000 in
theorem proof_sums.forms : proof_sums.fd.formsOk = true := by kernel_rfl
set_option maxRecDepth 100000 in
theorem proof_sums.vc : proof_sums.fd.vc tt Γ := ⟨fun d => by kernel_rfl, fun k d => by kernel_rfl, ⟨trivial, ⟨⟨trivial, ⟨⟨trivial, ⟨⟨trivial, trivial⟩, ⟨⟨trivial, ⟨trivial, ⟨⟨trivial, trivial, trivial⟩, trivial⟩, trivial⟩, trivial⟩, trivial, trivial⟩, trivial⟩, trivial⟩, ⟨⟨fun d => by kernel_rfl, fun k d => by kernel_rfl⟩, trivial⟩⟩, trivial⟩, ⟨trivial, trivial, trivial⟩, trivial⟩, trivial⟩⟩
set_option maxRecDepth 100000 in
theorem proof_sums.ok : FnOk Try.prog tt Γ 55 proof_sums.fd := ⟨by kernel_rfl, by kernel_rfl, enters_ok (fn := Try.f55) (by kernel_rfl) (by kernel_rfl) (by kernel_rfl), proof_sums.forms, proof_sums.vc⟩

set_option maxRecDepth 100000 in
theorem proof_RightGrowth.forms : proof_RightGrowth.fd.formsOk = true := by kernel_rfl
set_option maxRecDepth 100000 in
theorem proof_RightGrowth.vc : proof_RightGrowth.fd.vc tt Γ := ⟨fun d => by kernel_rfl, fun k d => by kernel_rfl, ⟨trivial, ⟨trivial, trivial, trivial⟩, trivial⟩⟩
set_option maxRecDepth 100000 in
theorem proof_RightGrowth.ok : FnOk Try.prog tt Γ 43 proof_RightGrowth.fd := ⟨by kernel_rfl, by kernel_rfl, enters_ok (fn := Try.f43) (by kernel_rfl) (by kernel_rfl) (by kernel_rfl), proof_RightGrowth.forms, proof_RightGrowth.vc⟩

set_option maxRecDepth 100000 in
theorem octet_Read.forms : octet_Read.fd.formsOk = true := by kernel_rfl
set_option maxRecDepth 100000 in
theorem octet_Read.vc : octet_Read.fd.vc tt Γ := ⟨fun d => by kernel_rfl, fun k d => by kernel_rfl, ⟨trivial, ⟨trivial, trivial, trivial⟩, trivial⟩⟩
set_option maxRecDepth 100000 in
theorem octet_Read.ok : FnOk Try.prog tt Γ 62 octet_Read.fd := ⟨by kernel_rfl, by kernel_rfl, enters_ok (fn := Try.f62) (by kernel_rfl) (by kernel_rfl) (by kernel_rfl), octet_Read.forms, octet_Read.vc⟩

set_option maxRecDepth 100000 in
theorem octet_Reader_Fail.forms : octet_Reader_Fail.fd.formsOk = true := by kernel_rfl
set_option maxRecDepth 100000 in
theorem octet_Reader_Fail.vc : octet_Reader_Fail.fd.vc tt Γ := ⟨fun d => by kernel_rfl, fun k d => by kernel_rfl, ⟨trivial, ⟨trivial, trivial⟩, trivial⟩⟩
set_option maxRecDepth 100000 in
theorem octet_Reader_Fail.ok : FnOk Try.prog tt Γ 73 octet_Reader_Fail.fd := ⟨by kernel_rfl, by kernel_rfl, enters_ok (fn := Try.f73) (by kernel_rfl) (by kernel_rfl) (by kernel_rfl), octet_Reader_Fail.forms, octet_Reader_Fail.vc⟩

set_option maxRecDepth 100000 in
theorem octet_Reader_Err.forms : octet_Reader_Err.fd.formsOk = true := by kernel_rfl
set_option maxRecDepth 100000 in
theorem octet_Reader_Err.vc : octet_Reader_Err.fd.vc tt Γ := ⟨fun d => by kernel_rfl, fun k d => by kernel_rfl, ⟨trivial, ⟨⟨trivial, ⟨⟨trivial, trivial, trivial⟩, trivial⟩, trivial⟩, ⟨trivial, trivial, trivial⟩, trivial⟩, trivial⟩⟩
set_option maxRecDepth 100000 in
theorem octet_Reader_Err.ok : FnOk Try.prog tt Γ 74 octet_Reader_Err.fd := ⟨by kernel_rfl, by kernel_rfl, enters_ok (fn := Try.f74) (by kernel_rfl) (by kernel_rfl) (by kernel_rfl), octet_Reader_Err.forms, octet_Reader_Err.vc⟩

set_option maxRecDepth 100000 in
theorem octet_Reader_Raw.forms : octet_Reader_Raw.fd.formsOk = true := by kernel_rfl
set_option maxRecDepth 100000 in
theorem octet_Reader_Raw.vc : octet_Reader_Raw.fd.vc tt Γ := ⟨fun d => by kernel_rfl, fun k d => by kernel_rfl, ⟨trivial, ⟨⟨trivial, ⟨⟨trivial, trivial, trivial⟩, ⟨trivial, ⟨⟨trivial, ⟨trivial, trivial, trivial⟩, trivial⟩, ⟨trivial, ⟨⟨trivial, ⟨trivial, trivial, trivial⟩, trivial⟩, trivial⟩, trivial⟩⟩, trivial⟩⟩, trivial⟩, ⟨trivial, ⟨trivial, trivial, trivial⟩, trivial⟩, trivial⟩, trivial⟩⟩
set_option maxRecDepth 100000 in
theorem octet_Reader_Raw.ok : FnOk Try.prog tt Γ 72 octet_Reader_Raw.fd := ⟨by kernel_rfl, by kernel_rfl, enters_ok (fn := Try.f72) (by kernel_rfl) (by kernel_rfl) (by kernel_rfl), octet_Reader_Raw.forms, octet_Reader_Raw.vc⟩

set_option maxRecDepth 100000 in
theorem octet_Reader_Num.forms : octet_Reader_Num.fd.formsOk = true := by kernel_rfl
set_option maxRecDepth 100000 in
theorem octet_Reader_Num.vc : octet_Reader_Num.fd.vc tt Γ := ⟨fun d => by kernel_rfl, fun k d => by kernel_rfl, ⟨trivial, ⟨trivial, ⟨⟨trivial, ⟨⟨trivial, trivial, trivial⟩, trivial⟩, trivial⟩, ⟨trivial, ⟨⟨trivial, ⟨⟨trivial, ⟨trivial, trivial, trivial⟩, trivial⟩, trivial⟩, trivial⟩, ⟨trivial, ⟨⟨trivial, ⟨⟨trivial, ⟨⟨trivial, trivial⟩, ⟨⟨trivial, ⟨⟨trivial, ⟨⟨trivial, ⟨trivial, trivial, trivial⟩, trivial⟩, trivial⟩, trivial⟩, trivial, trivial⟩, trivial⟩, trivial, trivial⟩, trivial⟩, trivial⟩, ⟨⟨fun d => by kernel_rfl, fun k d => by kernel_rfl⟩, trivial⟩⟩, trivial⟩, ⟨⟨trivial, ⟨⟨trivial, trivial, trivial⟩, trivial⟩, trivial⟩, ⟨⟨trivial, ⟨⟨trivial, ⟨trivial, trivial, trivial⟩, trivial⟩, trivial⟩, trivial⟩, ⟨trivial, trivial, trivial⟩, trivial⟩, trivial⟩, trivial⟩, trivial⟩, trivial⟩, trivial⟩, trivial⟩, trivial⟩, trivial⟩⟩
set_option maxRecDepth 100000 in
theorem octet_Reader_Num.ok : FnOk Try.prog tt Γ 63 octet_Reader_Num.fd := ⟨by kernel_rfl, by kernel_rfl, enters_ok (fn := Try.f63) (by kernel_rfl) (by kernel_rfl) (by kernel_rfl), octet_Reader_Num.forms, octet_Reader_Num.vc⟩

set_option maxRecDepth 100000 in
theorem octet_Reader_Text.forms : octet_Reader_Text.fd.formsOk = true := by kernel_rfl
set_option maxRecDepth 100000 in
theorem octet_Reader_Text.vc : octet_Reader_Text.fd.vc tt Γ := ⟨fun d => by kernel_rfl, fun k d => by kernel_rfl, ⟨trivial, ⟨trivial, trivial, trivial⟩, trivial⟩⟩
set_option maxRecDepth 100000 in
theorem octet_Reader_Text.ok : FnOk Try.prog tt Γ 64 octet_Reader_Text.fd := ⟨by kernel_rfl, by kernel_rfl, enters_ok (fn := Try.f64) (by kernel_rfl) (by kernel_rfl) (by kernel_rfl), octet_Reader_Text.forms, octet_Reader_Text.vc⟩

set_option maxRecDepth 100000 in
theorem octet_Reader_Texts.forms : octet_Reader_Texts.fd.formsOk = true := by kernel_rfl
set_option maxRecDepth 100000 in
theorem octet_Reader_Texts.vc : octet_Reader_Texts.fd.vc tt Γ := ⟨fun d => by kernel_rfl, fun k d => by kernel_rfl, ⟨trivial, ⟨trivial, ⟨⟨trivial, ⟨⟨trivial, ⟨⟨trivial, trivial⟩, ⟨⟨trivial, ⟨⟨trivial, ⟨⟨trivial, trivial, trivial⟩, trivial⟩, trivial⟩, trivial, trivial⟩, trivial⟩, trivial, trivial⟩, trivial⟩, trivial⟩, ⟨⟨fun d => by kernel_rfl, fun k d => by kernel_rfl⟩, trivial⟩⟩, trivial⟩, ⟨trivial, trivial, trivial⟩, trivial⟩, trivial⟩, trivial⟩⟩
set_option maxRecDepth 100000 in
theorem octet_Reader_Texts.ok : FnOk Try.prog tt Γ 65 octet_Reader_Texts.fd := ⟨by kernel_rfl, by kernel_rfl, enters_ok (fn := Try.f65) (by kernel_rfl) (by kernel_rfl) (by kernel_rfl), octet_Reader_Texts.forms, octet_Reader_Texts.vc⟩

set_option maxRecDepth 100000 in
theorem octet_Reader_Left.forms : octet_Reader_Left.fd.formsOk = true := by kernel_rfl
set_option maxRecDepth 100000 in
theorem octet_Reader_Left.vc : octet_Reader_Left.fd.vc tt Γ := ⟨fun d => by kernel_rfl, fun k d => by kernel_rfl, ⟨trivial, ⟨⟨trivial, ⟨⟨trivial, trivial, trivial⟩, trivial⟩, trivial⟩, ⟨trivial, trivial, trivial⟩, trivial⟩, trivial⟩⟩
set_option maxRecDepth 100000 in
theorem octet_Reader_Left.ok : FnOk Try.prog tt Γ 75 octet_Reader_Left.fd := ⟨by kernel_rfl, by kernel_rfl, enters_ok (fn := Try.f75) (by kernel_rfl) (by kernel_rfl) (by kernel_rfl), octet_Reader_Left.forms, octet_Reader_Left.vc⟩

set_option maxRecDepth 100000 in
theorem octet_Reader_End.forms : octet_Reader_End.fd.formsOk = true := by kernel_rfl
set_option maxRecDepth 100000 in
theorem octet_Reader_End.vc : octet_Reader_End.fd.vc tt Γ := ⟨fun d => by kernel_rfl, fun k d => by kernel_rfl, ⟨trivial, ⟨⟨trivial, ⟨trivial, trivial⟩, trivial⟩, ⟨trivial, trivial, trivial⟩, trivial⟩, trivial⟩⟩
set_option maxRecDepth 100000 in
theorem octet_Reader_End.ok : FnOk Try.prog tt Γ 66 octet_Reader_End.fd := ⟨by kernel_rfl, by kernel_rfl, enters_ok (fn := Try.f66) (by kernel_rfl) (by kernel_rfl) (by kernel_rfl), octet_Reader_End.forms, octet_Reader_End.vc⟩

set_option maxRecDepth 100000 in
theorem proof_ReadGrowth.forms : proof_ReadGrowth.fd.formsOk = true := by kernel_rfl
set_option maxRecDepth 100000 in
theorem proof_ReadGrowth.vc : proof_ReadGrowth.fd.vc tt Γ := ⟨fun d => by kernel_rfl, fun k d => by kernel_rfl, ⟨trivial, ⟨trivial, ⟨trivial, ⟨trivial, ⟨⟨trivial, ⟨trivial, ⟨⟨trivial, trivial, trivial⟩, trivial⟩, trivial⟩, trivial⟩, ⟨⟨trivial, ⟨⟨trivial, trivial, trivial⟩, trivial⟩, trivial⟩, ⟨trivial, trivial, trivial⟩, trivial⟩, trivial⟩, trivial⟩, trivial⟩, trivial⟩, trivial⟩⟩
set_option maxRecDepth 100000 in
theorem proof_ReadGrowth.ok : FnOk Try.prog tt Γ 52 proof_ReadGrowth.fd := ⟨by kernel_rfl, by kernel_rfl, enters_ok (fn := Try.f52) (by kernel_rfl) (by kernel_rfl) (by kernel_rfl), proof_ReadGrowth.forms, proof_ReadGrowth.vc⟩

set_option maxRecDepth 100000 in
theorem auditor_Auditor_known_1_v0.forms : auditor_Auditor_known_1_v0.fd.formsOk = true := by kernel_rfl
set_option maxRecDepth 100000 in
theorem auditor_Auditor_known_1_v0.vc : auditor_Auditor_known_1_v0.fd.vc tt Γ := ⟨fun d => by kernel_rfl, fun k d => by kernel_rfl, ⟨trivial, ⟨trivial, trivial, trivial⟩, trivial⟩⟩
set_option maxRecDepth 100000 in
theorem auditor_Auditor_known_1_v0.ok : FnOk Try.prog tt Γ 68 auditor_Auditor_known_1_v0.fd := ⟨by kernel_rfl, by kernel_rfl, enters_ok (fn := Try.f68) (by kernel_rfl) (by kernel_rfl) (by kernel_rfl), auditor_Auditor_known_1_v0.forms, auditor_Auditor_known_1_v0.vc⟩

set_option maxRecDepth 100000 in
theorem slices_IndexFunc_api_Point_v0.forms : slices_IndexFunc_api_Point_v0.fd.formsOk = true := by kernel_rfl
set_option maxRecDepth 100000 in
theorem slices_IndexFunc_api_Point_v0.vc : slices_IndexFunc_api_Point_v0.fd.vc tt Γ := ⟨fun d => by kernel_rfl, fun k d => by kernel_rfl, ⟨trivial, ⟨⟨trivial, ⟨⟨trivial, ⟨⟨trivial, trivial⟩, ⟨⟨trivial, ⟨trivial, ⟨⟨trivial, trivial, trivial⟩, trivial⟩, trivial⟩, trivial⟩, trivial, trivial⟩, trivial⟩, trivial⟩, ⟨⟨fun d => by kernel_rfl, fun k d => by kernel_rfl⟩, trivial⟩⟩, trivial⟩, ⟨trivial, trivial, trivial⟩, trivial⟩, trivial⟩⟩
set_option maxRecDepth 100000 in
theorem slices_IndexFunc_api_Point_v0.ok : FnOk Try.prog tt Γ 67 slices_IndexFunc_api_Point_v0.fd := ⟨by kernel_rfl, by kernel_rfl, enters_ok (fn := Try.f67) (by kernel_rfl) (by kernel_rfl) (by kernel_rfl), slices_IndexFunc_api_Point_v0.forms, slices_IndexFunc_api_Point_v0.vc⟩

set_option maxRecDepth 100000 in
theorem auditor_Auditor_known.forms : auditor_Auditor_known.fd.formsOk = true := by kernel_rfl
set_option maxRecDepth 100000 in
theorem auditor_Auditor_known.vc : auditor_Auditor_known.fd.vc tt Γ := ⟨fun d => by kernel_rfl, fun k d => by kernel_rfl, ⟨trivial, ⟨trivial, ⟨⟨trivial, ⟨⟨trivial, trivial, trivial⟩, trivial⟩, trivial⟩, ⟨trivial, trivial, trivial⟩, trivial⟩, trivial⟩, trivial⟩⟩
set_option maxRecDepth 100000 in
theorem auditor_Auditor_known.ok : FnOk Try.prog tt Γ 53 auditor_Auditor_known.fd := ⟨by kernel_rfl, by kernel_rfl, enters_ok (fn := Try.f53) (by kernel_rfl) (by kernel_rfl) (by kernel_rfl), auditor_Auditor_known.forms, auditor_Auditor_known.vc⟩

set_option maxRecDepth 100000 in
theorem auditor_Auditor_Meet.forms : auditor_Auditor_Meet.fd.formsOk = true := by kernel_rfl
set_option maxRecDepth 100000 in
theorem auditor_Auditor_Meet.vc : auditor_Auditor_Meet.fd.vc tt Γ := ⟨fun d => by kernel_rfl, fun k d => by kernel_rfl, ⟨trivial, ⟨⟨trivial, ⟨⟨trivial, trivial, trivial⟩, trivial⟩, trivial⟩, ⟨trivial, ⟨trivial, ⟨⟨trivial, ⟨⟨trivial, trivial, trivial⟩, trivial⟩, trivial⟩, ⟨⟨trivial, ⟨trivial, ⟨⟨⟨trivial, ⟨⟨trivial, ⟨trivial, trivial, trivial⟩, trivial⟩, trivial⟩, trivial⟩, ⟨trivial, trivial, trivial⟩, trivial⟩, trivial⟩, trivial⟩, trivial⟩, ⟨trivial, ⟨⟨trivial, ⟨trivial, trivial⟩, trivial⟩, ⟨⟨trivial, ⟨trivial, ⟨⟨trivial, trivial, trivial⟩, trivial⟩, trivial⟩, trivial⟩, ⟨trivial, ⟨trivial, trivial, trivial⟩, trivial⟩, trivial⟩, ⟨⟨fun d => by kernel_rfl, fun k d => by kernel_rfl⟩, trivial⟩⟩, trivial⟩, trivial⟩, trivial⟩, trivial⟩, trivial⟩, trivial⟩, trivial⟩⟩
set_option maxRecDepth 100000 in
theorem auditor_Auditor_Meet.ok : FnOk Try.prog tt Γ 35 auditor_Auditor_Meet.fd := ⟨by kernel_rfl, by kernel_rfl, enters_ok (fn := Try.f35) (by kernel_rfl) (by kernel_rfl) (by kernel_rfl), auditor_Auditor_Meet.forms, auditor_Auditor_Meet.vc⟩

set_option maxRecDepth 100000 in
theorem gossip_Ring_Tell_v0.forms : gossip_Ring_Tell_v0.fd.formsOk = true := by kernel_rfl
set_option maxRecDepth 100000 in
theorem gossip_Ring_Tell_v0.vc : gossip_Ring_Tell_v0.fd.vc tt Γ := ⟨fun d => by kernel_rfl, fun k d => by kernel_rfl, ⟨trivial, ⟨trivial, ⟨⟨trivial, ⟨⟨trivial, trivial, trivial⟩, trivial⟩, trivial⟩, ⟨trivial, trivial, trivial⟩, trivial⟩, trivial⟩, trivial⟩⟩
set_option maxRecDepth 100000 in
theorem gossip_Ring_Tell_v0.ok : FnOk Try.prog tt Γ 22 gossip_Ring_Tell_v0.fd := ⟨by kernel_rfl, by kernel_rfl, enters_ok (fn := Try.f22) (by kernel_rfl) (by kernel_rfl) (by kernel_rfl), gossip_Ring_Tell_v0.forms, gossip_Ring_Tell_v0.vc⟩

set_option maxRecDepth 100000 in
theorem gossip_Ring_Tell_v1.forms : gossip_Ring_Tell_v1.fd.formsOk = true := by kernel_rfl
set_option maxRecDepth 100000 in
theorem gossip_Ring_Tell_v1.vc : gossip_Ring_Tell_v1.fd.vc tt Γ := ⟨fun d => by kernel_rfl, fun k d => by kernel_rfl, ⟨trivial, ⟨trivial, ⟨⟨trivial, ⟨⟨trivial, trivial, trivial⟩, trivial⟩, trivial⟩, ⟨trivial, trivial, trivial⟩, trivial⟩, trivial⟩, trivial⟩⟩
set_option maxRecDepth 100000 in
theorem gossip_Ring_Tell_v1.ok : FnOk Try.prog tt Γ 22 gossip_Ring_Tell_v1.fd := ⟨by kernel_rfl, by kernel_rfl, enters_ok (fn := Try.f22) (by kernel_rfl) (by kernel_rfl) (by kernel_rfl), gossip_Ring_Tell_v1.forms, gossip_Ring_Tell_v1.vc⟩

set_option maxRecDepth 100000 in
theorem octet_Num.forms : octet_Num.fd.formsOk = true := by kernel_rfl
set_option maxRecDepth 100000 in
theorem octet_Num.vc : octet_Num.fd.vc tt Γ := ⟨fun d => by kernel_rfl, fun k d => by kernel_rfl, ⟨trivial, ⟨⟨trivial, ⟨⟨trivial, trivial, trivial⟩, trivial⟩, trivial⟩, ⟨trivial, ⟨⟨⟨⟨trivial, ⟨trivial, trivial⟩, trivial⟩, ⟨trivial, trivial, trivial⟩, trivial⟩, ⟨⟨fun d => by kernel_rfl, fun k d => by kernel_rfl⟩, trivial⟩⟩, ⟨trivial, trivial, trivial⟩, trivial⟩, trivial⟩, trivial⟩, trivial⟩⟩
set_option maxRecDepth 100000 in
theorem octet_Num.ok : FnOk Try.prog tt Γ 56 octet_Num.fd := ⟨by kernel_rfl, by kernel_rfl, enters_ok (fn := Try.f56) (by kernel_rfl) (by kernel_rfl) (by kernel_rfl), octet_Num.forms, octet_Num.vc⟩

set_option maxRecDepth 100000 in
theorem octet_Writer_Num.forms : octet_Writer_Num.fd.formsOk = true := by kernel_rfl
set_option maxRecDepth 100000 in
theorem octet_Writer_Num.vc : octet_Writer_Num.fd.vc tt Γ := ⟨fun d => by kernel_rfl, fun k d => by kernel_rfl, ⟨trivial, ⟨trivial, trivial, trivial⟩, trivial⟩⟩
set_option maxRecDepth 100000 in
theorem octet_Writer_Num.ok : FnOk Try.prog tt Γ 44 octet_Writer_Num.fd := ⟨by kernel_rfl, by kernel_rfl, enters_ok (fn := Try.f44) (by kernel_rfl) (by kernel_rfl) (by kernel_rfl), octet_Writer_Num.forms, octet_Writer_Num.vc⟩

set_option maxRecDepth 100000 in
theorem octet_Text.forms : octet_Text.fd.formsOk = true := by kernel_rfl
set_option maxRecDepth 100000 in
theorem octet_Text.vc : octet_Text.fd.vc tt Γ := ⟨fun d => by kernel_rfl, fun k d => by kernel_rfl, ⟨trivial, ⟨trivial, trivial, trivial⟩, trivial⟩⟩
set_option maxRecDepth 100000 in
theorem octet_Text.ok : FnOk Try.prog tt Γ 57 octet_Text.fd := ⟨by kernel_rfl, by kernel_rfl, enters_ok (fn := Try.f57) (by kernel_rfl) (by kernel_rfl) (by kernel_rfl), octet_Text.forms, octet_Text.vc⟩

set_option maxRecDepth 100000 in
theorem octet_Writer_Text.forms : octet_Writer_Text.fd.formsOk = true := by kernel_rfl
set_option maxRecDepth 100000 in
theorem octet_Writer_Text.vc : octet_Writer_Text.fd.vc tt Γ := ⟨fun d => by kernel_rfl, fun k d => by kernel_rfl, trivial⟩
set_option maxRecDepth 100000 in
theorem octet_Writer_Text.ok : FnOk Try.prog tt Γ 45 octet_Writer_Text.fd := ⟨by kernel_rfl, by kernel_rfl, enters_ok (fn := Try.f45) (by kernel_rfl) (by kernel_rfl) (by kernel_rfl), octet_Writer_Text.forms, octet_Writer_Text.vc⟩

set_option maxRecDepth 100000 in
theorem octet_Writer_Texts.forms : octet_Writer_Texts.fd.formsOk = true := by kernel_rfl
set_option maxRecDepth 100000 in
theorem octet_Writer_Texts.vc : octet_Writer_Texts.fd.vc tt Γ := ⟨fun d => by kernel_rfl, fun k d => by kernel_rfl, ⟨trivial, ⟨trivial, ⟨⟨trivial, ⟨⟨trivial, trivial⟩, ⟨⟨trivial, trivial, trivial⟩, trivial, trivial⟩, trivial⟩, trivial⟩, ⟨⟨fun d => by kernel_rfl, fun k d => by kernel_rfl⟩, trivial⟩⟩, trivial⟩, trivial⟩⟩
set_option maxRecDepth 100000 in
theorem octet_Writer_Texts.ok : FnOk Try.prog tt Γ 46 octet_Writer_Texts.fd := ⟨by kernel_rfl, by kernel_rfl, enters_ok (fn := Try.f46) (by kernel_rfl) (by kernel_rfl) (by kernel_rfl), octet_Writer_Texts.forms, octet_Writer_Texts.vc⟩

set_option maxRecDepth 100000 in
theorem octet_Writer_All.forms : octet_Writer_All.fd.formsOk = true := by kernel_rfl
set_option maxRecDepth 100000 in
theorem octet_Writer_All.vc : octet_Writer_All.fd.vc tt Γ := ⟨fun d => by kernel_rfl, fun k d => by kernel_rfl, ⟨trivial, ⟨⟨trivial, ⟨⟨trivial, trivial, trivial⟩, trivial⟩, trivial⟩, ⟨trivial, trivial, trivial⟩, trivial⟩, trivial⟩⟩
set_option maxRecDepth 100000 in
theorem octet_Writer_All.ok : FnOk Try.prog tt Γ 47 octet_Writer_All.fd := ⟨by kernel_rfl, by kernel_rfl, enters_ok (fn := Try.f47) (by kernel_rfl) (by kernel_rfl) (by kernel_rfl), octet_Writer_All.forms, octet_Writer_All.vc⟩

set_option maxRecDepth 100000 in
theorem proof_GrowthBytes.forms : proof_GrowthBytes.fd.formsOk = true := by kernel_rfl
set_option maxRecDepth 100000 in
theorem proof_GrowthBytes.vc : proof_GrowthBytes.fd.vc tt Γ := ⟨fun d => by kernel_rfl, fun k d => by kernel_rfl, ⟨trivial, ⟨⟨trivial, ⟨⟨trivial, trivial, trivial⟩, trivial⟩, trivial⟩, ⟨trivial, ⟨trivial, ⟨trivial, ⟨trivial, ⟨trivial, ⟨trivial, trivial, trivial⟩, trivial⟩, trivial⟩, trivial⟩, trivial⟩, trivial⟩, trivial⟩, trivial⟩⟩
set_option maxRecDepth 100000 in
theorem proof_GrowthBytes.ok : FnOk Try.prog tt Γ 27 proof_GrowthBytes.fd := ⟨by kernel_rfl, by kernel_rfl, enters_ok (fn := Try.f27) (by kernel_rfl) (by kernel_rfl) (by kernel_rfl), proof_GrowthBytes.forms, proof_GrowthBytes.vc⟩

set_option maxRecDepth 100000 in
theorem chartularylaw28_point.forms : chartularylaw28_point.fd.formsOk = true := by kernel_rfl
set_option maxRecDepth 100000 in
theorem chartularylaw28_point.vc : chartularylaw28_point.fd.vc tt Γ := ⟨fun d => by kernel_rfl, fun k d => by kernel_rfl, ⟨trivial, ⟨trivial, trivial, trivial⟩, trivial⟩⟩
set_option maxRecDepth 100000 in
theorem chartularylaw28_point.ok : FnOk Try.prog tt Γ 29 chartularylaw28_point.fd := ⟨by kernel_rfl, by kernel_rfl, enters_ok (fn := Try.f29) (by kernel_rfl) (by kernel_rfl) (by kernel_rfl), chartularylaw28_point.forms, chartularylaw28_point.vc⟩

set_option maxRecDepth 100000 in
theorem chartularylaw28_fill.forms : chartularylaw28_fill.fd.formsOk = true := by kernel_rfl
set_option maxRecDepth 100000 in
theorem chartularylaw28_fill.vc : chartularylaw28_fill.fd.vc tt Γ := ⟨fun d => by kernel_rfl, fun k d => by kernel_rfl, ⟨trivial, ⟨trivial, ⟨⟨trivial, ⟨⟨⟨trivial, ⟨trivial, trivial⟩, trivial⟩, ⟨trivial, trivial, trivial⟩, trivial⟩, ⟨⟨fun d => by kernel_rfl, fun k d => by kernel_rfl⟩, trivial⟩⟩, trivial⟩, ⟨trivial, trivial, trivial⟩, trivial⟩, trivial⟩, trivial⟩⟩
set_option maxRecDepth 100000 in
theorem chartularylaw28_fill.ok : FnOk Try.prog tt Γ 30 chartularylaw28_fill.fd := ⟨by kernel_rfl, by kernel_rfl, enters_ok (fn := Try.f30) (by kernel_rfl) (by kernel_rfl) (by kernel_rfl), chartularylaw28_fill.forms, chartularylaw28_fill.vc⟩

set_option maxRecDepth 100000 in
theorem chartularylaw28_awake.forms : chartularylaw28_awake.fd.formsOk = true := by kernel_rfl
set_option maxRecDepth 100000 in
theorem chartularylaw28_awake.vc : chartularylaw28_awake.fd.vc tt Γ := ⟨fun d => by kernel_rfl, fun k d => by kernel_rfl, ⟨trivial, ⟨trivial, ⟨⟨trivial, ⟨⟨trivial, trivial, trivial⟩, trivial⟩, trivial⟩, ⟨trivial, ⟨trivial, trivial, trivial⟩, trivial⟩, ⟨⟨fun d => by kernel_rfl, fun k d => by kernel_rfl⟩, trivial⟩⟩, trivial⟩, trivial⟩⟩
set_option maxRecDepth 100000 in
theorem chartularylaw28_awake.ok : FnOk Try.prog tt Γ 8 chartularylaw28_awake.fd := ⟨by kernel_rfl, by kernel_rfl, enters_ok (fn := Try.f8) (by kernel_rfl) (by kernel_rfl) (by kernel_rfl), chartularylaw28_awake.forms, chartularylaw28_awake.vc⟩

set_option maxRecDepth 100000 in
theorem gossip_New_v1.forms : gossip_New_v1.fd.formsOk = true := by kernel_rfl
set_option maxRecDepth 100000 in
theorem gossip_New_v1.vc : gossip_New_v1.fd.vc tt Γ := ⟨fun d => by kernel_rfl, fun k d => by kernel_rfl, ⟨trivial, ⟨⟨trivial, ⟨⟨trivial, trivial, trivial⟩, trivial⟩, trivial⟩, ⟨trivial, ⟨⟨trivial, ⟨⟨trivial, ⟨⟨trivial, trivial⟩, ⟨trivial, trivial, trivial⟩, trivial⟩, trivial⟩, ⟨⟨fun d => by kernel_rfl, fun k d => by kernel_rfl⟩, ⟨⟨fun d => by kernel_rfl, fun k d => by kernel_rfl⟩, ⟨⟨fun d => by kernel_rfl, fun k d => by kernel_rfl⟩, ⟨⟨fun d => by kernel_rfl, fun k d => by kernel_rfl⟩, trivial⟩⟩⟩⟩⟩, trivial⟩, ⟨trivial, trivial, trivial⟩, trivial⟩, trivial⟩, trivial⟩, trivial⟩⟩
set_option maxRecDepth 100000 in
theorem gossip_New_v1.ok : FnOk Try.prog tt Γ 14 gossip_New_v1.fd := ⟨by kernel_rfl, by kernel_rfl, enters_ok (fn := Try.f14) (by kernel_rfl) (by kernel_rfl) (by kernel_rfl), gossip_New_v1.forms, gossip_New_v1.vc⟩

set_option maxRecDepth 100000 in
theorem gossip_Ring_Forks_v2.forms : gossip_Ring_Forks_v2.fd.formsOk = true := by kernel_rfl
set_option maxRecDepth 100000 in
theorem gossip_Ring_Forks_v2.vc : gossip_Ring_Forks_v2.fd.vc tt Γ := ⟨fun d => by kernel_rfl, fun k d => by kernel_rfl, ⟨trivial, ⟨⟨trivial, ⟨⟨trivial, trivial, trivial⟩, trivial⟩, trivial⟩, ⟨trivial, trivial, trivial⟩, trivial⟩, trivial⟩⟩
set_option maxRecDepth 100000 in
theorem gossip_Ring_Forks_v2.ok : FnOk Try.prog tt Γ 17 gossip_Ring_Forks_v2.fd := ⟨by kernel_rfl, by kernel_rfl, enters_ok (fn := Try.f17) (by kernel_rfl) (by kernel_rfl) (by kernel_rfl), gossip_Ring_Forks_v2.forms, gossip_Ring_Forks_v2.vc⟩

set_option maxRecDepth 100000 in
theorem gossip_Ring_Agree_v2.forms : gossip_Ring_Agree_v2.fd.formsOk = true := by kernel_rfl
set_option maxRecDepth 100000 in
theorem gossip_Ring_Agree_v2.vc : gossip_Ring_Agree_v2.fd.vc tt Γ := ⟨fun d => by kernel_rfl, fun k d => by kernel_rfl, ⟨trivial, ⟨⟨trivial, ⟨⟨trivial, trivial, trivial⟩, trivial⟩, trivial⟩, ⟨⟨trivial, ⟨⟨trivial, ⟨⟨trivial, trivial⟩, ⟨⟨trivial, ⟨trivial, ⟨⟨trivial, ⟨⟨trivial, trivial⟩, ⟨⟨trivial, ⟨trivial, ⟨⟨trivial, trivial, trivial⟩, trivial⟩, trivial⟩, trivial⟩, trivial, trivial⟩, trivial⟩, trivial⟩, ⟨⟨fun d => by kernel_rfl, fun k d => by kernel_rfl⟩, ⟨⟨fun d => by kernel_rfl, fun k d => by kernel_rfl⟩, ⟨⟨fun d => by kernel_rfl, fun k d => by kernel_rfl⟩, ⟨⟨fun d => by kernel_rfl, fun k d => by kernel_rfl⟩, ⟨⟨fun d => by kernel_rfl, fun k d => by kernel_rfl⟩, ⟨⟨fun d => by kernel_rfl, fun k d => by kernel_rfl⟩, trivial⟩⟩⟩⟩⟩⟩⟩, trivial⟩, trivial⟩, trivial, trivial⟩, trivial⟩, trivial⟩, ⟨⟨fun d => by kernel_rfl, fun k d => by kernel_rfl⟩, ⟨⟨fun d => by kernel_rfl, fun k d => by kernel_rfl⟩, ⟨⟨fun d => by kernel_rfl, fun k d => by kernel_rfl⟩, ⟨⟨fun d => by kernel_rfl, fun k d => by kernel_rfl⟩, trivial⟩⟩⟩⟩⟩, trivial⟩, ⟨trivial, trivial, trivial⟩, trivial⟩, trivial⟩, trivial⟩⟩
set_option maxRecDepth 100000 in
theorem gossip_Ring_Agree_v2.ok : FnOk Try.prog tt Γ 19 gossip_Ring_Agree_v2.fd := ⟨by kernel_rfl, by kernel_rfl, enters_ok (fn := Try.f19) (by kernel_rfl) (by kernel_rfl) (by kernel_rfl), gossip_Ring_Agree_v2.forms, gossip_Ring_Agree_v2.vc⟩

set_option maxRecDepth 100000 in
theorem gossip_at_auditor_Auditor_v2.forms : gossip_at_auditor_Auditor_v2.fd.formsOk = true := by kernel_rfl
set_option maxRecDepth 100000 in
theorem gossip_at_auditor_Auditor_v2.vc : gossip_at_auditor_Auditor_v2.fd.vc tt Γ := ⟨fun d => by kernel_rfl, fun k d => by kernel_rfl, ⟨trivial, ⟨⟨trivial, ⟨⟨trivial, ⟨trivial, trivial, trivial⟩, trivial⟩, trivial⟩, trivial⟩, ⟨trivial, trivial, trivial⟩, trivial⟩, trivial⟩⟩
set_option maxRecDepth 100000 in
theorem gossip_at_auditor_Auditor_v2.ok : FnOk Try.prog tt Γ 39 gossip_at_auditor_Auditor_v2.fd := ⟨by kernel_rfl, by kernel_rfl, enters_ok (fn := Try.f39) (by kernel_rfl) (by kernel_rfl) (by kernel_rfl), gossip_at_auditor_Auditor_v2.forms, gossip_at_auditor_Auditor_v2.vc⟩

set_option maxRecDepth 100000 in
theorem gossip_Ring_Auditor_v3.forms : gossip_Ring_Auditor_v3.fd.formsOk = true := by kernel_rfl
set_option maxRecDepth 100000 in
theorem gossip_Ring_Auditor_v3.vc : gossip_Ring_Auditor_v3.fd.vc tt Γ := ⟨fun d => by kernel_rfl, fun k d => by kernel_rfl, ⟨trivial, ⟨⟨trivial, ⟨⟨trivial, trivial, trivial⟩, trivial⟩, trivial⟩, ⟨trivial, trivial, trivial⟩, trivial⟩, trivial⟩⟩
set_option maxRecDepth 100000 in
theorem gossip_Ring_Auditor_v3.ok : FnOk Try.prog tt Γ 20 gossip_Ring_Auditor_v3.fd := ⟨by kernel_rfl, by kernel_rfl, enters_ok (fn := Try.f20) (by kernel_rfl) (by kernel_rfl) (by kernel_rfl), gossip_Ring_Auditor_v3.forms, gossip_Ring_Auditor_v3.vc⟩

set_option maxRecDepth 100000 in
theorem gossip_at_auditor_Auditor_v3.forms : gossip_at_auditor_Auditor_v3.fd.formsOk = true := by kernel_rfl
set_option maxRecDepth 100000 in
theorem gossip_at_auditor_Auditor_v3.vc : gossip_at_auditor_Auditor_v3.fd.vc tt Γ := ⟨fun d => by kernel_rfl, fun k d => by kernel_rfl, ⟨trivial, ⟨⟨trivial, ⟨⟨trivial, ⟨trivial, trivial, trivial⟩, trivial⟩, trivial⟩, trivial⟩, ⟨trivial, trivial, trivial⟩, trivial⟩, trivial⟩⟩
set_option maxRecDepth 100000 in
theorem gossip_at_auditor_Auditor_v3.ok : FnOk Try.prog tt Γ 39 gossip_at_auditor_Auditor_v3.fd := ⟨by kernel_rfl, by kernel_rfl, enters_ok (fn := Try.f39) (by kernel_rfl) (by kernel_rfl) (by kernel_rfl), gossip_at_auditor_Auditor_v3.forms, gossip_at_auditor_Auditor_v3.vc⟩

set_option maxRecDepth 100000 in
theorem gossip_Ring_Auditor_v4.forms : gossip_Ring_Auditor_v4.fd.formsOk = true := by kernel_rfl
set_option maxRecDepth 100000 in
theorem gossip_Ring_Auditor_v4.vc : gossip_Ring_Auditor_v4.fd.vc tt Γ := ⟨fun d => by kernel_rfl, fun k d => by kernel_rfl, ⟨trivial, ⟨⟨trivial, ⟨⟨trivial, trivial, trivial⟩, trivial⟩, trivial⟩, ⟨trivial, trivial, trivial⟩, trivial⟩, trivial⟩⟩
set_option maxRecDepth 100000 in
theorem gossip_Ring_Auditor_v4.ok : FnOk Try.prog tt Γ 20 gossip_Ring_Auditor_v4.fd := ⟨by kernel_rfl, by kernel_rfl, enters_ok (fn := Try.f20) (by kernel_rfl) (by kernel_rfl) (by kernel_rfl), gossip_Ring_Auditor_v4.forms, gossip_Ring_Auditor_v4.vc⟩

set_option maxRecDepth 100000 in
theorem gossip_at_auditor_Auditor_v4.forms : gossip_at_auditor_Auditor_v4.fd.formsOk = true := by kernel_rfl
set_option maxRecDepth 100000 in
theorem gossip_at_auditor_Auditor_v4.vc : gossip_at_auditor_Auditor_v4.fd.vc tt Γ := ⟨fun d => by kernel_rfl, fun k d => by kernel_rfl, ⟨trivial, ⟨⟨trivial, ⟨⟨trivial, ⟨trivial, trivial, trivial⟩, trivial⟩, trivial⟩, trivial⟩, ⟨trivial, trivial, trivial⟩, trivial⟩, trivial⟩⟩
set_option maxRecDepth 100000 in
theorem gossip_at_auditor_Auditor_v4.ok : FnOk Try.prog tt Γ 39 gossip_at_auditor_Auditor_v4.fd := ⟨by kernel_rfl, by kernel_rfl, enters_ok (fn := Try.f39) (by kernel_rfl) (by kernel_rfl) (by kernel_rfl), gossip_at_auditor_Auditor_v4.forms, gossip_at_auditor_Auditor_v4.vc⟩

set_option maxRecDepth 100000 in
theorem gossip_Ring_Auditor_v5.forms : gossip_Ring_Auditor_v5.fd.formsOk = true := by kernel_rfl
set_option maxRecDepth 100000 in
theorem gossip_Ring_Auditor_v5.vc : gossip_Ring_Auditor_v5.fd.vc tt Γ := ⟨fun d => by kernel_rfl, fun k d => by kernel_rfl, ⟨trivial, ⟨⟨trivial, ⟨⟨trivial, trivial, trivial⟩, trivial⟩, trivial⟩, ⟨trivial, trivial, trivial⟩, trivial⟩, trivial⟩⟩
set_option maxRecDepth 100000 in
theorem gossip_Ring_Auditor_v5.ok : FnOk Try.prog tt Γ 20 gossip_Ring_Auditor_v5.fd := ⟨by kernel_rfl, by kernel_rfl, enters_ok (fn := Try.f20) (by kernel_rfl) (by kernel_rfl) (by kernel_rfl), gossip_Ring_Auditor_v5.forms, gossip_Ring_Auditor_v5.vc⟩

set_option maxRecDepth 100000 in
theorem gossip_at_auditor_Auditor_v5.forms : gossip_at_auditor_Auditor_v5.fd.formsOk = true := by kernel_rfl
set_option maxRecDepth 100000 in
theorem gossip_at_auditor_Auditor_v5.vc : gossip_at_auditor_Auditor_v5.fd.vc tt Γ := ⟨fun d => by kernel_rfl, fun k d => by kernel_rfl, ⟨trivial, ⟨⟨trivial, ⟨⟨trivial, ⟨trivial, trivial, trivial⟩, trivial⟩, trivial⟩, trivial⟩, ⟨trivial, trivial, trivial⟩, trivial⟩, trivial⟩⟩
set_option maxRecDepth 100000 in
theorem gossip_at_auditor_Auditor_v5.ok : FnOk Try.prog tt Γ 39 gossip_at_auditor_Auditor_v5.fd := ⟨by kernel_rfl, by kernel_rfl, enters_ok (fn := Try.f39) (by kernel_rfl) (by kernel_rfl) (by kernel_rfl), gossip_at_auditor_Auditor_v5.forms, gossip_at_auditor_Auditor_v5.vc⟩

set_option maxRecDepth 100000 in
theorem gossip_Ring_Auditor_v6.forms : gossip_Ring_Auditor_v6.fd.formsOk = true := by kernel_rfl
set_option maxRecDepth 100000 in
theorem gossip_Ring_Auditor_v6.vc : gossip_Ring_Auditor_v6.fd.vc tt Γ := ⟨fun d => by kernel_rfl, fun k d => by kernel_rfl, ⟨trivial, ⟨⟨trivial, ⟨⟨trivial, trivial, trivial⟩, trivial⟩, trivial⟩, ⟨trivial, trivial, trivial⟩, trivial⟩, trivial⟩⟩
set_option maxRecDepth 100000 in
theorem gossip_Ring_Auditor_v6.ok : FnOk Try.prog tt Γ 20 gossip_Ring_Auditor_v6.fd := ⟨by kernel_rfl, by kernel_rfl, enters_ok (fn := Try.f20) (by kernel_rfl) (by kernel_rfl) (by kernel_rfl), gossip_Ring_Auditor_v6.forms, gossip_Ring_Auditor_v6.vc⟩

set_option maxRecDepth 100000 in
theorem gossip_Ring_Hear_v10.forms : gossip_Ring_Hear_v10.fd.formsOk = true := by kernel_rfl
set_option maxRecDepth 100000 in
theorem gossip_Ring_Hear_v10.vc : gossip_Ring_Hear_v10.fd.vc tt Γ := ⟨fun d => by kernel_rfl, fun k d => by kernel_rfl, ⟨trivial, ⟨trivial, ⟨⟨trivial, ⟨⟨trivial, trivial, trivial⟩, trivial⟩, trivial⟩, ⟨trivial, ⟨⟨trivial, ⟨⟨trivial, ⟨trivial, trivial, trivial⟩, trivial⟩, trivial⟩, trivial⟩, ⟨trivial, trivial, trivial⟩, trivial⟩, trivial⟩, trivial⟩, trivial⟩, trivial⟩⟩
set_option maxRecDepth 100000 in
theorem gossip_Ring_Hear_v10.ok : FnOk Try.prog tt Γ 21 gossip_Ring_Hear_v10.fd := ⟨by kernel_rfl, by kernel_rfl, enters_ok (fn := Try.f21) (by kernel_rfl) (by kernel_rfl) (by kernel_rfl), gossip_Ring_Hear_v10.forms, gossip_Ring_Hear_v10.vc⟩

set_option maxRecDepth 100000 in
theorem gossip_Ring_Hear_v2.forms : gossip_Ring_Hear_v2.fd.formsOk = true := by kernel_rfl
set_option maxRecDepth 100000 in
theorem gossip_Ring_Hear_v2.vc : gossip_Ring_Hear_v2.fd.vc tt Γ := ⟨fun d => by kernel_rfl, fun k d => by kernel_rfl, ⟨trivial, ⟨trivial, ⟨⟨trivial, ⟨⟨trivial, trivial, trivial⟩, trivial⟩, trivial⟩, ⟨trivial, ⟨⟨trivial, ⟨⟨trivial, ⟨trivial, trivial, trivial⟩, trivial⟩, trivial⟩, trivial⟩, ⟨trivial, trivial, trivial⟩, trivial⟩, trivial⟩, trivial⟩, trivial⟩, trivial⟩⟩
set_option maxRecDepth 100000 in
theorem gossip_Ring_Hear_v2.ok : FnOk Try.prog tt Γ 21 gossip_Ring_Hear_v2.fd := ⟨by kernel_rfl, by kernel_rfl, enters_ok (fn := Try.f21) (by kernel_rfl) (by kernel_rfl) (by kernel_rfl), gossip_Ring_Hear_v2.forms, gossip_Ring_Hear_v2.vc⟩

set_option maxRecDepth 100000 in
theorem gossip_Ring_Hear_v3.forms : gossip_Ring_Hear_v3.fd.formsOk = true := by kernel_rfl
set_option maxRecDepth 100000 in
theorem gossip_Ring_Hear_v3.vc : gossip_Ring_Hear_v3.fd.vc tt Γ := ⟨fun d => by kernel_rfl, fun k d => by kernel_rfl, ⟨trivial, ⟨trivial, ⟨⟨trivial, ⟨⟨trivial, trivial, trivial⟩, trivial⟩, trivial⟩, ⟨trivial, ⟨⟨trivial, ⟨⟨trivial, ⟨trivial, trivial, trivial⟩, trivial⟩, trivial⟩, trivial⟩, ⟨trivial, trivial, trivial⟩, trivial⟩, trivial⟩, trivial⟩, trivial⟩, trivial⟩⟩
set_option maxRecDepth 100000 in
theorem gossip_Ring_Hear_v3.ok : FnOk Try.prog tt Γ 21 gossip_Ring_Hear_v3.fd := ⟨by kernel_rfl, by kernel_rfl, enters_ok (fn := Try.f21) (by kernel_rfl) (by kernel_rfl) (by kernel_rfl), gossip_Ring_Hear_v3.forms, gossip_Ring_Hear_v3.vc⟩

set_option maxRecDepth 100000 in
theorem gossip_Ring_Hear_v4.forms : gossip_Ring_Hear_v4.fd.formsOk = true := by kernel_rfl
set_option maxRecDepth 100000 in
theorem gossip_Ring_Hear_v4.vc : gossip_Ring_Hear_v4.fd.vc tt Γ := ⟨fun d => by kernel_rfl, fun k d => by kernel_rfl, ⟨trivial, ⟨trivial, ⟨⟨trivial, ⟨⟨trivial, trivial, trivial⟩, trivial⟩, trivial⟩, ⟨trivial, ⟨⟨trivial, ⟨⟨trivial, ⟨trivial, trivial, trivial⟩, trivial⟩, trivial⟩, trivial⟩, ⟨trivial, trivial, trivial⟩, trivial⟩, trivial⟩, trivial⟩, trivial⟩, trivial⟩⟩
set_option maxRecDepth 100000 in
theorem gossip_Ring_Hear_v4.ok : FnOk Try.prog tt Γ 21 gossip_Ring_Hear_v4.fd := ⟨by kernel_rfl, by kernel_rfl, enters_ok (fn := Try.f21) (by kernel_rfl) (by kernel_rfl) (by kernel_rfl), gossip_Ring_Hear_v4.forms, gossip_Ring_Hear_v4.vc⟩

set_option maxRecDepth 100000 in
theorem gossip_Ring_Hear_v5.forms : gossip_Ring_Hear_v5.fd.formsOk = true := by kernel_rfl
set_option maxRecDepth 100000 in
theorem gossip_Ring_Hear_v5.vc : gossip_Ring_Hear_v5.fd.vc tt Γ := ⟨fun d => by kernel_rfl, fun k d => by kernel_rfl, ⟨trivial, ⟨trivial, ⟨⟨trivial, ⟨⟨trivial, trivial, trivial⟩, trivial⟩, trivial⟩, ⟨trivial, ⟨⟨trivial, ⟨⟨trivial, ⟨trivial, trivial, trivial⟩, trivial⟩, trivial⟩, trivial⟩, ⟨trivial, trivial, trivial⟩, trivial⟩, trivial⟩, trivial⟩, trivial⟩, trivial⟩⟩
set_option maxRecDepth 100000 in
theorem gossip_Ring_Hear_v5.ok : FnOk Try.prog tt Γ 21 gossip_Ring_Hear_v5.fd := ⟨by kernel_rfl, by kernel_rfl, enters_ok (fn := Try.f21) (by kernel_rfl) (by kernel_rfl) (by kernel_rfl), gossip_Ring_Hear_v5.forms, gossip_Ring_Hear_v5.vc⟩

set_option maxRecDepth 100000 in
theorem gossip_Ring_Hear_v6.forms : gossip_Ring_Hear_v6.fd.formsOk = true := by kernel_rfl
set_option maxRecDepth 100000 in
theorem gossip_Ring_Hear_v6.vc : gossip_Ring_Hear_v6.fd.vc tt Γ := ⟨fun d => by kernel_rfl, fun k d => by kernel_rfl, ⟨trivial, ⟨trivial, ⟨⟨trivial, ⟨⟨trivial, trivial, trivial⟩, trivial⟩, trivial⟩, ⟨trivial, ⟨⟨trivial, ⟨⟨trivial, ⟨trivial, trivial, trivial⟩, trivial⟩, trivial⟩, trivial⟩, ⟨trivial, trivial, trivial⟩, trivial⟩, trivial⟩, trivial⟩, trivial⟩, trivial⟩⟩
set_option maxRecDepth 100000 in
theorem gossip_Ring_Hear_v6.ok : FnOk Try.prog tt Γ 21 gossip_Ring_Hear_v6.fd := ⟨by kernel_rfl, by kernel_rfl, enters_ok (fn := Try.f21) (by kernel_rfl) (by kernel_rfl) (by kernel_rfl), gossip_Ring_Hear_v6.forms, gossip_Ring_Hear_v6.vc⟩

set_option maxRecDepth 100000 in
theorem gossip_Ring_Hear_v7.forms : gossip_Ring_Hear_v7.fd.formsOk = true := by kernel_rfl
set_option maxRecDepth 100000 in
theorem gossip_Ring_Hear_v7.vc : gossip_Ring_Hear_v7.fd.vc tt Γ := ⟨fun d => by kernel_rfl, fun k d => by kernel_rfl, ⟨trivial, ⟨trivial, ⟨⟨trivial, ⟨⟨trivial, trivial, trivial⟩, trivial⟩, trivial⟩, ⟨trivial, ⟨⟨trivial, ⟨⟨trivial, ⟨trivial, trivial, trivial⟩, trivial⟩, trivial⟩, trivial⟩, ⟨trivial, trivial, trivial⟩, trivial⟩, trivial⟩, trivial⟩, trivial⟩, trivial⟩⟩
set_option maxRecDepth 100000 in
theorem gossip_Ring_Hear_v7.ok : FnOk Try.prog tt Γ 21 gossip_Ring_Hear_v7.fd := ⟨by kernel_rfl, by kernel_rfl, enters_ok (fn := Try.f21) (by kernel_rfl) (by kernel_rfl) (by kernel_rfl), gossip_Ring_Hear_v7.forms, gossip_Ring_Hear_v7.vc⟩

set_option maxRecDepth 100000 in
theorem gossip_Ring_Hear_v8.forms : gossip_Ring_Hear_v8.fd.formsOk = true := by kernel_rfl
set_option maxRecDepth 100000 in
theorem gossip_Ring_Hear_v8.vc : gossip_Ring_Hear_v8.fd.vc tt Γ := ⟨fun d => by kernel_rfl, fun k d => by kernel_rfl, ⟨trivial, ⟨trivial, ⟨⟨trivial, ⟨⟨trivial, trivial, trivial⟩, trivial⟩, trivial⟩, ⟨trivial, ⟨⟨trivial, ⟨⟨trivial, ⟨trivial, trivial, trivial⟩, trivial⟩, trivial⟩, trivial⟩, ⟨trivial, trivial, trivial⟩, trivial⟩, trivial⟩, trivial⟩, trivial⟩, trivial⟩⟩
set_option maxRecDepth 100000 in
theorem gossip_Ring_Hear_v8.ok : FnOk Try.prog tt Γ 21 gossip_Ring_Hear_v8.fd := ⟨by kernel_rfl, by kernel_rfl, enters_ok (fn := Try.f21) (by kernel_rfl) (by kernel_rfl) (by kernel_rfl), gossip_Ring_Hear_v8.forms, gossip_Ring_Hear_v8.vc⟩

set_option maxRecDepth 100000 in
theorem gossip_Ring_Hear_v9.forms : gossip_Ring_Hear_v9.fd.formsOk = true := by kernel_rfl
set_option maxRecDepth 100000 in
theorem gossip_Ring_Hear_v9.vc : gossip_Ring_Hear_v9.fd.vc tt Γ := ⟨fun d => by kernel_rfl, fun k d => by kernel_rfl, ⟨trivial, ⟨trivial, ⟨⟨trivial, ⟨⟨trivial, trivial, trivial⟩, trivial⟩, trivial⟩, ⟨trivial, ⟨⟨trivial, ⟨⟨trivial, ⟨trivial, trivial, trivial⟩, trivial⟩, trivial⟩, trivial⟩, ⟨trivial, trivial, trivial⟩, trivial⟩, trivial⟩, trivial⟩, trivial⟩, trivial⟩⟩
set_option maxRecDepth 100000 in
theorem gossip_Ring_Hear_v9.ok : FnOk Try.prog tt Γ 21 gossip_Ring_Hear_v9.fd := ⟨by kernel_rfl, by kernel_rfl, enters_ok (fn := Try.f21) (by kernel_rfl) (by kernel_rfl) (by kernel_rfl), gossip_Ring_Hear_v9.forms, gossip_Ring_Hear_v9.vc⟩

set_option maxRecDepth 100000 in
theorem gossip_Ring_Tell_v3.forms : gossip_Ring_Tell_v3.fd.formsOk = true := by kernel_rfl
set_option maxRecDepth 100000 in
theorem gossip_Ring_Tell_v3.vc : gossip_Ring_Tell_v3.fd.vc tt Γ := ⟨fun d => by kernel_rfl, fun k d => by kernel_rfl, ⟨trivial, ⟨trivial, ⟨⟨trivial, ⟨⟨trivial, trivial, trivial⟩, trivial⟩, trivial⟩, ⟨trivial, trivial, trivial⟩, trivial⟩, trivial⟩, trivial⟩⟩
set_option maxRecDepth 100000 in
theorem gossip_Ring_Tell_v3.ok : FnOk Try.prog tt Γ 22 gossip_Ring_Tell_v3.fd := ⟨by kernel_rfl, by kernel_rfl, enters_ok (fn := Try.f22) (by kernel_rfl) (by kernel_rfl) (by kernel_rfl), gossip_Ring_Tell_v3.forms, gossip_Ring_Tell_v3.vc⟩

set_option maxRecDepth 100000 in
theorem gossip_Ring_Tell_v4.forms : gossip_Ring_Tell_v4.fd.formsOk = true := by kernel_rfl
set_option maxRecDepth 100000 in
theorem gossip_Ring_Tell_v4.vc : gossip_Ring_Tell_v4.fd.vc tt Γ := ⟨fun d => by kernel_rfl, fun k d => by kernel_rfl, ⟨trivial, ⟨trivial, ⟨⟨trivial, ⟨⟨trivial, trivial, trivial⟩, trivial⟩, trivial⟩, ⟨trivial, trivial, trivial⟩, trivial⟩, trivial⟩, trivial⟩⟩
set_option maxRecDepth 100000 in
theorem gossip_Ring_Tell_v4.ok : FnOk Try.prog tt Γ 22 gossip_Ring_Tell_v4.fd := ⟨by kernel_rfl, by kernel_rfl, enters_ok (fn := Try.f22) (by kernel_rfl) (by kernel_rfl) (by kernel_rfl), gossip_Ring_Tell_v4.forms, gossip_Ring_Tell_v4.vc⟩

set_option maxRecDepth 100000 in
theorem gossip_Ring_Tell_v5.forms : gossip_Ring_Tell_v5.fd.formsOk = true := by kernel_rfl
set_option maxRecDepth 100000 in
theorem gossip_Ring_Tell_v5.vc : gossip_Ring_Tell_v5.fd.vc tt Γ := ⟨fun d => by kernel_rfl, fun k d => by kernel_rfl, ⟨trivial, ⟨trivial, ⟨⟨trivial, ⟨⟨trivial, trivial, trivial⟩, trivial⟩, trivial⟩, ⟨trivial, trivial, trivial⟩, trivial⟩, trivial⟩, trivial⟩⟩
set_option maxRecDepth 100000 in
theorem gossip_Ring_Tell_v5.ok : FnOk Try.prog tt Γ 22 gossip_Ring_Tell_v5.fd := ⟨by kernel_rfl, by kernel_rfl, enters_ok (fn := Try.f22) (by kernel_rfl) (by kernel_rfl) (by kernel_rfl), gossip_Ring_Tell_v5.forms, gossip_Ring_Tell_v5.vc⟩

set_option maxRecDepth 100000 in
theorem gossip_Ring_Tell_v6.forms : gossip_Ring_Tell_v6.fd.formsOk = true := by kernel_rfl
set_option maxRecDepth 100000 in
theorem gossip_Ring_Tell_v6.vc : gossip_Ring_Tell_v6.fd.vc tt Γ := ⟨fun d => by kernel_rfl, fun k d => by kernel_rfl, ⟨trivial, ⟨trivial, ⟨⟨trivial, ⟨⟨trivial, trivial, trivial⟩, trivial⟩, trivial⟩, ⟨trivial, trivial, trivial⟩, trivial⟩, trivial⟩, trivial⟩⟩
set_option maxRecDepth 100000 in
theorem gossip_Ring_Tell_v6.ok : FnOk Try.prog tt Γ 22 gossip_Ring_Tell_v6.fd := ⟨by kernel_rfl, by kernel_rfl, enters_ok (fn := Try.f22) (by kernel_rfl) (by kernel_rfl) (by kernel_rfl), gossip_Ring_Tell_v6.forms, gossip_Ring_Tell_v6.vc⟩

set_option maxRecDepth 100000 in
theorem pledge_Leaf.forms : pledge_Leaf.fd.formsOk = true := by kernel_rfl
set_option maxRecDepth 100000 in
theorem pledge_Leaf.vc : pledge_Leaf.fd.vc tt Γ := ⟨fun d => by kernel_rfl, fun k d => by kernel_rfl, ⟨trivial, ⟨trivial, trivial, trivial⟩, trivial⟩⟩
set_option maxRecDepth 100000 in
theorem pledge_Leaf.ok : FnOk Try.prog tt Γ 41 pledge_Leaf.fd := ⟨by kernel_rfl, by kernel_rfl, enters_ok (fn := Try.f41) (by kernel_rfl) (by kernel_rfl) (by kernel_rfl), pledge_Leaf.forms, pledge_Leaf.vc⟩

set_option maxRecDepth 100000 in
theorem chartularylaw07_Leaves.forms : chartularylaw07_Leaves.fd.formsOk = true := by kernel_rfl
set_option maxRecDepth 100000 in
theorem chartularylaw07_Leaves.vc : chartularylaw07_Leaves.fd.vc tt Γ := ⟨fun d => by kernel_rfl, fun k d => by kernel_rfl, ⟨trivial, ⟨trivial, ⟨⟨trivial, ⟨⟨⟨trivial, ⟨trivial, trivial⟩, trivial⟩, ⟨⟨trivial, ⟨⟨trivial, ⟨trivial, trivial⟩, trivial⟩, trivial, trivial⟩, trivial⟩, trivial, trivial⟩, trivial⟩, ⟨⟨fun d => by kernel_rfl, fun k d => by kernel_rfl⟩, trivial⟩⟩, trivial⟩, ⟨trivial, trivial, trivial⟩, trivial⟩, trivial⟩, trivial⟩⟩
set_option maxRecDepth 100000 in
theorem chartularylaw07_Leaves.ok : FnOk Try.prog tt Γ 24 chartularylaw07_Leaves.fd := ⟨by kernel_rfl, by kernel_rfl, enters_ok (fn := Try.f24) (by kernel_rfl) (by kernel_rfl) (by kernel_rfl), chartularylaw07_Leaves.forms, chartularylaw07_Leaves.vc⟩

set_option maxRecDepth 100000 in
theorem merkle_Root.forms : merkle_Root.fd.formsOk = true := by kernel_rfl
set_option maxRecDepth 100000 in
theorem merkle_Root.vc : merkle_Root.fd.vc tt Γ := ⟨fun d => by kernel_rfl, fun k d => by kernel_rfl, ⟨trivial, ⟨⟨trivial, ⟨trivial, ⟨⟨trivial, trivial, trivial⟩, ⟨trivial, ⟨⟨trivial, trivial, trivial⟩, trivial⟩, trivial⟩⟩, trivial⟩, trivial⟩, ⟨trivial, ⟨trivial, trivial, trivial⟩, trivial⟩, trivial⟩, trivial⟩⟩
set_option maxRecDepth 100000 in
theorem merkle_Root.ok : FnOk Try.prog tt Γ 28 merkle_Root.fd := ⟨by kernel_rfl, by kernel_rfl, enters_ok (fn := Try.f28) (by kernel_rfl) (by kernel_rfl) (by kernel_rfl), merkle_Root.forms, merkle_Root.vc⟩

set_option maxRecDepth 100000 in
theorem merkle_grow.forms : merkle_grow.fd.formsOk = true := by kernel_rfl
set_option maxRecDepth 100000 in
theorem merkle_grow.vc : merkle_grow.fd.vc tt Γ := ⟨fun d => by kernel_rfl, fun k d => by kernel_rfl, ⟨trivial, ⟨⟨trivial, ⟨⟨⟨trivial, ⟨⟨trivial, trivial, trivial⟩, trivial⟩, trivial⟩, ⟨trivial, trivial, trivial⟩, trivial⟩, trivial⟩, trivial⟩, ⟨trivial, ⟨⟨trivial, ⟨⟨trivial, trivial, trivial⟩, trivial⟩, trivial⟩, ⟨trivial, trivial, trivial⟩, trivial⟩, trivial⟩, trivial⟩, trivial⟩⟩
set_option maxRecDepth 100000 in
theorem merkle_grow.ok : FnOk Try.prog tt Γ 42 merkle_grow.fd := ⟨by kernel_rfl, by kernel_rfl, enters_ok (fn := Try.f42) (by kernel_rfl) (by kernel_rfl) (by kernel_rfl), merkle_grow.forms, merkle_grow.vc⟩

set_option maxRecDepth 100000 in
theorem merkle_Growth.forms : merkle_Growth.fd.formsOk = true := by kernel_rfl
set_option maxRecDepth 100000 in
theorem merkle_Growth.vc : merkle_Growth.fd.vc tt Γ := ⟨fun d => by kernel_rfl, fun k d => by kernel_rfl, ⟨trivial, ⟨⟨trivial, ⟨⟨trivial, trivial, trivial⟩, trivial⟩, trivial⟩, ⟨⟨trivial, ⟨⟨trivial, trivial, trivial⟩, trivial⟩, trivial⟩, ⟨trivial, trivial, trivial⟩, trivial⟩, ⟨⟨fun d => by kernel_rfl, fun k d => by kernel_rfl⟩, trivial⟩⟩, trivial⟩⟩
set_option maxRecDepth 100000 in
theorem merkle_Growth.ok : FnOk Try.prog tt Γ 26 merkle_Growth.fd := ⟨by kernel_rfl, by kernel_rfl, enters_ok (fn := Try.f26) (by kernel_rfl) (by kernel_rfl) (by kernel_rfl), merkle_Growth.forms, merkle_Growth.vc⟩

set_option maxRecDepth 100000 in
theorem chartularylaw28_GossipAgrees.forms : chartularylaw28_GossipAgrees.fd.formsOk = true := by kernel_rfl
set_option maxRecDepth 100000 in
theorem chartularylaw28_GossipAgrees.vc : chartularylaw28_GossipAgrees.fd.vc tt Γ := ⟨fun d => by kernel_rfl, fun k d => by kernel_rfl, ⟨trivial, ⟨trivial, ⟨trivial, ⟨trivial, ⟨⟨trivial, ⟨⟨trivial, trivial, trivial⟩, trivial⟩, trivial⟩, ⟨⟨trivial, ⟨⟨⟨trivial, ⟨trivial, trivial⟩, trivial⟩, ⟨⟨trivial, ⟨trivial, ⟨⟨trivial, ⟨trivial, trivial⟩, trivial⟩, ⟨trivial, ⟨⟨trivial, ⟨trivial, trivial⟩, trivial⟩, ⟨trivial, ⟨trivial, ⟨trivial, ⟨⟨trivial, trivial, trivial⟩, trivial⟩, trivial⟩, trivial⟩, trivial⟩, trivial⟩, trivial⟩, trivial⟩, trivial⟩, trivial⟩, trivial, trivial⟩, trivial⟩, ⟨⟨fun d => by kernel_rfl, fun k d => by kernel_rfl⟩, trivial⟩⟩, trivial⟩, ⟨⟨trivial, ⟨⟨⟨trivial, ⟨trivial, trivial⟩, trivial⟩, ⟨⟨trivial, ⟨trivial, ⟨⟨trivial, trivial, trivial⟩, trivial⟩, trivial⟩, trivial⟩, trivial, trivial⟩, trivial⟩, ⟨⟨fun d => by kernel_rfl, fun k d => by kernel_rfl⟩, ⟨⟨fun d => by kernel_rfl, fun k d => by kernel_rfl⟩, ⟨⟨fun d => by kernel_rfl, fun k d => by kernel_rfl⟩, ⟨⟨fun d => by kernel_rfl, fun k d => by kernel_rfl⟩, ⟨⟨fun d => by kernel_rfl, fun k d => by kernel_rfl⟩, ⟨⟨fun d => by kernel_rfl, fun k d => by kernel_rfl⟩, ⟨⟨fun d => by kernel_rfl, fun k d => by kernel_rfl⟩, ⟨⟨fun d => by kernel_rfl, fun k d => by kernel_rfl⟩, ⟨⟨fun d => by kernel_rfl, fun k d => by kernel_rfl⟩, ⟨⟨fun d => by kernel_rfl, fun k d => by kernel_rfl⟩, trivial⟩⟩⟩⟩⟩⟩⟩⟩⟩⟩⟩, trivial⟩, ⟨trivial, trivial, trivial⟩, trivial⟩, trivial⟩, trivial⟩, trivial⟩, trivial⟩, trivial⟩, trivial⟩⟩
set_option maxRecDepth 100000 in
theorem chartularylaw28_GossipAgrees.ok : FnOk Try.prog tt Γ 7 chartularylaw28_GossipAgrees.fd := ⟨by kernel_rfl, by kernel_rfl, enters_ok (fn := Try.f7) (by kernel_rfl) (by kernel_rfl) (by kernel_rfl), chartularylaw28_GossipAgrees.forms, chartularylaw28_GossipAgrees.vc⟩

noncomputable def ents : Gam := []
theorem ents_ok : GamOk Try.prog ents := GamOk.nil
noncomputable def tab : Tab := [(12, mill_New.fd), (15, auditor_New.fd), (14, gossip_New_v0.fd), (17, gossip_Ring_Forks_v0.fd), (9, gossip_Compare.fd), (37, auditor_Auditor_none.fd), (38, slices_Clone_api_Point.fd), (18, auditor_Auditor_Points.fd), (19, gossip_Ring_Agree_v0.fd), (39, gossip_at_auditor_Auditor_v0.fd), (20, gossip_Ring_Auditor_v0.fd), (39, gossip_at_auditor_Auditor_v1.fd), (20, gossip_Ring_Auditor_v1.fd), (21, gossip_Ring_Hear_v0.fd), (31, merkle_sums.fd), (58, mill_Mill_none.fd), (69, sha_New.fd), (80, bits_RotateLeft32.fd), (79, sha_turn.fd), (77, sha_words.fd), (78, sha_rounds.fd), (76, sha_State_mix.fd), (70, sha_State_Write.fd), (71, sha_State_Sum.fd), (60, sha_Sum.fd), (59, mill_name.fd), (61, mill_Mill_note.fd), (50, mill_Mill_Sum.fd), (32, pledge_None.fd), (48, merkle_split.fd), (49, pledge_Node.fd), (33, merkle_both.fd), (13, merkle_Grown.fd), (25, auditor_Auditor_Last.fd), (51, auditor_Auditor_count.fd), (55, proof_sums.fd), (43, proof_RightGrowth.fd), (62, octet_Read.fd), (73, octet_Reader_Fail.fd), (74, octet_Reader_Err.fd), (72, octet_Reader_Raw.fd), (63, octet_Reader_Num.fd), (64, octet_Reader_Text.fd), (65, octet_Reader_Texts.fd), (75, octet_Reader_Left.fd), (66, octet_Reader_End.fd), (52, proof_ReadGrowth.fd), (68, auditor_Auditor_known_1_v0.fd), (67, slices_IndexFunc_api_Point_v0.fd), (53, auditor_Auditor_known.fd), (35, auditor_Auditor_Meet.fd), (22, gossip_Ring_Tell_v0.fd), (22, gossip_Ring_Tell_v1.fd), (56, octet_Num.fd), (44, octet_Writer_Num.fd), (57, octet_Text.fd), (45, octet_Writer_Text.fd), (46, octet_Writer_Texts.fd), (47, octet_Writer_All.fd), (27, proof_GrowthBytes.fd), (29, chartularylaw28_point.fd), (30, chartularylaw28_fill.fd), (8, chartularylaw28_awake.fd), (14, gossip_New_v1.fd), (17, gossip_Ring_Forks_v2.fd), (19, gossip_Ring_Agree_v2.fd), (39, gossip_at_auditor_Auditor_v2.fd), (20, gossip_Ring_Auditor_v3.fd), (39, gossip_at_auditor_Auditor_v3.fd), (20, gossip_Ring_Auditor_v4.fd), (39, gossip_at_auditor_Auditor_v4.fd), (20, gossip_Ring_Auditor_v5.fd), (39, gossip_at_auditor_Auditor_v5.fd), (20, gossip_Ring_Auditor_v6.fd), (21, gossip_Ring_Hear_v10.fd), (21, gossip_Ring_Hear_v2.fd), (21, gossip_Ring_Hear_v3.fd), (21, gossip_Ring_Hear_v4.fd), (21, gossip_Ring_Hear_v5.fd), (21, gossip_Ring_Hear_v6.fd), (21, gossip_Ring_Hear_v7.fd), (21, gossip_Ring_Hear_v8.fd), (21, gossip_Ring_Hear_v9.fd), (22, gossip_Ring_Tell_v3.fd), (22, gossip_Ring_Tell_v4.fd), (22, gossip_Ring_Tell_v5.fd), (22, gossip_Ring_Tell_v6.fd), (41, pledge_Leaf.fd), (24, chartularylaw07_Leaves.fd), (28, merkle_Root.fd), (42, merkle_grow.fd), (26, merkle_Growth.fd), (7, chartularylaw28_GossipAgrees.fd)]
theorem Γ_eq (k : Nat) : Γ k = gamK tab k ++ ents := by kernel_rfl
theorem tt_ok : TTok Try.prog tt := ttB_ok (by kernel_rfl)
theorem mixed : Try.prog.follows .mixedOrders = true := by kernel_rfl
theorem tab_all : ∀ x ∈ tab, FnOk Try.prog tt Γ x.1 x.2 := by
  unfold tab
  simp only [List.forall_mem_cons]
  exact ⟨mill_New.ok, auditor_New.ok, gossip_New_v0.ok, gossip_Ring_Forks_v0.ok, gossip_Compare.ok, auditor_Auditor_none.ok, slices_Clone_api_Point.ok, auditor_Auditor_Points.ok, gossip_Ring_Agree_v0.ok, gossip_at_auditor_Auditor_v0.ok, gossip_Ring_Auditor_v0.ok, gossip_at_auditor_Auditor_v1.ok, gossip_Ring_Auditor_v1.ok, gossip_Ring_Hear_v0.ok, merkle_sums.ok, mill_Mill_none.ok, sha_New.ok, bits_RotateLeft32.ok, sha_turn.ok, sha_words.ok, sha_rounds.ok, sha_State_mix.ok, sha_State_Write.ok, sha_State_Sum.ok, sha_Sum.ok, mill_name.ok, mill_Mill_note.ok, mill_Mill_Sum.ok, pledge_None.ok, merkle_split.ok, pledge_Node.ok, merkle_both.ok, merkle_Grown.ok, auditor_Auditor_Last.ok, auditor_Auditor_count.ok, proof_sums.ok, proof_RightGrowth.ok, octet_Read.ok, octet_Reader_Fail.ok, octet_Reader_Err.ok, octet_Reader_Raw.ok, octet_Reader_Num.ok, octet_Reader_Text.ok, octet_Reader_Texts.ok, octet_Reader_Left.ok, octet_Reader_End.ok, proof_ReadGrowth.ok, auditor_Auditor_known_1_v0.ok, slices_IndexFunc_api_Point_v0.ok, auditor_Auditor_known.ok, auditor_Auditor_Meet.ok, gossip_Ring_Tell_v0.ok, gossip_Ring_Tell_v1.ok, octet_Num.ok, octet_Writer_Num.ok, octet_Text.ok, octet_Writer_Text.ok, octet_Writer_Texts.ok, octet_Writer_All.ok, proof_GrowthBytes.ok, chartularylaw28_point.ok, chartularylaw28_fill.ok, chartularylaw28_awake.ok, gossip_New_v1.ok, gossip_Ring_Forks_v2.ok, gossip_Ring_Agree_v2.ok, gossip_at_auditor_Auditor_v2.ok, gossip_Ring_Auditor_v3.ok, gossip_at_auditor_Auditor_v3.ok, gossip_Ring_Auditor_v4.ok, gossip_at_auditor_Auditor_v4.ok, gossip_Ring_Auditor_v5.ok, gossip_at_auditor_Auditor_v5.ok, gossip_Ring_Auditor_v6.ok, gossip_Ring_Hear_v10.ok, gossip_Ring_Hear_v2.ok, gossip_Ring_Hear_v3.ok, gossip_Ring_Hear_v4.ok, gossip_Ring_Hear_v5.ok, gossip_Ring_Hear_v6.ok, gossip_Ring_Hear_v7.ok, gossip_Ring_Hear_v8.ok, gossip_Ring_Hear_v9.ok, gossip_Ring_Tell_v3.ok, gossip_Ring_Tell_v4.ok, gossip_Ring_Tell_v5.ok, gossip_Ring_Tell_v6.ok, pledge_Leaf.ok, chartularylaw07_Leaves.ok, merkle_Root.ok, merkle_grow.ok, merkle_Growth.ok, chartularylaw28_GossipAgrees.ok, fun x h => nomatch h⟩
theorem chartularylaw28_GossipAgrees.spec (k : Nat) : SpecOk Try.prog 7 (chartularylaw28_GossipAgrees.fd.sp k) := spec_ok mixed tt_ok Γ_eq ents_ok tab_all (f := 7) (F := chartularylaw28_GossipAgrees.fd) (by unfold tab; simp only [List.mem_cons, true_or, or_true]) k

end Go.Proofs.Ytfbpkpnnglhbcaa.E
