import Derived.Test.YtnedfkfelagmpaaEDefs
import Derived.Test.YtnedfkfelagmpaaETab
namespace Go.Proofs.Ytnedfkfelagmpaa.E
open Go Go.Proofs.Ytnedfkfelagmpaa.Eng Go.Proofs
set_option maxRecDepth 100000 in
theorem chartularylaw04_nan.forms : chartularylaw04_nan.fd.formsOk = true := by kernel_rfl
set_option maxRecDepth 100000 in
theorem chartularylaw04_nan.vc : chartularylaw04_nan.fd.vc tt Γ := ⟨fun d => by kernel_rfl, fun k d => by kernel_rfl, ⟨trivial, ⟨trivial, trivial, trivial⟩, trivial⟩⟩
set_option maxRecDepth 100000 in
theorem chartularylaw04_nan.ok : FnOk Try.prog tt Γ 18 chartularylaw04_nan.fd := ⟨by kernel_rfl, by kernel_rfl, enters_ok (fn := Try.f18) (by kernel_rfl) (by kernel_rfl) (by kernel_rfl), chartularylaw04_nan.forms, chartularylaw04_nan.vc⟩

set_option maxRecDepth 100000 in
theorem chartularylaw04_clean.forms : chartularylaw04_clean.fd.formsOk = true := by kernel_rfl
set_option maxRecDepth 100000 in
theorem chartularylaw04_clean.vc : chartularylaw04_clean.fd.vc tt Γ := ⟨fun d => by kernel_rfl, fun k d => by kernel_rfl, ⟨trivial, ⟨trivial, ⟨trivial, ⟨⟨trivial, trivial, trivial⟩, ⟨trivial, ⟨⟨trivial, trivial, trivial⟩, ⟨trivial, ⟨⟨⟨trivial, ⟨⟨trivial, trivial, trivial⟩, trivial⟩, trivial⟩, ⟨trivial, trivial, trivial⟩, trivial⟩, ⟨trivial, ⟨⟨trivial, trivial, trivial⟩, ⟨trivial, trivial, trivial⟩⟩, trivial⟩⟩, trivial⟩⟩, trivial⟩⟩, trivial⟩, trivial⟩, trivial⟩⟩
set_option maxRecDepth 100000 in
theorem chartularylaw04_clean.ok : FnOk Try.prog tt Γ 11 chartularylaw04_clean.fd := ⟨by kernel_rfl, by kernel_rfl, enters_ok (fn := Try.f11) (by kernel_rfl) (by kernel_rfl) (by kernel_rfl), chartularylaw04_clean.forms, chartularylaw04_clean.vc⟩

set_option maxRecDepth 100000 in
theorem chartularylaw04_right.forms : chartularylaw04_right.fd.formsOk = true := by kernel_rfl
set_option maxRecDepth 100000 in
theorem chartularylaw04_right.vc : chartularylaw04_right.fd.vc tt Γ := ⟨fun d => by kernel_rfl, fun k d => by kernel_rfl, ⟨trivial, ⟨trivial, trivial, trivial⟩, trivial⟩⟩
set_option maxRecDepth 100000 in
theorem chartularylaw04_right.ok : FnOk Try.prog tt Γ 13 chartularylaw04_right.fd := ⟨by kernel_rfl, by kernel_rfl, enters_ok (fn := Try.f13) (by kernel_rfl) (by kernel_rfl) (by kernel_rfl), chartularylaw04_right.forms, chartularylaw04_right.vc⟩

set_option maxRecDepth 100000 in
theorem value_Of.forms : value_Of.fd.formsOk = true := by kernel_rfl
set_option maxRecDepth 100000 in
theorem value_Of.vc : value_Of.fd.vc tt Γ := ⟨fun d => by kernel_rfl, fun k d => by kernel_rfl, ⟨trivial, ⟨⟨trivial, ⟨⟨trivial, trivial, trivial⟩, trivial⟩, trivial⟩, ⟨trivial, trivial, trivial⟩, trivial⟩, trivial⟩⟩
set_option maxRecDepth 100000 in
theorem value_Of.ok : FnOk Try.prog tt Γ 15 value_Of.fd := ⟨by kernel_rfl, by kernel_rfl, enters_ok (fn := Try.f15) (by kernel_rfl) (by kernel_rfl) (by kernel_rfl), value_Of.forms, value_Of.vc⟩

set_option maxRecDepth 100000 in
theorem value_nan.forms : value_nan.fd.formsOk = true := by kernel_rfl
set_option maxRecDepth 100000 in
theorem value_nan.vc : value_nan.fd.vc tt Γ := ⟨fun d => by kernel_rfl, fun k d => by kernel_rfl, ⟨trivial, ⟨trivial, trivial, trivial⟩, trivial⟩⟩
set_option maxRecDepth 100000 in
theorem value_nan.ok : FnOk Try.prog tt Γ 28 value_nan.fd := ⟨by kernel_rfl, by kernel_rfl, enters_ok (fn := Try.f28) (by kernel_rfl) (by kernel_rfl) (by kernel_rfl), value_nan.forms, value_nan.vc⟩

set_option maxRecDepth 100000 in
theorem value_Clean.forms : value_Clean.fd.formsOk = true := by kernel_rfl
set_option maxRecDepth 100000 in
theorem value_Clean.vc : value_Clean.fd.vc tt Γ := ⟨fun d => by kernel_rfl, fun k d => by kernel_rfl, ⟨trivial, ⟨trivial, ⟨⟨trivial, ⟨trivial, ⟨trivial, ⟨trivial, ⟨trivial, ⟨trivial, ⟨⟨trivial, ⟨trivial, ⟨trivial, trivial⟩, trivial⟩, trivial⟩, ⟨trivial, ⟨trivial, trivial⟩, trivial⟩⟩, trivial⟩⟩, trivial⟩⟩, trivial⟩, trivial⟩, ⟨trivial, trivial, trivial⟩, trivial⟩, trivial⟩, trivial⟩⟩
set_option maxRecDepth 100000 in
theorem value_Clean.ok : FnOk Try.prog tt Γ 10 value_Clean.fd := ⟨by kernel_rfl, by kernel_rfl, enters_ok (fn := Try.f10) (by kernel_rfl) (by kernel_rfl) (by kernel_rfl), value_Clean.forms, value_Clean.vc⟩

set_option maxRecDepth 100000 in
theorem value_Right.forms : value_Right.fd.formsOk = true := by kernel_rfl
set_option maxRecDepth 100000 in
theorem value_Right.vc : value_Right.fd.vc tt Γ := ⟨fun d => by kernel_rfl, fun k d => by kernel_rfl, ⟨trivial, ⟨trivial, trivial, trivial⟩, trivial⟩⟩
set_option maxRecDepth 100000 in
theorem value_Right.ok : FnOk Try.prog tt Γ 12 value_Right.fd := ⟨by kernel_rfl, by kernel_rfl, enters_ok (fn := Try.f12) (by kernel_rfl) (by kernel_rfl) (by kernel_rfl), value_Right.forms, value_Right.vc⟩

set_option maxRecDepth 100000 in
theorem octet_Num.forms : octet_Num.fd.formsOk = true := by kernel_rfl
set_option maxRecDepth 100000 in
theorem octet_Num.vc : octet_Num.fd.vc tt Γ := ⟨fun d => by kernel_rfl, fun k d => by kernel_rfl, ⟨trivial, ⟨⟨trivial, ⟨⟨trivial, trivial, trivial⟩, trivial⟩, trivial⟩, ⟨trivial, ⟨⟨⟨⟨trivial, ⟨trivial, trivial⟩, trivial⟩, ⟨trivial, trivial, trivial⟩, trivial⟩, ⟨fun d => by kernel_rfl, fun k d => by kernel_rfl⟩⟩, ⟨trivial, trivial, trivial⟩, trivial⟩, trivial⟩, trivial⟩, trivial⟩⟩
set_option maxRecDepth 100000 in
theorem octet_Num.ok : FnOk Try.prog tt Γ 52 octet_Num.fd := ⟨by kernel_rfl, by kernel_rfl, enters_ok (fn := Try.f52) (by kernel_rfl) (by kernel_rfl) (by kernel_rfl), octet_Num.forms, octet_Num.vc⟩

set_option maxRecDepth 100000 in
theorem octet_Writer_Num.forms : octet_Writer_Num.fd.formsOk = true := by kernel_rfl
set_option maxRecDepth 100000 in
theorem octet_Writer_Num.vc : octet_Writer_Num.fd.vc tt Γ := ⟨fun d => by kernel_rfl, fun k d => by kernel_rfl, ⟨trivial, ⟨trivial, trivial, trivial⟩, trivial⟩⟩
set_option maxRecDepth 100000 in
theorem octet_Writer_Num.ok : FnOk Try.prog tt Γ 36 octet_Writer_Num.fd := ⟨by kernel_rfl, by kernel_rfl, enters_ok (fn := Try.f36) (by kernel_rfl) (by kernel_rfl) (by kernel_rfl), octet_Writer_Num.forms, octet_Writer_Num.vc⟩

set_option maxRecDepth 100000 in
theorem octet_Writer_Flag.forms : octet_Writer_Flag.fd.formsOk = true := by kernel_rfl
set_option maxRecDepth 100000 in
theorem octet_Writer_Flag.vc : octet_Writer_Flag.fd.vc tt Γ := ⟨fun d => by kernel_rfl, fun k d => by kernel_rfl, ⟨trivial, ⟨trivial, trivial⟩, trivial⟩⟩
set_option maxRecDepth 100000 in
theorem octet_Writer_Flag.ok : FnOk Try.prog tt Γ 37 octet_Writer_Flag.fd := ⟨by kernel_rfl, by kernel_rfl, enters_ok (fn := Try.f37) (by kernel_rfl) (by kernel_rfl) (by kernel_rfl), octet_Writer_Flag.forms, octet_Writer_Flag.vc⟩

set_option maxRecDepth 100000 in
theorem octet_Writer_Raw.forms : octet_Writer_Raw.fd.formsOk = true := by kernel_rfl
set_option maxRecDepth 100000 in
theorem octet_Writer_Raw.vc : octet_Writer_Raw.fd.vc tt Γ := ⟨fun d => by kernel_rfl, fun k d => by kernel_rfl, trivial⟩
set_option maxRecDepth 100000 in
theorem octet_Writer_Raw.ok : FnOk Try.prog tt Γ 38 octet_Writer_Raw.fd := ⟨by kernel_rfl, by kernel_rfl, enters_ok (fn := Try.f38) (by kernel_rfl) (by kernel_rfl) (by kernel_rfl), octet_Writer_Raw.forms, octet_Writer_Raw.vc⟩

set_option maxRecDepth 100000 in
theorem value_eight.forms : value_eight.fd.formsOk = true := by kernel_rfl
set_option maxRecDepth 100000 in
theorem value_eight.vc : value_eight.fd.vc tt Γ := ⟨fun d => by kernel_rfl, fun k d => by kernel_rfl, ⟨trivial, ⟨trivial, ⟨⟨trivial, ⟨⟨trivial, ⟨⟨trivial, trivial⟩, ⟨⟨trivial, trivial, trivial⟩, trivial, trivial⟩, trivial⟩, trivial⟩, ⟨fun d => by kernel_rfl, fun k d => by kernel_rfl⟩⟩, trivial⟩, ⟨trivial, trivial, trivial⟩, trivial⟩, trivial⟩, trivial⟩⟩
set_option maxRecDepth 100000 in
theorem value_eight.ok : FnOk Try.prog tt Γ 39 value_eight.fd := ⟨by kernel_rfl, by kernel_rfl, enters_ok (fn := Try.f39) (by kernel_rfl) (by kernel_rfl) (by kernel_rfl), value_eight.forms, value_eight.vc⟩

set_option maxRecDepth 100000 in
theorem octet_Text.forms : octet_Text.fd.formsOk = true := by kernel_rfl
set_option maxRecDepth 100000 in
theorem octet_Text.vc : octet_Text.fd.vc tt Γ := ⟨fun d => by kernel_rfl, fun k d => by kernel_rfl, ⟨trivial, ⟨trivial, trivial, trivial⟩, trivial⟩⟩
set_option maxRecDepth 100000 in
theorem octet_Text.ok : FnOk Try.prog tt Γ 53 octet_Text.fd := ⟨by kernel_rfl, by kernel_rfl, enters_ok (fn := Try.f53) (by kernel_rfl) (by kernel_rfl) (by kernel_rfl), octet_Text.forms, octet_Text.vc⟩

set_option maxRecDepth 100000 in
theorem octet_Writer_Text.forms : octet_Writer_Text.fd.formsOk = true := by kernel_rfl
set_option maxRecDepth 100000 in
theorem octet_Writer_Text.vc : octet_Writer_Text.fd.vc tt Γ := ⟨fun d => by kernel_rfl, fun k d => by kernel_rfl, trivial⟩
set_option maxRecDepth 100000 in
theorem octet_Writer_Text.ok : FnOk Try.prog tt Γ 40 octet_Writer_Text.fd := ⟨by kernel_rfl, by kernel_rfl, enters_ok (fn := Try.f40) (by kernel_rfl) (by kernel_rfl) (by kernel_rfl), octet_Writer_Text.forms, octet_Writer_Text.vc⟩

set_option maxRecDepth 100000 in
theorem octet_Writer_All.forms : octet_Writer_All.fd.formsOk = true := by kernel_rfl
set_option maxRecDepth 100000 in
theorem octet_Writer_All.vc : octet_Writer_All.fd.vc tt Γ := ⟨fun d => by kernel_rfl, fun k d => by kernel_rfl, ⟨trivial, ⟨⟨trivial, ⟨⟨trivial, trivial, trivial⟩, trivial⟩, trivial⟩, ⟨trivial, trivial, trivial⟩, trivial⟩, trivial⟩⟩
set_option maxRecDepth 100000 in
theorem octet_Writer_All.ok : FnOk Try.prog tt Γ 41 octet_Writer_All.fd := ⟨by kernel_rfl, by kernel_rfl, enters_ok (fn := Try.f41) (by kernel_rfl) (by kernel_rfl) (by kernel_rfl), octet_Writer_All.forms, octet_Writer_All.vc⟩

set_option maxRecDepth 100000 in
theorem value_Bytes.forms : value_Bytes.fd.formsOk = true := by kernel_rfl
set_option maxRecDepth 100000 in
theorem value_Bytes.vc : value_Bytes.fd.vc tt Γ := ⟨fun d => by kernel_rfl, fun k d => by kernel_rfl, ⟨trivial, ⟨⟨trivial, ⟨⟨trivial, trivial, trivial⟩, trivial⟩, trivial⟩, ⟨trivial, ⟨trivial, ⟨⟨trivial, ⟨trivial, ⟨trivial, ⟨trivial, ⟨trivial, ⟨trivial, ⟨trivial, ⟨trivial, ⟨trivial, trivial⟩, trivial⟩⟩, trivial⟩⟩, trivial⟩⟩, trivial⟩, trivial⟩, ⟨trivial, ⟨trivial, trivial, trivial⟩, trivial⟩, ⟨fun d => by kernel_rfl, fun k d => by kernel_rfl⟩⟩, trivial⟩, trivial⟩, trivial⟩, trivial⟩⟩
set_option maxRecDepth 100000 in
theorem value_Bytes.ok : FnOk Try.prog tt Γ 26 value_Bytes.fd := ⟨by kernel_rfl, by kernel_rfl, enters_ok (fn := Try.f26) (by kernel_rfl) (by kernel_rfl) (by kernel_rfl), value_Bytes.forms, value_Bytes.vc⟩

set_option maxRecDepth 100000 in
theorem chartularylaw04_awake.forms : chartularylaw04_awake.fd.formsOk = true := by kernel_rfl
set_option maxRecDepth 100000 in
theorem chartularylaw04_awake.vc : chartularylaw04_awake.fd.vc tt Γ := ⟨fun d => by kernel_rfl, fun k d => by kernel_rfl, ⟨trivial, ⟨trivial, trivial, trivial⟩, trivial⟩⟩
set_option maxRecDepth 100000 in
theorem chartularylaw04_awake.ok : FnOk Try.prog tt Γ 14 chartularylaw04_awake.fd := ⟨by kernel_rfl, by kernel_rfl, enters_ok (fn := Try.f14) (by kernel_rfl) (by kernel_rfl) (by kernel_rfl), chartularylaw04_awake.forms, chartularylaw04_awake.vc⟩

set_option maxRecDepth 100000 in
theorem value_Float.forms : value_Float.fd.formsOk = true := by kernel_rfl
set_option maxRecDepth 100000 in
theorem value_Float.vc : value_Float.fd.vc tt Γ := ⟨fun d => by kernel_rfl, fun k d => by kernel_rfl, ⟨trivial, ⟨⟨trivial, ⟨⟨trivial, trivial, trivial⟩, trivial⟩, trivial⟩, ⟨trivial, trivial, trivial⟩, trivial⟩, trivial⟩⟩
set_option maxRecDepth 100000 in
theorem value_Float.ok : FnOk Try.prog tt Γ 17 value_Float.fd := ⟨by kernel_rfl, by kernel_rfl, enters_ok (fn := Try.f17) (by kernel_rfl) (by kernel_rfl) (by kernel_rfl), value_Float.forms, value_Float.vc⟩

set_option maxRecDepth 100000 in
theorem value_Worth.forms : value_Worth.fd.formsOk = true := by kernel_rfl
set_option maxRecDepth 100000 in
theorem value_Worth.vc : value_Worth.fd.vc tt Γ := ⟨fun d => by kernel_rfl, fun k d => by kernel_rfl, ⟨trivial, ⟨trivial, ⟨trivial, ⟨trivial, trivial, trivial⟩, trivial⟩, trivial⟩, trivial⟩⟩
set_option maxRecDepth 100000 in
theorem value_Worth.ok : FnOk Try.prog tt Γ 23 value_Worth.fd := ⟨by kernel_rfl, by kernel_rfl, enters_ok (fn := Try.f23) (by kernel_rfl) (by kernel_rfl) (by kernel_rfl), value_Worth.forms, value_Worth.vc⟩

set_option maxRecDepth 100000 in
theorem math_Trunc.forms : math_Trunc.fd.formsOk = true := by kernel_rfl
set_option maxRecDepth 100000 in
theorem math_Trunc.vc : math_Trunc.fd.vc tt Γ := ⟨fun d => by kernel_rfl, fun k d => by kernel_rfl, ⟨trivial, ⟨⟨⟨trivial, trivial, trivial⟩, trivial⟩, ⟨trivial, trivial, trivial⟩, trivial⟩, trivial⟩⟩
set_option maxRecDepth 100000 in
theorem math_Trunc.ok : FnOk Try.prog tt Γ 35 math_Trunc.fd := ⟨by kernel_rfl, by kernel_rfl, enters_ok (fn := Try.f35) (by kernel_rfl) (by kernel_rfl) (by kernel_rfl), math_Trunc.forms, math_Trunc.vc⟩

set_option maxRecDepth 100000 in
theorem value_Whole.forms : value_Whole.fd.formsOk = true := by kernel_rfl
set_option maxRecDepth 100000 in
theorem value_Whole.vc : value_Whole.fd.vc tt Γ := ⟨fun d => by kernel_rfl, fun k d => by kernel_rfl, ⟨trivial, ⟨⟨trivial, ⟨⟨trivial, trivial, trivial⟩, trivial⟩, trivial⟩, ⟨trivial, ⟨⟨trivial, ⟨⟨trivial, trivial, trivial⟩, trivial⟩, trivial⟩, ⟨trivial, trivial, trivial⟩, trivial⟩, trivial⟩, ⟨fun d => by kernel_rfl, fun k d => by kernel_rfl⟩⟩, trivial⟩⟩
set_option maxRecDepth 100000 in
theorem value_Whole.ok : FnOk Try.prog tt Γ 24 value_Whole.fd := ⟨by kernel_rfl, by kernel_rfl, enters_ok (fn := Try.f24) (by kernel_rfl) (by kernel_rfl) (by kernel_rfl), value_Whole.forms, value_Whole.vc⟩

set_option maxRecDepth 100000 in
theorem chartularylaw04_worth.forms : chartularylaw04_worth.fd.formsOk = true := by kernel_rfl
set_option maxRecDepth 100000 in
theorem chartularylaw04_worth.vc : chartularylaw04_worth.fd.vc tt Γ := ⟨fun d => by kernel_rfl, fun k d => by kernel_rfl, ⟨trivial, ⟨⟨trivial, ⟨⟨trivial, trivial, trivial⟩, trivial⟩, trivial⟩, ⟨trivial, ⟨trivial, ⟨⟨trivial, ⟨⟨trivial, trivial, trivial⟩, trivial⟩, trivial⟩, ⟨⟨trivial, ⟨⟨trivial, trivial, trivial⟩, trivial⟩, trivial⟩, ⟨⟨trivial, ⟨⟨trivial, ⟨⟨trivial, ⟨⟨trivial, trivial, trivial⟩, trivial⟩, trivial⟩, trivial, trivial⟩, trivial⟩, trivial⟩, trivial⟩, ⟨⟨trivial, ⟨⟨trivial, trivial, trivial⟩, trivial⟩, trivial⟩, ⟨trivial, trivial, trivial⟩, trivial⟩, ⟨fun d => by kernel_rfl, fun k d => by kernel_rfl⟩⟩, trivial⟩, trivial⟩, trivial⟩, trivial⟩, trivial⟩, trivial⟩⟩
set_option maxRecDepth 100000 in
theorem chartularylaw04_worth.ok : FnOk Try.prog tt Γ 25 chartularylaw04_worth.fd := ⟨by kernel_rfl, by kernel_rfl, enters_ok (fn := Try.f25) (by kernel_rfl) (by kernel_rfl) (by kernel_rfl), chartularylaw04_worth.forms, chartularylaw04_worth.vc⟩

set_option maxRecDepth 100000 in
theorem chartularylaw04_ValueWorths.forms : chartularylaw04_ValueWorths.fd.formsOk = true := by kernel_rfl
set_option maxRecDepth 100000 in
theorem chartularylaw04_ValueWorths.vc : chartularylaw04_ValueWorths.fd.vc tt Γ := ⟨fun d => by kernel_rfl, fun k d => by kernel_rfl, ⟨trivial, ⟨⟨trivial, ⟨⟨trivial, trivial, trivial⟩, trivial⟩, trivial⟩, ⟨trivial, ⟨⟨trivial, ⟨⟨trivial, trivial, trivial⟩, trivial⟩, trivial⟩, ⟨trivial, ⟨⟨trivial, ⟨⟨trivial, trivial, trivial⟩, trivial⟩, trivial⟩, ⟨⟨trivial, ⟨⟨trivial, trivial, trivial⟩, trivial⟩, trivial⟩, ⟨trivial, ⟨trivial, trivial, trivial⟩, trivial⟩, trivial⟩, trivial⟩, trivial⟩, trivial⟩, ⟨fun d => by kernel_rfl, fun k d => by kernel_rfl⟩⟩, ⟨fun d => by kernel_rfl, fun k d => by kernel_rfl⟩⟩, trivial⟩⟩
set_option maxRecDepth 100000 in
theorem chartularylaw04_ValueWorths.ok : FnOk Try.prog tt Γ 7 chartularylaw04_ValueWorths.fd := ⟨by kernel_rfl, by kernel_rfl, enters_ok (fn := Try.f7) (by kernel_rfl) (by kernel_rfl) (by kernel_rfl), chartularylaw04_ValueWorths.forms, chartularylaw04_ValueWorths.vc⟩

noncomputable def ents : Gam := [(16, [f64from]), (19, [f64bits]), (50, [f64trunc])]
theorem ent50_run : ∀ (v : Value) (w : World), (callFunc 50 #[v]).run Try.prog w = (((Extern.MathFloor.toIntegral "math.archTrunc" .zero) #[v]).run Try.prog w).andThen fun v w' => .ok (.value v) w' := fun v w => run_callFunc_extern (fn := Try.f50) (by kernel_rfl) (by kernel_rfl) (by kernel_rfl) (by kernel_rfl) (e := (Extern.MathFloor.toIntegral "math.archTrunc" .zero)) (by kernel_rfl) _ _
theorem ent19_run : ∀ (v : Value) (w : World), (callFunc 19 #[v]).run Try.prog w = ((Extern.MathFloatBits.float64bits #[v]).run Try.prog w).andThen fun v w' => .ok (.value v) w' := fun v w => run_callFunc_extern (fn := Try.f19) (by kernel_rfl) (by kernel_rfl) (by kernel_rfl) (by kernel_rfl) (e := Extern.MathFloatBits.float64bits) (by kernel_rfl) _ _
theorem ent16_run : ∀ (v : Value) (w : World), (callFunc 16 #[v]).run Try.prog w = ((Extern.MathFloatBits.float64frombits #[v]).run Try.prog w).andThen fun v w' => .ok (.value v) w' := fun v w => run_callFunc_extern (fn := Try.f16) (by kernel_rfl) (by kernel_rfl) (by kernel_rfl) (by kernel_rfl) (e := Extern.MathFloatBits.float64frombits) (by kernel_rfl) _ _
theorem ents_ok : GamOk Try.prog ents := (GamOk.cons (f64from_ok ent16_run) (GamOk.cons (f64bits_ok ent19_run) (GamOk.cons (f64trunc_ok ent50_run) GamOk.nil)))
noncomputable def tab : Tab := [(18, chartularylaw04_nan.fd), (11, chartularylaw04_clean.fd), (13, chartularylaw04_right.fd), (15, value_Of.fd), (28, value_nan.fd), (10, value_Clean.fd), (12, value_Right.fd), (52, octet_Num.fd), (36, octet_Writer_Num.fd), (37, octet_Writer_Flag.fd), (38, octet_Writer_Raw.fd), (39, value_eight.fd), (53, octet_Text.fd), (40, octet_Writer_Text.fd), (41, octet_Writer_All.fd), (26, value_Bytes.fd), (14, chartularylaw04_awake.fd), (17, value_Float.fd), (23, value_Worth.fd), (35, math_Trunc.fd), (24, value_Whole.fd), (25, chartularylaw04_worth.fd), (7, chartularylaw04_ValueWorths.fd)]
theorem Γ_eq (k : Nat) : Γ k = gamK tab k ++ ents := by kernel_rfl
theorem tt_ok : TTok Try.prog tt := ttB_ok (by kernel_rfl)
theorem mixed : Try.prog.follows .mixedOrders = true := by kernel_rfl
theorem tab_all : ∀ x ∈ tab, FnOk Try.prog tt Γ x.1 x.2 := by
  unfold tab
  simp only [List.forall_mem_cons]
  exact ⟨chartularylaw04_nan.ok, chartularylaw04_clean.ok, chartularylaw04_right.ok, value_Of.ok, value_nan.ok, value_Clean.ok, value_Right.ok, octet_Num.ok, octet_Writer_Num.ok, octet_Writer_Flag.ok, octet_Writer_Raw.ok, value_eight.ok, octet_Text.ok, octet_Writer_Text.ok, octet_Writer_All.ok, value_Bytes.ok, chartularylaw04_awake.ok, value_Float.ok, value_Worth.ok, math_Trunc.ok, value_Whole.ok, chartularylaw04_worth.ok, chartularylaw04_ValueWorths.ok, fun x h => nomatch h⟩
theorem chartularylaw04_ValueWorths.spec (k : Nat) : SpecOk Try.prog 7 (chartularylaw04_ValueWorths.fd.sp k) := spec_ok mixed tt_ok Γ_eq ents_ok tab_all (f := 7) (F := chartularylaw04_ValueWorths.fd) (by unfold tab; simp only [List.mem_cons, true_or, or_true]) k

end Go.Proofs.Ytnedfkfelagmpaa.E
