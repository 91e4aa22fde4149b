/- What an assertion on an interface value comes to, for each of api's types. Printed by wip/src/mkta.py. -/
import Derived.Test.YtgjjngkmbplijaaBase
namespace Go.Proofs.Ytgjjngkmbplijaa
open Go.RowKit

theorem undConst : (Try.prog.underlying 52).any Plain = true := by kernel_rfl
theorem zeroConst (w : World) : (zeroValue 52).run Try.prog w = .ok (.agg #[.int .i64 0]) w := by kernel_rfl
theorem hitConst (xT : TypeId) (v : Value) (w : World) : (Instr.typeAssert (.iface 52 v) xT 52 true).run Try.prog w = .ok (.tuple #[v, .bool true]) w := run_ta_hit undConst xT v w
theorem oneConst (xT : TypeId) (v : Value) (w : World) : (Instr.typeAssert (.iface 52 v) xT 52 false).run Try.prog w = .ok v w := run_ta_hit1 undConst xT v w
theorem missConst (t : TypeId) (h : t ≠ 52) (xT : TypeId) (v : Value) (w : World) : (Instr.typeAssert (.iface t v) xT 52 true).run Try.prog w = .ok (.tuple #[.agg #[.int .i64 0], .bool false]) w := run_ta_miss undConst zeroConst h xT v w
theorem nilConst (xT : TypeId) (w : World) : (Instr.typeAssert .nilIface xT 52 true).run Try.prog w = .ok (.tuple #[.agg #[.int .i64 0], .bool false]) w := run_ta_nil undConst zeroConst xT w
theorem undFix : (Try.prog.underlying 60).any Plain = true := by kernel_rfl
theorem zeroFix (w : World) : (zeroValue 60).run Try.prog w = .ok (.agg #[.string ⟨#[]⟩]) w := by kernel_rfl
theorem hitFix (xT : TypeId) (v : Value) (w : World) : (Instr.typeAssert (.iface 60 v) xT 60 true).run Try.prog w = .ok (.tuple #[v, .bool true]) w := run_ta_hit undFix xT v w
theorem oneFix (xT : TypeId) (v : Value) (w : World) : (Instr.typeAssert (.iface 60 v) xT 60 false).run Try.prog w = .ok v w := run_ta_hit1 undFix xT v w
theorem missFix (t : TypeId) (h : t ≠ 60) (xT : TypeId) (v : Value) (w : World) : (Instr.typeAssert (.iface t v) xT 60 true).run Try.prog w = .ok (.tuple #[.agg #[.string ⟨#[]⟩], .bool false]) w := run_ta_miss undFix zeroFix h xT v w
theorem nilFix (xT : TypeId) (w : World) : (Instr.typeAssert .nilIface xT 60 true).run Try.prog w = .ok (.tuple #[.agg #[.string ⟨#[]⟩], .bool false]) w := run_ta_nil undFix zeroFix xT w
theorem undAdd : (Try.prog.underlying 55).any Plain = true := by kernel_rfl
theorem zeroAdd (w : World) : (zeroValue 55).run Try.prog w = .ok (.agg #[.nilIface, .nilIface]) w := by kernel_rfl
theorem hitAdd (xT : TypeId) (v : Value) (w : World) : (Instr.typeAssert (.iface 55 v) xT 55 true).run Try.prog w = .ok (.tuple #[v, .bool true]) w := run_ta_hit undAdd xT v w
theorem oneAdd (xT : TypeId) (v : Value) (w : World) : (Instr.typeAssert (.iface 55 v) xT 55 false).run Try.prog w = .ok v w := run_ta_hit1 undAdd xT v w
theorem missAdd (t : TypeId) (h : t ≠ 55) (xT : TypeId) (v : Value) (w : World) : (Instr.typeAssert (.iface t v) xT 55 true).run Try.prog w = .ok (.tuple #[.agg #[.nilIface, .nilIface], .bool false]) w := run_ta_miss undAdd zeroAdd h xT v w
theorem nilAdd (xT : TypeId) (w : World) : (Instr.typeAssert .nilIface xT 55 true).run Try.prog w = .ok (.tuple #[.agg #[.nilIface, .nilIface], .bool false]) w := run_ta_nil undAdd zeroAdd xT w
theorem undNeg : (Try.prog.underlying 62).any Plain = true := by kernel_rfl
theorem zeroNeg (w : World) : (zeroValue 62).run Try.prog w = .ok (.agg #[.nilIface]) w := by kernel_rfl
theorem hitNeg (xT : TypeId) (v : Value) (w : World) : (Instr.typeAssert (.iface 62 v) xT 62 true).run Try.prog w = .ok (.tuple #[v, .bool true]) w := run_ta_hit undNeg xT v w
theorem oneNeg (xT : TypeId) (v : Value) (w : World) : (Instr.typeAssert (.iface 62 v) xT 62 false).run Try.prog w = .ok v w := run_ta_hit1 undNeg xT v w
theorem missNeg (t : TypeId) (h : t ≠ 62) (xT : TypeId) (v : Value) (w : World) : (Instr.typeAssert (.iface t v) xT 62 true).run Try.prog w = .ok (.tuple #[.agg #[.nilIface], .bool false]) w := run_ta_miss undNeg zeroNeg h xT v w
theorem nilNeg (xT : TypeId) (w : World) : (Instr.typeAssert .nilIface xT 62 true).run Try.prog w = .ok (.tuple #[.agg #[.nilIface], .bool false]) w := run_ta_nil undNeg zeroNeg xT w
theorem undMul : (Try.prog.underlying 68).any Plain = true := by kernel_rfl
theorem zeroMul (w : World) : (zeroValue 68).run Try.prog w = .ok (.agg #[.nilIface, .nilIface]) w := by kernel_rfl
theorem hitMul (xT : TypeId) (v : Value) (w : World) : (Instr.typeAssert (.iface 68 v) xT 68 true).run Try.prog w = .ok (.tuple #[v, .bool true]) w := run_ta_hit undMul xT v w
theorem oneMul (xT : TypeId) (v : Value) (w : World) : (Instr.typeAssert (.iface 68 v) xT 68 false).run Try.prog w = .ok v w := run_ta_hit1 undMul xT v w
theorem missMul (t : TypeId) (h : t ≠ 68) (xT : TypeId) (v : Value) (w : World) : (Instr.typeAssert (.iface t v) xT 68 true).run Try.prog w = .ok (.tuple #[.agg #[.nilIface, .nilIface], .bool false]) w := run_ta_miss undMul zeroMul h xT v w
theorem nilMul (xT : TypeId) (w : World) : (Instr.typeAssert .nilIface xT 68 true).run Try.prog w = .ok (.tuple #[.agg #[.nilIface, .nilIface], .bool false]) w := run_ta_nil undMul zeroMul xT w
theorem undMax : (Try.prog.underlying 79).any Plain = true := by kernel_rfl
theorem zeroMax (w : World) : (zeroValue 79).run Try.prog w = .ok (.agg #[.nilIface, .nilIface]) w := by kernel_rfl
theorem hitMax (xT : TypeId) (v : Value) (w : World) : (Instr.typeAssert (.iface 79 v) xT 79 true).run Try.prog w = .ok (.tuple #[v, .bool true]) w := run_ta_hit undMax xT v w
theorem oneMax (xT : TypeId) (v : Value) (w : World) : (Instr.typeAssert (.iface 79 v) xT 79 false).run Try.prog w = .ok v w := run_ta_hit1 undMax xT v w
theorem missMax (t : TypeId) (h : t ≠ 79) (xT : TypeId) (v : Value) (w : World) : (Instr.typeAssert (.iface t v) xT 79 true).run Try.prog w = .ok (.tuple #[.agg #[.nilIface, .nilIface], .bool false]) w := run_ta_miss undMax zeroMax h xT v w
theorem nilMax (xT : TypeId) (w : World) : (Instr.typeAssert .nilIface xT 79 true).run Try.prog w = .ok (.tuple #[.agg #[.nilIface, .nilIface], .bool false]) w := run_ta_nil undMax zeroMax xT w
theorem undZero : (Try.prog.underlying 101).any Plain = true := by kernel_rfl
theorem zeroZero (w : World) : (zeroValue 101).run Try.prog w = .ok (.agg #[]) w := by kernel_rfl
theorem hitZero (xT : TypeId) (v : Value) (w : World) : (Instr.typeAssert (.iface 101 v) xT 101 true).run Try.prog w = .ok (.tuple #[v, .bool true]) w := run_ta_hit undZero xT v w
theorem oneZero (xT : TypeId) (v : Value) (w : World) : (Instr.typeAssert (.iface 101 v) xT 101 false).run Try.prog w = .ok v w := run_ta_hit1 undZero xT v w
theorem missZero (t : TypeId) (h : t ≠ 101) (xT : TypeId) (v : Value) (w : World) : (Instr.typeAssert (.iface t v) xT 101 true).run Try.prog w = .ok (.tuple #[.agg #[], .bool false]) w := run_ta_miss undZero zeroZero h xT v w
theorem nilZero (xT : TypeId) (w : World) : (Instr.typeAssert .nilIface xT 101 true).run Try.prog w = .ok (.tuple #[.agg #[], .bool false]) w := run_ta_nil undZero zeroZero xT w
theorem undOne : (Try.prog.underlying 96).any Plain = true := by kernel_rfl
theorem zeroOne (w : World) : (zeroValue 96).run Try.prog w = .ok (.agg #[.string ⟨#[]⟩]) w := by kernel_rfl
theorem hitOne (xT : TypeId) (v : Value) (w : World) : (Instr.typeAssert (.iface 96 v) xT 96 true).run Try.prog w = .ok (.tuple #[v, .bool true]) w := run_ta_hit undOne xT v w
theorem oneOne (xT : TypeId) (v : Value) (w : World) : (Instr.typeAssert (.iface 96 v) xT 96 false).run Try.prog w = .ok v w := run_ta_hit1 undOne xT v w
theorem missOne (t : TypeId) (h : t ≠ 96) (xT : TypeId) (v : Value) (w : World) : (Instr.typeAssert (.iface t v) xT 96 true).run Try.prog w = .ok (.tuple #[.agg #[.string ⟨#[]⟩], .bool false]) w := run_ta_miss undOne zeroOne h xT v w
theorem nilOne (xT : TypeId) (w : World) : (Instr.typeAssert .nilIface xT 96 true).run Try.prog w = .ok (.tuple #[.agg #[.string ⟨#[]⟩], .bool false]) w := run_ta_nil undOne zeroOne xT w
theorem undGive : (Try.prog.underlying 99).any Plain = true := by kernel_rfl
theorem zeroGive (w : World) : (zeroValue 99).run Try.prog w = .ok (.agg #[.nilIface]) w := by kernel_rfl
theorem hitGive (xT : TypeId) (v : Value) (w : World) : (Instr.typeAssert (.iface 99 v) xT 99 true).run Try.prog w = .ok (.tuple #[v, .bool true]) w := run_ta_hit undGive xT v w
theorem oneGive (xT : TypeId) (v : Value) (w : World) : (Instr.typeAssert (.iface 99 v) xT 99 false).run Try.prog w = .ok v w := run_ta_hit1 undGive xT v w
theorem missGive (t : TypeId) (h : t ≠ 99) (xT : TypeId) (v : Value) (w : World) : (Instr.typeAssert (.iface t v) xT 99 true).run Try.prog w = .ok (.tuple #[.agg #[.nilIface], .bool false]) w := run_ta_miss undGive zeroGive h xT v w
theorem nilGive (xT : TypeId) (w : World) : (Instr.typeAssert .nilIface xT 99 true).run Try.prog w = .ok (.tuple #[.agg #[.nilIface], .bool false]) w := run_ta_nil undGive zeroGive xT w
theorem undAnd : (Try.prog.underlying 118).any Plain = true := by kernel_rfl
theorem zeroAnd (w : World) : (zeroValue 118).run Try.prog w = .ok (.agg #[.nilIface, .nilIface]) w := by kernel_rfl
theorem hitAnd (xT : TypeId) (v : Value) (w : World) : (Instr.typeAssert (.iface 118 v) xT 118 true).run Try.prog w = .ok (.tuple #[v, .bool true]) w := run_ta_hit undAnd xT v w
theorem oneAnd (xT : TypeId) (v : Value) (w : World) : (Instr.typeAssert (.iface 118 v) xT 118 false).run Try.prog w = .ok v w := run_ta_hit1 undAnd xT v w
theorem missAnd (t : TypeId) (h : t ≠ 118) (xT : TypeId) (v : Value) (w : World) : (Instr.typeAssert (.iface t v) xT 118 true).run Try.prog w = .ok (.tuple #[.agg #[.nilIface, .nilIface], .bool false]) w := run_ta_miss undAnd zeroAnd h xT v w
theorem nilAnd (xT : TypeId) (w : World) : (Instr.typeAssert .nilIface xT 118 true).run Try.prog w = .ok (.tuple #[.agg #[.nilIface, .nilIface], .bool false]) w := run_ta_nil undAnd zeroAnd xT w
theorem undOr : (Try.prog.underlying 104).any Plain = true := by kernel_rfl
theorem zeroOr (w : World) : (zeroValue 104).run Try.prog w = .ok (.agg #[.string ⟨#[]⟩, .nilIface, .nilIface]) w := by kernel_rfl
theorem hitOr (xT : TypeId) (v : Value) (w : World) : (Instr.typeAssert (.iface 104 v) xT 104 true).run Try.prog w = .ok (.tuple #[v, .bool true]) w := run_ta_hit undOr xT v w
theorem oneOr (xT : TypeId) (v : Value) (w : World) : (Instr.typeAssert (.iface 104 v) xT 104 false).run Try.prog w = .ok v w := run_ta_hit1 undOr xT v w
theorem missOr (t : TypeId) (h : t ≠ 104) (xT : TypeId) (v : Value) (w : World) : (Instr.typeAssert (.iface t v) xT 104 true).run Try.prog w = .ok (.tuple #[.agg #[.string ⟨#[]⟩, .nilIface, .nilIface], .bool false]) w := run_ta_miss undOr zeroOr h xT v w
theorem nilOr (xT : TypeId) (w : World) : (Instr.typeAssert .nilIface xT 104 true).run Try.prog w = .ok (.tuple #[.agg #[.string ⟨#[]⟩, .nilIface, .nilIface], .bool false]) w := run_ta_nil undOr zeroOr xT w
theorem undScale : (Try.prog.underlying 108).any Plain = true := by kernel_rfl
theorem zeroScale (w : World) : (zeroValue 108).run Try.prog w = .ok (.agg #[.nilIface, .nilIface]) w := by kernel_rfl
theorem hitScale (xT : TypeId) (v : Value) (w : World) : (Instr.typeAssert (.iface 108 v) xT 108 true).run Try.prog w = .ok (.tuple #[v, .bool true]) w := run_ta_hit undScale xT v w
theorem oneScale (xT : TypeId) (v : Value) (w : World) : (Instr.typeAssert (.iface 108 v) xT 108 false).run Try.prog w = .ok v w := run_ta_hit1 undScale xT v w
theorem missScale (t : TypeId) (h : t ≠ 108) (xT : TypeId) (v : Value) (w : World) : (Instr.typeAssert (.iface t v) xT 108 true).run Try.prog w = .ok (.tuple #[.agg #[.nilIface, .nilIface], .bool false]) w := run_ta_miss undScale zeroScale h xT v w
theorem nilScale (xT : TypeId) (w : World) : (Instr.typeAssert .nilIface xT 108 true).run Try.prog w = .ok (.tuple #[.agg #[.nilIface, .nilIface], .bool false]) w := run_ta_nil undScale zeroScale xT w
theorem undWhen : (Try.prog.underlying 106).any Plain = true := by kernel_rfl
theorem zeroWhen (w : World) : (zeroValue 106).run Try.prog w = .ok (.agg #[.int .i64 0, .nilIface]) w := by kernel_rfl
theorem hitWhen (xT : TypeId) (v : Value) (w : World) : (Instr.typeAssert (.iface 106 v) xT 106 true).run Try.prog w = .ok (.tuple #[v, .bool true]) w := run_ta_hit undWhen xT v w
theorem oneWhen (xT : TypeId) (v : Value) (w : World) : (Instr.typeAssert (.iface 106 v) xT 106 false).run Try.prog w = .ok v w := run_ta_hit1 undWhen xT v w
theorem missWhen (t : TypeId) (h : t ≠ 106) (xT : TypeId) (v : Value) (w : World) : (Instr.typeAssert (.iface t v) xT 106 true).run Try.prog w = .ok (.tuple #[.agg #[.int .i64 0, .nilIface], .bool false]) w := run_ta_miss undWhen zeroWhen h xT v w
theorem nilWhen (xT : TypeId) (w : World) : (Instr.typeAssert .nilIface xT 106 true).run Try.prog w = .ok (.tuple #[.agg #[.int .i64 0, .nilIface], .bool false]) w := run_ta_nil undWhen zeroWhen xT w
theorem undIf : (Try.prog.underlying 110).any Plain = true := by kernel_rfl
theorem zeroIf (w : World) : (zeroValue 110).run Try.prog w = .ok (.agg #[.nilIface, .nilIface, .nilIface]) w := by kernel_rfl
theorem hitIf (xT : TypeId) (v : Value) (w : World) : (Instr.typeAssert (.iface 110 v) xT 110 true).run Try.prog w = .ok (.tuple #[v, .bool true]) w := run_ta_hit undIf xT v w
theorem oneIf (xT : TypeId) (v : Value) (w : World) : (Instr.typeAssert (.iface 110 v) xT 110 false).run Try.prog w = .ok v w := run_ta_hit1 undIf xT v w
theorem missIf (t : TypeId) (h : t ≠ 110) (xT : TypeId) (v : Value) (w : World) : (Instr.typeAssert (.iface t v) xT 110 true).run Try.prog w = .ok (.tuple #[.agg #[.nilIface, .nilIface, .nilIface], .bool false]) w := run_ta_miss undIf zeroIf h xT v w
theorem nilIf (xT : TypeId) (w : World) : (Instr.typeAssert .nilIface xT 110 true).run Try.prog w = .ok (.tuple #[.agg #[.nilIface, .nilIface, .nilIface], .bool false]) w := run_ta_nil undIf zeroIf xT w
attribute [go_sem] hitConst oneConst missConst nilConst hitFix oneFix missFix nilFix hitAdd oneAdd missAdd nilAdd hitNeg oneNeg missNeg nilNeg hitMul oneMul missMul nilMul hitMax oneMax missMax nilMax hitZero oneZero missZero nilZero hitOne oneOne missOne nilOne hitGive oneGive missGive nilGive hitAnd oneAnd missAnd nilAnd hitOr oneOr missOr nilOr hitScale oneScale missScale nilScale hitWhen oneWhen missWhen nilWhen hitIf oneIf missIf nilIf

end Go.Proofs.Ytgjjngkmbplijaa
