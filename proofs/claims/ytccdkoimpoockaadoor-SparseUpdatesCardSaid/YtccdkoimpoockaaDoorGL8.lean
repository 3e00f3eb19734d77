/- The functions of the program as plain ones: printed. -/
import Derived.Test.YtccdkoimpoockaaDoorGSane
import Derived.KernelRfl
set_option linter.all false
set_option linter.unusedVariables false
set_option linter.unusedSectionVars false
set_option linter.unusedSimpArgs false
namespace Go.V.G
def f8_l10_head : Ann := { env := [(2, .ty (.sl (.int .i64))), (7, .ty (.sl (.pair (.int .i64) (.pair .str .unit)))), (8, .ty .str), (9, .ty (.int .i64)), (10, .cst (.ptr 10 0 [])), (11, .ty (.int .i64)), (12, .cst (.row 75 .whole)), (13, .cst (.row 91 .whole)), (14, .ty (.sl (.pair (.int .i64) (.pair .str .unit)))), (15, .ty (.int .i64))], stk := [], bxs := [(10, .var [.ty (.sl (.int .i64)), .ty (.sl .str), .ty (.sl .str)]), (75, .row (.pair (.int .i64) (.pair .str .unit)) false), (91, .row (.pair (.int .i64) (.pair .str .unit)) false)] }
def f8_l10_outs : List (Ex × Ann) := [((.exit 0), { env := [(8, .ty .str), (9, .ty (.int .i64)), (10, .cst (.ptr 10 0 [])), (11, .ty (.int .i64)), (12, .cst (.row 75 .whole)), (13, .cst (.row 91 .whole)), (14, .ty (.sl (.pair (.int .i64) (.pair .str .unit))))], stk := [], bxs := [(10, .var [.ty (.sl (.int .i64)), .ty (.sl .str), .ty (.sl .str)]), (75, .row (.pair (.int .i64) (.pair .str .unit)) false), (91, .row (.pair (.int .i64) (.pair .str .unit)) false)] })]
def f8_l10 (t2 : (List Int)) (t7 : (List (Int × (ByteArray × Unit)))) (t8 : ByteArray) (t9 : Int) (t11 : Int) (b10g0 : (List Int)) (b10g1 : (List ByteArray)) (b10g2 : (List ByteArray)) : Nat → (List (Int × (ByteArray × Unit))) → Int → (List (Int × (ByteArray × Unit))) → (List (Int × (ByteArray × Unit))) → Option (outDen f8_l10_outs)
  | 0, _, _, _, _ => none
  | k + 1, t14, t15, r75, r91 =>
    bif (decide (t15 < (b10g0.length : Int))) then
      bif (decide (t15 < (t2.length : Int))) then
        bif (inR t15 t2.length) then
          (f21 (at_ (.int .i64) t2 t15) (3 : Int)).bind fun y6 =>
          bif (inR y6.1 ([(⟨#[]⟩ : ByteArray), (⟨#[113]⟩ : ByteArray), (⟨#[114, 115]⟩ : ByteArray)] : List ByteArray).length) then
            let v7 : ByteArray := (at_ .str ([(⟨#[]⟩ : ByteArray), (⟨#[113]⟩ : ByteArray), (⟨#[114, 115]⟩ : ByteArray)] : List ByteArray) y6.1)
            bif (inR t15 b10g0.length) then
              bif (decide (r75.length + ([((at_ (.int .i64) b10g0 t15), (v7, ()))] : List (Int × (ByteArray × Unit))).length ≤ appLim)) then
                bif (inR t15 b10g0.length) then
                  bif (inR t15 b10g0.length) then
                    (f29 t7 (at_ (.int .i64) b10g0 t15)).bind fun y8 =>
                    bif (decide (r91.length + ([((at_ (.int .i64) b10g0 t15), (y8.1, ()))] : List (Int × (ByteArray × Unit))).length ≤ appLim)) then
                      bif (inR t15 b10g0.length) then
                        (f33 t14 (at_ (.int .i64) b10g0 t15) v7).bind fun y9 =>
                        f8_l10 t2 t7 t8 t9 t11 b10g0 b10g1 b10g2 k y9.1 (IntKind.wrap .i64 (t15 + (1 : Int))) (r75 ++ ([((at_ (.int .i64) b10g0 t15), (v7, ()))] : List (Int × (ByteArray × Unit)))) (r91 ++ ([((at_ (.int .i64) b10g0 t15), (y8.1, ()))] : List (Int × (ByteArray × Unit))))
                      else none
                    else none
                  else none
                else none
              else none
            else none
          else none
        else none
      else
        some ((t8, t9, t11, t14, ()), (), ((b10g0, b10g1, b10g2, ()), r75, r91, ()))
    else
      some ((t8, t9, t11, t14, ()), (), ((b10g0, b10g1, b10g2, ()), r75, r91, ()))
def f8_l10_spec : LSpec := { thaws := [.slot 12 75 (.pair (.int .i64) (.pair .str .unit)), .slot 13 91 (.pair (.int .i64) (.pair .str .unit))], head := f8_l10_head, outs := f8_l10_outs, fn := fun x => f8_l10 x.1.1 x.1.2.1 x.1.2.2.1 x.1.2.2.2.1 x.1.2.2.2.2.1 x.2.2.1.1 x.2.2.1.2.1 x.2.2.1.2.2.1 (((x.2.2.1.1.length : Int) - x.1.2.2.2.2.2.2.1).toNat + 1) x.1.2.2.2.2.2.1 x.1.2.2.2.2.2.2.1 x.2.2.2.1 x.2.2.2.2.1 }
def f8 (a0 : (List (List Int))) (a1 : (List Int)) (a2 : (List Int)) : Option (Bool × Unit) :=
  (f10 ).bind fun y1 =>
  bif (!y1.1) then
    some (false, ())
  else
    (f11 a0).bind fun y2 =>
    (f13 y2.1).bind fun y3 =>
    (f17 y2.1 a1).bind fun y4 =>
    (f18 y2.1 y4.1).bind fun y5 =>
    (f8_l10 a2 y2.1 y3.1 y3.2.1 y5.2.1 y5.1.1 y5.1.2.1 y5.1.2.2.1 (((y5.1.1.length : Int) - (0 : Int)).toNat + 1) y2.1 (0 : Int) [] []).bind fun o10 =>
    let u11 : ByteArray := o10.1.1
    let u12 : Int := o10.1.2.1
    let u13 : Int := o10.1.2.2.1
    let u14 : (List (Int × (ByteArray × Unit))) := o10.1.2.2.2.1
    let u15 : (List Int) := o10.2.2.1.1
    let u16 : (List ByteArray) := o10.2.2.1.2.1
    let u17 : (List ByteArray) := o10.2.2.1.2.2.1
    let u18 : (List (Int × (ByteArray × Unit))) := o10.2.2.2.1
    let u19 : (List (Int × (ByteArray × Unit))) := o10.2.2.2.2.1
    (f27 u11 (u15, (u16, (u17, ()))) u18).bind fun y20 =>
    (f13 u14).bind fun y21 =>
    (f27 u11 (u15, (u16, (u17, ()))) u19).bind fun y22 =>
    (f18 u14 u15).bind fun y23 =>
    (f27 y20.1 y23.1 u19).bind fun y24 =>
    bif (decide (u12 = (0 : Int))) then
      bif (decide (u13 = (0 : Int))) then
        bif (decide (y21.2.1 = (0 : Int))) then
          bif (decide (y23.2.1 = (0 : Int))) then
            bif y20.2.1 then
              bif y22.2.1 then
                bif y24.2.1 then
                  bif (decide (y20.1 = y21.1)) then
                    bif (decide (y22.1 = u11)) then
                      some ((decide (y24.1 = u11)), ())
                    else
                      some (false, ())
                  else
                    some (false, ())
                else
                  some (false, ())
              else
                some (false, ())
            else
              some (false, ())
          else
            some (false, ())
        else
          some (false, ())
      else
        some (false, ())
    else
      some (false, ())
def f8_spec : PSpec := { args := [(.sl (.arr 2 (.int .i64))), (.sl (.int .i64)), (.sl (.int .i64))], res := [.bool], fn := fun x => f8 x.1 x.2.1 x.2.2.1 }
noncomputable def f8_code : Code := Go.Proofs.Tryd.f8.body.getD .skip
noncomputable def f8_env : Env0 := { C := cfg, P := [(10, f10_spec), (11, f11_spec), (13, f13_spec), (17, f17_spec), (18, f18_spec), (21, f21_spec), (27, f27_spec), (29, f29_spec), (33, f33_spec)], L := [(⟨12, 0, 8, 10⟩, f8_l10_spec)], F := [(8, Go.Proofs.Tryd.f8)], S := [], R := [] }
theorem f8_l10_ok : LoopOK f8_env 12 8 0 (loopAt f8_code 10) f8_l10_spec :=
  loopOK_of (by kernel_rfl) (fun n x => f8_l10 x.1.1 x.1.2.1 x.1.2.2.1 x.1.2.2.2.1 x.1.2.2.2.2.1 x.2.2.1.1 x.2.2.1.2.1 x.2.2.1.2.2.1 n x.1.2.2.2.2.2.1 x.1.2.2.2.2.2.2.1 x.2.2.2.1 x.2.2.2.2.1) (fun x o h => ⟨_, h⟩) (fun x => by kernel_rfl) (fun n x => by kernel_rfl)
theorem f8_run (x : tysDen (f8_spec).args) : runF f8_env 8 Go.Proofs.Tryd.f8 f8_code (f8_spec).args (f8_spec).res x = f8_spec.fn x := by kernel_rfl
theorem f8_enter : Enterable Go.Proofs.Tryd.prog 8 := enter_fun Go.Proofs.Tryd.func8 (by kernel_rfl)
theorem f8_envOK : EnvOK Go.Proofs.Tryd.prog f8_env := envOK_of cds (by kernel_rfl) cfg_ok ⟨⟨f10_pure, f10_enter⟩, ⟨f11_pure, f11_enter⟩, ⟨f13_pure, f13_enter⟩, ⟨f17_pure, f17_enter⟩, ⟨f18_pure, f18_enter⟩, ⟨f21_pure, f21_enter⟩, ⟨f27_pure, f27_enter⟩, ⟨f29_pure, f29_enter⟩, ⟨f33_pure, f33_enter⟩, trivial⟩ trivial ⟨⟨Go.Proofs.Tryd.func8, by kernel_rfl⟩, trivial⟩ ⟨⟨Go.Proofs.Tryd.f8, f8_code, rfl, rfl, f8_l10_ok⟩, trivial⟩ trivial
theorem f8_pure : PureOK Go.Proofs.Tryd.prog cfg 8 f8_spec := pure_of_run f8_envOK (fn := Go.Proofs.Tryd.f8) (c := f8_code) rfl rfl f8_spec (fun x _ h => (f8_run x).trans h)

end Go.V.G
