/- The functions of the program as plain ones: printed. -/
import Derived.Test.YtccdkoimpoockaaDoorGSane
import Derived.KernelRfl
set_option linter.all false
set_option linter.unusedVariables false
set_option linter.unusedSectionVars false
set_option linter.unusedSimpArgs false
namespace Go.V.G
def f5_l13_head : Ann := { env := [(5, .ty (.sl (.pair (.int .i64) (.pair .str .unit)))), (6, .ty (.sl (.int .i64))), (11, .ty (.sl (.pair (.int .i64) (.pair .str .unit)))), (12, .ty (.sl (.int .i64))), (14, .ty (.int .i64)), (15, .ty (.int .i64)), (16, .ty (.int .i64))], stk := [], bxs := [] }
def f5_l13_outs : List (Ex × Ann) := [((.exit 0), { env := [], stk := [], bxs := [] }), (.ret, { env := [(4, .ty .bool)], stk := [], bxs := [] })]
def f5_l13 (t5 : (List (Int × (ByteArray × Unit)))) (t6 : (List Int)) (t11 : (List (Int × (ByteArray × Unit)))) (t12 : (List Int)) : Nat → Int → Int → Int → Option (outDen f5_l13_outs)
  | 0, _, _, _ => none
  | k + 1, t14, t15, t16 =>
    bif (decide (t16 < (t6.length : Int))) then
      bif (inR t16 t6.length) then
        (f29 t5 (at_ (.int .i64) t6 t16)).bind fun y11 =>
        bif (decide (y11.1 = (⟨#[]⟩ : ByteArray))) then
          bif (decide (t15 ≥ (t12.length : Int))) then
            some (.inr ((false, ()), (), ()))
          else
            bif (inR t15 t12.length) then
              bif (inR t16 t6.length) then
                let v12 : Bool := (decide ((at_ (.int .i64) t12 t15) ≠ (at_ (.int .i64) t6 t16)))
                bif v12 then
                  some (.inr ((false, ()), (), ()))
                else
                  f5_l13 t5 t6 t11 t12 k t14 (IntKind.wrap .i64 (t15 + (1 : Int))) (IntKind.wrap .i64 (t16 + (1 : Int)))
              else none
            else none
        else
          bif (decide (t14 ≥ (t11.length : Int))) then
            some (.inr ((false, ()), (), ()))
          else
            bif (inR t14 t11.length) then
              let v13 : Int := (at_ (.pair (.int .i64) (.pair .str .unit)) t11 t14).1
              bif (inR t16 t6.length) then
                let v14 : Bool := (decide (v13 ≠ (at_ (.int .i64) t6 t16)))
                bif v14 then
                  some (.inr ((false, ()), (), ()))
                else
                  bif (inR t14 t11.length) then
                    let v15 : ByteArray := (at_ (.pair (.int .i64) (.pair .str .unit)) t11 t14).2.1
                    bif (!(decide (v15 = y11.1))) then
                      some (.inr ((false, ()), (), ()))
                    else
                      f5_l13 t5 t6 t11 t12 k (IntKind.wrap .i64 (t14 + (1 : Int))) t15 (IntKind.wrap .i64 (t16 + (1 : Int)))
                  else none
              else none
            else none
      else none
    else
      some (.inl ((), (), ()))
def f5_l13_spec : LSpec := { thaws := [], head := f5_l13_head, outs := f5_l13_outs, fn := fun x => f5_l13 x.1.1 x.1.2.1 x.1.2.2.1 x.1.2.2.2.1 (((x.1.2.1.length : Int) - x.1.2.2.2.2.2.2.1).toNat + 1) x.1.2.2.2.2.1 x.1.2.2.2.2.2.1 x.1.2.2.2.2.2.2.1 }
def f5 (a0 : (List (List Int))) (a1 : (List Int)) : Option (Bool × Unit) :=
  (f10 ).bind fun y1 =>
  bif (!y1.1) then
    some (false, ())
  else
    (f11 a0).bind fun y2 =>
    (f17 y2.1 a1).bind fun y3 =>
    (f13 y2.1).bind fun y4 =>
    (f18 y2.1 y3.1).bind fun y5 =>
    (f23 y4.1 y5.1).bind fun y6 =>
    bif (decide (y4.2.1 ≠ (0 : Int))) then
      some (false, ())
    else
      bif (decide (y5.2.1 ≠ (0 : Int))) then
        some (false, ())
      else
        bif (!y6.2.2.1) then
          some (false, ())
        else
          let v7 : Int := (IntKind.wrap .i64 ((y6.1.length : Int) + (y6.2.1.length : Int)))
          bif (decide (v7 ≠ (y3.1.length : Int))) then
            some (false, ())
          else
            let v8 : Int := (IntKind.wrap .i64 ((6 : Int) * (y3.1.length : Int)))
            let v9 : Int := (if v8 > (1 : Int) then v8 else (1 : Int))
            let v10 : Bool := (decide ((y5.1.2.2.1.length : Int) > v9))
            bif v10 then
              some (false, ())
            else
              (f5_l13 y2.1 y3.1 y6.1 y6.2.1 (((y3.1.length : Int) - (0 : Int)).toNat + 1) (0 : Int) (0 : Int) (0 : Int)).bind fun o16 =>
              Sum.elim (fun o17 =>
                some (true, ())) (fun o18 =>
                let u19 : Bool := o18.1.1
                some (u19, ())) o16
def f5_spec : PSpec := { args := [(.sl (.arr 2 (.int .i64))), (.sl (.int .i64))], res := [.bool], fn := fun x => f5 x.1 x.2.1 }
noncomputable def f5_code : Code := Go.Proofs.Tryd.f5.body.getD .skip
noncomputable def f5_env : Env0 := { C := cfg, P := [(10, f10_spec), (11, f11_spec), (13, f13_spec), (17, f17_spec), (18, f18_spec), (23, f23_spec), (29, f29_spec)], L := [(⟨12, 0, 5, 13⟩, f5_l13_spec)], F := [(5, Go.Proofs.Tryd.f5)], S := [], R := [] }
theorem f5_l13_ok : LoopOK f5_env 12 5 0 (loopAt f5_code 13) f5_l13_spec :=
  loopOK_of (by kernel_rfl) (fun n x => f5_l13 x.1.1 x.1.2.1 x.1.2.2.1 x.1.2.2.2.1 n x.1.2.2.2.2.1 x.1.2.2.2.2.2.1 x.1.2.2.2.2.2.2.1) (fun x o h => ⟨_, h⟩) (fun x => by kernel_rfl) (fun n x => by kernel_rfl)
theorem f5_run (x : tysDen (f5_spec).args) : runF f5_env 5 Go.Proofs.Tryd.f5 f5_code (f5_spec).args (f5_spec).res x = f5_spec.fn x := by kernel_rfl
theorem f5_enter : Enterable Go.Proofs.Tryd.prog 5 := enter_fun Go.Proofs.Tryd.func5 (by kernel_rfl)
theorem f5_envOK : EnvOK Go.Proofs.Tryd.prog f5_env := envOK_of cds (by kernel_rfl) cfg_ok ⟨⟨f10_pure, f10_enter⟩, ⟨f11_pure, f11_enter⟩, ⟨f13_pure, f13_enter⟩, ⟨f17_pure, f17_enter⟩, ⟨f18_pure, f18_enter⟩, ⟨f23_pure, f23_enter⟩, ⟨f29_pure, f29_enter⟩, trivial⟩ trivial ⟨⟨Go.Proofs.Tryd.func5, by kernel_rfl⟩, trivial⟩ ⟨⟨Go.Proofs.Tryd.f5, f5_code, rfl, rfl, f5_l13_ok⟩, trivial⟩ trivial
theorem f5_pure : PureOK Go.Proofs.Tryd.prog cfg 5 f5_spec := pure_of_run f5_envOK (fn := Go.Proofs.Tryd.f5) (c := f5_code) rfl rfl f5_spec (fun x _ h => (f5_run x).trans h)

end Go.V.G
