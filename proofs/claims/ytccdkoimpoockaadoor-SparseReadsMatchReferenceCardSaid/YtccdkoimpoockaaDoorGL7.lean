/- The functions of the program as plain ones: printed. -/
import Derived.Test.YtccdkoimpoockaaDoorGSane
import Derived.KernelRfl
set_option linter.all false
set_option linter.unusedVariables false
set_option linter.unusedSectionVars false
set_option linter.unusedSimpArgs false
namespace Go.V.G
def f7_l6_head : Ann := { env := [(9, .ty (.sl (.pair (.int .i64) (.pair .str .unit)))), (10, .ty .str), (11, .ty (.int .i64)), (36, .ty (.sl (.sl (.pair (.int .i64) (.pair .str .unit))))), (37, .ty (.int .i64)), (38, .ty (.int .i64))], stk := [], bxs := [] }
def f7_l6_outs : List (Ex × Ann) := [((.exit 0), { env := [], stk := [], bxs := [] }), (.ret, { env := [(8, .ty .bool)], stk := [], bxs := [] })]
def f7_l6 (t9 : (List (Int × (ByteArray × Unit)))) (t10 : ByteArray) (t11 : Int) (t36 : (List (List (Int × (ByteArray × Unit))))) (t37 : Int) : Nat → Int → Option (outDen f7_l6_outs)
  | 0, _ => none
  | k + 1, t38 =>
    bif (decide (t38 < t37)) then
      bif (inR t38 t36.length) then
        let v10 : (List (Int × (ByteArray × Unit))) := (at_ (.sl (.pair (.int .i64) (.pair .str .unit))) t36 t38)
        (f13 v10).bind fun y11 =>
        bif (decide (t11 ≠ (0 : Int))) then
          some (.inr ((false, ()), (), ()))
        else
          bif (decide (y11.2.1 ≠ (0 : Int))) then
            some (.inr ((false, ()), (), ()))
          else
            (f25 t9 v10).bind fun y12 =>
            let v13 : Bool := (!(decide ((decide (t10 = y11.1)) = y12.1)))
            bif v13 then
              (f31 t9).bind fun y14 =>
              (f31 v10).bind fun y15 =>
              (f30 y14.1 y15.1).bind fun y16 =>
              bif (!y16.1) then
                some (.inr ((false, ()), (), ()))
              else
                f7_l6 t9 t10 t11 t36 t37 k (IntKind.wrap .i64 (t38 + (1 : Int)))
            else
              f7_l6 t9 t10 t11 t36 t37 k (IntKind.wrap .i64 (t38 + (1 : Int)))
      else none
    else
      some (.inl ((), (), ()))
def f7_l6_spec : LSpec := { thaws := [], head := f7_l6_head, outs := f7_l6_outs, fn := fun x => f7_l6 x.1.1 x.1.2.1 x.1.2.2.1 x.1.2.2.2.1 x.1.2.2.2.2.1 ((x.1.2.2.2.2.1 - x.1.2.2.2.2.2.1).toNat + 1) x.1.2.2.2.2.2.1 }
def f7 (a0 : (List (List Int))) (a1 : (List (List Int))) (a2 : Int) (a3 : Int) : Option (Bool × Unit) :=
  (f10 ).bind fun y1 =>
  bif (!y1.1) then
    some (false, ())
  else
    (f11 a0).bind fun y2 =>
    (f13 y2.1).bind fun y3 =>
    (f11 a1).bind fun y4 =>
    (f21 a2 (64 : Int)).bind fun y5 =>
    (f21 a3 (3 : Int)).bind fun y6 =>
    bif (inR y6.1 ([(⟨#[]⟩ : ByteArray), (⟨#[97]⟩ : ByteArray), (⟨#[122, 122]⟩ : ByteArray)] : List ByteArray).length) then
      let v7 : ByteArray := (at_ .str ([(⟨#[]⟩ : ByteArray), (⟨#[97]⟩ : ByteArray), (⟨#[122, 122]⟩ : ByteArray)] : List ByteArray) y6.1)
      (f33 y2.1 y5.1 v7).bind fun y8 =>
      let v9 : Int := (([y4.1, y8.1] : List (List (Int × (ByteArray × Unit)))).length : Int)
      (f7_l6 y2.1 y3.1 y3.2.1 ([y4.1, y8.1] : List (List (Int × (ByteArray × Unit)))) v9 ((v9 - (0 : Int)).toNat + 1) (0 : Int)).bind fun o17 =>
      Sum.elim (fun o18 =>
        some (true, ())) (fun o19 =>
        let u20 : Bool := o19.1.1
        some (u20, ())) o17
    else none
def f7_spec : PSpec := { args := [(.sl (.arr 2 (.int .i64))), (.sl (.arr 2 (.int .i64))), (.int .i64), (.int .i64)], res := [.bool], fn := fun x => f7 x.1 x.2.1 x.2.2.1 x.2.2.2.1 }
noncomputable def f7_code : Code := Go.Proofs.Tryd.f7.body.getD .skip
noncomputable def f7_env : Env0 := { C := cfg, P := [(10, f10_spec), (11, f11_spec), (13, f13_spec), (21, f21_spec), (25, f25_spec), (30, f30_spec), (31, f31_spec), (33, f33_spec)], L := [(⟨12, 0, 7, 6⟩, f7_l6_spec)], F := [(7, Go.Proofs.Tryd.f7)], S := [], R := [] }
theorem f7_l6_ok : LoopOK f7_env 12 7 0 (loopAt f7_code 6) f7_l6_spec :=
  loopOK_of (by kernel_rfl) (fun n x => f7_l6 x.1.1 x.1.2.1 x.1.2.2.1 x.1.2.2.2.1 x.1.2.2.2.2.1 n x.1.2.2.2.2.2.1) (fun x o h => ⟨_, h⟩) (fun x => by kernel_rfl) (fun n x => by kernel_rfl)
theorem f7_run (x : tysDen (f7_spec).args) : runF f7_env 7 Go.Proofs.Tryd.f7 f7_code (f7_spec).args (f7_spec).res x = f7_spec.fn x := by kernel_rfl
theorem f7_enter : Enterable Go.Proofs.Tryd.prog 7 := enter_fun Go.Proofs.Tryd.func7 (by kernel_rfl)
theorem f7_envOK : EnvOK Go.Proofs.Tryd.prog f7_env := envOK_of cds (by kernel_rfl) cfg_ok ⟨⟨f10_pure, f10_enter⟩, ⟨f11_pure, f11_enter⟩, ⟨f13_pure, f13_enter⟩, ⟨f21_pure, f21_enter⟩, ⟨f25_pure, f25_enter⟩, ⟨f30_pure, f30_enter⟩, ⟨f31_pure, f31_enter⟩, ⟨f33_pure, f33_enter⟩, trivial⟩ trivial ⟨⟨Go.Proofs.Tryd.func7, by kernel_rfl⟩, trivial⟩ ⟨⟨Go.Proofs.Tryd.f7, f7_code, rfl, rfl, f7_l6_ok⟩, trivial⟩ trivial
theorem f7_pure : PureOK Go.Proofs.Tryd.prog cfg 7 f7_spec := pure_of_run f7_envOK (fn := Go.Proofs.Tryd.f7) (c := f7_code) rfl rfl f7_spec (fun x _ h => (f7_run x).trans h)

end Go.V.G
