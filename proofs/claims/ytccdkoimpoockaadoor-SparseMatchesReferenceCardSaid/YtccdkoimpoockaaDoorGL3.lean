/- The functions of the program as plain ones: printed. -/
import Derived.Test.YtccdkoimpoockaaDoorGSane
import Derived.KernelRfl
set_option linter.all false
set_option linter.unusedVariables false
set_option linter.unusedSectionVars false
set_option linter.unusedSimpArgs false
namespace Go.V.G
def f3_l12_head : Ann := { env := [(2, .ty (.sl (.int .i64))), (3, .ty (.sl (.int .i64))), (9, .ty (.sl (.pair (.int .i64) (.pair .str .unit)))), (11, .ty (.sl (.pair (.int .i64) (.pair .str .unit)))), (29, .ty (.sl (.sl (.pair (.int .i64) (.pair .str .unit))))), (30, .ty (.int .i64)), (31, .ty (.int .i64)), (49, .ty (.int .i64)), (50, .ty (.int .i64)), (51, .ty .bool), (54, .ty (.sl (.pair (.int .i64) (.pair .str .unit)))), (55, .ty .bool), (56, .ty (.sl (.pair (.int .i64) (.pair .str .unit)))), (57, .ty .bool), (58, .ty .bool), (68, .ty (.sl (.sl (.int .i64)))), (69, .ty (.int .i64)), (70, .ty (.int .i64))], stk := [], bxs := [] }
def f3_l12_outs : List (Ex × Ann) := [((.exit 2), { env := [(2, .ty (.sl (.int .i64))), (3, .ty (.sl (.int .i64))), (9, .ty (.sl (.pair (.int .i64) (.pair .str .unit)))), (29, .ty (.sl (.sl (.pair (.int .i64) (.pair .str .unit))))), (30, .ty (.int .i64)), (31, .ty (.int .i64)), (49, .ty (.int .i64)), (50, .ty (.int .i64)), (51, .ty .bool), (54, .ty (.sl (.pair (.int .i64) (.pair .str .unit)))), (55, .ty .bool), (56, .ty (.sl (.pair (.int .i64) (.pair .str .unit)))), (57, .ty .bool), (58, .ty .bool)], stk := [], bxs := [] }), (.ret, { env := [(8, .ty .bool)], stk := [], bxs := [] })]
def f3_l12 (t2 : (List Int)) (t3 : (List Int)) (t9 : (List (Int × (ByteArray × Unit)))) (t11 : (List (Int × (ByteArray × Unit)))) (t29 : (List (List (Int × (ByteArray × Unit))))) (t30 : Int) (t31 : Int) (t49 : Int) (t50 : Int) (t51 : Bool) (t54 : (List (Int × (ByteArray × Unit)))) (t55 : Bool) (t56 : (List (Int × (ByteArray × Unit)))) (t57 : Bool) (t58 : Bool) (t68 : (List (List Int))) (t69 : Int) : Nat → Int → Option (outDen f3_l12_outs)
  | 0, _ => none
  | k + 1, t70 =>
    bif (decide (t70 < t69)) then
      bif (inR t70 t68.length) then
        (f18 t11 (at_ (.sl (.int .i64)) t68 t70)).bind fun y13 =>
        (f19 t11 (at_ (.sl (.int .i64)) t68 t70)).bind fun y14 =>
        bif (decide (y13.2.1 ≠ y14.2.1)) then
          some (.inr ((false, ()), (), ()))
        else
          (f20 y13.1 y14.1).bind fun y15 =>
          bif (!y15.1) then
            some (.inr ((false, ()), (), ()))
          else
            f3_l12 t2 t3 t9 t11 t29 t30 t31 t49 t50 t51 t54 t55 t56 t57 t58 t68 t69 k (IntKind.wrap .i64 (t70 + (1 : Int)))
      else none
    else
      some (.inl ((t2, t3, t9, t29, t30, t31, t49, t50, t51, t54, t55, t56, t57, t58, ()), (), ()))
def f3_l12_spec : LSpec := { thaws := [], head := f3_l12_head, outs := f3_l12_outs, fn := fun x => f3_l12 x.1.1 x.1.2.1 x.1.2.2.1 x.1.2.2.2.1 x.1.2.2.2.2.1 x.1.2.2.2.2.2.1 x.1.2.2.2.2.2.2.1 x.1.2.2.2.2.2.2.2.1 x.1.2.2.2.2.2.2.2.2.1 x.1.2.2.2.2.2.2.2.2.2.1 x.1.2.2.2.2.2.2.2.2.2.2.1 x.1.2.2.2.2.2.2.2.2.2.2.2.1 x.1.2.2.2.2.2.2.2.2.2.2.2.2.1 x.1.2.2.2.2.2.2.2.2.2.2.2.2.2.1 x.1.2.2.2.2.2.2.2.2.2.2.2.2.2.2.1 x.1.2.2.2.2.2.2.2.2.2.2.2.2.2.2.2.1 x.1.2.2.2.2.2.2.2.2.2.2.2.2.2.2.2.2.1 ((x.1.2.2.2.2.2.2.2.2.2.2.2.2.2.2.2.2.1 - x.1.2.2.2.2.2.2.2.2.2.2.2.2.2.2.2.2.2.1).toNat + 1) x.1.2.2.2.2.2.2.2.2.2.2.2.2.2.2.2.2.2.1 }
def f3_l5_head : Ann := { env := [(2, .ty (.sl (.int .i64))), (3, .ty (.sl (.int .i64))), (9, .ty (.sl (.pair (.int .i64) (.pair .str .unit)))), (29, .ty (.sl (.sl (.pair (.int .i64) (.pair .str .unit))))), (30, .ty (.int .i64)), (31, .ty (.int .i64))], stk := [], bxs := [] }
def f3_l5_outs : List (Ex × Ann) := [((.exit 0), { env := [], stk := [], bxs := [] }), (.ret, { env := [(8, .ty .bool)], stk := [], bxs := [] })]
def f3_l5 : Nat → (List Int) → (List Int) → (List (Int × (ByteArray × Unit))) → (List (List (Int × (ByteArray × Unit)))) → Int → Int → Option (outDen f3_l5_outs)
  | 0, _, _, _, _, _, _ => none
  | k + 1, t2, t3, t9, t29, t30, t31 =>
    bif (decide (t31 < t30)) then
      bif (inR t31 t29.length) then
        let v5 : (List (Int × (ByteArray × Unit))) := (at_ (.sl (.pair (.int .i64) (.pair .str .unit))) t29 t31)
        (f13 v5).bind fun y6 =>
        (f14 v5).bind fun y7 =>
        bif (!(decide (y6.1 = y7.1))) then
          some (.inr ((false, ()), (), ()))
        else
          bif (decide (y6.2.1 ≠ y7.2.1)) then
            some (.inr ((false, ()), (), ()))
          else
            (f15 v5).bind fun y8 =>
            (f16 v5).bind fun y9 =>
            bif (!(decide (y8.1 = y9.1))) then
              some (.inr ((false, ()), (), ()))
            else
              let v10 : Int := (if (8 : Int) < (t2.length : Int) then (8 : Int) else (t2.length : Int))
              bif (cutOk t2.length none (some v10)) then
                (f17 t9 t3).bind fun y11 =>
                let v12 : Int := (([(t2.take (Int.toNat v10)), y11.1] : List (List Int)).length : Int)
                (f3_l12 t2 t3 t9 v5 t29 t30 t31 y6.2.1 y7.2.1 (decide (y6.2.1 ≠ y7.2.1)) v5 y8.1 v5 y9.1 (!(decide (y8.1 = y9.1))) ([(t2.take (Int.toNat v10)), y11.1] : List (List Int)) v12 ((v12 - (0 : Int)).toNat + 1) (0 : Int)).bind fun o16 =>
                Sum.elim (fun o17 =>
                  let u19 : (List Int) := o17.1.1
                  let u20 : (List Int) := o17.1.2.1
                  let u21 : (List (Int × (ByteArray × Unit))) := o17.1.2.2.1
                  let u22 : (List (List (Int × (ByteArray × Unit)))) := o17.1.2.2.2.1
                  let u23 : Int := o17.1.2.2.2.2.1
                  let u24 : Int := o17.1.2.2.2.2.2.1
                  f3_l5 k u19 u20 u21 u22 u23 (IntKind.wrap .i64 (u24 + (1 : Int)))) (fun o18 =>
                  let u33 : Bool := o18.1.1
                  some (.inr ((u33, ()), (), ()))) o16
              else none
      else none
    else
      some (.inl ((), (), ()))
def f3_l5_spec : LSpec := { thaws := [], head := f3_l5_head, outs := f3_l5_outs, fn := fun x => f3_l5 ((x.1.2.2.2.2.1 - x.1.2.2.2.2.2.1).toNat + 1) x.1.1 x.1.2.1 x.1.2.2.1 x.1.2.2.2.1 x.1.2.2.2.2.1 x.1.2.2.2.2.2.1 }
def f3 (a0 : (List (List Int))) (a1 : (List (Int × (ByteArray × Unit)))) (a2 : (List Int)) (a3 : (List Int)) : Option (Bool × Unit) :=
  (f10 ).bind fun y1 =>
  bif (!y1.1) then
    some (false, ())
  else
    (f11 a0).bind fun y2 =>
    (f12 a1).bind fun y3 =>
    let v4 : Int := (([y2.1, y3.1] : List (List (Int × (ByteArray × Unit)))).length : Int)
    (f3_l5 ((v4 - (0 : Int)).toNat + 1) a2 a3 y2.1 ([y2.1, y3.1] : List (List (Int × (ByteArray × Unit)))) v4 (0 : Int)).bind fun o34 =>
    Sum.elim (fun o35 =>
      some (true, ())) (fun o36 =>
      let u37 : Bool := o36.1.1
      some (u37, ())) o34
def f3_spec : PSpec := { args := [(.sl (.arr 2 (.int .i64))), (.sl (.pair (.int .i64) (.pair .str .unit))), (.sl (.int .i64)), (.sl (.int .i64))], res := [.bool], fn := fun x => f3 x.1 x.2.1 x.2.2.1 x.2.2.2.1 }
noncomputable def f3_code : Code := Go.Proofs.Tryd.f3.body.getD .skip
noncomputable def f3_env : Env0 := { C := cfg, P := [(10, f10_spec), (11, f11_spec), (12, f12_spec), (13, f13_spec), (14, f14_spec), (15, f15_spec), (16, f16_spec), (17, f17_spec), (18, f18_spec), (19, f19_spec), (20, f20_spec)], L := [(⟨12, 0, 3, 12⟩, f3_l12_spec), (⟨12, 0, 3, 5⟩, f3_l5_spec)], F := [(3, Go.Proofs.Tryd.f3)], S := [], R := [] }
theorem f3_l12_ok : LoopOK f3_env 12 3 0 (loopAt f3_code 12) f3_l12_spec :=
  loopOK_of (by kernel_rfl) (fun n x => f3_l12 x.1.1 x.1.2.1 x.1.2.2.1 x.1.2.2.2.1 x.1.2.2.2.2.1 x.1.2.2.2.2.2.1 x.1.2.2.2.2.2.2.1 x.1.2.2.2.2.2.2.2.1 x.1.2.2.2.2.2.2.2.2.1 x.1.2.2.2.2.2.2.2.2.2.1 x.1.2.2.2.2.2.2.2.2.2.2.1 x.1.2.2.2.2.2.2.2.2.2.2.2.1 x.1.2.2.2.2.2.2.2.2.2.2.2.2.1 x.1.2.2.2.2.2.2.2.2.2.2.2.2.2.1 x.1.2.2.2.2.2.2.2.2.2.2.2.2.2.2.1 x.1.2.2.2.2.2.2.2.2.2.2.2.2.2.2.2.1 x.1.2.2.2.2.2.2.2.2.2.2.2.2.2.2.2.2.1 n x.1.2.2.2.2.2.2.2.2.2.2.2.2.2.2.2.2.2.1) (fun x o h => ⟨_, h⟩) (fun x => by kernel_rfl) (fun n x => by kernel_rfl)
theorem f3_l5_ok : LoopOK f3_env 12 3 0 (loopAt f3_code 5) f3_l5_spec :=
  loopOK_of (by kernel_rfl) (fun n x => f3_l5 n x.1.1 x.1.2.1 x.1.2.2.1 x.1.2.2.2.1 x.1.2.2.2.2.1 x.1.2.2.2.2.2.1) (fun x o h => ⟨_, h⟩) (fun x => by kernel_rfl) (fun n x => by kernel_rfl)
theorem f3_run (x : tysDen (f3_spec).args) : runF f3_env 3 Go.Proofs.Tryd.f3 f3_code (f3_spec).args (f3_spec).res x = f3_spec.fn x := by kernel_rfl
theorem f3_enter : Enterable Go.Proofs.Tryd.prog 3 := enter_fun Go.Proofs.Tryd.func3 (by kernel_rfl)
theorem f3_envOK : EnvOK Go.Proofs.Tryd.prog f3_env := envOK_of cds (by kernel_rfl) cfg_ok ⟨⟨f10_pure, f10_enter⟩, ⟨f11_pure, f11_enter⟩, ⟨f12_pure, f12_enter⟩, ⟨f13_pure, f13_enter⟩, ⟨f14_pure, f14_enter⟩, ⟨f15_pure, f15_enter⟩, ⟨f16_pure, f16_enter⟩, ⟨f17_pure, f17_enter⟩, ⟨f18_pure, f18_enter⟩, ⟨f19_pure, f19_enter⟩, ⟨f20_pure, f20_enter⟩, trivial⟩ trivial ⟨⟨Go.Proofs.Tryd.func3, by kernel_rfl⟩, trivial⟩ ⟨⟨Go.Proofs.Tryd.f3, f3_code, rfl, rfl, f3_l12_ok⟩, ⟨Go.Proofs.Tryd.f3, f3_code, rfl, rfl, f3_l5_ok⟩, trivial⟩ trivial
theorem f3_pure : PureOK Go.Proofs.Tryd.prog cfg 3 f3_spec := pure_of_run f3_envOK (fn := Go.Proofs.Tryd.f3) (c := f3_code) rfl rfl f3_spec (fun x _ h => (f3_run x).trans h)

end Go.V.G
