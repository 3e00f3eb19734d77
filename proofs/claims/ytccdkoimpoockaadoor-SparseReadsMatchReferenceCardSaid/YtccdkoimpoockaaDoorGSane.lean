/- sane(): the chapter's examples. -/
import Derived.Test.YtccdkoimpoockaaDoorPEx3
import Derived.KernelRfl
set_option linter.all false
set_option linter.unusedVariables false
set_option linter.unusedSectionVars false
set_option linter.unusedSimpArgs false
namespace Go.V.G
def f10_l17_head : Ann := { env := [(1, .ty .str), (2, .ty .str), (6, .cst (.ptr 6 0 [])), (9, .ty (.sl (.int .i64))), (11, .ty (.sl (.pair (.int .i64) (.pair .str .unit)))), (12, .ty .str), (14, .ty .str), (17, .ty (.int .i64)), (18, .ty (.sl (.pair (.int .i64) (.pair .str .unit)))), (19, .ty (.sl (.int .i64))), (20, .ty .bool), (23, .ty .bool), (25, .ty (.int .i64)), (26, .ty .str), (27, .ty (.int .i64))], stk := [], bxs := [(6, .var [.ty (.sl (.int .i64)), .ty (.sl .str), .ty (.sl .str)])] }
def f10_l17_outs : List (Ex × Ann) := [((.exit 0), { env := [(2, .ty .str), (6, .cst (.ptr 6 0 [])), (9, .ty (.sl (.int .i64))), (11, .ty (.sl (.pair (.int .i64) (.pair .str .unit)))), (12, .ty .str), (14, .ty .str), (17, .ty (.int .i64)), (18, .ty (.sl (.pair (.int .i64) (.pair .str .unit)))), (19, .ty (.sl (.int .i64))), (20, .ty .bool), (23, .ty .bool), (25, .ty (.int .i64)), (26, .ty .str)], stk := [], bxs := [(6, .var [.ty (.sl (.int .i64)), .ty (.sl .str), .ty (.sl .str)])] })]
def f10_l17 (t1 : ByteArray) (t2 : ByteArray) (t9 : (List Int)) (t11 : (List (Int × (ByteArray × Unit)))) (t12 : ByteArray) (t14 : ByteArray) (t17 : Int) (t18 : (List (Int × (ByteArray × Unit)))) (t19 : (List Int)) (t20 : Bool) (t23 : Bool) (t25 : Int) (b6g0 : (List Int)) (b6g1 : (List ByteArray)) (b6g2 : (List ByteArray)) : Nat → ByteArray → Int → Option (outDen f10_l17_outs)
  | 0, _, _ => none
  | k + 1, t26, t27 =>
    bif (decide (t27 < (6 : Int))) then
      bif (catOk (⟨#[9]⟩ : ByteArray) t26) then
        bif (catOk ((⟨#[9]⟩ : ByteArray) ++ t26) t1) then
          bif (decide (0 ≤ t27)) then
            let v1 : Int := (Int.tmod (shrV .i64 (5 : Int) t27) (2 : Int))
            bif (decide (v1 = (1 : Int))) then
              bif (catOk (⟨#[9]⟩ : ByteArray) t1) then
                bif (catOk ((⟨#[9]⟩ : ByteArray) ++ t1) t26) then
                  (o35 (((⟨#[9]⟩ : ByteArray) ++ t1) ++ t26)).bind fun y2 =>
                  f10_l17 t1 t2 t9 t11 t12 t14 t17 t18 t19 t20 t23 t25 b6g0 b6g1 b6g2 k y2.1 (IntKind.wrap .i64 (t27 + (1 : Int)))
                else none
              else none
            else
              (o35 (((⟨#[9]⟩ : ByteArray) ++ t26) ++ t1)).bind fun y3 =>
              f10_l17 t1 t2 t9 t11 t12 t14 t17 t18 t19 t20 t23 t25 b6g0 b6g1 b6g2 k y3.1 (IntKind.wrap .i64 (t27 + (1 : Int)))
          else none
        else none
      else none
    else
      some ((t2, t9, t11, t12, t14, t17, t18, t19, t20, t23, t25, t26, ()), (), ((b6g0, b6g1, b6g2, ()), ()))
def f10_l17_spec : LSpec := { thaws := [], head := f10_l17_head, outs := f10_l17_outs, fn := fun x => f10_l17 x.1.1 x.1.2.1 x.1.2.2.1 x.1.2.2.2.1 x.1.2.2.2.2.1 x.1.2.2.2.2.2.1 x.1.2.2.2.2.2.2.1 x.1.2.2.2.2.2.2.2.1 x.1.2.2.2.2.2.2.2.2.1 x.1.2.2.2.2.2.2.2.2.2.1 x.1.2.2.2.2.2.2.2.2.2.2.1 x.1.2.2.2.2.2.2.2.2.2.2.2.1 x.2.2.1.1 x.2.2.1.2.1 x.2.2.1.2.2.1 (((6 : Int) - x.1.2.2.2.2.2.2.2.2.2.2.2.2.2.1).toNat + 1) x.1.2.2.2.2.2.2.2.2.2.2.2.2.1 x.1.2.2.2.2.2.2.2.2.2.2.2.2.2.1 }
/-- A contract for fewer inputs. -/
theorem pure_less {P : Program} {C : Cfg} {f : FuncId} {args res : List Ty} {F G : tysDen args → Option (tysDen res)} (h : PureOK P C f { args := args, res := res, fn := F }) (hg : ∀ x y, G x = some y → F x = some y) : PureOK P C f { args := args, res := res, fn := G } :=
  fun fz w a x y h1 h2 h3 h4 => h fz w a x y h1 h2 h3 (hg x y h4)
def o13_spec : PSpec := { args := f13_spec.args, res := f13_spec.res, fn := fun x => o13 x.1 }
def o18_spec : PSpec := { args := f18_spec.args, res := f18_spec.res, fn := fun x => o18 x.1 x.2.1 }
def o23_spec : PSpec := { args := f23_spec.args, res := f23_spec.res, fn := fun x => o23 x.1 x.2.1 }
def o27_spec : PSpec := { args := f27_spec.args, res := f27_spec.res, fn := fun x => o27 x.1 x.2.1 x.2.2.1 }
def o35_spec : PSpec := { args := f35_spec.args, res := f35_spec.res, fn := fun x => o35 x.1 }
theorem o13_pure : PureOK Go.Proofs.Tryd.prog cfg 13 o13_spec := pure_less f13_pure (fun x y h => o13_ok h)
theorem o18_pure : PureOK Go.Proofs.Tryd.prog cfg 18 o18_spec := pure_less f18_pure (fun x y h => o18_ok h)
theorem o23_pure : PureOK Go.Proofs.Tryd.prog cfg 23 o23_spec := pure_less f23_pure (fun x y h => o23_ok h)
theorem o27_pure : PureOK Go.Proofs.Tryd.prog cfg 27 o27_spec := pure_less f27_pure (fun x y h => o27_ok h)
theorem o35_pure : PureOK Go.Proofs.Tryd.prog cfg 35 o35_spec := pure_less f35_pure (fun x y h => o35_ok h)
def f10 : Option (Bool × Unit) := some (true, ())
def f10_spec : PSpec := { args := [], res := [.bool], fn := fun _ => f10 }
noncomputable def f10_code : Code := Go.Proofs.Tryd.f10.body.getD .skip
noncomputable def f10_env : Env0 := { C := cfg, P := [(13, o13_spec), (15, f15_spec), (18, o18_spec), (23, o23_spec), (25, f25_spec), (27, o27_spec), (34, f34_spec), (35, o35_spec)], L := [(⟨12, 0, 10, 17⟩, f10_l17_spec)], F := [(10, Go.Proofs.Tryd.f10)], S := [], R := [] }
theorem f10_l17_ok : LoopOK f10_env 12 10 0 (loopAt f10_code 17) f10_l17_spec :=
  loopOK_of (by kernel_rfl) (fun n x => f10_l17 x.1.1 x.1.2.1 x.1.2.2.1 x.1.2.2.2.1 x.1.2.2.2.2.1 x.1.2.2.2.2.2.1 x.1.2.2.2.2.2.2.1 x.1.2.2.2.2.2.2.2.1 x.1.2.2.2.2.2.2.2.2.1 x.1.2.2.2.2.2.2.2.2.2.1 x.1.2.2.2.2.2.2.2.2.2.2.1 x.1.2.2.2.2.2.2.2.2.2.2.2.1 x.2.2.1.1 x.2.2.1.2.1 x.2.2.1.2.2.1 n x.1.2.2.2.2.2.2.2.2.2.2.2.2.1 x.1.2.2.2.2.2.2.2.2.2.2.2.2.2.1) (fun x o h => ⟨_, h⟩) (fun x => by kernel_rfl) (fun n x => by kernel_rfl)
theorem f10_run (x : tysDen (f10_spec).args) : runF f10_env 10 Go.Proofs.Tryd.f10 f10_code (f10_spec).args (f10_spec).res x = f10_spec.fn x := by kernel_rfl
theorem f10_enter : Enterable Go.Proofs.Tryd.prog 10 := enter_fun Go.Proofs.Tryd.func10 (by kernel_rfl)
theorem f10_envOK : EnvOK Go.Proofs.Tryd.prog f10_env := envOK_of cds (by kernel_rfl) cfg_ok ⟨⟨o13_pure, f13_enter⟩, ⟨f15_pure, f15_enter⟩, ⟨o18_pure, f18_enter⟩, ⟨o23_pure, f23_enter⟩, ⟨f25_pure, f25_enter⟩, ⟨o27_pure, f27_enter⟩, ⟨f34_pure, f34_enter⟩, ⟨o35_pure, f35_enter⟩, trivial⟩ trivial ⟨⟨Go.Proofs.Tryd.func10, by kernel_rfl⟩, trivial⟩ ⟨⟨Go.Proofs.Tryd.f10, f10_code, rfl, rfl, f10_l17_ok⟩, trivial⟩ trivial
theorem f10_pure : PureOK Go.Proofs.Tryd.prog cfg 10 f10_spec := pure_of_run f10_envOK (fn := Go.Proofs.Tryd.f10) (c := f10_code) rfl rfl f10_spec (fun x _ h => (f10_run x).trans h)
end Go.V.G
