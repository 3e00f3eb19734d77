/- The functions of the program as plain ones: printed. -/
import Derived.Test.YtccdkoimpoockaaDoorGSane
import Derived.Test.YtccdkoimpoockaaDoorGB
import Derived.KernelRfl
set_option linter.all false
set_option linter.unusedVariables false
set_option linter.unusedSectionVars false
set_option linter.unusedSimpArgs false
namespace Go.V.G
def f6_l17_head : Ann := { env := [(11, .ty (.sl (.pair (.int .i64) (.pair .str .unit)))), (12, .ty .str), (19, .cst (.ptr 19 0 [])), (20, .ty (.sl (.pair (.int .i64) (.pair .str .unit)))), (21, .ty (.sl (.int .i64))), (23, .ty .bool), (24, .ty (.int .i64)), (87, .ty (.sl (.pair (.sl (.int .i64)) (.pair (.sl .str) (.pair (.sl .str) .unit))))), (88, .ty (.int .i64)), (89, .ty (.int .i64))], stk := [], bxs := [(19, .var [.ty (.sl (.int .i64)), .ty (.sl .str), .ty (.sl .str)])] }
def f6_l17_outs : List (Ex × Ann) := [((.exit 2), { env := [(11, .ty (.sl (.pair (.int .i64) (.pair .str .unit)))), (12, .ty .str), (19, .cst (.ptr 19 0 [])), (21, .ty (.sl (.int .i64))), (23, .ty .bool), (87, .ty (.sl (.pair (.sl (.int .i64)) (.pair (.sl .str) (.pair (.sl .str) .unit))))), (88, .ty (.int .i64)), (89, .ty (.int .i64))], stk := [], bxs := [(19, .var [.ty (.sl (.int .i64)), .ty (.sl .str), .ty (.sl .str)])] })]
def f6_l17 (t11 : (List (Int × (ByteArray × Unit)))) (t12 : ByteArray) (t20 : (List (Int × (ByteArray × Unit)))) (t21 : (List Int)) (t87 : (List ((List Int) × ((List ByteArray) × ((List ByteArray) × Unit))))) (t88 : Int) (t89 : Int) (b19g0 : (List Int)) (b19g1 : (List ByteArray)) (b19g2 : (List ByteArray)) : Nat → Bool → Int → Option (outDen f6_l17_outs)
  | 0, _, _ => none
  | k + 1, t23, t24 =>
    bif (decide (t24 < (t20.length : Int))) then
      bif t23 then
        bif (inR t24 t20.length) then
          let v16 : Int := (at_ (.pair (.int .i64) (.pair .str .unit)) t20 t24).1
          (f29 t11 v16).bind fun y17 =>
          bif (inR t24 t20.length) then
            let v18 : ByteArray := (at_ (.pair (.int .i64) (.pair .str .unit)) t20 t24).2.1
            f6_l17 t11 t12 t20 t21 t87 t88 t89 b19g0 b19g1 b19g2 k (decide (y17.1 = v18)) (IntKind.wrap .i64 (t24 + (1 : Int)))
          else none
        else none
      else
        f6_l17 t11 t12 t20 t21 t87 t88 t89 b19g0 b19g1 b19g2 k false (IntKind.wrap .i64 (t24 + (1 : Int)))
    else
      some ((t11, t12, t21, t23, t87, t88, t89, ()), (), ((b19g0, b19g1, b19g2, ()), ()))
def f6_l17_spec : LSpec := { thaws := [], head := f6_l17_head, outs := f6_l17_outs, fn := fun x => f6_l17 x.1.1 x.1.2.1 x.1.2.2.1 x.1.2.2.2.1 x.1.2.2.2.2.2.2.1 x.1.2.2.2.2.2.2.2.1 x.1.2.2.2.2.2.2.2.2.1 x.2.2.1.1 x.2.2.1.2.1 x.2.2.1.2.2.1 (((x.1.2.2.1.length : Int) - x.1.2.2.2.2.2.1).toNat + 1) x.1.2.2.2.2.1 x.1.2.2.2.2.2.1 }
def f6_l21_head : Ann := { env := [(11, .ty (.sl (.pair (.int .i64) (.pair .str .unit)))), (12, .ty .str), (19, .cst (.ptr 19 0 [])), (21, .ty (.sl (.int .i64))), (23, .ty .bool), (25, .ty (.int .i64)), (87, .ty (.sl (.pair (.sl (.int .i64)) (.pair (.sl .str) (.pair (.sl .str) .unit))))), (88, .ty (.int .i64)), (89, .ty (.int .i64))], stk := [], bxs := [(19, .var [.ty (.sl (.int .i64)), .ty (.sl .str), .ty (.sl .str)])] }
def f6_l21_outs : List (Ex × Ann) := [((.exit 4), { env := [(11, .ty (.sl (.pair (.int .i64) (.pair .str .unit)))), (12, .ty .str), (19, .cst (.ptr 19 0 [])), (23, .ty .bool), (87, .ty (.sl (.pair (.sl (.int .i64)) (.pair (.sl .str) (.pair (.sl .str) .unit))))), (88, .ty (.int .i64)), (89, .ty (.int .i64))], stk := [], bxs := [(19, .var [.ty (.sl (.int .i64)), .ty (.sl .str), .ty (.sl .str)])] })]
def f6_l21 (t11 : (List (Int × (ByteArray × Unit)))) (t12 : ByteArray) (t21 : (List Int)) (t87 : (List ((List Int) × ((List ByteArray) × ((List ByteArray) × Unit))))) (t88 : Int) (t89 : Int) (b19g0 : (List Int)) (b19g1 : (List ByteArray)) (b19g2 : (List ByteArray)) : Nat → Bool → Int → Option (outDen f6_l21_outs)
  | 0, _, _ => none
  | k + 1, t23, t25 =>
    bif (decide (t25 < (t21.length : Int))) then
      bif t23 then
        bif (inR t25 t21.length) then
          (f29 t11 (at_ (.int .i64) t21 t25)).bind fun y30 =>
          f6_l21 t11 t12 t21 t87 t88 t89 b19g0 b19g1 b19g2 k (decide (y30.1 = (⟨#[]⟩ : ByteArray))) (IntKind.wrap .i64 (t25 + (1 : Int)))
        else none
      else
        f6_l21 t11 t12 t21 t87 t88 t89 b19g0 b19g1 b19g2 k false (IntKind.wrap .i64 (t25 + (1 : Int)))
    else
      some ((t11, t12, t23, t87, t88, t89, ()), (), ((b19g0, b19g1, b19g2, ()), ()))
def f6_l21_spec : LSpec := { thaws := [], head := f6_l21_head, outs := f6_l21_outs, fn := fun x => f6_l21 x.1.1 x.1.2.1 x.1.2.2.1 x.1.2.2.2.2.2.1 x.1.2.2.2.2.2.2.1 x.1.2.2.2.2.2.2.2.1 x.2.2.1.1 x.2.2.1.2.1 x.2.2.1.2.2.1 (((x.1.2.2.1.length : Int) - x.1.2.2.2.2.1).toNat + 1) x.1.2.2.2.1 x.1.2.2.2.2.1 }
def f6_l11_head : Ann := { env := [(11, .ty (.sl (.pair (.int .i64) (.pair .str .unit)))), (12, .ty .str), (87, .ty (.sl (.pair (.sl (.int .i64)) (.pair (.sl .str) (.pair (.sl .str) .unit))))), (88, .ty (.int .i64)), (89, .ty (.int .i64))], stk := [], bxs := [] }
def f6_l11_outs : List (Ex × Ann) := [((.exit 0), { env := [], stk := [], bxs := [] }), (.ret, { env := [(10, .ty .bool)], stk := [], bxs := [] })]
def f6_l11 : Nat → (List (Int × (ByteArray × Unit))) → ByteArray → (List ((List Int) × ((List ByteArray) × ((List ByteArray) × Unit)))) → Int → Int → Option (outDen f6_l11_outs)
  | 0, _, _, _, _, _ => none
  | k + 1, t11, t12, t87, t88, t89 =>
    bif (decide (t89 < t88)) then
      bif (inR t89 t87.length) then
        (f23 t12 (at_ (.pair (.sl (.int .i64)) (.pair (.sl .str) (.pair (.sl .str) .unit))) t87 t89)).bind fun y15 =>
        bif (!y15.2.2.1) then
          f6_l11 k t11 t12 t87 t88 (IntKind.wrap .i64 (t89 + (1 : Int)))
        else
          (f6_l17 t11 t12 y15.1 y15.2.1 t87 t88 t89 ((at_ (.pair (.sl (.int .i64)) (.pair (.sl .str) (.pair (.sl .str) .unit))) t87 t89).1) ((at_ (.pair (.sl (.int .i64)) (.pair (.sl .str) (.pair (.sl .str) .unit))) t87 t89).2.1) ((at_ (.pair (.sl (.int .i64)) (.pair (.sl .str) (.pair (.sl .str) .unit))) t87 t89).2.2.1) (((y15.1.length : Int) - (0 : Int)).toNat + 1) true (0 : Int)).bind fun o19 =>
          let u20 : (List (Int × (ByteArray × Unit))) := o19.1.1
          let u21 : ByteArray := o19.1.2.1
          let u22 : (List Int) := o19.1.2.2.1
          let u23 : Bool := o19.1.2.2.2.1
          let u24 : (List ((List Int) × ((List ByteArray) × ((List ByteArray) × Unit)))) := o19.1.2.2.2.2.1
          let u25 : Int := o19.1.2.2.2.2.2.1
          let u26 : Int := o19.1.2.2.2.2.2.2.1
          let u27 : (List Int) := o19.2.2.1.1
          let u28 : (List ByteArray) := o19.2.2.1.2.1
          let u29 : (List ByteArray) := o19.2.2.1.2.2.1
          (f6_l21 u20 u21 u22 u24 u25 u26 u27 u28 u29 (((u22.length : Int) - (0 : Int)).toNat + 1) u23 (0 : Int)).bind fun o31 =>
          let u32 : (List (Int × (ByteArray × Unit))) := o31.1.1
          let u33 : ByteArray := o31.1.2.1
          let u34 : Bool := o31.1.2.2.1
          let u35 : (List ((List Int) × ((List ByteArray) × ((List ByteArray) × Unit)))) := o31.1.2.2.2.1
          let u36 : Int := o31.1.2.2.2.2.1
          let u37 : Int := o31.1.2.2.2.2.2.1
          let u38 : (List Int) := o31.2.2.1.1
          let u39 : (List ByteArray) := o31.2.2.1.2.1
          let u40 : (List ByteArray) := o31.2.2.1.2.2.1
          bif (!u34) then
            (f31 u32).bind fun y41 =>
            (f32 (u38, (u39, (u40, ())))).bind fun y42 =>
            (f30 y41.1 y42.1).bind fun y43 =>
            bif (!y43.1) then
              some (.inr ((false, ()), (), ()))
            else
              f6_l11 k u32 u33 u35 u36 (IntKind.wrap .i64 (u37 + (1 : Int)))
          else
            f6_l11 k u32 u33 u35 u36 (IntKind.wrap .i64 (u37 + (1 : Int)))
      else none
    else
      some (.inl ((), (), ()))
def f6_l11_spec : LSpec := { thaws := [], head := f6_l11_head, outs := f6_l11_outs, fn := fun x => f6_l11 ((x.1.2.2.2.1 - x.1.2.2.2.2.1).toNat + 1) x.1.1 x.1.2.1 x.1.2.2.1 x.1.2.2.2.1 x.1.2.2.2.2.1 }
def f6 (a0 : (List (List Int))) (a1 : (List (List Int))) (a2 : (List Int)) (a3 : ((List Int) × ((List ByteArray) × ((List ByteArray) × Unit)))) (a4 : (List (List Int))) : Option (Bool × Unit) :=
  (f10 ).bind fun y1 =>
  bif (!y1.1) then
    some (false, ())
  else
    (f11 a0).bind fun y2 =>
    (f13 y2.1).bind fun y3 =>
    (f17 y2.1 a2).bind fun y4 =>
    (f18 y2.1 y4.1).bind fun y5 =>
    (f11 a1).bind fun y6 =>
    (f17 y2.1 a2).bind fun y7 =>
    (f18 y6.1 y7.1).bind fun y8 =>
    bif (decide (y3.2.1 ≠ (0 : Int))) then
      some (false, ())
    else
      bif (decide (y5.2.1 ≠ (0 : Int))) then
        some (false, ())
      else
        bif (decide (y8.2.1 ≠ (0 : Int))) then
          some (false, ())
        else
          let v9 : Int := (if (8 : Int) < (a3.1.length : Int) then (8 : Int) else (a3.1.length : Int))
          bif (cutOk a3.1.length none (some v9)) then
            bif (inR (0 : Int) 2) then
              (f22 y5.1 (at_ (.arr 3 (.int .i64)) a4 (0 : Int))).bind fun y10 =>
              bif (inR (0 : Int) 2) then
                (f22 y5.1 (at_ (.arr 3 (.int .i64)) a4 (0 : Int))).bind fun y11 =>
                bif (inR (1 : Int) 2) then
                  (f22 y11.1 (at_ (.arr 3 (.int .i64)) a4 (1 : Int))).bind fun y12 =>
                  bif (inR (0 : Int) 2) then
                    (f22 y8.1 (at_ (.arr 3 (.int .i64)) a4 (0 : Int))).bind fun y13 =>
                    let v14 : Int := (([y10.1, y12.1, y8.1, y13.1, ((a3.1.take (Int.toNat v9)), a3.2)] : List ((List Int) × ((List ByteArray) × ((List ByteArray) × Unit)))).length : Int)
                    (f6_l11 ((v14 - (0 : Int)).toNat + 1) y2.1 y3.1 ([y10.1, y12.1, y8.1, y13.1, ((a3.1.take (Int.toNat v9)), a3.2)] : List ((List Int) × ((List ByteArray) × ((List ByteArray) × Unit)))) v14 (0 : Int)).bind fun o44 =>
                    Sum.elim (fun o45 =>
                      some (true, ())) (fun o46 =>
                      let u47 : Bool := o46.1.1
                      some (u47, ())) o44
                  else none
                else none
              else none
            else none
          else none
def f6_spec : PSpec := { args := [(.sl (.arr 2 (.int .i64))), (.sl (.arr 2 (.int .i64))), (.sl (.int .i64)), (.pair (.sl (.int .i64)) (.pair (.sl .str) (.pair (.sl .str) .unit))), (.arr 2 (.arr 3 (.int .i64)))], res := [.bool], fn := fun x => f6 x.1 x.2.1 x.2.2.1 x.2.2.2.1 x.2.2.2.2.1 }
noncomputable def f6_code : Code := Go.Proofs.Tryd.f6.body.getD .skip
noncomputable def f6_env : Env0 := { C := cfg, P := [(10, f10_spec), (11, f11_spec), (13, f13_spec), (17, f17_spec), (18, f18_spec), (22, f22_spec), (23, f23_spec), (29, f29_spec), (30, f30_spec), (31, f31_spec), (32, f32_spec)], L := [(⟨12, 0, 6, 17⟩, f6_l17_spec), (⟨12, 0, 6, 21⟩, f6_l21_spec), (⟨12, 0, 6, 11⟩, f6_l11_spec)], F := [(6, Go.Proofs.Tryd.f6)], S := [], R := [] }
theorem f6_l17_ok : LoopOK f6_env 12 6 0 (loopAt f6_code 17) f6_l17_spec :=
  loopOK_of (by kernel_rfl) (fun n x => f6_l17 x.1.1 x.1.2.1 x.1.2.2.1 x.1.2.2.2.1 x.1.2.2.2.2.2.2.1 x.1.2.2.2.2.2.2.2.1 x.1.2.2.2.2.2.2.2.2.1 x.2.2.1.1 x.2.2.1.2.1 x.2.2.1.2.2.1 n x.1.2.2.2.2.1 x.1.2.2.2.2.2.1) (fun x o h => ⟨_, h⟩) (fun x => by kernel_rfl) (fun n x => by kernel_rfl)
theorem f6_l21_ok : LoopOK f6_env 12 6 0 (loopAt f6_code 21) f6_l21_spec :=
  loopOK_of (by kernel_rfl) (fun n x => f6_l21 x.1.1 x.1.2.1 x.1.2.2.1 x.1.2.2.2.2.2.1 x.1.2.2.2.2.2.2.1 x.1.2.2.2.2.2.2.2.1 x.2.2.1.1 x.2.2.1.2.1 x.2.2.1.2.2.1 n x.1.2.2.2.1 x.1.2.2.2.2.1) (fun x o h => ⟨_, h⟩) (fun x => by kernel_rfl) (fun n x => by kernel_rfl)
theorem f6_l11_ok : LoopOK f6_env 12 6 0 (loopAt f6_code 11) f6_l11_spec :=
  loopOK_of (by kernel_rfl) (fun n x => f6_l11 n x.1.1 x.1.2.1 x.1.2.2.1 x.1.2.2.2.1 x.1.2.2.2.2.1) (fun x o h => ⟨_, h⟩) (fun x => by kernel_rfl) (fun n x => by kernel_rfl)
theorem f6_run (x : tysDen (f6_spec).args) : runF f6_env 6 Go.Proofs.Tryd.f6 f6_code (f6_spec).args (f6_spec).res x = f6_spec.fn x := by kernel_rfl
theorem f6_enter : Enterable Go.Proofs.Tryd.prog 6 := enter_fun Go.Proofs.Tryd.func6 (by kernel_rfl)
theorem f6_envOK : EnvOK Go.Proofs.Tryd.prog f6_env := envOK_of cds (by kernel_rfl) cfg_ok ⟨⟨f10_pure, f10_enter⟩, ⟨f11_pure, f11_enter⟩, ⟨f13_pure, f13_enter⟩, ⟨f17_pure, f17_enter⟩, ⟨f18_pure, f18_enter⟩, ⟨f22_pure, f22_enter⟩, ⟨f23_pure, f23_enter⟩, ⟨f29_pure, f29_enter⟩, ⟨f30_pure, f30_enter⟩, ⟨f31_pure, f31_enter⟩, ⟨f32_pure, f32_enter⟩, trivial⟩ trivial ⟨⟨Go.Proofs.Tryd.func6, by kernel_rfl⟩, trivial⟩ ⟨⟨Go.Proofs.Tryd.f6, f6_code, rfl, rfl, f6_l17_ok⟩, ⟨Go.Proofs.Tryd.f6, f6_code, rfl, rfl, f6_l21_ok⟩, ⟨Go.Proofs.Tryd.f6, f6_code, rfl, rfl, f6_l11_ok⟩, trivial⟩ trivial
theorem f6_pure : PureOK Go.Proofs.Tryd.prog cfg 6 f6_spec := pure_of_run f6_envOK (fn := Go.Proofs.Tryd.f6) (c := f6_code) rfl rfl f6_spec (fun x _ h => (f6_run x).trans h)

end Go.V.G
