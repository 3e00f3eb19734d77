/- The functions of the program as plain ones: printed. -/
import Derived.Test.YtccdkoimpoockaaDoorGSane
import Derived.Test.YtccdkoimpoockaaDoorGB
import Derived.KernelRfl
set_option linter.all false
set_option linter.unusedVariables false
set_option linter.unusedSectionVars false
set_option linter.unusedSimpArgs false
namespace Go.V.G
def f4_l13_head : Ann := { env := [(4, .ty (.sl (.pair (.int .i64) (.pair .str .unit)))), (5, .ty (.sl (.int .i64))), (8, .cst (.ptr 8 0 [])), (9, .cst (.ptr 9 0 [])), (14, .ty .str), (16, .cst (.ptr 16 0 [])), (18, .cst (.row 110 .whole)), (19, .ty (.int .i64))], stk := [], bxs := [(8, .var [.ty (.sl (.int .i64)), .ty (.sl .str), .ty (.sl .str)]), (9, .var [.ty (.arr 2 (.arr 3 (.int .i64)))]), (16, .var [.ty (.sl (.int .i64)), .ty (.sl .str), .ty (.sl .str)]), (110, .row (.pair (.int .i64) (.pair .str .unit)) false)] }
def f4_l13_outs : List (Ex × Ann) := [((.exit 0), { env := [(4, .ty (.sl (.pair (.int .i64) (.pair .str .unit)))), (8, .cst (.ptr 8 0 [])), (9, .cst (.ptr 9 0 [])), (14, .ty .str), (16, .cst (.ptr 16 0 [])), (18, .cst (.row 110 .whole))], stk := [], bxs := [(8, .var [.ty (.sl (.int .i64)), .ty (.sl .str), .ty (.sl .str)]), (9, .var [.ty (.arr 2 (.arr 3 (.int .i64)))]), (16, .var [.ty (.sl (.int .i64)), .ty (.sl .str), .ty (.sl .str)]), (110, .row (.pair (.int .i64) (.pair .str .unit)) false)] })]
def f4_l13 (t4 : (List (Int × (ByteArray × Unit)))) (t5 : (List Int)) (t14 : ByteArray) (b8g0 : (List Int)) (b8g1 : (List ByteArray)) (b8g2 : (List ByteArray)) (b9g0 : (List (List Int))) (b16g0 : (List Int)) (b16g1 : (List ByteArray)) (b16g2 : (List ByteArray)) : Nat → Int → (List (Int × (ByteArray × Unit))) → Option (outDen f4_l13_outs)
  | 0, _, _ => none
  | k + 1, t19, r110 =>
    bif (decide (t19 < (b16g0.length : Int))) then
      bif (decide (t19 < (t5.length : Int))) then
        bif (inR t19 b16g0.length) then
          bif (inR t19 t5.length) then
            (f21 (at_ (.int .i64) t5 t19) (3 : Int)).bind fun y9 =>
            bif (inR y9.1 ([(⟨#[]⟩ : ByteArray), (⟨#[113]⟩ : ByteArray), (⟨#[114, 115]⟩ : ByteArray)] : List ByteArray).length) then
              let v10 : ByteArray := (at_ .str ([(⟨#[]⟩ : ByteArray), (⟨#[113]⟩ : ByteArray), (⟨#[114, 115]⟩ : ByteArray)] : List ByteArray) y9.1)
              bif (decide (r110.length + ([((at_ (.int .i64) b16g0 t19), (v10, ()))] : List (Int × (ByteArray × Unit))).length ≤ appLim)) then f4_l13 t4 t5 t14 b8g0 b8g1 b8g2 b9g0 b16g0 b16g1 b16g2 k (IntKind.wrap .i64 (t19 + (1 : Int))) (r110 ++ ([((at_ (.int .i64) b16g0 t19), (v10, ()))] : List (Int × (ByteArray × Unit)))) else none
            else none
          else none
        else none
      else
        some ((t4, t14, ()), (), ((b8g0, b8g1, b8g2, ()), (b9g0, ()), (b16g0, b16g1, b16g2, ()), r110, ()))
    else
      some ((t4, t14, ()), (), ((b8g0, b8g1, b8g2, ()), (b9g0, ()), (b16g0, b16g1, b16g2, ()), r110, ()))
def f4_l13_spec : LSpec := { thaws := [.slot 18 110 (.pair (.int .i64) (.pair .str .unit))], head := f4_l13_head, outs := f4_l13_outs, fn := fun x => f4_l13 x.1.1 x.1.2.1 x.1.2.2.1 x.2.2.1.1 x.2.2.1.2.1 x.2.2.1.2.2.1 x.2.2.2.1.1 x.2.2.2.2.1.1 x.2.2.2.2.1.2.1 x.2.2.2.2.1.2.2.1 (((x.2.2.2.2.1.1.length : Int) - x.1.2.2.2.1).toNat + 1) x.1.2.2.2.1 x.2.2.2.2.2.1 }
def f4_l24_head : Ann := { env := [(4, .ty (.sl (.pair (.int .i64) (.pair .str .unit)))), (14, .ty .str), (18, .ty (.sl (.pair (.int .i64) (.pair .str .unit)))), (21, .cst (.ptr 21 0 [])), (124, .ty (.sl (.pair (.sl (.int .i64)) (.pair (.sl .str) (.pair (.sl .str) .unit))))), (125, .ty (.int .i64)), (126, .ty (.int .i64)), (148, .ty (.sl (.pair (.int .i64) (.pair .str .unit)))), (149, .ty (.sl (.pair (.int .i64) (.pair .str .unit)))), (150, .ty .bool), (151, .ty .bool), (154, .ty (.sl (.int .i64))), (155, .ty (.sl (.int .i64))), (156, .ty .bool), (157, .ty .bool), (162, .ty (.sl (.sl (.pair (.int .i64) (.pair .str .unit))))), (163, .ty (.int .i64)), (164, .ty (.int .i64))], stk := [], bxs := [(21, .var [.ty (.sl (.int .i64)), .ty (.sl .str), .ty (.sl .str)])] }
def f4_l24_outs : List (Ex × Ann) := [((.exit 4), { env := [(4, .ty (.sl (.pair (.int .i64) (.pair .str .unit)))), (14, .ty .str), (18, .ty (.sl (.pair (.int .i64) (.pair .str .unit)))), (124, .ty (.sl (.pair (.sl (.int .i64)) (.pair (.sl .str) (.pair (.sl .str) .unit))))), (125, .ty (.int .i64)), (126, .ty (.int .i64)), (148, .ty (.sl (.pair (.int .i64) (.pair .str .unit)))), (149, .ty (.sl (.pair (.int .i64) (.pair .str .unit)))), (150, .ty .bool), (151, .ty .bool), (154, .ty (.sl (.int .i64))), (155, .ty (.sl (.int .i64))), (156, .ty .bool), (157, .ty .bool)], stk := [], bxs := [] }), (.ret, { env := [(12, .ty .bool)], stk := [], bxs := [] })]
def f4_l24 (t4 : (List (Int × (ByteArray × Unit)))) (t14 : ByteArray) (t18 : (List (Int × (ByteArray × Unit)))) (t124 : (List ((List Int) × ((List ByteArray) × ((List ByteArray) × Unit))))) (t125 : Int) (t126 : Int) (t148 : (List (Int × (ByteArray × Unit)))) (t149 : (List (Int × (ByteArray × Unit)))) (t150 : Bool) (t151 : Bool) (t154 : (List Int)) (t155 : (List Int)) (t156 : Bool) (t157 : Bool) (t162 : (List (List (Int × (ByteArray × Unit))))) (t163 : Int) (b21g0 : (List Int)) (b21g1 : (List ByteArray)) (b21g2 : (List ByteArray)) : Nat → Int → Option (outDen f4_l24_outs)
  | 0, _ => none
  | k + 1, t164 =>
    bif (decide (t164 < t163)) then
      bif (inR t164 t162.length) then
        let v32 : (List (Int × (ByteArray × Unit))) := (at_ (.sl (.pair (.int .i64) (.pair .str .unit))) t162 t164)
        (f27 t14 (b21g0, (b21g1, (b21g2, ()))) v32).bind fun y33 =>
        (f28 t14 (b21g0, (b21g1, (b21g2, ()))) v32).bind fun y34 =>
        bif (!(decide (y33.1 = y34.1))) then
          some (.inr ((false, ()), (), ()))
        else
          bif (!(decide (y33.2.1 = y34.2.1))) then
            some (.inr ((false, ()), (), ()))
          else
            f4_l24 t4 t14 t18 t124 t125 t126 t148 t149 t150 t151 t154 t155 t156 t157 t162 t163 b21g0 b21g1 b21g2 k (IntKind.wrap .i64 (t164 + (1 : Int)))
      else none
    else
      some (.inl ((t4, t14, t18, t124, t125, t126, t148, t149, t150, t151, t154, t155, t156, t157, ()), (), ()))
def f4_l24_spec : LSpec := { thaws := [], head := f4_l24_head, outs := f4_l24_outs, fn := fun x => f4_l24 x.1.1 x.1.2.1 x.1.2.2.1 x.1.2.2.2.1 x.1.2.2.2.2.1 x.1.2.2.2.2.2.1 x.1.2.2.2.2.2.2.1 x.1.2.2.2.2.2.2.2.1 x.1.2.2.2.2.2.2.2.2.1 x.1.2.2.2.2.2.2.2.2.2.1 x.1.2.2.2.2.2.2.2.2.2.2.1 x.1.2.2.2.2.2.2.2.2.2.2.2.1 x.1.2.2.2.2.2.2.2.2.2.2.2.2.1 x.1.2.2.2.2.2.2.2.2.2.2.2.2.2.1 x.1.2.2.2.2.2.2.2.2.2.2.2.2.2.2.1 x.1.2.2.2.2.2.2.2.2.2.2.2.2.2.2.2.1 x.2.2.1.1 x.2.2.1.2.1 x.2.2.1.2.2.1 ((x.1.2.2.2.2.2.2.2.2.2.2.2.2.2.2.2.1 - x.1.2.2.2.2.2.2.2.2.2.2.2.2.2.2.2.2.1).toNat + 1) x.1.2.2.2.2.2.2.2.2.2.2.2.2.2.2.2.2.1 }
def f4_l17_head : Ann := { env := [(4, .ty (.sl (.pair (.int .i64) (.pair .str .unit)))), (14, .ty .str), (18, .ty (.sl (.pair (.int .i64) (.pair .str .unit)))), (124, .ty (.sl (.pair (.sl (.int .i64)) (.pair (.sl .str) (.pair (.sl .str) .unit))))), (125, .ty (.int .i64)), (126, .ty (.int .i64))], stk := [], bxs := [] }
def f4_l17_outs : List (Ex × Ann) := [((.exit 2), { env := [], stk := [], bxs := [] }), (.ret, { env := [(12, .ty .bool)], stk := [], bxs := [] })]
def f4_l17 : Nat → (List (Int × (ByteArray × Unit))) → ByteArray → (List (Int × (ByteArray × Unit))) → (List ((List Int) × ((List ByteArray) × ((List ByteArray) × Unit)))) → Int → Int → Option (outDen f4_l17_outs)
  | 0, _, _, _, _, _, _ => none
  | k + 1, t4, t14, t18, t124, t125, t126 =>
    bif (decide (t126 < t125)) then
      bif (inR t126 t124.length) then
        (f23 t14 (at_ (.pair (.sl (.int .i64)) (.pair (.sl .str) (.pair (.sl .str) .unit))) t124 t126)).bind fun y26 =>
        (f24 t14 (at_ (.pair (.sl (.int .i64)) (.pair (.sl .str) (.pair (.sl .str) .unit))) t124 t126)).bind fun y27 =>
        bif (!(decide (y26.2.2.1 = y27.2.2.1))) then
          some (.inr ((false, ()), (), ()))
        else
          (f25 y26.1 y27.1).bind fun y28 =>
          bif (!y28.1) then
            some (.inr ((false, ()), (), ()))
          else
            (f26 y26.2.1 y27.2.1).bind fun y29 =>
            bif (!y29.1) then
              some (.inr ((false, ()), (), ()))
            else
              (f12 t4).bind fun y30 =>
              let v31 : Int := (([y30.1, t18] : List (List (Int × (ByteArray × Unit)))).length : Int)
              (f4_l24 t4 t14 t18 t124 t125 t126 y26.1 y27.1 y28.1 (!y28.1) y26.2.1 y27.2.1 y29.1 (!y29.1) ([y30.1, t18] : List (List (Int × (ByteArray × Unit)))) v31 ((at_ (.pair (.sl (.int .i64)) (.pair (.sl .str) (.pair (.sl .str) .unit))) t124 t126).1) ((at_ (.pair (.sl (.int .i64)) (.pair (.sl .str) (.pair (.sl .str) .unit))) t124 t126).2.1) ((at_ (.pair (.sl (.int .i64)) (.pair (.sl .str) (.pair (.sl .str) .unit))) t124 t126).2.2.1) ((v31 - (0 : Int)).toNat + 1) (0 : Int)).bind fun o35 =>
              Sum.elim (fun o36 =>
                let u38 : (List (Int × (ByteArray × Unit))) := o36.1.1
                let u39 : ByteArray := o36.1.2.1
                let u40 : (List (Int × (ByteArray × Unit))) := o36.1.2.2.1
                let u41 : (List ((List Int) × ((List ByteArray) × ((List ByteArray) × Unit)))) := o36.1.2.2.2.1
                let u42 : Int := o36.1.2.2.2.2.1
                let u43 : Int := o36.1.2.2.2.2.2.1
                f4_l17 k u38 u39 u40 u41 u42 (IntKind.wrap .i64 (u43 + (1 : Int)))) (fun o37 =>
                let u52 : Bool := o37.1.1
                some (.inr ((u52, ()), (), ()))) o35
      else none
    else
      some (.inl ((), (), ()))
def f4_l17_spec : LSpec := { thaws := [], head := f4_l17_head, outs := f4_l17_outs, fn := fun x => f4_l17 ((x.1.2.2.2.2.1 - x.1.2.2.2.2.2.1).toNat + 1) x.1.1 x.1.2.1 x.1.2.2.1 x.1.2.2.2.1 x.1.2.2.2.2.1 x.1.2.2.2.2.2.1 }
def f4 (a0 : (List (List Int))) (a1 : (List Int)) (a2 : ((List Int) × ((List ByteArray) × ((List ByteArray) × Unit)))) (a3 : (List (List Int))) (a4 : (List (Int × (ByteArray × Unit)))) (a5 : (List Int)) : Option (Bool × Unit) :=
  (f10 ).bind fun y1 =>
  bif (!y1.1) then
    some (false, ())
  else
    (f11 a0).bind fun y2 =>
    (f14 y2.1).bind fun y3 =>
    (f17 y2.1 a1).bind fun y4 =>
    (f19 y2.1 y4.1).bind fun y5 =>
    bif (decide (y3.2.1 ≠ (0 : Int))) then
      some (false, ())
    else
      bif (decide (y5.2.1 ≠ (0 : Int))) then
        some (false, ())
      else
        let v6 : Int := (if (8 : Int) < (a2.1.length : Int) then (8 : Int) else (a2.1.length : Int))
        bif (cutOk a2.1.length none (some v6)) then
          let v7 : Int := (if (8 : Int) < (a2.2.1.length : Int) then (8 : Int) else (a2.2.1.length : Int))
          bif (cutOk a2.2.1.length none (some v7)) then
            let v8 : Int := (if (50 : Int) < (a2.2.2.1.length : Int) then (50 : Int) else (a2.2.2.1.length : Int))
            bif (cutOk a2.2.2.1.length none (some v8)) then
              (f4_l13 a4 a5 y3.1 (a2.1.take (Int.toNat v6)) (a2.2.1.take (Int.toNat v7)) (a2.2.2.1.take (Int.toNat v8)) a3 y5.1.1 y5.1.2.1 y5.1.2.2.1 (((y5.1.1.length : Int) - (0 : Int)).toNat + 1) (0 : Int) []).bind fun o11 =>
              let u12 : (List (Int × (ByteArray × Unit))) := o11.1.1
              let u13 : ByteArray := o11.1.2.1
              let u14 : (List Int) := o11.2.2.1.1
              let u15 : (List ByteArray) := o11.2.2.1.2.1
              let u16 : (List ByteArray) := o11.2.2.1.2.2.1
              let u17 : (List (List Int)) := o11.2.2.2.1.1
              let u18 : (List Int) := o11.2.2.2.2.1.1
              let u19 : (List ByteArray) := o11.2.2.2.2.1.2.1
              let u20 : (List ByteArray) := o11.2.2.2.2.1.2.2.1
              let u21 : (List (Int × (ByteArray × Unit))) := o11.2.2.2.2.2.1
              bif (inR (0 : Int) 2) then
                (f22 (u18, (u19, (u20, ()))) (at_ (.arr 3 (.int .i64)) u17 (0 : Int))).bind fun y22 =>
                bif (inR (0 : Int) 2) then
                  (f22 (u18, (u19, (u20, ()))) (at_ (.arr 3 (.int .i64)) u17 (0 : Int))).bind fun y23 =>
                  bif (inR (1 : Int) 2) then
                    (f22 y23.1 (at_ (.arr 3 (.int .i64)) u17 (1 : Int))).bind fun y24 =>
                    let v25 : Int := (([(u18, (u19, (u20, ()))), y22.1, y24.1, (u14, (u15, (u16, ())))] : List ((List Int) × ((List ByteArray) × ((List ByteArray) × Unit)))).length : Int)
                    (f4_l17 ((v25 - (0 : Int)).toNat + 1) u12 u13 u21 ([(u18, (u19, (u20, ()))), y22.1, y24.1, (u14, (u15, (u16, ())))] : List ((List Int) × ((List ByteArray) × ((List ByteArray) × Unit)))) v25 (0 : Int)).bind fun o53 =>
                    Sum.elim (fun o54 =>
                      some (true, ())) (fun o55 =>
                      let u56 : Bool := o55.1.1
                      some (u56, ())) o53
                  else none
                else none
              else none
            else none
          else none
        else none
def f4_spec : PSpec := { args := [(.sl (.arr 2 (.int .i64))), (.sl (.int .i64)), (.pair (.sl (.int .i64)) (.pair (.sl .str) (.pair (.sl .str) .unit))), (.arr 2 (.arr 3 (.int .i64))), (.sl (.pair (.int .i64) (.pair .str .unit))), (.sl (.int .i64))], res := [.bool], fn := fun x => f4 x.1 x.2.1 x.2.2.1 x.2.2.2.1 x.2.2.2.2.1 x.2.2.2.2.2.1 }
noncomputable def f4_code : Code := Go.Proofs.Tryd.f4.body.getD .skip
noncomputable def f4_env : Env0 := { C := cfg, P := [(10, f10_spec), (11, f11_spec), (12, f12_spec), (14, f14_spec), (17, f17_spec), (19, f19_spec), (21, f21_spec), (22, f22_spec), (23, f23_spec), (24, f24_spec), (25, f25_spec), (26, f26_spec), (27, f27_spec), (28, f28_spec)], L := [(⟨12, 0, 4, 13⟩, f4_l13_spec), (⟨12, 0, 4, 24⟩, f4_l24_spec), (⟨12, 0, 4, 17⟩, f4_l17_spec)], F := [(4, Go.Proofs.Tryd.f4)], S := [], R := [] }
theorem f4_l13_ok : LoopOK f4_env 12 4 0 (loopAt f4_code 13) f4_l13_spec :=
  loopOK_of (by kernel_rfl) (fun n x => f4_l13 x.1.1 x.1.2.1 x.1.2.2.1 x.2.2.1.1 x.2.2.1.2.1 x.2.2.1.2.2.1 x.2.2.2.1.1 x.2.2.2.2.1.1 x.2.2.2.2.1.2.1 x.2.2.2.2.1.2.2.1 n x.1.2.2.2.1 x.2.2.2.2.2.1) (fun x o h => ⟨_, h⟩) (fun x => by kernel_rfl) (fun n x => by kernel_rfl)
theorem f4_l24_ok : LoopOK f4_env 12 4 0 (loopAt f4_code 24) f4_l24_spec :=
  loopOK_of (by kernel_rfl) (fun n x => f4_l24 x.1.1 x.1.2.1 x.1.2.2.1 x.1.2.2.2.1 x.1.2.2.2.2.1 x.1.2.2.2.2.2.1 x.1.2.2.2.2.2.2.1 x.1.2.2.2.2.2.2.2.1 x.1.2.2.2.2.2.2.2.2.1 x.1.2.2.2.2.2.2.2.2.2.1 x.1.2.2.2.2.2.2.2.2.2.2.1 x.1.2.2.2.2.2.2.2.2.2.2.2.1 x.1.2.2.2.2.2.2.2.2.2.2.2.2.1 x.1.2.2.2.2.2.2.2.2.2.2.2.2.2.1 x.1.2.2.2.2.2.2.2.2.2.2.2.2.2.2.1 x.1.2.2.2.2.2.2.2.2.2.2.2.2.2.2.2.1 x.2.2.1.1 x.2.2.1.2.1 x.2.2.1.2.2.1 n x.1.2.2.2.2.2.2.2.2.2.2.2.2.2.2.2.2.1) (fun x o h => ⟨_, h⟩) (fun x => by kernel_rfl) (fun n x => by kernel_rfl)
theorem f4_l17_ok : LoopOK f4_env 12 4 0 (loopAt f4_code 17) f4_l17_spec :=
  loopOK_of (by kernel_rfl) (fun n x => f4_l17 n x.1.1 x.1.2.1 x.1.2.2.1 x.1.2.2.2.1 x.1.2.2.2.2.1 x.1.2.2.2.2.2.1) (fun x o h => ⟨_, h⟩) (fun x => by kernel_rfl) (fun n x => by kernel_rfl)
theorem f4_run (x : tysDen (f4_spec).args) : runF f4_env 4 Go.Proofs.Tryd.f4 f4_code (f4_spec).args (f4_spec).res x = f4_spec.fn x := by kernel_rfl
theorem f4_enter : Enterable Go.Proofs.Tryd.prog 4 := enter_fun Go.Proofs.Tryd.func4 (by kernel_rfl)
theorem f4_envOK : EnvOK Go.Proofs.Tryd.prog f4_env := envOK_of cds (by kernel_rfl) cfg_ok ⟨⟨f10_pure, f10_enter⟩, ⟨f11_pure, f11_enter⟩, ⟨f12_pure, f12_enter⟩, ⟨f14_pure, f14_enter⟩, ⟨f17_pure, f17_enter⟩, ⟨f19_pure, f19_enter⟩, ⟨f21_pure, f21_enter⟩, ⟨f22_pure, f22_enter⟩, ⟨f23_pure, f23_enter⟩, ⟨f24_pure, f24_enter⟩, ⟨f25_pure, f25_enter⟩, ⟨f26_pure, f26_enter⟩, ⟨f27_pure, f27_enter⟩, ⟨f28_pure, f28_enter⟩, trivial⟩ trivial ⟨⟨Go.Proofs.Tryd.func4, by kernel_rfl⟩, trivial⟩ ⟨⟨Go.Proofs.Tryd.f4, f4_code, rfl, rfl, f4_l13_ok⟩, ⟨Go.Proofs.Tryd.f4, f4_code, rfl, rfl, f4_l24_ok⟩, ⟨Go.Proofs.Tryd.f4, f4_code, rfl, rfl, f4_l17_ok⟩, trivial⟩ trivial
theorem f4_pure : PureOK Go.Proofs.Tryd.prog cfg 4 f4_spec := pure_of_run f4_envOK (fn := Go.Proofs.Tryd.f4) (c := f4_code) rfl rfl f4_spec (fun x _ h => (f4_run x).trans h)

end Go.V.G
