/- The functions of the program as plain ones: printed. -/
import Derived.Test.YtccdkoimpoockaaDoorGSane
import Derived.KernelRfl
set_option linter.all false
set_option linter.unusedVariables false
set_option linter.unusedSectionVars false
set_option linter.unusedSimpArgs false
namespace Go.V.G
def f9 (a0 : (List (List Int))) (a1 : (List Int)) (a2 : (List Int)) : Option (Bool × Unit) :=
  (f10 ).bind fun y1 =>
  bif (!y1.1) then
    some (false, ())
  else
    (f11 a0).bind fun y2 =>
    bif (inR (0 : Int) 2) then
      (f21 (at_ (.int .i64) a1 (0 : Int)) (64 : Int)).bind fun y3 =>
      bif (inR (1 : Int) 2) then
        (f21 (at_ (.int .i64) a1 (1 : Int)) (64 : Int)).bind fun y4 =>
        bif (decide (y3.1 = y4.1)) then
          some (true, ())
        else
          bif (inR (0 : Int) 2) then
            (f21 (at_ (.int .i64) a2 (0 : Int)) (3 : Int)).bind fun y5 =>
            bif (inR y5.1 ([(⟨#[]⟩ : ByteArray), (⟨#[113]⟩ : ByteArray), (⟨#[114, 115]⟩ : ByteArray)] : List ByteArray).length) then
              let v6 : ByteArray := (at_ .str ([(⟨#[]⟩ : ByteArray), (⟨#[113]⟩ : ByteArray), (⟨#[114, 115]⟩ : ByteArray)] : List ByteArray) y5.1)
              bif (inR (1 : Int) 2) then
                (f21 (at_ (.int .i64) a2 (1 : Int)) (3 : Int)).bind fun y7 =>
                bif (inR y7.1 ([(⟨#[]⟩ : ByteArray), (⟨#[113]⟩ : ByteArray), (⟨#[114, 115]⟩ : ByteArray)] : List ByteArray).length) then
                  let v8 : ByteArray := (at_ .str ([(⟨#[]⟩ : ByteArray), (⟨#[113]⟩ : ByteArray), (⟨#[114, 115]⟩ : ByteArray)] : List ByteArray) y7.1)
                  bif (decide (y3.1 > y4.1)) then
                    (f13 y2.1).bind fun y9 =>
                    (f18 y2.1 ([(if y4.1 < y3.1 then y4.1 else y3.1), (if y4.1 > y3.1 then y4.1 else y3.1)] : List Int)).bind fun y10 =>
                    (f27 y9.1 y10.1 ([(y4.1, (v8, ())), (y3.1, (v6, ()))] : List (Int × (ByteArray × Unit)))).bind fun y11 =>
                    (f27 y9.1 y10.1 ([(y3.1, (v6, ()))] : List (Int × (ByteArray × Unit)))).bind fun y12 =>
                    (f27 y9.1 y10.1 ([(y4.1, (v8, ()))] : List (Int × (ByteArray × Unit)))).bind fun y13 =>
                    (f33 y2.1 y3.1 v6).bind fun y14 =>
                    (f18 y14.1 ([y4.1] : List Int)).bind fun y15 =>
                    (f33 y2.1 y4.1 v8).bind fun y16 =>
                    (f18 y16.1 ([y3.1] : List Int)).bind fun y17 =>
                    (f27 y12.1 y15.1 ([(y4.1, (v8, ()))] : List (Int × (ByteArray × Unit)))).bind fun y18 =>
                    (f27 y13.1 y17.1 ([(y3.1, (v6, ()))] : List (Int × (ByteArray × Unit)))).bind fun y19 =>
                    bif (decide (y9.2.1 = (0 : Int))) then
                      bif (decide (y10.2.1 = (0 : Int))) then
                        bif (decide (y15.2.1 = (0 : Int))) then
                          bif (decide (y17.2.1 = (0 : Int))) then
                            bif y11.2.1 then
                              bif y12.2.1 then
                                bif y13.2.1 then
                                  bif y18.2.1 then
                                    bif y19.2.1 then
                                      bif (decide (y18.1 = y11.1)) then
                                        some ((decide (y19.1 = y11.1)), ())
                                      else
                                        some (false, ())
                                    else
                                      some (false, ())
                                  else
                                    some (false, ())
                                else
                                  some (false, ())
                              else
                                some (false, ())
                            else
                              some (false, ())
                          else
                            some (false, ())
                        else
                          some (false, ())
                      else
                        some (false, ())
                    else
                      some (false, ())
                  else
                    (f13 y2.1).bind fun y20 =>
                    (f18 y2.1 ([(if y4.1 < y3.1 then y4.1 else y3.1), (if y4.1 > y3.1 then y4.1 else y3.1)] : List Int)).bind fun y21 =>
                    (f27 y20.1 y21.1 ([(y3.1, (v6, ())), (y4.1, (v8, ()))] : List (Int × (ByteArray × Unit)))).bind fun y22 =>
                    (f27 y20.1 y21.1 ([(y3.1, (v6, ()))] : List (Int × (ByteArray × Unit)))).bind fun y23 =>
                    (f27 y20.1 y21.1 ([(y4.1, (v8, ()))] : List (Int × (ByteArray × Unit)))).bind fun y24 =>
                    (f33 y2.1 y3.1 v6).bind fun y25 =>
                    (f18 y25.1 ([y4.1] : List Int)).bind fun y26 =>
                    (f33 y2.1 y4.1 v8).bind fun y27 =>
                    (f18 y27.1 ([y3.1] : List Int)).bind fun y28 =>
                    (f27 y23.1 y26.1 ([(y4.1, (v8, ()))] : List (Int × (ByteArray × Unit)))).bind fun y29 =>
                    (f27 y24.1 y28.1 ([(y3.1, (v6, ()))] : List (Int × (ByteArray × Unit)))).bind fun y30 =>
                    bif (decide (y20.2.1 = (0 : Int))) then
                      bif (decide (y21.2.1 = (0 : Int))) then
                        bif (decide (y26.2.1 = (0 : Int))) then
                          bif (decide (y28.2.1 = (0 : Int))) then
                            bif y22.2.1 then
                              bif y23.2.1 then
                                bif y24.2.1 then
                                  bif y29.2.1 then
                                    bif y30.2.1 then
                                      bif (decide (y29.1 = y22.1)) then
                                        some ((decide (y30.1 = y22.1)), ())
                                      else
                                        some (false, ())
                                    else
                                      some (false, ())
                                  else
                                    some (false, ())
                                else
                                  some (false, ())
                              else
                                some (false, ())
                            else
                              some (false, ())
                          else
                            some (false, ())
                        else
                          some (false, ())
                      else
                        some (false, ())
                    else
                      some (false, ())
                else none
              else none
            else none
          else none
      else none
    else none
def f9_spec : PSpec := { args := [(.sl (.arr 2 (.int .i64))), (.arr 2 (.int .i64)), (.arr 2 (.int .i64))], res := [.bool], fn := fun x => f9 x.1 x.2.1 x.2.2.1 }
noncomputable def f9_code : Code := Go.Proofs.Tryd.f9.body.getD .skip
noncomputable def f9_env : Env0 := { C := cfg, P := [(10, f10_spec), (11, f11_spec), (13, f13_spec), (18, f18_spec), (21, f21_spec), (27, f27_spec), (33, f33_spec)], L := [], F := [(9, Go.Proofs.Tryd.f9)], S := [], R := [] }
theorem f9_run (x : tysDen (f9_spec).args) : runF f9_env 9 Go.Proofs.Tryd.f9 f9_code (f9_spec).args (f9_spec).res x = f9_spec.fn x := by kernel_rfl
theorem f9_enter : Enterable Go.Proofs.Tryd.prog 9 := enter_fun Go.Proofs.Tryd.func9 (by kernel_rfl)
theorem f9_envOK : EnvOK Go.Proofs.Tryd.prog f9_env := envOK_of cds (by kernel_rfl) cfg_ok ⟨⟨f10_pure, f10_enter⟩, ⟨f11_pure, f11_enter⟩, ⟨f13_pure, f13_enter⟩, ⟨f18_pure, f18_enter⟩, ⟨f21_pure, f21_enter⟩, ⟨f27_pure, f27_enter⟩, ⟨f33_pure, f33_enter⟩, trivial⟩ trivial ⟨⟨Go.Proofs.Tryd.func9, by kernel_rfl⟩, trivial⟩ trivial trivial
theorem f9_pure : PureOK Go.Proofs.Tryd.prog cfg 9 f9_spec := pure_of_run f9_envOK (fn := Go.Proofs.Tryd.f9) (c := f9_code) rfl rfl f9_spec (fun x _ h => (f9_run x).trans h)

end Go.V.G
