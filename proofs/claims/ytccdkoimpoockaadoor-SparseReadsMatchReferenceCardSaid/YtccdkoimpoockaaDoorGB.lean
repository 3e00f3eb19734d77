/- The functions of the program as plain ones: printed. -/
import Derived.Test.YtccdkoimpoockaaDoorG2
import Derived.KernelRfl
set_option linter.all false
set_option linter.unusedVariables false
set_option linter.unusedSectionVars false
set_option linter.unusedSimpArgs false
namespace Go.V.G
def f22 (a0 : ((List Int) × ((List ByteArray) × ((List ByteArray) × Unit)))) (a1 : (List Int)) : Option (((List Int) × ((List ByteArray) × ((List ByteArray) × Unit))) × Unit) :=
  bif (decide (a0.1.length ≤ appLim)) then
    bif (decide (a0.2.1.length ≤ appLim)) then
      bif (decide (a0.2.2.1.length ≤ appLim)) then
        let v1 : Bool := (decide ((a0.1.length : Int) > (0 : Int)))
        bif v1 then
          bif (inR (1 : Int) 3) then
            (f21 (at_ (.int .i64) a1 (1 : Int)) (a0.1.length : Int)).bind fun y2 =>
            let v3 : Bool := (decide ((a0.2.2.1.length : Int) > (0 : Int)))
            bif v3 then
              bif (inR (1 : Int) 3) then
                (f21 (at_ (.int .i64) a1 (1 : Int)) (a0.2.2.1.length : Int)).bind fun y4 =>
                bif (inR (0 : Int) 3) then
                  (f21 (at_ (.int .i64) a1 (0 : Int)) (7 : Int)).bind fun y5 =>
                  bif (decide (y5.1 = (0 : Int))) then
                    let v6 : Bool := (decide ((a0.1.length : Int) > (0 : Int)))
                    bif v6 then
                      bif (inR (2 : Int) 3) then
                        (f21 (at_ (.int .i64) a1 (2 : Int)) (66 : Int)).bind fun y7 =>
                        bif (inR y2.1 a0.1.length) then some (((a0.1.set (Int.toNat y2.1) (IntKind.wrap .i64 (y7.1 - (1 : Int)))), a0.2), ()) else none
                      else none
                    else
                      some (a0, ())
                  else
                    bif (decide (y5.1 = (1 : Int))) then
                      let v8 : Bool := (decide ((a0.2.1.length : Int) > (0 : Int)))
                      bif v8 then
                        bif (inR (2 : Int) 3) then
                          (f21 (at_ (.int .i64) a1 (2 : Int)) (3 : Int)).bind fun y9 =>
                          bif (inR y9.1 ([(⟨#[]⟩ : ByteArray), (⟨#[97]⟩ : ByteArray), (⟨#[122, 122]⟩ : ByteArray)] : List ByteArray).length) then
                            let v10 : ByteArray := (at_ .str ([(⟨#[]⟩ : ByteArray), (⟨#[97]⟩ : ByteArray), (⟨#[122, 122]⟩ : ByteArray)] : List ByteArray) y9.1)
                            bif (inR y2.1 a0.2.1.length) then some ((a0.1, ((a0.2.1.set (Int.toNat y2.1) v10), a0.2.2)), ()) else none
                          else none
                        else none
                      else
                        some (a0, ())
                    else
                      bif (decide (y5.1 = (2 : Int))) then
                        let v11 : Bool := (decide ((a0.2.2.1.length : Int) > (0 : Int)))
                        bif v11 then
                          bif (inR y4.1 a0.2.2.1.length) then
                            (f53 (at_ .str a0.2.2.1 y4.1)).bind fun y12 =>
                            bif (inR y4.1 a0.2.2.1.length) then some ((a0.1, (a0.2.1, ((a0.2.2.1.set (Int.toNat y4.1) y12.1), ()))), ()) else none
                          else none
                        else
                          some (a0, ())
                      else
                        bif (decide (y5.1 = (3 : Int))) then
                          let v13 : Bool := (decide ((a0.2.2.1.length : Int) > (0 : Int)))
                          bif v13 then
                            (f34 ).bind fun y14 =>
                            bif (inR y4.1 a0.2.2.1.length) then some ((a0.1, (a0.2.1, ((a0.2.2.1.set (Int.toNat y4.1) y14.1), ()))), ()) else none
                          else
                            some (a0, ())
                        else
                          bif (decide (y5.1 = (4 : Int))) then
                            let v15 : Bool := (decide ((a0.2.2.1.length : Int) > (1 : Int)))
                            bif v15 then
                              bif (inR (2 : Int) 3) then
                                (f21 (at_ (.int .i64) a1 (2 : Int)) (a0.2.2.1.length : Int)).bind fun y16 =>
                                bif (inR y16.1 a0.2.2.1.length) then bif (inR y4.1 a0.2.2.1.length) then bif (inR y4.1 a0.2.2.1.length) then bif (inR y16.1 (a0.2.2.1.set (Int.toNat y4.1) (at_ .str a0.2.2.1 y16.1)).length) then some ((a0.1, (a0.2.1, (((a0.2.2.1.set (Int.toNat y4.1) (at_ .str a0.2.2.1 y16.1)).set (Int.toNat y16.1) (at_ .str a0.2.2.1 y4.1)), ()))), ()) else none else none else none else none
                              else none
                            else
                              some (a0, ())
                          else
                            bif (decide (y5.1 = (5 : Int))) then
                              let v17 : Bool := (decide ((a0.2.2.1.length : Int) > (0 : Int)))
                              bif v17 then
                                bif (cutOk a0.2.2.1.length (some (1 : Int)) none) then some ((a0.1, (a0.2.1, (((a0.2.2.1.drop (Int.toNat (1 : Int))).take (cutLen a0.2.2.1.length (some (1 : Int)) none)), ()))), ()) else none
                              else
                                some (a0, ())
                            else
                              bif (decide (y5.1 = (6 : Int))) then
                                let v18 : Bool := (decide ((a0.1.length : Int) > (0 : Int)))
                                bif v18 then
                                  bif (cutOk a0.1.length none (some y2.1) && decide (y2.1 = y2.1)) then bif (cutOk a0.1.length (some (IntKind.wrap .i64 (y2.1 + (1 : Int)))) none) then bif (decide (((a0.1.drop 0).take (cutLen a0.1.length none (some y2.1))).length + ((a0.1.drop (Int.toNat (IntKind.wrap .i64 (y2.1 + (1 : Int))))).take (cutLen a0.1.length (some (IntKind.wrap .i64 (y2.1 + (1 : Int)))) none)).length ≤ appLim)) then bif (cutOk a0.2.1.length none (some y2.1) && decide (y2.1 = y2.1)) then bif (cutOk a0.2.1.length (some (IntKind.wrap .i64 (y2.1 + (1 : Int)))) none) then bif (decide (((a0.2.1.drop 0).take (cutLen a0.2.1.length none (some y2.1))).length + ((a0.2.1.drop (Int.toNat (IntKind.wrap .i64 (y2.1 + (1 : Int))))).take (cutLen a0.2.1.length (some (IntKind.wrap .i64 (y2.1 + (1 : Int)))) none)).length ≤ appLim)) then some (((((a0.1.drop 0).take (cutLen a0.1.length none (some y2.1))) ++ ((a0.1.drop (Int.toNat (IntKind.wrap .i64 (y2.1 + (1 : Int))))).take (cutLen a0.1.length (some (IntKind.wrap .i64 (y2.1 + (1 : Int)))) none))), ((((a0.2.1.drop 0).take (cutLen a0.2.1.length none (some y2.1))) ++ ((a0.2.1.drop (Int.toNat (IntKind.wrap .i64 (y2.1 + (1 : Int))))).take (cutLen a0.2.1.length (some (IntKind.wrap .i64 (y2.1 + (1 : Int)))) none))), a0.2.2)), ()) else none else none else none else none else none else none
                                else
                                  some (a0, ())
                              else
                                some (a0, ())
                else none
              else none
            else
              bif (inR (0 : Int) 3) then
                (f21 (at_ (.int .i64) a1 (0 : Int)) (7 : Int)).bind fun y19 =>
                bif (decide (y19.1 = (0 : Int))) then
                  let v20 : Bool := (decide ((a0.1.length : Int) > (0 : Int)))
                  bif v20 then
                    bif (inR (2 : Int) 3) then
                      (f21 (at_ (.int .i64) a1 (2 : Int)) (66 : Int)).bind fun y21 =>
                      bif (inR y2.1 a0.1.length) then some (((a0.1.set (Int.toNat y2.1) (IntKind.wrap .i64 (y21.1 - (1 : Int)))), a0.2), ()) else none
                    else none
                  else
                    some (a0, ())
                else
                  bif (decide (y19.1 = (1 : Int))) then
                    let v22 : Bool := (decide ((a0.2.1.length : Int) > (0 : Int)))
                    bif v22 then
                      bif (inR (2 : Int) 3) then
                        (f21 (at_ (.int .i64) a1 (2 : Int)) (3 : Int)).bind fun y23 =>
                        bif (inR y23.1 ([(⟨#[]⟩ : ByteArray), (⟨#[97]⟩ : ByteArray), (⟨#[122, 122]⟩ : ByteArray)] : List ByteArray).length) then
                          let v24 : ByteArray := (at_ .str ([(⟨#[]⟩ : ByteArray), (⟨#[97]⟩ : ByteArray), (⟨#[122, 122]⟩ : ByteArray)] : List ByteArray) y23.1)
                          bif (inR y2.1 a0.2.1.length) then some ((a0.1, ((a0.2.1.set (Int.toNat y2.1) v24), a0.2.2)), ()) else none
                        else none
                      else none
                    else
                      some (a0, ())
                  else
                    bif (decide (y19.1 = (2 : Int))) then
                      let v25 : Bool := (decide ((a0.2.2.1.length : Int) > (0 : Int)))
                      bif v25 then
                        bif (inR (0 : Int) a0.2.2.1.length) then
                          (f53 (at_ .str a0.2.2.1 (0 : Int))).bind fun y26 =>
                          bif (inR (0 : Int) a0.2.2.1.length) then some ((a0.1, (a0.2.1, ((a0.2.2.1.set (Int.toNat (0 : Int)) y26.1), ()))), ()) else none
                        else none
                      else
                        some (a0, ())
                    else
                      bif (decide (y19.1 = (3 : Int))) then
                        let v27 : Bool := (decide ((a0.2.2.1.length : Int) > (0 : Int)))
                        bif v27 then
                          (f34 ).bind fun y28 =>
                          bif (inR (0 : Int) a0.2.2.1.length) then some ((a0.1, (a0.2.1, ((a0.2.2.1.set (Int.toNat (0 : Int)) y28.1), ()))), ()) else none
                        else
                          some (a0, ())
                      else
                        bif (decide (y19.1 = (4 : Int))) then
                          let v29 : Bool := (decide ((a0.2.2.1.length : Int) > (1 : Int)))
                          bif v29 then
                            bif (inR (2 : Int) 3) then
                              (f21 (at_ (.int .i64) a1 (2 : Int)) (a0.2.2.1.length : Int)).bind fun y30 =>
                              bif (inR y30.1 a0.2.2.1.length) then bif (inR (0 : Int) a0.2.2.1.length) then bif (inR (0 : Int) a0.2.2.1.length) then bif (inR y30.1 (a0.2.2.1.set (Int.toNat (0 : Int)) (at_ .str a0.2.2.1 y30.1)).length) then some ((a0.1, (a0.2.1, (((a0.2.2.1.set (Int.toNat (0 : Int)) (at_ .str a0.2.2.1 y30.1)).set (Int.toNat y30.1) (at_ .str a0.2.2.1 (0 : Int))), ()))), ()) else none else none else none else none
                            else none
                          else
                            some (a0, ())
                        else
                          bif (decide (y19.1 = (5 : Int))) then
                            let v31 : Bool := (decide ((a0.2.2.1.length : Int) > (0 : Int)))
                            bif v31 then
                              bif (cutOk a0.2.2.1.length (some (1 : Int)) none) then some ((a0.1, (a0.2.1, (((a0.2.2.1.drop (Int.toNat (1 : Int))).take (cutLen a0.2.2.1.length (some (1 : Int)) none)), ()))), ()) else none
                            else
                              some (a0, ())
                          else
                            bif (decide (y19.1 = (6 : Int))) then
                              let v32 : Bool := (decide ((a0.1.length : Int) > (0 : Int)))
                              bif v32 then
                                bif (cutOk a0.1.length none (some y2.1) && decide (y2.1 = y2.1)) then bif (cutOk a0.1.length (some (IntKind.wrap .i64 (y2.1 + (1 : Int)))) none) then bif (decide (((a0.1.drop 0).take (cutLen a0.1.length none (some y2.1))).length + ((a0.1.drop (Int.toNat (IntKind.wrap .i64 (y2.1 + (1 : Int))))).take (cutLen a0.1.length (some (IntKind.wrap .i64 (y2.1 + (1 : Int)))) none)).length ≤ appLim)) then bif (cutOk a0.2.1.length none (some y2.1) && decide (y2.1 = y2.1)) then bif (cutOk a0.2.1.length (some (IntKind.wrap .i64 (y2.1 + (1 : Int)))) none) then bif (decide (((a0.2.1.drop 0).take (cutLen a0.2.1.length none (some y2.1))).length + ((a0.2.1.drop (Int.toNat (IntKind.wrap .i64 (y2.1 + (1 : Int))))).take (cutLen a0.2.1.length (some (IntKind.wrap .i64 (y2.1 + (1 : Int)))) none)).length ≤ appLim)) then some (((((a0.1.drop 0).take (cutLen a0.1.length none (some y2.1))) ++ ((a0.1.drop (Int.toNat (IntKind.wrap .i64 (y2.1 + (1 : Int))))).take (cutLen a0.1.length (some (IntKind.wrap .i64 (y2.1 + (1 : Int)))) none))), ((((a0.2.1.drop 0).take (cutLen a0.2.1.length none (some y2.1))) ++ ((a0.2.1.drop (Int.toNat (IntKind.wrap .i64 (y2.1 + (1 : Int))))).take (cutLen a0.2.1.length (some (IntKind.wrap .i64 (y2.1 + (1 : Int)))) none))), a0.2.2)), ()) else none else none else none else none else none else none
                              else
                                some (a0, ())
                            else
                              some (a0, ())
              else none
          else none
        else
          let v33 : Bool := (decide ((a0.2.2.1.length : Int) > (0 : Int)))
          bif v33 then
            bif (inR (1 : Int) 3) then
              (f21 (at_ (.int .i64) a1 (1 : Int)) (a0.2.2.1.length : Int)).bind fun y34 =>
              bif (inR (0 : Int) 3) then
                (f21 (at_ (.int .i64) a1 (0 : Int)) (7 : Int)).bind fun y35 =>
                bif (decide (y35.1 = (0 : Int))) then
                  let v36 : Bool := (decide ((a0.1.length : Int) > (0 : Int)))
                  bif v36 then
                    bif (inR (2 : Int) 3) then
                      (f21 (at_ (.int .i64) a1 (2 : Int)) (66 : Int)).bind fun y37 =>
                      bif (inR (0 : Int) a0.1.length) then some (((a0.1.set (Int.toNat (0 : Int)) (IntKind.wrap .i64 (y37.1 - (1 : Int)))), a0.2), ()) else none
                    else none
                  else
                    some (a0, ())
                else
                  bif (decide (y35.1 = (1 : Int))) then
                    let v38 : Bool := (decide ((a0.2.1.length : Int) > (0 : Int)))
                    bif v38 then
                      bif (inR (2 : Int) 3) then
                        (f21 (at_ (.int .i64) a1 (2 : Int)) (3 : Int)).bind fun y39 =>
                        bif (inR y39.1 ([(⟨#[]⟩ : ByteArray), (⟨#[97]⟩ : ByteArray), (⟨#[122, 122]⟩ : ByteArray)] : List ByteArray).length) then
                          let v40 : ByteArray := (at_ .str ([(⟨#[]⟩ : ByteArray), (⟨#[97]⟩ : ByteArray), (⟨#[122, 122]⟩ : ByteArray)] : List ByteArray) y39.1)
                          bif (inR (0 : Int) a0.2.1.length) then some ((a0.1, ((a0.2.1.set (Int.toNat (0 : Int)) v40), a0.2.2)), ()) else none
                        else none
                      else none
                    else
                      some (a0, ())
                  else
                    bif (decide (y35.1 = (2 : Int))) then
                      let v41 : Bool := (decide ((a0.2.2.1.length : Int) > (0 : Int)))
                      bif v41 then
                        bif (inR y34.1 a0.2.2.1.length) then
                          (f53 (at_ .str a0.2.2.1 y34.1)).bind fun y42 =>
                          bif (inR y34.1 a0.2.2.1.length) then some ((a0.1, (a0.2.1, ((a0.2.2.1.set (Int.toNat y34.1) y42.1), ()))), ()) else none
                        else none
                      else
                        some (a0, ())
                    else
                      bif (decide (y35.1 = (3 : Int))) then
                        let v43 : Bool := (decide ((a0.2.2.1.length : Int) > (0 : Int)))
                        bif v43 then
                          (f34 ).bind fun y44 =>
                          bif (inR y34.1 a0.2.2.1.length) then some ((a0.1, (a0.2.1, ((a0.2.2.1.set (Int.toNat y34.1) y44.1), ()))), ()) else none
                        else
                          some (a0, ())
                      else
                        bif (decide (y35.1 = (4 : Int))) then
                          let v45 : Bool := (decide ((a0.2.2.1.length : Int) > (1 : Int)))
                          bif v45 then
                            bif (inR (2 : Int) 3) then
                              (f21 (at_ (.int .i64) a1 (2 : Int)) (a0.2.2.1.length : Int)).bind fun y46 =>
                              bif (inR y46.1 a0.2.2.1.length) then bif (inR y34.1 a0.2.2.1.length) then bif (inR y34.1 a0.2.2.1.length) then bif (inR y46.1 (a0.2.2.1.set (Int.toNat y34.1) (at_ .str a0.2.2.1 y46.1)).length) then some ((a0.1, (a0.2.1, (((a0.2.2.1.set (Int.toNat y34.1) (at_ .str a0.2.2.1 y46.1)).set (Int.toNat y46.1) (at_ .str a0.2.2.1 y34.1)), ()))), ()) else none else none else none else none
                            else none
                          else
                            some (a0, ())
                        else
                          bif (decide (y35.1 = (5 : Int))) then
                            let v47 : Bool := (decide ((a0.2.2.1.length : Int) > (0 : Int)))
                            bif v47 then
                              bif (cutOk a0.2.2.1.length (some (1 : Int)) none) then some ((a0.1, (a0.2.1, (((a0.2.2.1.drop (Int.toNat (1 : Int))).take (cutLen a0.2.2.1.length (some (1 : Int)) none)), ()))), ()) else none
                            else
                              some (a0, ())
                          else
                            bif (decide (y35.1 = (6 : Int))) then
                              let v48 : Bool := (decide ((a0.1.length : Int) > (0 : Int)))
                              bif v48 then
                                bif (cutOk a0.1.length none (some (0 : Int)) && decide ((0 : Int) = (0 : Int))) then bif (cutOk a0.1.length (some (1 : Int)) none) then bif (decide (((a0.1.drop 0).take (cutLen a0.1.length none (some (0 : Int)))).length + ((a0.1.drop (Int.toNat (1 : Int))).take (cutLen a0.1.length (some (1 : Int)) none)).length ≤ appLim)) then bif (cutOk a0.2.1.length none (some (0 : Int)) && decide ((0 : Int) = (0 : Int))) then bif (cutOk a0.2.1.length (some (1 : Int)) none) then bif (decide (((a0.2.1.drop 0).take (cutLen a0.2.1.length none (some (0 : Int)))).length + ((a0.2.1.drop (Int.toNat (1 : Int))).take (cutLen a0.2.1.length (some (1 : Int)) none)).length ≤ appLim)) then some (((((a0.1.drop 0).take (cutLen a0.1.length none (some (0 : Int)))) ++ ((a0.1.drop (Int.toNat (1 : Int))).take (cutLen a0.1.length (some (1 : Int)) none))), ((((a0.2.1.drop 0).take (cutLen a0.2.1.length none (some (0 : Int)))) ++ ((a0.2.1.drop (Int.toNat (1 : Int))).take (cutLen a0.2.1.length (some (1 : Int)) none))), a0.2.2)), ()) else none else none else none else none else none else none
                              else
                                some (a0, ())
                            else
                              some (a0, ())
              else none
            else none
          else
            bif (inR (0 : Int) 3) then
              (f21 (at_ (.int .i64) a1 (0 : Int)) (7 : Int)).bind fun y49 =>
              bif (decide (y49.1 = (0 : Int))) then
                let v50 : Bool := (decide ((a0.1.length : Int) > (0 : Int)))
                bif v50 then
                  bif (inR (2 : Int) 3) then
                    (f21 (at_ (.int .i64) a1 (2 : Int)) (66 : Int)).bind fun y51 =>
                    bif (inR (0 : Int) a0.1.length) then some (((a0.1.set (Int.toNat (0 : Int)) (IntKind.wrap .i64 (y51.1 - (1 : Int)))), a0.2), ()) else none
                  else none
                else
                  some (a0, ())
              else
                bif (decide (y49.1 = (1 : Int))) then
                  let v52 : Bool := (decide ((a0.2.1.length : Int) > (0 : Int)))
                  bif v52 then
                    bif (inR (2 : Int) 3) then
                      (f21 (at_ (.int .i64) a1 (2 : Int)) (3 : Int)).bind fun y53 =>
                      bif (inR y53.1 ([(⟨#[]⟩ : ByteArray), (⟨#[97]⟩ : ByteArray), (⟨#[122, 122]⟩ : ByteArray)] : List ByteArray).length) then
                        let v54 : ByteArray := (at_ .str ([(⟨#[]⟩ : ByteArray), (⟨#[97]⟩ : ByteArray), (⟨#[122, 122]⟩ : ByteArray)] : List ByteArray) y53.1)
                        bif (inR (0 : Int) a0.2.1.length) then some ((a0.1, ((a0.2.1.set (Int.toNat (0 : Int)) v54), a0.2.2)), ()) else none
                      else none
                    else none
                  else
                    some (a0, ())
                else
                  bif (decide (y49.1 = (2 : Int))) then
                    let v55 : Bool := (decide ((a0.2.2.1.length : Int) > (0 : Int)))
                    bif v55 then
                      bif (inR (0 : Int) a0.2.2.1.length) then
                        (f53 (at_ .str a0.2.2.1 (0 : Int))).bind fun y56 =>
                        bif (inR (0 : Int) a0.2.2.1.length) then some ((a0.1, (a0.2.1, ((a0.2.2.1.set (Int.toNat (0 : Int)) y56.1), ()))), ()) else none
                      else none
                    else
                      some (a0, ())
                  else
                    bif (decide (y49.1 = (3 : Int))) then
                      let v57 : Bool := (decide ((a0.2.2.1.length : Int) > (0 : Int)))
                      bif v57 then
                        (f34 ).bind fun y58 =>
                        bif (inR (0 : Int) a0.2.2.1.length) then some ((a0.1, (a0.2.1, ((a0.2.2.1.set (Int.toNat (0 : Int)) y58.1), ()))), ()) else none
                      else
                        some (a0, ())
                    else
                      bif (decide (y49.1 = (4 : Int))) then
                        let v59 : Bool := (decide ((a0.2.2.1.length : Int) > (1 : Int)))
                        bif v59 then
                          bif (inR (2 : Int) 3) then
                            (f21 (at_ (.int .i64) a1 (2 : Int)) (a0.2.2.1.length : Int)).bind fun y60 =>
                            bif (inR y60.1 a0.2.2.1.length) then bif (inR (0 : Int) a0.2.2.1.length) then bif (inR (0 : Int) a0.2.2.1.length) then bif (inR y60.1 (a0.2.2.1.set (Int.toNat (0 : Int)) (at_ .str a0.2.2.1 y60.1)).length) then some ((a0.1, (a0.2.1, (((a0.2.2.1.set (Int.toNat (0 : Int)) (at_ .str a0.2.2.1 y60.1)).set (Int.toNat y60.1) (at_ .str a0.2.2.1 (0 : Int))), ()))), ()) else none else none else none else none
                          else none
                        else
                          some (a0, ())
                      else
                        bif (decide (y49.1 = (5 : Int))) then
                          let v61 : Bool := (decide ((a0.2.2.1.length : Int) > (0 : Int)))
                          bif v61 then
                            bif (cutOk a0.2.2.1.length (some (1 : Int)) none) then some ((a0.1, (a0.2.1, (((a0.2.2.1.drop (Int.toNat (1 : Int))).take (cutLen a0.2.2.1.length (some (1 : Int)) none)), ()))), ()) else none
                          else
                            some (a0, ())
                        else
                          bif (decide (y49.1 = (6 : Int))) then
                            let v62 : Bool := (decide ((a0.1.length : Int) > (0 : Int)))
                            bif v62 then
                              bif (cutOk a0.1.length none (some (0 : Int)) && decide ((0 : Int) = (0 : Int))) then bif (cutOk a0.1.length (some (1 : Int)) none) then bif (decide (((a0.1.drop 0).take (cutLen a0.1.length none (some (0 : Int)))).length + ((a0.1.drop (Int.toNat (1 : Int))).take (cutLen a0.1.length (some (1 : Int)) none)).length ≤ appLim)) then bif (cutOk a0.2.1.length none (some (0 : Int)) && decide ((0 : Int) = (0 : Int))) then bif (cutOk a0.2.1.length (some (1 : Int)) none) then bif (decide (((a0.2.1.drop 0).take (cutLen a0.2.1.length none (some (0 : Int)))).length + ((a0.2.1.drop (Int.toNat (1 : Int))).take (cutLen a0.2.1.length (some (1 : Int)) none)).length ≤ appLim)) then some (((((a0.1.drop 0).take (cutLen a0.1.length none (some (0 : Int)))) ++ ((a0.1.drop (Int.toNat (1 : Int))).take (cutLen a0.1.length (some (1 : Int)) none))), ((((a0.2.1.drop 0).take (cutLen a0.2.1.length none (some (0 : Int)))) ++ ((a0.2.1.drop (Int.toNat (1 : Int))).take (cutLen a0.2.1.length (some (1 : Int)) none))), a0.2.2)), ()) else none else none else none else none else none else none
                            else
                              some (a0, ())
                          else
                            some (a0, ())
            else none
      else none
    else none
  else none
def f22_spec : PSpec := { args := [(.pair (.sl (.int .i64)) (.pair (.sl .str) (.pair (.sl .str) .unit))), (.arr 3 (.int .i64))], res := [(.pair (.sl (.int .i64)) (.pair (.sl .str) (.pair (.sl .str) .unit)))], fn := fun x => f22 x.1 x.2.1 }
noncomputable def f22_code : Code := Go.Proofs.Tryd.f22.body.getD .skip
noncomputable def f22_env : Env0 := { C := cfg, P := [(21, f21_spec), (34, f34_spec), (53, f53_spec)], L := [], F := [(22, Go.Proofs.Tryd.f22)], S := [], R := [] }
theorem f22_run (x : tysDen (f22_spec).args) : runF f22_env 22 Go.Proofs.Tryd.f22 f22_code (f22_spec).args (f22_spec).res x = f22_spec.fn x := by kernel_rfl
theorem f22_enter : Enterable Go.Proofs.Tryd.prog 22 := enter_fun Go.Proofs.Tryd.func22 (by kernel_rfl)
theorem f22_envOK : EnvOK Go.Proofs.Tryd.prog f22_env := envOK_of cds (by kernel_rfl) cfg_ok ⟨⟨f21_pure, f21_enter⟩, ⟨f34_pure, f34_enter⟩, ⟨f53_pure, f53_enter⟩, trivial⟩ trivial ⟨⟨Go.Proofs.Tryd.func22, by kernel_rfl⟩, trivial⟩ trivial trivial
theorem f22_pure : PureOK Go.Proofs.Tryd.prog cfg 22 f22_spec := pure_of_run f22_envOK (fn := Go.Proofs.Tryd.f22) (c := f22_code) rfl rfl f22_spec (fun x _ h => (f22_run x).trans h)

end Go.V.G
