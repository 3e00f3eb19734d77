/- The functions of the program as plain ones: printed. -/
import Derived.Test.YtccdkoimpoockaaDoorG1
import Derived.KernelRfl
set_option linter.all false
set_option linter.unusedVariables false
set_option linter.unusedSectionVars false
set_option linter.unusedSimpArgs false
namespace Go.V.G
abbrev f38_res : List Sh := [.ty .str, .cst (.row 900038 .whole)]
abbrev f38_outs : List (Nat × BSh) := [(900038, .row .str false)]
def f38 : Nat → (List (Int × (ByteArray × Unit))) → Int → Int → (List ByteArray) → Option (shDen f38_res × bxsDen f38_outs)
  | 0, _, _, _, _ => none
  | k + 1, t0, t1, t2, r900038 =>
    bif (decide (t2 = (1 : Int))) then
      (f29 t0 t1).bind fun y1 =>
      bif (decide (y1.1 = (⟨#[]⟩ : ByteArray))) then
        (f34 ).bind fun y2 =>
        some ((y2.1, ()), (r900038, ()))
      else
        (f68 t1 y1.1).bind fun y3 =>
        (f53 y3.1).bind fun y4 =>
        bif (decide (r900038.length + ([y3.1] : List ByteArray).length ≤ appLim)) then some ((y4.1, ()), ((r900038 ++ ([y3.1] : List ByteArray)), ())) else none
    else
      let v5 : Int := (IntKind.wrap .i64 (Int.tdiv t2 (2 : Int)))
      (f38 k t0 t1 v5 r900038).bind fun y6 =>
      let u7 : ByteArray := y6.1.1
      let u8 : (List ByteArray) := y6.2.1
      let v9 : Int := (IntKind.wrap .i64 (Int.tdiv t2 (2 : Int)))
      let v10 : Int := (IntKind.wrap .i64 (Int.tdiv t2 (2 : Int)))
      (f38 k t0 (IntKind.wrap .i64 (t1 + v9)) v10 u8).bind fun y11 =>
      let u12 : ByteArray := y11.1.1
      let u13 : (List ByteArray) := y11.2.1
      (f34 ).bind fun y14 =>
      bif (decide (u7 = y14.1)) then
        (f34 ).bind fun y15 =>
        bif (decide (u12 = y15.1)) then
          (f34 ).bind fun y16 =>
          some ((y16.1, ()), (u13, ()))
        else
          bif (catOk (⟨#[9]⟩ : ByteArray) u7) then
            bif (catOk ((⟨#[9]⟩ : ByteArray) ++ u7) u12) then
              (f53 (((⟨#[9]⟩ : ByteArray) ++ u7) ++ u12)).bind fun y17 =>
              bif (decide (u13.length + ([(((⟨#[9]⟩ : ByteArray) ++ u7) ++ u12)] : List ByteArray).length ≤ appLim)) then some ((y17.1, ()), ((u13 ++ ([(((⟨#[9]⟩ : ByteArray) ++ u7) ++ u12)] : List ByteArray)), ())) else none
            else none
          else none
      else
        bif (catOk (⟨#[9]⟩ : ByteArray) u7) then
          bif (catOk ((⟨#[9]⟩ : ByteArray) ++ u7) u12) then
            (f53 (((⟨#[9]⟩ : ByteArray) ++ u7) ++ u12)).bind fun y18 =>
            bif (decide (u13.length + ([(((⟨#[9]⟩ : ByteArray) ++ u7) ++ u12)] : List ByteArray).length ≤ appLim)) then some ((y18.1, ()), ((u13 ++ ([(((⟨#[9]⟩ : ByteArray) ++ u7) ++ u12)] : List ByteArray)), ())) else none
          else none
        else none
def f38_at (n : Nat) : CSpec := { thaws := [.slot 3 900038 .str], args := [(0, .ty (.sl (.pair (.int .i64) (.pair .str .unit)))), (1, .ty (.int .i64)), (2, .ty (.int .i64)), (3, .cst (.row 900038 .whole))], ins := [(900038, .row .str false)], res := f38_res, outs := f38_outs, fn := fun x => f38 n x.1.1 x.1.2.1 x.1.2.2.1 x.2.1 }
def f38_spec : CSpec := { thaws := [.slot 3 900038 .str], args := [(0, .ty (.sl (.pair (.int .i64) (.pair .str .unit)))), (1, .ty (.int .i64)), (2, .ty (.int .i64)), (3, .cst (.row 900038 .whole))], ins := [(900038, .row .str false)], res := f38_res, outs := f38_outs, fn := fun x => f38 (x.1.2.2.1.toNat + 2) x.1.1 x.1.2.1 x.1.2.2.1 x.2.1 }
def f38_go (t0 : (List (Int × (ByteArray × Unit)))) (t1 : Int) (t2 : Int) (r900038 : (List ByteArray)) : Option (shDen f38_res × bxsDen f38_outs) := f38 (t2.toNat + 2) t0 t1 t2 r900038
noncomputable def f38_code : Code := Go.Proofs.Tryd.f38.body.getD .skip
noncomputable def f38_env (n : Nat) : Env0 := { C := cfg, P := [(29, f29_spec), (34, f34_spec), (53, f53_spec), (68, f68_spec)], L := [], F := [(38, Go.Proofs.Tryd.f38)], S := [(38, f38_at n)], R := [] }
theorem f38_run (n : Nat) (x : envDen (f38_at n).args × bxsDen (f38_at n).ins) : runS (f38_env n) 38 Go.Proofs.Tryd.f38 f38_code (f38_at n) x = f38 (n + 1) x.1.1 x.1.2.1 x.1.2.2.1 x.2.1 := by kernel_rfl
theorem f38_enter : Enterable Go.Proofs.Tryd.prog 38 := enter_fun Go.Proofs.Tryd.func38 (by kernel_rfl)
theorem f38_envOK (n : Nat) (ih : CallOK Go.Proofs.Tryd.prog cfg 38 (f38_at n)) : EnvOK Go.Proofs.Tryd.prog (f38_env n) := envOK_of cds (by kernel_rfl) cfg_ok ⟨⟨f29_pure, f29_enter⟩, ⟨f34_pure, f34_enter⟩, ⟨f53_pure, f53_enter⟩, ⟨f68_pure, f68_enter⟩, trivial⟩ ⟨⟨ih, by kernel_rfl, f38_enter⟩, trivial⟩ ⟨⟨Go.Proofs.Tryd.func38, by kernel_rfl⟩, trivial⟩ trivial trivial
theorem f38_call : CallOK Go.Proofs.Tryd.prog cfg 38 f38_spec := call_rec f38_spec (fun n x => f38 n x.1.1 x.1.2.1 x.1.2.2.1 x.2.1) (fun x => by kernel_rfl) (fun n ih => call_of_run (f38_envOK n ih) (fn := Go.Proofs.Tryd.f38) (c := f38_code) rfl rfl _ (by kernel_rfl) (fun x _ h => (f38_run n x).trans h)) (fun x y h => ⟨_, h⟩)

def f14 (a0 : (List (Int × (ByteArray × Unit)))) : Option (ByteArray × Int × Unit) :=
  (f16 a0).bind fun y1 =>
  bif (!y1.1) then
    some ((⟨#[]⟩ : ByteArray), (40 : Int), ())
  else
    (f38_go a0 (0 : Int) (64 : Int) []).bind fun y2 =>
    let u3 : ByteArray := y2.1.1
    let u4 : (List ByteArray) := y2.2.1
    some (u3, (0 : Int), ())
def f14_spec : PSpec := { args := [(.sl (.pair (.int .i64) (.pair .str .unit)))], res := [.str, (.int .i64)], fn := fun x => f14 x.1 }
noncomputable def f14_code : Code := Go.Proofs.Tryd.f14.body.getD .skip
noncomputable def f14_env : Env0 := { C := cfg, P := [(16, f16_spec)], L := [], F := [(14, Go.Proofs.Tryd.f14)], S := [(38, f38_spec)], R := [] }
theorem f14_run (x : tysDen (f14_spec).args) : runF f14_env 14 Go.Proofs.Tryd.f14 f14_code (f14_spec).args (f14_spec).res x = f14_spec.fn x := by kernel_rfl
theorem f14_enter : Enterable Go.Proofs.Tryd.prog 14 := enter_fun Go.Proofs.Tryd.func14 (by kernel_rfl)
theorem f14_envOK : EnvOK Go.Proofs.Tryd.prog f14_env := envOK_of cds (by kernel_rfl) cfg_ok ⟨⟨f16_pure, f16_enter⟩, trivial⟩ ⟨⟨f38_call, by kernel_rfl, f38_enter⟩, trivial⟩ ⟨⟨Go.Proofs.Tryd.func14, by kernel_rfl⟩, trivial⟩ trivial trivial
theorem f14_pure : PureOK Go.Proofs.Tryd.prog cfg 14 f14_spec := pure_of_run f14_envOK (fn := Go.Proofs.Tryd.f14) (c := f14_code) rfl rfl f14_spec (fun x _ h => (f14_run x).trans h)

def f17_l6_head : Ann := { env := [(0, .ty (.sl (.pair (.int .i64) (.pair .str .unit)))), (1, .ty (.sl (.int .i64))), (5, .cst (.row 73 .whole)), (6, .ty (.int .i64)), (7, .ty (.int .i64))], stk := [], bxs := [(73, .row (.int .i64) false)] }
def f17_l6_outs : List (Ex × Ann) := [((.exit 2), { env := [(0, .ty (.sl (.pair (.int .i64) (.pair .str .unit)))), (1, .ty (.sl (.int .i64))), (5, .cst (.row 73 .whole)), (6, .ty (.int .i64))], stk := [], bxs := [(73, .row (.int .i64) false)] })]
def f17_l6 (t0 : (List (Int × (ByteArray × Unit)))) (t1 : (List Int)) (t6 : Int) : Nat → Int → (List Int) → Option (outDen f17_l6_outs)
  | 0, _, _ => none
  | k + 1, t7, r73 =>
    bif (decide (t7 < (t1.length : Int))) then
      bif (decide (t7 < (6 : Int))) then
        bif (inR t7 t1.length) then
          let v1 : Int := (IntKind.wrap .i64 (Int.tdiv (at_ (.int .i64) t1 t7) (2 : Int)))
          (f36 v1 (64 : Int)).bind fun y2 =>
          bif (inR t7 t1.length) then
            (f36 (at_ (.int .i64) t1 t7) (2 : Int)).bind fun y3 =>
            bif (decide (y3.1 = (0 : Int))) then
              bif (decide ((t0.length : Int) > (0 : Int))) then
                bif (inR t7 t1.length) then
                  let v4 : Int := (IntKind.wrap .i64 (Int.tdiv (at_ (.int .i64) t1 t7) (2 : Int)))
                  (f36 v4 (t0.length : Int)).bind fun y5 =>
                  bif (inR y5.1 t0.length) then
                    let v6 : Int := (at_ (.pair (.int .i64) (.pair .str .unit)) t0 y5.1).1
                    bif (decide (v6 = t6)) then
                      let v7 : Bool := (decide ((r73.length : Int) = (0 : Int)))
                      bif v7 then
                        bif (decide (r73.length + ([t6] : List Int).length ≤ appLim)) then f17_l6 t0 t1 t6 k (IntKind.wrap .i64 (t7 + (1 : Int))) (r73 ++ ([t6] : List Int)) else none
                      else
                        let v8 : Int := (IntKind.wrap .i64 ((r73.length : Int) - (1 : Int)))
                        bif (inR v8 r73.length) then
                          bif (decide ((at_ (.int .i64) r73 v8) < t6)) then
                            bif (decide (r73.length + ([t6] : List Int).length ≤ appLim)) then f17_l6 t0 t1 t6 k (IntKind.wrap .i64 (t7 + (1 : Int))) (r73 ++ ([t6] : List Int)) else none
                          else
                            f17_l6 t0 t1 t6 k (IntKind.wrap .i64 (t7 + (1 : Int))) r73
                        else none
                    else
                      f17_l6 t0 t1 t6 k (IntKind.wrap .i64 (t7 + (1 : Int))) r73
                  else none
                else none
              else
                bif (decide (y2.1 = t6)) then
                  let v9 : Bool := (decide ((r73.length : Int) = (0 : Int)))
                  bif v9 then
                    bif (decide (r73.length + ([t6] : List Int).length ≤ appLim)) then f17_l6 t0 t1 t6 k (IntKind.wrap .i64 (t7 + (1 : Int))) (r73 ++ ([t6] : List Int)) else none
                  else
                    let v10 : Int := (IntKind.wrap .i64 ((r73.length : Int) - (1 : Int)))
                    bif (inR v10 r73.length) then
                      let v11 : Bool := (decide ((at_ (.int .i64) r73 v10) < t6))
                      bif v11 then
                        bif (decide (r73.length + ([t6] : List Int).length ≤ appLim)) then f17_l6 t0 t1 t6 k (IntKind.wrap .i64 (t7 + (1 : Int))) (r73 ++ ([t6] : List Int)) else none
                      else
                        f17_l6 t0 t1 t6 k (IntKind.wrap .i64 (t7 + (1 : Int))) r73
                    else none
                else
                  f17_l6 t0 t1 t6 k (IntKind.wrap .i64 (t7 + (1 : Int))) r73
            else
              bif (decide (y2.1 = t6)) then
                let v12 : Bool := (decide ((r73.length : Int) = (0 : Int)))
                bif v12 then
                  bif (decide (r73.length + ([t6] : List Int).length ≤ appLim)) then f17_l6 t0 t1 t6 k (IntKind.wrap .i64 (t7 + (1 : Int))) (r73 ++ ([t6] : List Int)) else none
                else
                  let v13 : Int := (IntKind.wrap .i64 ((r73.length : Int) - (1 : Int)))
                  bif (inR v13 r73.length) then
                    let v14 : Bool := (decide ((at_ (.int .i64) r73 v13) < t6))
                    bif v14 then
                      bif (decide (r73.length + ([t6] : List Int).length ≤ appLim)) then f17_l6 t0 t1 t6 k (IntKind.wrap .i64 (t7 + (1 : Int))) (r73 ++ ([t6] : List Int)) else none
                    else
                      f17_l6 t0 t1 t6 k (IntKind.wrap .i64 (t7 + (1 : Int))) r73
                  else none
              else
                f17_l6 t0 t1 t6 k (IntKind.wrap .i64 (t7 + (1 : Int))) r73
          else none
        else none
      else
        some ((t0, t1, t6, ()), (), (r73, ()))
    else
      some ((t0, t1, t6, ()), (), (r73, ()))
def f17_l6_spec : LSpec := { thaws := [], head := f17_l6_head, outs := f17_l6_outs, fn := fun x => f17_l6 x.1.1 x.1.2.1 x.1.2.2.1 (((x.1.2.1.length : Int) - x.1.2.2.2.1).toNat + 1) x.1.2.2.2.1 x.2.2.1 }
def f17_l3_head : Ann := { env := [(0, .ty (.sl (.pair (.int .i64) (.pair .str .unit)))), (1, .ty (.sl (.int .i64))), (5, .cst (.row 73 .whole)), (6, .ty (.int .i64))], stk := [], bxs := [(73, .row (.int .i64) false)] }
def f17_l3_outs : List (Ex × Ann) := [((.exit 0), { env := [(5, .cst (.row 73 .whole))], stk := [], bxs := [(73, .row (.int .i64) false)] })]
def f17_l3 : Nat → (List (Int × (ByteArray × Unit))) → (List Int) → Int → (List Int) → Option (outDen f17_l3_outs)
  | 0, _, _, _, _ => none
  | k + 1, t0, t1, t6, r73 =>
    bif (decide (t6 < (64 : Int))) then
      (f17_l6 t0 t1 t6 (((t1.length : Int) - (0 : Int)).toNat + 1) (0 : Int) r73).bind fun o15 =>
      let u16 : (List (Int × (ByteArray × Unit))) := o15.1.1
      let u17 : (List Int) := o15.1.2.1
      let u18 : Int := o15.1.2.2.1
      let u19 : (List Int) := o15.2.2.1
      f17_l3 k u16 u17 (IntKind.wrap .i64 (u18 + (1 : Int))) u19
    else
      some ((), (), (r73, ()))
def f17_l3_spec : LSpec := { thaws := [.slot 5 73 (.int .i64)], head := f17_l3_head, outs := f17_l3_outs, fn := fun x => f17_l3 (((64 : Int) - x.1.2.2.1).toNat + 1) x.1.1 x.1.2.1 x.1.2.2.1 x.2.2.1 }
def f17 (a0 : (List (Int × (ByteArray × Unit)))) (a1 : (List Int)) : Option ((List Int) × Unit) :=
  (f17_l3 (((64 : Int) - (0 : Int)).toNat + 1) a0 a1 (0 : Int) []).bind fun o20 =>
  let u21 : (List Int) := o20.2.2.1
  some (u21, ())
def f17_spec : PSpec := { args := [(.sl (.pair (.int .i64) (.pair .str .unit))), (.sl (.int .i64))], res := [(.sl (.int .i64))], fn := fun x => f17 x.1 x.2.1 }
noncomputable def f17_code : Code := Go.Proofs.Tryd.f17.body.getD .skip
noncomputable def f17_env : Env0 := { C := cfg, P := [(36, f36_spec)], L := [(⟨12, 0, 17, 6⟩, f17_l6_spec), (⟨12, 0, 17, 3⟩, f17_l3_spec)], F := [(17, Go.Proofs.Tryd.f17)], S := [], R := [] }
theorem f17_l6_ok : LoopOK f17_env 12 17 0 (loopAt f17_code 6) f17_l6_spec :=
  loopOK_of (by kernel_rfl) (fun n x => f17_l6 x.1.1 x.1.2.1 x.1.2.2.1 n x.1.2.2.2.1 x.2.2.1) (fun x o h => ⟨_, h⟩) (fun x => by kernel_rfl) (fun n x => by kernel_rfl)
theorem f17_l3_ok : LoopOK f17_env 12 17 0 (loopAt f17_code 3) f17_l3_spec :=
  loopOK_of (by kernel_rfl) (fun n x => f17_l3 n x.1.1 x.1.2.1 x.1.2.2.1 x.2.2.1) (fun x o h => ⟨_, h⟩) (fun x => by kernel_rfl) (fun n x => by kernel_rfl)
theorem f17_run (x : tysDen (f17_spec).args) : runF f17_env 17 Go.Proofs.Tryd.f17 f17_code (f17_spec).args (f17_spec).res x = f17_spec.fn x := by kernel_rfl
theorem f17_enter : Enterable Go.Proofs.Tryd.prog 17 := enter_fun Go.Proofs.Tryd.func17 (by kernel_rfl)
theorem f17_envOK : EnvOK Go.Proofs.Tryd.prog f17_env := envOK_of cds (by kernel_rfl) cfg_ok ⟨⟨f36_pure, f36_enter⟩, trivial⟩ trivial ⟨⟨Go.Proofs.Tryd.func17, by kernel_rfl⟩, trivial⟩ ⟨⟨Go.Proofs.Tryd.f17, f17_code, rfl, rfl, f17_l6_ok⟩, ⟨Go.Proofs.Tryd.f17, f17_code, rfl, rfl, f17_l3_ok⟩, trivial⟩ trivial
theorem f17_pure : PureOK Go.Proofs.Tryd.prog cfg 17 f17_spec := pure_of_run f17_envOK (fn := Go.Proofs.Tryd.f17) (c := f17_code) rfl rfl f17_spec (fun x _ h => (f17_run x).trans h)

def f70_l2_head : Ann := { env := [(0, .ty (.sl (.int .i64))), (1, .ty (.int .i64)), (2, .ty (.int .i64)), (7, .ty (.int .i64))], stk := [], bxs := [] }
def f70_l2_outs : List (Ex × Ann) := [((.exit 0), { env := [], stk := [], bxs := [] }), (.ret, { env := [(6, .ty .bool)], stk := [], bxs := [] })]
def f70_l2 (t0 : (List Int)) (t1 : Int) (t2 : Int) : Nat → Int → Option (outDen f70_l2_outs)
  | 0, _ => none
  | k + 1, t7 =>
    bif (decide (t7 < (t0.length : Int))) then
      bif (inR t7 t0.length) then
        bif (decide ((at_ (.int .i64) t0 t7) ≥ t1)) then
          bif (inR t7 t0.length) then
            let v1 : Bool := (decide ((at_ (.int .i64) t0 t7) < (IntKind.wrap .i64 (t1 + t2))))
            bif v1 then
              some (.inr ((true, ()), (), ()))
            else
              f70_l2 t0 t1 t2 k (IntKind.wrap .i64 (t7 + (1 : Int)))
          else none
        else
          f70_l2 t0 t1 t2 k (IntKind.wrap .i64 (t7 + (1 : Int)))
      else none
    else
      some (.inl ((), (), ()))
def f70_l2_spec : LSpec := { thaws := [], head := f70_l2_head, outs := f70_l2_outs, fn := fun x => f70_l2 x.1.1 x.1.2.1 x.1.2.2.1 (((x.1.1.length : Int) - x.1.2.2.2.1).toNat + 1) x.1.2.2.2.1 }
def f70 (a0 : (List Int)) (a1 : Int) (a2 : Int) : Option (Bool × Unit) :=
  (f70_l2 a0 a1 a2 (((a0.length : Int) - (0 : Int)).toNat + 1) (0 : Int)).bind fun o2 =>
  Sum.elim (fun o3 =>
    some (false, ())) (fun o4 =>
    let u5 : Bool := o4.1.1
    some (u5, ())) o2
def f70_spec : PSpec := { args := [(.sl (.int .i64)), (.int .i64), (.int .i64)], res := [.bool], fn := fun x => f70 x.1 x.2.1 x.2.2.1 }
noncomputable def f70_code : Code := Go.Proofs.Tryd.f70.body.getD .skip
noncomputable def f70_env : Env0 := { C := cfg, P := [], L := [(⟨12, 0, 70, 2⟩, f70_l2_spec)], F := [(70, Go.Proofs.Tryd.f70)], S := [], R := [] }
theorem f70_l2_ok : LoopOK f70_env 12 70 0 (loopAt f70_code 2) f70_l2_spec :=
  loopOK_of (by kernel_rfl) (fun n x => f70_l2 x.1.1 x.1.2.1 x.1.2.2.1 n x.1.2.2.2.1) (fun x o h => ⟨_, h⟩) (fun x => by kernel_rfl) (fun n x => by kernel_rfl)
theorem f70_run (x : tysDen (f70_spec).args) : runF f70_env 70 Go.Proofs.Tryd.f70 f70_code (f70_spec).args (f70_spec).res x = f70_spec.fn x := by kernel_rfl
theorem f70_enter : Enterable Go.Proofs.Tryd.prog 70 := enter_fun Go.Proofs.Tryd.func70 (by kernel_rfl)
theorem f70_envOK : EnvOK Go.Proofs.Tryd.prog f70_env := envOK_of cds (by kernel_rfl) cfg_ok trivial trivial ⟨⟨Go.Proofs.Tryd.func70, by kernel_rfl⟩, trivial⟩ ⟨⟨Go.Proofs.Tryd.f70, f70_code, rfl, rfl, f70_l2_ok⟩, trivial⟩ trivial
theorem f70_pure : PureOK Go.Proofs.Tryd.prog cfg 70 f70_spec := pure_of_run f70_envOK (fn := Go.Proofs.Tryd.f70) (c := f70_code) rfl rfl f70_spec (fun x _ h => (f70_run x).trans h)

def f51 : Nat → (List (Int × (ByteArray × Unit))) → (List Int) → Int → Int → Option (List ByteArray)
  | 0, _, _, _, _ => none
  | k + 1, a0, a1, a2, a3 =>
    (f70 a1 a2 a3).bind fun y1 =>
    bif (!y1.1) then
      (f38_go a0 a2 a3 []).bind fun y2 =>
      let u3 : ByteArray := y2.1.1
      let u4 : (List ByteArray) := y2.2.1
      some ([u3] : List ByteArray)
    else
      bif (decide (a3 = (1 : Int))) then
        some []
      else
        let v5 : Int := (IntKind.wrap .i64 (Int.tdiv a3 (2 : Int)))
        (f51 k a0 a1 a2 v5).bind fun y6 =>
        let v7 : Int := (IntKind.wrap .i64 (Int.tdiv a3 (2 : Int)))
        let v8 : Int := (IntKind.wrap .i64 (Int.tdiv a3 (2 : Int)))
        (f51 k a0 a1 (IntKind.wrap .i64 (a2 + v7)) v8).bind fun y9 =>
        bif (decide (y6.length + y9.length ≤ appLim)) then some (y6 ++ y9) else none
def f51_at (n : Nat) : RSpec := { args := [(.sl (.pair (.int .i64) (.pair .str .unit))), (.sl (.int .i64)), (.int .i64), (.int .i64)], T := .str, fz := true, fn := fun x => f51 n x.1 x.2.1 x.2.2.1 x.2.2.2.1 }
def f51_spec : RSpec := { args := [(.sl (.pair (.int .i64) (.pair .str .unit))), (.sl (.int .i64)), (.int .i64), (.int .i64)], T := .str, fz := true, fn := fun x => f51 (x.2.2.2.1.toNat + 2) x.1 x.2.1 x.2.2.1 x.2.2.2.1 }
def f51_go (a0 : (List (Int × (ByteArray × Unit)))) (a1 : (List Int)) (a2 : Int) (a3 : Int) : Option (List ByteArray) := f51 (a3.toNat + 2) a0 a1 a2 a3
noncomputable def f51_code : Code := Go.Proofs.Tryd.f51.body.getD .skip
noncomputable def f51_env (n : Nat) : Env0 := { C := cfg, P := [(70, f70_spec)], L := [], F := [(51, Go.Proofs.Tryd.f51)], S := [(38, f38_spec)], R := [(51, f51_at n)] }
theorem f51_run (n : Nat) (x : tysDen (f51_at n).args) : runR (f51_env n) 51 Go.Proofs.Tryd.f51 f51_code (tysAV (f51_at n).args x) (f51_at n).T (f51_at n).fz = f51 (n + 1) x.1 x.2.1 x.2.2.1 x.2.2.2.1 := by kernel_rfl
theorem f51_enter : Enterable Go.Proofs.Tryd.prog 51 := enter_fun Go.Proofs.Tryd.func51 (by kernel_rfl)
theorem f51_envOK (n : Nat) (ih : FreshOK Go.Proofs.Tryd.prog cfg 51 (f51_at n)) : EnvOK Go.Proofs.Tryd.prog (f51_env n) := envOK_of cds (by kernel_rfl) cfg_ok ⟨⟨f70_pure, f70_enter⟩, trivial⟩ ⟨⟨f38_call, by kernel_rfl, f38_enter⟩, trivial⟩ ⟨⟨Go.Proofs.Tryd.func51, by kernel_rfl⟩, trivial⟩ trivial ⟨⟨ih, f51_enter⟩, trivial⟩
theorem f51_fresh : FreshOK Go.Proofs.Tryd.prog cfg 51 f51_spec := fresh_rec f51_spec (fun n x => f51 n x.1 x.2.1 x.2.2.1 x.2.2.2.1) (fun x => by kernel_rfl) (fun n ih => fresh_of_run (f51_envOK n ih) (fn := Go.Proofs.Tryd.f51) (c := f51_code) rfl rfl _ (fun x _ h => (f51_run n x).trans h)) (fun x y h => ⟨_, h⟩)

def f19_l5_head : Ann := { env := [(0, .ty (.sl (.pair (.int .i64) (.pair .str .unit)))), (1, .ty (.sl (.int .i64))), (4, .cst (.ptr 4 0 [])), (6, .cst (.ptr 6 0 [])), (7, .ty (.int .i64))], stk := [], bxs := [(4, .var [.cst .nils, .cst .nils, .cst .nils]), (6, .var [.cst (.row 19 .whole), .cst (.row 39 .whole), .cst (.row 22 .whole)]), (19, .row (.int .i64) false), (39, .row .str false), (22, .row .str true)] }
def f19_l5_outs : List (Ex × Ann) := [((.exit 0), { env := [(4, .cst (.ptr 4 0 [])), (6, .cst (.ptr 6 0 []))], stk := [], bxs := [(4, .var [.cst .nils, .cst .nils, .cst .nils]), (6, .var [.cst (.row 19 .whole), .cst (.row 39 .whole), .cst (.row 22 .whole)]), (19, .row (.int .i64) false), (39, .row .str false), (22, .row .str true)] })]
def f19_l5 (t0 : (List (Int × (ByteArray × Unit)))) (t1 : (List Int)) (r19 : (List Int)) (r22 : (List ByteArray)) : Nat → Int → (List ByteArray) → Option (outDen f19_l5_outs)
  | 0, _, _ => none
  | k + 1, t7, r39 =>
    bif (decide (t7 < (t1.length : Int))) then
      bif (inR t7 t1.length) then
        (f29 t0 (at_ (.int .i64) t1 t7)).bind fun y4 =>
        bif (decide (r39.length + ([y4.1] : List ByteArray).length ≤ appLim)) then f19_l5 t0 t1 r19 r22 k (IntKind.wrap .i64 (t7 + (1 : Int))) (r39 ++ ([y4.1] : List ByteArray)) else none
      else none
    else
      some ((), (), ((), (), r19, r39, r22, ()))
def f19_l5_spec : LSpec := { thaws := [.cell 6 1 39 .str], head := f19_l5_head, outs := f19_l5_outs, fn := fun x => f19_l5 x.1.1 x.1.2.1 x.2.2.2.2.1 x.2.2.2.2.2.2.1 (((x.1.2.1.length : Int) - x.1.2.2.1).toNat + 1) x.1.2.2.1 x.2.2.2.2.2.1 }
def f19 (a0 : (List (Int × (ByteArray × Unit)))) (a1 : (List Int)) : Option (((List Int) × ((List ByteArray) × ((List ByteArray) × Unit))) × Int × Unit) :=
  (f16 a0).bind fun y1 =>
  bif (!y1.1) then
    some (([], ([], ([], ()))), (40 : Int), ())
  else
    (f44 a1).bind fun y2 =>
    bif (!y2.1) then
      some (([], ([], ([], ()))), (40 : Int), ())
    else
      bif (decide (a1.length ≤ appLim)) then
        (f51_go a0 a1 (0 : Int) (64 : Int)).bind fun y3 =>
        (f19_l5 a0 a1 a1 y3 (((a1.length : Int) - (0 : Int)).toNat + 1) (0 : Int) []).bind fun o5 =>
        let u6 : (List Int) := o5.2.2.2.2.1
        let u7 : (List ByteArray) := o5.2.2.2.2.2.1
        let u8 : (List ByteArray) := o5.2.2.2.2.2.2.1
        some ((u6, (u7, (u8, ()))), (0 : Int), ())
      else none
def f19_spec : PSpec := { args := [(.sl (.pair (.int .i64) (.pair .str .unit))), (.sl (.int .i64))], res := [(.pair (.sl (.int .i64)) (.pair (.sl .str) (.pair (.sl .str) .unit))), (.int .i64)], fn := fun x => f19 x.1 x.2.1 }
noncomputable def f19_code : Code := Go.Proofs.Tryd.f19.body.getD .skip
noncomputable def f19_env : Env0 := { C := cfg, P := [(16, f16_spec), (29, f29_spec), (44, f44_spec)], L := [(⟨12, 0, 19, 5⟩, f19_l5_spec)], F := [(19, Go.Proofs.Tryd.f19)], S := [], R := [(51, f51_spec)] }
theorem f19_l5_ok : LoopOK f19_env 12 19 0 (loopAt f19_code 5) f19_l5_spec :=
  loopOK_of (by kernel_rfl) (fun n x => f19_l5 x.1.1 x.1.2.1 x.2.2.2.2.1 x.2.2.2.2.2.2.1 n x.1.2.2.1 x.2.2.2.2.2.1) (fun x o h => ⟨_, h⟩) (fun x => by kernel_rfl) (fun n x => by kernel_rfl)
theorem f19_run (x : tysDen (f19_spec).args) : runF f19_env 19 Go.Proofs.Tryd.f19 f19_code (f19_spec).args (f19_spec).res x = f19_spec.fn x := by kernel_rfl
theorem f19_enter : Enterable Go.Proofs.Tryd.prog 19 := enter_fun Go.Proofs.Tryd.func19 (by kernel_rfl)
theorem f19_envOK : EnvOK Go.Proofs.Tryd.prog f19_env := envOK_of cds (by kernel_rfl) cfg_ok ⟨⟨f16_pure, f16_enter⟩, ⟨f29_pure, f29_enter⟩, ⟨f44_pure, f44_enter⟩, trivial⟩ trivial ⟨⟨Go.Proofs.Tryd.func19, by kernel_rfl⟩, trivial⟩ ⟨⟨Go.Proofs.Tryd.f19, f19_code, rfl, rfl, f19_l5_ok⟩, trivial⟩ ⟨⟨f51_fresh, f51_enter⟩, trivial⟩
theorem f19_pure : PureOK Go.Proofs.Tryd.prog cfg 19 f19_spec := pure_of_run f19_envOK (fn := Go.Proofs.Tryd.f19) (c := f19_code) rfl rfl f19_spec (fun x _ h => (f19_run x).trans h)

def f26_l4_head : Ann := { env := [(0, .ty (.sl (.int .i64))), (1, .ty (.sl (.int .i64))), (5, .ty (.int .i64))], stk := [], bxs := [] }
def f26_l4_outs : List (Ex × Ann) := [((.exit 0), { env := [], stk := [], bxs := [] }), (.ret, { env := [(4, .ty .bool)], stk := [], bxs := [] })]
def f26_l4 (t0 : (List Int)) (t1 : (List Int)) : Nat → Int → Option (outDen f26_l4_outs)
  | 0, _ => none
  | k + 1, t5 =>
    bif (decide (t5 < (t0.length : Int))) then
      bif (inR t5 t0.length) then
        bif (inR t5 t1.length) then
          let v2 : Bool := (decide ((at_ (.int .i64) t0 t5) ≠ (at_ (.int .i64) t1 t5)))
          bif v2 then
            some (.inr ((false, ()), (), ()))
          else
            f26_l4 t0 t1 k (IntKind.wrap .i64 (t5 + (1 : Int)))
        else none
      else none
    else
      some (.inl ((), (), ()))
def f26_l4_spec : LSpec := { thaws := [], head := f26_l4_head, outs := f26_l4_outs, fn := fun x => f26_l4 x.1.1 x.1.2.1 (((x.1.1.length : Int) - x.1.2.2.1).toNat + 1) x.1.2.2.1 }
def f26 (a0 : (List Int)) (a1 : (List Int)) : Option (Bool × Unit) :=
  let v1 : Bool := (decide ((a0.length : Int) ≠ (a1.length : Int)))
  bif v1 then
    some (false, ())
  else
    (f26_l4 a0 a1 (((a0.length : Int) - (0 : Int)).toNat + 1) (0 : Int)).bind fun o3 =>
    Sum.elim (fun o4 =>
      some (true, ())) (fun o5 =>
      let u6 : Bool := o5.1.1
      some (u6, ())) o3
def f26_spec : PSpec := { args := [(.sl (.int .i64)), (.sl (.int .i64))], res := [.bool], fn := fun x => f26 x.1 x.2.1 }
noncomputable def f26_code : Code := Go.Proofs.Tryd.f26.body.getD .skip
noncomputable def f26_env : Env0 := { C := cfg, P := [], L := [(⟨12, 0, 26, 4⟩, f26_l4_spec)], F := [(26, Go.Proofs.Tryd.f26)], S := [], R := [] }
theorem f26_l4_ok : LoopOK f26_env 12 26 0 (loopAt f26_code 4) f26_l4_spec :=
  loopOK_of (by kernel_rfl) (fun n x => f26_l4 x.1.1 x.1.2.1 n x.1.2.2.1) (fun x o h => ⟨_, h⟩) (fun x => by kernel_rfl) (fun n x => by kernel_rfl)
theorem f26_run (x : tysDen (f26_spec).args) : runF f26_env 26 Go.Proofs.Tryd.f26 f26_code (f26_spec).args (f26_spec).res x = f26_spec.fn x := by kernel_rfl
theorem f26_enter : Enterable Go.Proofs.Tryd.prog 26 := enter_fun Go.Proofs.Tryd.func26 (by kernel_rfl)
theorem f26_envOK : EnvOK Go.Proofs.Tryd.prog f26_env := envOK_of cds (by kernel_rfl) cfg_ok trivial trivial ⟨⟨Go.Proofs.Tryd.func26, by kernel_rfl⟩, trivial⟩ ⟨⟨Go.Proofs.Tryd.f26, f26_code, rfl, rfl, f26_l4_ok⟩, trivial⟩ trivial
theorem f26_pure : PureOK Go.Proofs.Tryd.prog cfg 26 f26_spec := pure_of_run f26_envOK (fn := Go.Proofs.Tryd.f26) (c := f26_code) rfl rfl f26_spec (fun x _ h => (f26_run x).trans h)

def f52_l4_head : Ann := { env := [(0, .ty (.sl .str)), (1, .ty (.sl .str)), (5, .ty (.int .i64))], stk := [], bxs := [] }
def f52_l4_outs : List (Ex × Ann) := [((.exit 0), { env := [], stk := [], bxs := [] }), (.ret, { env := [(4, .ty .bool)], stk := [], bxs := [] })]
def f52_l4 (t0 : (List ByteArray)) (t1 : (List ByteArray)) : Nat → Int → Option (outDen f52_l4_outs)
  | 0, _ => none
  | k + 1, t5 =>
    bif (decide (t5 < (t0.length : Int))) then
      bif (inR t5 t0.length) then
        bif (inR t5 t1.length) then
          let v2 : Bool := (!(decide ((at_ .str t0 t5) = (at_ .str t1 t5))))
          bif v2 then
            some (.inr ((false, ()), (), ()))
          else
            f52_l4 t0 t1 k (IntKind.wrap .i64 (t5 + (1 : Int)))
        else none
      else none
    else
      some (.inl ((), (), ()))
def f52_l4_spec : LSpec := { thaws := [], head := f52_l4_head, outs := f52_l4_outs, fn := fun x => f52_l4 x.1.1 x.1.2.1 (((x.1.1.length : Int) - x.1.2.2.1).toNat + 1) x.1.2.2.1 }
def f52 (a0 : (List ByteArray)) (a1 : (List ByteArray)) : Option (Bool × Unit) :=
  let v1 : Bool := (decide ((a0.length : Int) ≠ (a1.length : Int)))
  bif v1 then
    some (false, ())
  else
    (f52_l4 a0 a1 (((a0.length : Int) - (0 : Int)).toNat + 1) (0 : Int)).bind fun o3 =>
    Sum.elim (fun o4 =>
      some (true, ())) (fun o5 =>
      let u6 : Bool := o5.1.1
      some (u6, ())) o3
def f52_spec : PSpec := { args := [(.sl .str), (.sl .str)], res := [.bool], fn := fun x => f52 x.1 x.2.1 }
noncomputable def f52_code : Code := Go.Proofs.Tryd.f52.body.getD .skip
noncomputable def f52_env : Env0 := { C := cfg, P := [], L := [(⟨12, 0, 52, 4⟩, f52_l4_spec)], F := [(52, Go.Proofs.Tryd.f52)], S := [], R := [] }
theorem f52_l4_ok : LoopOK f52_env 12 52 0 (loopAt f52_code 4) f52_l4_spec :=
  loopOK_of (by kernel_rfl) (fun n x => f52_l4 x.1.1 x.1.2.1 n x.1.2.2.1) (fun x o h => ⟨_, h⟩) (fun x => by kernel_rfl) (fun n x => by kernel_rfl)
theorem f52_run (x : tysDen (f52_spec).args) : runF f52_env 52 Go.Proofs.Tryd.f52 f52_code (f52_spec).args (f52_spec).res x = f52_spec.fn x := by kernel_rfl
theorem f52_enter : Enterable Go.Proofs.Tryd.prog 52 := enter_fun Go.Proofs.Tryd.func52 (by kernel_rfl)
theorem f52_envOK : EnvOK Go.Proofs.Tryd.prog f52_env := envOK_of cds (by kernel_rfl) cfg_ok trivial trivial ⟨⟨Go.Proofs.Tryd.func52, by kernel_rfl⟩, trivial⟩ ⟨⟨Go.Proofs.Tryd.f52, f52_code, rfl, rfl, f52_l4_ok⟩, trivial⟩ trivial
theorem f52_pure : PureOK Go.Proofs.Tryd.prog cfg 52 f52_spec := pure_of_run f52_envOK (fn := Go.Proofs.Tryd.f52) (c := f52_code) rfl rfl f52_spec (fun x _ h => (f52_run x).trans h)

def f20 (a0 : ((List Int) × ((List ByteArray) × ((List ByteArray) × Unit)))) (a1 : ((List Int) × ((List ByteArray) × ((List ByteArray) × Unit)))) : Option (Bool × Unit) :=
  (f26 a0.1 a1.1).bind fun y1 =>
  bif y1.1 then
    (f52 a0.2.1 a1.2.1).bind fun y2 =>
    bif y2.1 then
      (f52 a0.2.2.1 a1.2.2.1).bind fun y3 =>
      some (y3.1, ())
    else
      some (false, ())
  else
    some (false, ())
def f20_spec : PSpec := { args := [(.pair (.sl (.int .i64)) (.pair (.sl .str) (.pair (.sl .str) .unit))), (.pair (.sl (.int .i64)) (.pair (.sl .str) (.pair (.sl .str) .unit)))], res := [.bool], fn := fun x => f20 x.1 x.2.1 }
noncomputable def f20_code : Code := Go.Proofs.Tryd.f20.body.getD .skip
noncomputable def f20_env : Env0 := { C := cfg, P := [(26, f26_spec), (52, f52_spec)], L := [], F := [(20, Go.Proofs.Tryd.f20)], S := [], R := [] }
theorem f20_run (x : tysDen (f20_spec).args) : runF f20_env 20 Go.Proofs.Tryd.f20 f20_code (f20_spec).args (f20_spec).res x = f20_spec.fn x := by kernel_rfl
theorem f20_enter : Enterable Go.Proofs.Tryd.prog 20 := enter_fun Go.Proofs.Tryd.func20 (by kernel_rfl)
theorem f20_envOK : EnvOK Go.Proofs.Tryd.prog f20_env := envOK_of cds (by kernel_rfl) cfg_ok ⟨⟨f26_pure, f26_enter⟩, ⟨f52_pure, f52_enter⟩, trivial⟩ trivial ⟨⟨Go.Proofs.Tryd.func20, by kernel_rfl⟩, trivial⟩ trivial trivial
theorem f20_pure : PureOK Go.Proofs.Tryd.prog cfg 20 f20_spec := pure_of_run f20_envOK (fn := Go.Proofs.Tryd.f20) (c := f20_code) rfl rfl f20_spec (fun x _ h => (f20_run x).trans h)

def f21 (a0 : Int) (a1 : Int) : Option (Int × Unit) :=
  bif (decide (a0 < (0 : Int))) then
    let v1 : Int := (IntKind.wrap .i64 (0 - (IntKind.wrap .i64 (a0 + (1 : Int)))))
    bif (decide (a1 ≠ 0)) then some ((Int.tmod v1 a1), ()) else none
  else
    bif (decide (a1 ≠ 0)) then some ((Int.tmod a0 a1), ()) else none
def f21_spec : PSpec := { args := [(.int .i64), (.int .i64)], res := [(.int .i64)], fn := fun x => f21 x.1 x.2.1 }
noncomputable def f21_code : Code := Go.Proofs.Tryd.f21.body.getD .skip
noncomputable def f21_env : Env0 := { C := cfg, P := [], L := [], F := [(21, Go.Proofs.Tryd.f21)], S := [], R := [] }
theorem f21_run (x : tysDen (f21_spec).args) : runF f21_env 21 Go.Proofs.Tryd.f21 f21_code (f21_spec).args (f21_spec).res x = f21_spec.fn x := by kernel_rfl
theorem f21_enter : Enterable Go.Proofs.Tryd.prog 21 := enter_fun Go.Proofs.Tryd.func21 (by kernel_rfl)
theorem f21_envOK : EnvOK Go.Proofs.Tryd.prog f21_env := envOK_of cds (by kernel_rfl) cfg_ok trivial trivial ⟨⟨Go.Proofs.Tryd.func21, by kernel_rfl⟩, trivial⟩ trivial trivial
theorem f21_pure : PureOK Go.Proofs.Tryd.prog cfg 21 f21_spec := pure_of_run f21_envOK (fn := Go.Proofs.Tryd.f21) (c := f21_code) rfl rfl f21_spec (fun x _ h => (f21_run x).trans h)

def f78 : Nat → (List Int) → Int → Int → Option (Int × Unit)
  | 0, _, _, _ => none
  | k + 1, a0, a1, a2 =>
    (f70 a0 a1 a2).bind fun y1 =>
    bif (!y1.1) then
      some ((1 : Int), ())
    else
      bif (decide (a2 = (1 : Int))) then
        some ((0 : Int), ())
      else
        let v2 : Int := (IntKind.wrap .i64 (Int.tdiv a2 (2 : Int)))
        (f78 k a0 a1 v2).bind fun y3 =>
        let v4 : Int := (IntKind.wrap .i64 (Int.tdiv a2 (2 : Int)))
        let v5 : Int := (IntKind.wrap .i64 (Int.tdiv a2 (2 : Int)))
        (f78 k a0 (IntKind.wrap .i64 (a1 + v4)) v5).bind fun y6 =>
        some ((IntKind.wrap .i64 (y3.1 + y6.1)), ())
def f78_at (n : Nat) : PSpec := { args := [(.sl (.int .i64)), (.int .i64), (.int .i64)], res := [(.int .i64)], fn := fun x => f78 n x.1 x.2.1 x.2.2.1 }
def f78_spec : PSpec := { args := [(.sl (.int .i64)), (.int .i64), (.int .i64)], res := [(.int .i64)], fn := fun x => f78 (x.2.2.1.toNat + 2) x.1 x.2.1 x.2.2.1 }
noncomputable def f78_code : Code := Go.Proofs.Tryd.f78.body.getD .skip
noncomputable def f78_env (n : Nat) : Env0 := { C := cfg, P := [(70, f70_spec), (78, f78_at n)], L := [], F := [(78, Go.Proofs.Tryd.f78)], S := [], R := [] }
theorem f78_run (n : Nat) (x : tysDen (f78_at n).args) : runF (f78_env n) 78 Go.Proofs.Tryd.f78 f78_code (f78_at n).args (f78_at n).res x = f78 (n + 1) x.1 x.2.1 x.2.2.1 := by kernel_rfl
theorem f78_enter : Enterable Go.Proofs.Tryd.prog 78 := enter_fun Go.Proofs.Tryd.func78 (by kernel_rfl)
theorem f78_envOK (n : Nat) (ih : PureOK Go.Proofs.Tryd.prog cfg 78 (f78_at n)) : EnvOK Go.Proofs.Tryd.prog (f78_env n) := envOK_of cds (by kernel_rfl) cfg_ok ⟨⟨f70_pure, f70_enter⟩, ⟨ih, f78_enter⟩, trivial⟩ trivial ⟨⟨Go.Proofs.Tryd.func78, by kernel_rfl⟩, trivial⟩ trivial trivial
theorem f78_pure : PureOK Go.Proofs.Tryd.prog cfg 78 f78_spec := pure_rec f78_spec (fun n x => f78 n x.1 x.2.1 x.2.2.1) (fun x => by kernel_rfl) (fun n ih => pure_of_run (f78_envOK n ih) (fn := Go.Proofs.Tryd.f78) (c := f78_code) rfl rfl _ (fun x _ h => (f78_run n x).trans h)) (fun x y h => ⟨_, h⟩)
def f78_go (a0 : (List Int)) (a1 : Int) (a2 : Int) : Option (Int × Unit) := f78 (a2.toNat + 2) a0 a1 a2

def f55_l4_head : Ann := { env := [(1, .cst (.ptr 1 0 [])), (3, .ty (.int .i64))], stk := [], bxs := [(1, .var [.ty (.sl (.int .i64)), .ty (.sl .str), .ty (.sl .str)])] }
def f55_l4_outs : List (Ex × Ann) := [((.exit 0), { env := [(1, .cst (.ptr 1 0 []))], stk := [], bxs := [(1, .var [.ty (.sl (.int .i64)), .ty (.sl .str), .ty (.sl .str)])] }), (.ret, { env := [(2, .ty .bool)], stk := [], bxs := [] })]
def f55_l4 (b1g0 : (List Int)) (b1g1 : (List ByteArray)) (b1g2 : (List ByteArray)) : Nat → Int → Option (outDen f55_l4_outs)
  | 0, _ => none
  | k + 1, t3 =>
    bif (decide (t3 < (b1g1.length : Int))) then
      bif (inR t3 b1g1.length) then
        let v5 : Bool := (decide (((at_ .str b1g1 t3).size : Int) > (65536 : Int)))
        bif v5 then
          some (.inr ((false, ()), (), ()))
        else
          f55_l4 b1g0 b1g1 b1g2 k (IntKind.wrap .i64 (t3 + (1 : Int)))
      else none
    else
      some (.inl ((), (), ((b1g0, b1g1, b1g2, ()), ())))
def f55_l4_spec : LSpec := { thaws := [], head := f55_l4_head, outs := f55_l4_outs, fn := fun x => f55_l4 x.2.2.1.1 x.2.2.1.2.1 x.2.2.1.2.2.1 (((x.2.2.1.2.1.length : Int) - x.1.1).toNat + 1) x.1.1 }
def f55_l9_head : Ann := { env := [(1, .cst (.ptr 1 0 [])), (4, .ty (.int .i64))], stk := [], bxs := [(1, .var [.ty (.sl (.int .i64)), .ty (.sl .str), .ty (.sl .str)])] }
def f55_l9_outs : List (Ex × Ann) := [((.exit 2), { env := [], stk := [], bxs := [] }), (.ret, { env := [(2, .ty .bool)], stk := [], bxs := [] })]
def f55_l9 (b1g0 : (List Int)) (b1g1 : (List ByteArray)) (b1g2 : (List ByteArray)) : Nat → Int → Option (outDen f55_l9_outs)
  | 0, _ => none
  | k + 1, t4 =>
    bif (decide (t4 < (b1g2.length : Int))) then
      bif (inR t4 b1g2.length) then
        let v12 : Bool := (decide (((at_ .str b1g2 t4).size : Int) ≠ (32 : Int)))
        bif v12 then
          some (.inr ((false, ()), (), ()))
        else
          f55_l9 b1g0 b1g1 b1g2 k (IntKind.wrap .i64 (t4 + (1 : Int)))
      else none
    else
      some (.inl ((), (), ()))
def f55_l9_spec : LSpec := { thaws := [], head := f55_l9_head, outs := f55_l9_outs, fn := fun x => f55_l9 x.2.2.1.1 x.2.2.1.2.1 x.2.2.1.2.2.1 (((x.2.2.1.2.2.1.length : Int) - x.1.1).toNat + 1) x.1.1 }
def f55 (a0 : ((List Int) × ((List ByteArray) × ((List ByteArray) × Unit)))) : Option (Bool × Unit) :=
  (f44 a0.1).bind fun y1 =>
  bif (!y1.1) then
    some (false, ())
  else
    let v2 : Bool := (decide ((a0.2.1.length : Int) ≠ (a0.1.length : Int)))
    bif v2 then
      some (false, ())
    else
      (f78_go a0.1 (0 : Int) (64 : Int)).bind fun y3 =>
      let v4 : Bool := (decide ((a0.2.2.1.length : Int) ≠ y3.1))
      bif v4 then
        some (false, ())
      else
        (f55_l4 a0.1 a0.2.1 a0.2.2.1 (((a0.2.1.length : Int) - (0 : Int)).toNat + 1) (0 : Int)).bind fun o6 =>
        Sum.elim (fun o7 =>
          let u9 : (List Int) := o7.2.2.1.1
          let u10 : (List ByteArray) := o7.2.2.1.2.1
          let u11 : (List ByteArray) := o7.2.2.1.2.2.1
          (f55_l9 u9 u10 u11 (((u11.length : Int) - (0 : Int)).toNat + 1) (0 : Int)).bind fun o13 =>
          Sum.elim (fun o14 =>
            some (true, ())) (fun o15 =>
            let u16 : Bool := o15.1.1
            some (u16, ())) o13) (fun o8 =>
          let u17 : Bool := o8.1.1
          some (u17, ())) o6
def f55_spec : PSpec := { args := [(.pair (.sl (.int .i64)) (.pair (.sl .str) (.pair (.sl .str) .unit)))], res := [.bool], fn := fun x => f55 x.1 }
noncomputable def f55_code : Code := Go.Proofs.Tryd.f55.body.getD .skip
noncomputable def f55_env : Env0 := { C := cfg, P := [(44, f44_spec), (78, f78_spec)], L := [(⟨12, 0, 55, 4⟩, f55_l4_spec), (⟨12, 0, 55, 9⟩, f55_l9_spec)], F := [(55, Go.Proofs.Tryd.f55)], S := [], R := [] }
theorem f55_l4_ok : LoopOK f55_env 12 55 0 (loopAt f55_code 4) f55_l4_spec :=
  loopOK_of (by kernel_rfl) (fun n x => f55_l4 x.2.2.1.1 x.2.2.1.2.1 x.2.2.1.2.2.1 n x.1.1) (fun x o h => ⟨_, h⟩) (fun x => by kernel_rfl) (fun n x => by kernel_rfl)
theorem f55_l9_ok : LoopOK f55_env 12 55 0 (loopAt f55_code 9) f55_l9_spec :=
  loopOK_of (by kernel_rfl) (fun n x => f55_l9 x.2.2.1.1 x.2.2.1.2.1 x.2.2.1.2.2.1 n x.1.1) (fun x o h => ⟨_, h⟩) (fun x => by kernel_rfl) (fun n x => by kernel_rfl)
theorem f55_run (x : tysDen (f55_spec).args) : runF f55_env 55 Go.Proofs.Tryd.f55 f55_code (f55_spec).args (f55_spec).res x = f55_spec.fn x := by kernel_rfl
theorem f55_enter : Enterable Go.Proofs.Tryd.prog 55 := enter_fun Go.Proofs.Tryd.func55 (by kernel_rfl)
theorem f55_envOK : EnvOK Go.Proofs.Tryd.prog f55_env := envOK_of cds (by kernel_rfl) cfg_ok ⟨⟨f44_pure, f44_enter⟩, ⟨f78_pure, f78_enter⟩, trivial⟩ trivial ⟨⟨Go.Proofs.Tryd.func55, by kernel_rfl⟩, trivial⟩ ⟨⟨Go.Proofs.Tryd.f55, f55_code, rfl, rfl, f55_l4_ok⟩, ⟨Go.Proofs.Tryd.f55, f55_code, rfl, rfl, f55_l9_ok⟩, trivial⟩ trivial
theorem f55_pure : PureOK Go.Proofs.Tryd.prog cfg 55 f55_spec := pure_of_run f55_envOK (fn := Go.Proofs.Tryd.f55) (c := f55_code) rfl rfl f55_spec (fun x _ h => (f55_run x).trans h)

def f61_l5_head : Ann := { env := [(1, .ty (.int .i64)), (3, .ty (.sl .str)), (4, .cst (.row 900061 .whole)), (5, .cst (.ptr 5 0 [])), (13, .ty (.int .i64))], stk := [[]], bxs := [(900061, .row .str false), (5, .var [.ty (.sl (.int .i64)), .ty (.sl .str), .ty (.sl .str)])] }
def f61_l5_outs : List (Ex × Ann) := [((.exit 0), { env := [(3, .ty (.sl .str)), (4, .cst (.row 900061 .whole))], stk := [[]], bxs := [(900061, .row .str false)] }), (.ret, { env := [(10, .ty .str), (11, .ty (.sl .str)), (12, .cst (.row 900061 .whole))], stk := [[]], bxs := [(900061, .row .str false)] })]
def f61_l5 (t1 : Int) (t3 : (List ByteArray)) (r900061 : (List ByteArray)) (b5g0 : (List Int)) (b5g1 : (List ByteArray)) (b5g2 : (List ByteArray)) : Nat → Int → Option (outDen f61_l5_outs)
  | 0, _ => none
  | k + 1, t13 =>
    bif (decide (t13 < (b5g0.length : Int))) then
      bif (inR t13 b5g0.length) then
        let v2 : Bool := (decide ((at_ (.int .i64) b5g0 t13) = t1))
        bif v2 then
          bif (inR t13 b5g1.length) then
            let v3 : Bool := (!(decide ((at_ .str b5g1 t13) = (⟨#[]⟩ : ByteArray))))
            bif v3 then
              bif (inR t13 b5g1.length) then
                (f68 t1 (at_ .str b5g1 t13)).bind fun y4 =>
                (f53 y4.1).bind fun y5 =>
                bif (decide (r900061.length + ([y4.1] : List ByteArray).length ≤ appLim)) then some (.inr ((y5.1, t3, ()), ((), ()), ((r900061 ++ ([y4.1] : List ByteArray)), ()))) else none
              else none
            else
              f61_l5 t1 t3 r900061 b5g0 b5g1 b5g2 k (IntKind.wrap .i64 (t13 + (1 : Int)))
          else none
        else
          f61_l5 t1 t3 r900061 b5g0 b5g1 b5g2 k (IntKind.wrap .i64 (t13 + (1 : Int)))
      else none
    else
      some (.inl ((t3, ()), ((), ()), (r900061, ())))
def f61_l5_spec : LSpec := { thaws := [], head := f61_l5_head, outs := f61_l5_outs, fn := fun x => f61_l5 x.1.1 x.1.2.1 x.2.2.1 x.2.2.2.1.1 x.2.2.2.1.2.1 x.2.2.2.1.2.2.1 (((x.2.2.2.1.1.length : Int) - x.1.2.2.1).toNat + 1) x.1.2.2.1 }
abbrev f61_res : List Sh := [.ty .str, .ty (.sl .str), .cst (.row 900061 .whole)]
abbrev f61_outs : List (Nat × BSh) := [(900061, .row .str false)]
def f61 : Nat → ((List Int) × ((List ByteArray) × ((List ByteArray) × Unit))) → Int → Int → (List ByteArray) → (List ByteArray) → Option (shDen f61_res × bxsDen f61_outs)
  | 0, _, _, _, _, _ => none
  | k + 1, t0, t1, t2, t3, r900061 =>
    (f70 t0.1 t1 t2).bind fun y1 =>
    bif (!y1.1) then
      bif (inR (0 : Int) t3.length) then bif (cutOk t3.length (some (1 : Int)) none) then some (((at_ .str t3 (0 : Int)), (t3.drop (Int.toNat (1 : Int))), ()), (r900061, ())) else none else none
    else
      bif (decide (t2 = (1 : Int))) then
        (f61_l5 t1 t3 r900061 t0.1 t0.2.1 t0.2.2.1 (((t0.1.length : Int) - (0 : Int)).toNat + 1) (0 : Int)).bind fun o6 =>
        Sum.elim (fun o7 =>
          let u9 : (List ByteArray) := o7.1.1
          let u10 : (List ByteArray) := o7.2.2.1
          (f34 ).bind fun y11 =>
          some ((y11.1, u9, ()), (u10, ()))) (fun o8 =>
          let u12 : ByteArray := o8.1.1
          let u13 : (List ByteArray) := o8.1.2.1
          let u14 : (List ByteArray) := o8.2.2.1
          some ((u12, u13, ()), (u14, ()))) o6
      else
        let v15 : Int := (IntKind.wrap .i64 (Int.tdiv t2 (2 : Int)))
        (f61 k t0 t1 v15 t3 r900061).bind fun y16 =>
        let u17 : ByteArray := y16.1.1
        let u18 : (List ByteArray) := y16.1.2.1
        let u19 : (List ByteArray) := y16.2.1
        let v20 : Int := (IntKind.wrap .i64 (Int.tdiv t2 (2 : Int)))
        let v21 : Int := (IntKind.wrap .i64 (Int.tdiv t2 (2 : Int)))
        (f61 k t0 (IntKind.wrap .i64 (t1 + v20)) v21 u18 u19).bind fun y22 =>
        let u23 : ByteArray := y22.1.1
        let u24 : (List ByteArray) := y22.1.2.1
        let u25 : (List ByteArray) := y22.2.1
        (f34 ).bind fun y26 =>
        bif (decide (u17 = y26.1)) then
          (f34 ).bind fun y27 =>
          bif (decide (u23 = y27.1)) then
            (f34 ).bind fun y28 =>
            some ((y28.1, u24, ()), (u25, ()))
          else
            bif (catOk (⟨#[9]⟩ : ByteArray) u17) then
              bif (catOk ((⟨#[9]⟩ : ByteArray) ++ u17) u23) then
                (f53 (((⟨#[9]⟩ : ByteArray) ++ u17) ++ u23)).bind fun y29 =>
                bif (decide (u25.length + ([(((⟨#[9]⟩ : ByteArray) ++ u17) ++ u23)] : List ByteArray).length ≤ appLim)) then some ((y29.1, u24, ()), ((u25 ++ ([(((⟨#[9]⟩ : ByteArray) ++ u17) ++ u23)] : List ByteArray)), ())) else none
              else none
            else none
        else
          bif (catOk (⟨#[9]⟩ : ByteArray) u17) then
            bif (catOk ((⟨#[9]⟩ : ByteArray) ++ u17) u23) then
              (f53 (((⟨#[9]⟩ : ByteArray) ++ u17) ++ u23)).bind fun y30 =>
              bif (decide (u25.length + ([(((⟨#[9]⟩ : ByteArray) ++ u17) ++ u23)] : List ByteArray).length ≤ appLim)) then some ((y30.1, u24, ()), ((u25 ++ ([(((⟨#[9]⟩ : ByteArray) ++ u17) ++ u23)] : List ByteArray)), ())) else none
            else none
          else none
def f61_at (n : Nat) : CSpec := { thaws := [.slot 4 900061 .str], args := [(0, .ty (.pair (.sl (.int .i64)) (.pair (.sl .str) (.pair (.sl .str) .unit)))), (1, .ty (.int .i64)), (2, .ty (.int .i64)), (3, .ty (.sl .str)), (4, .cst (.row 900061 .whole))], ins := [(900061, .row .str false)], res := f61_res, outs := f61_outs, fn := fun x => f61 n x.1.1 x.1.2.1 x.1.2.2.1 x.1.2.2.2.1 x.2.1 }
def f61_spec : CSpec := { thaws := [.slot 4 900061 .str], args := [(0, .ty (.pair (.sl (.int .i64)) (.pair (.sl .str) (.pair (.sl .str) .unit)))), (1, .ty (.int .i64)), (2, .ty (.int .i64)), (3, .ty (.sl .str)), (4, .cst (.row 900061 .whole))], ins := [(900061, .row .str false)], res := f61_res, outs := f61_outs, fn := fun x => f61 (x.1.2.2.1.toNat + 2) x.1.1 x.1.2.1 x.1.2.2.1 x.1.2.2.2.1 x.2.1 }
def f61_go (t0 : ((List Int) × ((List ByteArray) × ((List ByteArray) × Unit)))) (t1 : Int) (t2 : Int) (t3 : (List ByteArray)) (r900061 : (List ByteArray)) : Option (shDen f61_res × bxsDen f61_outs) := f61 (t2.toNat + 2) t0 t1 t2 t3 r900061
noncomputable def f61_code : Code := Go.Proofs.Tryd.f61.body.getD .skip
noncomputable def f61_env (n : Nat) : Env0 := { C := cfg, P := [(34, f34_spec), (53, f53_spec), (68, f68_spec), (70, f70_spec)], L := [(⟨12, 0, 61, 5⟩, f61_l5_spec)], F := [(61, Go.Proofs.Tryd.f61)], S := [(61, f61_at n)], R := [] }
theorem f61_l5_ok (n : Nat) : LoopOK (f61_env n) 12 61 0 (loopAt f61_code 5) f61_l5_spec :=
  loopOK_of (by kernel_rfl) (fun n x => f61_l5 x.1.1 x.1.2.1 x.2.2.1 x.2.2.2.1.1 x.2.2.2.1.2.1 x.2.2.2.1.2.2.1 n x.1.2.2.1) (fun x o h => ⟨_, h⟩) (fun x => by kernel_rfl) (fun n x => by kernel_rfl)
theorem f61_run (n : Nat) (x : envDen (f61_at n).args × bxsDen (f61_at n).ins) : runS (f61_env n) 61 Go.Proofs.Tryd.f61 f61_code (f61_at n) x = f61 (n + 1) x.1.1 x.1.2.1 x.1.2.2.1 x.1.2.2.2.1 x.2.1 := by kernel_rfl
theorem f61_enter : Enterable Go.Proofs.Tryd.prog 61 := enter_fun Go.Proofs.Tryd.func61 (by kernel_rfl)
theorem f61_envOK (n : Nat) (ih : CallOK Go.Proofs.Tryd.prog cfg 61 (f61_at n)) : EnvOK Go.Proofs.Tryd.prog (f61_env n) := envOK_of cds (by kernel_rfl) cfg_ok ⟨⟨f34_pure, f34_enter⟩, ⟨f53_pure, f53_enter⟩, ⟨f68_pure, f68_enter⟩, ⟨f70_pure, f70_enter⟩, trivial⟩ ⟨⟨ih, by kernel_rfl, f61_enter⟩, trivial⟩ ⟨⟨Go.Proofs.Tryd.func61, by kernel_rfl⟩, trivial⟩ ⟨⟨Go.Proofs.Tryd.f61, f61_code, rfl, rfl, f61_l5_ok n⟩, trivial⟩ trivial
theorem f61_call : CallOK Go.Proofs.Tryd.prog cfg 61 f61_spec := call_rec f61_spec (fun n x => f61 n x.1.1 x.1.2.1 x.1.2.2.1 x.1.2.2.2.1 x.2.1) (fun x => by kernel_rfl) (fun n ih => call_of_run (f61_envOK n ih) (fn := Go.Proofs.Tryd.f61) (c := f61_code) rfl rfl _ (by kernel_rfl) (fun x _ h => (f61_run n x).trans h)) (fun x y h => ⟨_, h⟩)

def f56 (a0 : ((List Int) × ((List ByteArray) × ((List ByteArray) × Unit)))) : Option (ByteArray × Unit) :=
  (f61_go a0 (0 : Int) (64 : Int) a0.2.2.1 []).bind fun y1 =>
  let u2 : ByteArray := y1.1.1
  let u3 : (List ByteArray) := y1.1.2.1
  let u4 : (List ByteArray) := y1.2.1
  some (u2, ())
def f56_spec : PSpec := { args := [(.pair (.sl (.int .i64)) (.pair (.sl .str) (.pair (.sl .str) .unit)))], res := [.str], fn := fun x => f56 x.1 }
noncomputable def f56_code : Code := Go.Proofs.Tryd.f56.body.getD .skip
noncomputable def f56_env : Env0 := { C := cfg, P := [], L := [], F := [(56, Go.Proofs.Tryd.f56)], S := [(61, f61_spec)], R := [] }
theorem f56_run (x : tysDen (f56_spec).args) : runF f56_env 56 Go.Proofs.Tryd.f56 f56_code (f56_spec).args (f56_spec).res x = f56_spec.fn x := by kernel_rfl
theorem f56_enter : Enterable Go.Proofs.Tryd.prog 56 := enter_fun Go.Proofs.Tryd.func56 (by kernel_rfl)
theorem f56_envOK : EnvOK Go.Proofs.Tryd.prog f56_env := envOK_of cds (by kernel_rfl) cfg_ok trivial ⟨⟨f61_call, by kernel_rfl, f61_enter⟩, trivial⟩ ⟨⟨Go.Proofs.Tryd.func56, by kernel_rfl⟩, trivial⟩ trivial trivial
theorem f56_pure : PureOK Go.Proofs.Tryd.prog cfg 56 f56_spec := pure_of_run f56_envOK (fn := Go.Proofs.Tryd.f56) (c := f56_code) rfl rfl f56_spec (fun x _ h => (f56_run x).trans h)

def f24_l6_head : Ann := { env := [(3, .cst (.ptr 3 0 [])), (7, .cst (.row 53 .whole)), (8, .cst (.row 39 .whole)), (9, .ty (.int .i64))], stk := [], bxs := [(3, .var [.ty (.sl (.int .i64)), .ty (.sl .str), .ty (.sl .str)]), (53, .row (.pair (.int .i64) (.pair .str .unit)) false), (39, .row (.int .i64) false)] }
def f24_l6_outs : List (Ex × Ann) := [((.exit 0), { env := [(7, .cst (.row 53 .whole)), (8, .cst (.row 39 .whole))], stk := [], bxs := [(53, .row (.pair (.int .i64) (.pair .str .unit)) false), (39, .row (.int .i64) false)] })]
def f24_l6 (b3g0 : (List Int)) (b3g1 : (List ByteArray)) (b3g2 : (List ByteArray)) : Nat → Int → (List (Int × (ByteArray × Unit))) → (List Int) → Option (outDen f24_l6_outs)
  | 0, _, _, _ => none
  | k + 1, t9, r53, r39 =>
    bif (decide (t9 < (b3g0.length : Int))) then
      bif (inR t9 b3g1.length) then
        let v3 : Bool := (decide ((at_ .str b3g1 t9) = (⟨#[]⟩ : ByteArray)))
        bif v3 then
          bif (inR t9 b3g0.length) then bif (decide (r39.length + ([(at_ (.int .i64) b3g0 t9)] : List Int).length ≤ appLim)) then f24_l6 b3g0 b3g1 b3g2 k (IntKind.wrap .i64 (t9 + (1 : Int))) r53 (r39 ++ ([(at_ (.int .i64) b3g0 t9)] : List Int)) else none else none
        else
          bif (inR t9 b3g0.length) then bif (inR t9 b3g1.length) then bif (decide (r53.length + ([((at_ (.int .i64) b3g0 t9), ((at_ .str b3g1 t9), ()))] : List (Int × (ByteArray × Unit))).length ≤ appLim)) then f24_l6 b3g0 b3g1 b3g2 k (IntKind.wrap .i64 (t9 + (1 : Int))) (r53 ++ ([((at_ (.int .i64) b3g0 t9), ((at_ .str b3g1 t9), ()))] : List (Int × (ByteArray × Unit)))) r39 else none else none else none
      else none
    else
      some ((), (), (r53, r39, ()))
def f24_l6_spec : LSpec := { thaws := [.slot 8 39 (.int .i64), .slot 7 53 (.pair (.int .i64) (.pair .str .unit))], head := f24_l6_head, outs := f24_l6_outs, fn := fun x => f24_l6 x.2.2.1.1 x.2.2.1.2.1 x.2.2.1.2.2.1 (((x.2.2.1.1.length : Int) - x.1.1).toNat + 1) x.1.1 x.2.2.2.1 x.2.2.2.2.1 }
def f24 (a0 : ByteArray) (a1 : ((List Int) × ((List ByteArray) × ((List ByteArray) × Unit)))) : Option ((List (Int × (ByteArray × Unit))) × (List Int) × Bool × Unit) :=
  (f55 a1).bind fun y1 =>
  bif (!y1.1) then
    some ([], [], false, ())
  else
    (f56 a1).bind fun y2 =>
    bif (!(decide (y2.1 = a0))) then
      some ([], [], false, ())
    else
      (f24_l6 a1.1 a1.2.1 a1.2.2.1 (((a1.1.length : Int) - (0 : Int)).toNat + 1) (0 : Int) [] []).bind fun o4 =>
      let u5 : (List (Int × (ByteArray × Unit))) := o4.2.2.1
      let u6 : (List Int) := o4.2.2.2.1
      some (u5, u6, true, ())
def f24_spec : PSpec := { args := [.str, (.pair (.sl (.int .i64)) (.pair (.sl .str) (.pair (.sl .str) .unit)))], res := [(.sl (.pair (.int .i64) (.pair .str .unit))), (.sl (.int .i64)), .bool], fn := fun x => f24 x.1 x.2.1 }
noncomputable def f24_code : Code := Go.Proofs.Tryd.f24.body.getD .skip
noncomputable def f24_env : Env0 := { C := cfg, P := [(55, f55_spec), (56, f56_spec)], L := [(⟨12, 0, 24, 6⟩, f24_l6_spec)], F := [(24, Go.Proofs.Tryd.f24)], S := [], R := [] }
theorem f24_l6_ok : LoopOK f24_env 12 24 0 (loopAt f24_code 6) f24_l6_spec :=
  loopOK_of (by kernel_rfl) (fun n x => f24_l6 x.2.2.1.1 x.2.2.1.2.1 x.2.2.1.2.2.1 n x.1.1 x.2.2.2.1 x.2.2.2.2.1) (fun x o h => ⟨_, h⟩) (fun x => by kernel_rfl) (fun n x => by kernel_rfl)
theorem f24_run (x : tysDen (f24_spec).args) : runF f24_env 24 Go.Proofs.Tryd.f24 f24_code (f24_spec).args (f24_spec).res x = f24_spec.fn x := by kernel_rfl
theorem f24_enter : Enterable Go.Proofs.Tryd.prog 24 := enter_fun Go.Proofs.Tryd.func24 (by kernel_rfl)
theorem f24_envOK : EnvOK Go.Proofs.Tryd.prog f24_env := envOK_of cds (by kernel_rfl) cfg_ok ⟨⟨f55_pure, f55_enter⟩, ⟨f56_pure, f56_enter⟩, trivial⟩ trivial ⟨⟨Go.Proofs.Tryd.func24, by kernel_rfl⟩, trivial⟩ ⟨⟨Go.Proofs.Tryd.f24, f24_code, rfl, rfl, f24_l6_ok⟩, trivial⟩ trivial
theorem f24_pure : PureOK Go.Proofs.Tryd.prog cfg 24 f24_spec := pure_of_run f24_envOK (fn := Go.Proofs.Tryd.f24) (c := f24_code) rfl rfl f24_spec (fun x _ h => (f24_run x).trans h)

def f28_l11_head : Ann := { env := [(2, .ty (.sl (.pair (.int .i64) (.pair .str .unit)))), (4, .cst (.ptr 4 0 [])), (8, .cst (.ptr 8 0 [])), (9, .cst (.row 79 .whole)), (10, .ty (.int .i64)), (11, .ty .bool), (12, .ty (.int .i64))], stk := [], bxs := [(4, .var [.ty (.sl (.int .i64)), .ty (.sl .str), .ty (.sl .str)]), (8, .var [.ty (.sl (.int .i64)), .cst (.row 26 .whole), .ty (.sl .str)]), (79, .row (.int .i64) false), (26, .row .str false)] }
def f28_l11_outs : List (Ex × Ann) := [((.exit 2), { env := [(2, .ty (.sl (.pair (.int .i64) (.pair .str .unit)))), (4, .cst (.ptr 4 0 [])), (8, .cst (.ptr 8 0 [])), (9, .cst (.row 79 .whole)), (10, .ty (.int .i64)), (11, .ty .bool)], stk := [], bxs := [(4, .var [.ty (.sl (.int .i64)), .ty (.sl .str), .ty (.sl .str)]), (8, .var [.ty (.sl (.int .i64)), .cst (.row 26 .whole), .ty (.sl .str)]), (79, .row (.int .i64) false), (26, .row .str false)] })]
def f28_l11 (t2 : (List (Int × (ByteArray × Unit)))) (t10 : Int) (b4g0 : (List Int)) (b4g1 : (List ByteArray)) (b4g2 : (List ByteArray)) (b8g0 : (List Int)) (b8g2 : (List ByteArray)) (r79 : (List Int)) : Nat → Bool → Int → (List ByteArray) → Option (outDen f28_l11_outs)
  | 0, _, _, _ => none
  | k + 1, t11, t12, r26 =>
    bif (decide (t12 < (b4g0.length : Int))) then
      bif (inR t12 b4g0.length) then
        bif (inR t10 t2.length) then
          let v3 : Int := (at_ (.pair (.int .i64) (.pair .str .unit)) t2 t10).1
          let v4 : Bool := (decide ((at_ (.int .i64) b4g0 t12) = v3))
          bif v4 then
            bif (inR t10 t2.length) then
              let v5 : ByteArray := (at_ (.pair (.int .i64) (.pair .str .unit)) t2 t10).2.1
              bif (inR t12 r26.length) then f28_l11 t2 t10 b4g0 b4g1 b4g2 b8g0 b8g2 r79 k true (IntKind.wrap .i64 (t12 + (1 : Int))) (r26.set (Int.toNat t12) v5) else none
            else none
          else
            f28_l11 t2 t10 b4g0 b4g1 b4g2 b8g0 b8g2 r79 k t11 (IntKind.wrap .i64 (t12 + (1 : Int))) r26
        else none
      else none
    else
      some ((t2, t10, t11, ()), (), ((b4g0, b4g1, b4g2, ()), (b8g0, b8g2, ()), r79, r26, ()))
def f28_l11_spec : LSpec := { thaws := [], head := f28_l11_head, outs := f28_l11_outs, fn := fun x => f28_l11 x.1.1 x.1.2.1 x.2.2.1.1 x.2.2.1.2.1 x.2.2.1.2.2.1 x.2.2.2.1.1 x.2.2.2.1.2.1 x.2.2.2.2.1 (((x.2.2.1.1.length : Int) - x.1.2.2.2.1).toNat + 1) x.1.2.2.1 x.1.2.2.2.1 x.2.2.2.2.2.1 }
def f28_l7_head : Ann := { env := [(2, .ty (.sl (.pair (.int .i64) (.pair .str .unit)))), (4, .cst (.ptr 4 0 [])), (8, .cst (.ptr 8 0 [])), (9, .cst (.row 79 .whole)), (10, .ty (.int .i64))], stk := [], bxs := [(4, .var [.ty (.sl (.int .i64)), .ty (.sl .str), .ty (.sl .str)]), (8, .var [.ty (.sl (.int .i64)), .cst (.row 26 .whole), .ty (.sl .str)]), (79, .row (.int .i64) false), (26, .row .str false)] }
def f28_l7_outs : List (Ex × Ann) := [((.exit 0), { env := [(8, .cst (.ptr 8 0 [])), (9, .cst (.row 79 .whole))], stk := [], bxs := [(8, .var [.ty (.sl (.int .i64)), .cst (.row 26 .whole), .ty (.sl .str)]), (79, .row (.int .i64) false), (26, .row .str false)] }), (.ret, { env := [(6, .ty .str), (7, .ty .bool)], stk := [], bxs := [] })]
def f28_l7 : Nat → (List (Int × (ByteArray × Unit))) → Int → (List Int) → (List ByteArray) → (List ByteArray) → (List Int) → (List ByteArray) → (List Int) → (List ByteArray) → Option (outDen f28_l7_outs)
  | 0, _, _, _, _, _, _, _, _, _ => none
  | k + 1, t2, t10, b4g0, b4g1, b4g2, b8g0, b8g2, r79, r26 =>
    bif (decide (t10 < (t2.length : Int))) then
      (f28_l11 t2 t10 b4g0 b4g1 b4g2 b8g0 b8g2 r79 (((b4g0.length : Int) - (0 : Int)).toNat + 1) false (0 : Int) r26).bind fun o6 =>
      let u7 : (List (Int × (ByteArray × Unit))) := o6.1.1
      let u8 : Int := o6.1.2.1
      let u9 : Bool := o6.1.2.2.1
      let u10 : (List Int) := o6.2.2.1.1
      let u11 : (List ByteArray) := o6.2.2.1.2.1
      let u12 : (List ByteArray) := o6.2.2.1.2.2.1
      let u13 : (List Int) := o6.2.2.2.1.1
      let u14 : (List ByteArray) := o6.2.2.2.1.2.1
      let u15 : (List Int) := o6.2.2.2.2.1
      let u16 : (List ByteArray) := o6.2.2.2.2.2.1
      bif (!u9) then
        some (.inr (((⟨#[]⟩ : ByteArray), false, ()), (), ()))
      else
        bif (inR u8 u7.length) then
          let v17 : ByteArray := (at_ (.pair (.int .i64) (.pair .str .unit)) u7 u8).2.1
          let v18 : Bool := (decide ((v17.size : Int) > (65536 : Int)))
          bif v18 then
            some (.inr (((⟨#[]⟩ : ByteArray), false, ()), (), ()))
          else
            bif (inR u8 u7.length) then
              let v19 : Int := (at_ (.pair (.int .i64) (.pair .str .unit)) u7 u8).1
              bif (decide (u15.length + ([v19] : List Int).length ≤ appLim)) then f28_l7 k u7 (IntKind.wrap .i64 (u8 + (1 : Int))) u10 u11 u12 u13 u14 (u15 ++ ([v19] : List Int)) u16 else none
            else none
        else none
    else
      some (.inl ((), (), ((b8g0, b8g2, ()), r79, r26, ())))
def f28_l7_spec : LSpec := { thaws := [.slot 9 79 (.int .i64)], head := f28_l7_head, outs := f28_l7_outs, fn := fun x => f28_l7 (((x.1.1.length : Int) - x.1.2.1).toNat + 1) x.1.1 x.1.2.1 x.2.2.1.1 x.2.2.1.2.1 x.2.2.1.2.2.1 x.2.2.2.1.1 x.2.2.2.1.2.1 x.2.2.2.2.1 x.2.2.2.2.2.1 }
def f28 (a0 : ByteArray) (a1 : ((List Int) × ((List ByteArray) × ((List ByteArray) × Unit)))) (a2 : (List (Int × (ByteArray × Unit)))) : Option (ByteArray × Bool × Unit) :=
  (f55 a1).bind fun y1 =>
  bif (!y1.1) then
    some ((⟨#[]⟩ : ByteArray), false, ())
  else
    (f56 a1).bind fun y2 =>
    bif (!(decide (y2.1 = a0))) then
      some ((⟨#[]⟩ : ByteArray), false, ())
    else
      bif (decide (a1.2.1.length ≤ appLim)) then
        (f28_l7 (((a2.length : Int) - (0 : Int)).toNat + 1) a2 (0 : Int) a1.1 a1.2.1 a1.2.2.1 a1.1 a1.2.2.1 [] a1.2.1).bind fun o20 =>
        Sum.elim (fun o21 =>
          let u23 : (List Int) := o21.2.2.1.1
          let u24 : (List ByteArray) := o21.2.2.1.2.1
          let u25 : (List Int) := o21.2.2.2.1
          let u26 : (List ByteArray) := o21.2.2.2.2.1
          (f44 u25).bind fun y27 =>
          bif (!y27.1) then
            some ((⟨#[]⟩ : ByteArray), false, ())
          else
            (f56 (u23, (u26, (u24, ())))).bind fun y28 =>
            some (y28.1, true, ())) (fun o22 =>
          let u29 : ByteArray := o22.1.1
          let u30 : Bool := o22.1.2.1
          some (u29, u30, ())) o20
      else none
def f28_spec : PSpec := { args := [.str, (.pair (.sl (.int .i64)) (.pair (.sl .str) (.pair (.sl .str) .unit))), (.sl (.pair (.int .i64) (.pair .str .unit)))], res := [.str, .bool], fn := fun x => f28 x.1 x.2.1 x.2.2.1 }
noncomputable def f28_code : Code := Go.Proofs.Tryd.f28.body.getD .skip
noncomputable def f28_env : Env0 := { C := cfg, P := [(44, f44_spec), (55, f55_spec), (56, f56_spec)], L := [(⟨12, 0, 28, 11⟩, f28_l11_spec), (⟨12, 0, 28, 7⟩, f28_l7_spec)], F := [(28, Go.Proofs.Tryd.f28)], S := [], R := [] }
theorem f28_l11_ok : LoopOK f28_env 12 28 0 (loopAt f28_code 11) f28_l11_spec :=
  loopOK_of (by kernel_rfl) (fun n x => f28_l11 x.1.1 x.1.2.1 x.2.2.1.1 x.2.2.1.2.1 x.2.2.1.2.2.1 x.2.2.2.1.1 x.2.2.2.1.2.1 x.2.2.2.2.1 n x.1.2.2.1 x.1.2.2.2.1 x.2.2.2.2.2.1) (fun x o h => ⟨_, h⟩) (fun x => by kernel_rfl) (fun n x => by kernel_rfl)
theorem f28_l7_ok : LoopOK f28_env 12 28 0 (loopAt f28_code 7) f28_l7_spec :=
  loopOK_of (by kernel_rfl) (fun n x => f28_l7 n x.1.1 x.1.2.1 x.2.2.1.1 x.2.2.1.2.1 x.2.2.1.2.2.1 x.2.2.2.1.1 x.2.2.2.1.2.1 x.2.2.2.2.1 x.2.2.2.2.2.1) (fun x o h => ⟨_, h⟩) (fun x => by kernel_rfl) (fun n x => by kernel_rfl)
theorem f28_run (x : tysDen (f28_spec).args) : runF f28_env 28 Go.Proofs.Tryd.f28 f28_code (f28_spec).args (f28_spec).res x = f28_spec.fn x := by kernel_rfl
theorem f28_enter : Enterable Go.Proofs.Tryd.prog 28 := enter_fun Go.Proofs.Tryd.func28 (by kernel_rfl)
theorem f28_envOK : EnvOK Go.Proofs.Tryd.prog f28_env := envOK_of cds (by kernel_rfl) cfg_ok ⟨⟨f44_pure, f44_enter⟩, ⟨f55_pure, f55_enter⟩, ⟨f56_pure, f56_enter⟩, trivial⟩ trivial ⟨⟨Go.Proofs.Tryd.func28, by kernel_rfl⟩, trivial⟩ ⟨⟨Go.Proofs.Tryd.f28, f28_code, rfl, rfl, f28_l11_ok⟩, ⟨Go.Proofs.Tryd.f28, f28_code, rfl, rfl, f28_l7_ok⟩, trivial⟩ trivial
theorem f28_pure : PureOK Go.Proofs.Tryd.prog cfg 28 f28_spec := pure_of_run f28_envOK (fn := Go.Proofs.Tryd.f28) (c := f28_code) rfl rfl f28_spec (fun x _ h => (f28_run x).trans h)

def f59_l3_head : Ann := { env := [(0, .ty (.sl .str)), (1, .ty (.sl .str)), (5, .cst (.row 23 .whole)), (6, .ty (.int .i64))], stk := [], bxs := [(23, .row .str false)] }
def f59_l3_outs : List (Ex × Ann) := [((.exit 0), { env := [(0, .ty (.sl .str)), (1, .ty (.sl .str)), (5, .cst (.row 23 .whole))], stk := [], bxs := [(23, .row .str false)] })]
def f59_l3 (t0 : (List ByteArray)) (t1 : (List ByteArray)) : Nat → Int → (List ByteArray) → Option (outDen f59_l3_outs)
  | 0, _, _ => none
  | k + 1, t6, r23 =>
    bif (decide (t6 < (t1.length : Int))) then
      bif (inR t6 t1.length) then
        (f53 (at_ .str t1 t6)).bind fun y1 =>
        bif (decide (r23.length + ([y1.1] : List ByteArray).length ≤ appLim)) then f59_l3 t0 t1 k (IntKind.wrap .i64 (t6 + (1 : Int))) (r23 ++ ([y1.1] : List ByteArray)) else none
      else none
    else
      some ((t0, t1, ()), (), (r23, ()))
def f59_l3_spec : LSpec := { thaws := [.slot 5 23 .str], head := f59_l3_head, outs := f59_l3_outs, fn := fun x => f59_l3 x.1.1 x.1.2.1 (((x.1.2.1.length : Int) - x.1.2.2.1).toNat + 1) x.1.2.2.1 x.2.2.1 }
def f59_l11_head : Ann := { env := [(0, .ty (.sl .str)), (1, .ty (.sl .str)), (5, .cst (.row 23 .whole)), (7, .ty (.int .i64)), (8, .ty .str), (9, .ty (.int .i64))], stk := [], bxs := [(23, .row .str false)] }
def f59_l11_outs : List (Ex × Ann) := [((.exit 4), { env := [(0, .ty (.sl .str)), (1, .ty (.sl .str)), (5, .cst (.row 23 .whole)), (7, .ty (.int .i64))], stk := [], bxs := [(23, .row .str false)] }), (.ret, { env := [(4, .ty .bool)], stk := [], bxs := [] })]
def f59_l11 (t0 : (List ByteArray)) (t1 : (List ByteArray)) (t7 : Int) (t8 : ByteArray) (r23 : (List ByteArray)) : Nat → Int → Option (outDen f59_l11_outs)
  | 0, _ => none
  | k + 1, t9 =>
    bif (decide (t9 < (t1.length : Int))) then
      bif (inR t7 t0.length) then
        bif (inR t9 t1.length) then
          let v7 : Bool := (!(decide ((at_ .str t0 t7) = (at_ .str t1 t9))))
          bif v7 then
            bif (inR t9 r23.length) then
              bif (decide (t8 = (at_ .str r23 t9))) then
                some (.inr ((true, ()), (), ()))
              else
                f59_l11 t0 t1 t7 t8 r23 k (IntKind.wrap .i64 (t9 + (1 : Int)))
            else none
          else
            f59_l11 t0 t1 t7 t8 r23 k (IntKind.wrap .i64 (t9 + (1 : Int)))
        else none
      else none
    else
      some (.inl ((t0, t1, t7, ()), (), (r23, ())))
def f59_l11_spec : LSpec := { thaws := [], head := f59_l11_head, outs := f59_l11_outs, fn := fun x => f59_l11 x.1.1 x.1.2.1 x.1.2.2.1 x.1.2.2.2.1 x.2.2.1 (((x.1.2.1.length : Int) - x.1.2.2.2.2.1).toNat + 1) x.1.2.2.2.2.1 }
def f59_l7_head : Ann := { env := [(0, .ty (.sl .str)), (1, .ty (.sl .str)), (5, .cst (.row 23 .whole)), (7, .ty (.int .i64))], stk := [], bxs := [(23, .row .str false)] }
def f59_l7_outs : List (Ex × Ann) := [((.exit 2), { env := [], stk := [], bxs := [] }), (.ret, { env := [(4, .ty .bool)], stk := [], bxs := [] })]
def f59_l7 : Nat → (List ByteArray) → (List ByteArray) → Int → (List ByteArray) → Option (outDen f59_l7_outs)
  | 0, _, _, _, _ => none
  | k + 1, t0, t1, t7, r23 =>
    bif (decide (t7 < (t0.length : Int))) then
      bif (inR t7 t0.length) then
        (f53 (at_ .str t0 t7)).bind fun y6 =>
        (f59_l11 t0 t1 t7 y6.1 r23 (((t1.length : Int) - (0 : Int)).toNat + 1) (0 : Int)).bind fun o8 =>
        Sum.elim (fun o9 =>
          let u11 : (List ByteArray) := o9.1.1
          let u12 : (List ByteArray) := o9.1.2.1
          let u13 : Int := o9.1.2.2.1
          let u14 : (List ByteArray) := o9.2.2.1
          f59_l7 k u11 u12 (IntKind.wrap .i64 (u13 + (1 : Int))) u14) (fun o10 =>
          let u15 : Bool := o10.1.1
          some (.inr ((u15, ()), (), ()))) o8
      else none
    else
      some (.inl ((), (), ()))
def f59_l7_spec : LSpec := { thaws := [], head := f59_l7_head, outs := f59_l7_outs, fn := fun x => f59_l7 (((x.1.1.length : Int) - x.1.2.2.1).toNat + 1) x.1.1 x.1.2.1 x.1.2.2.1 x.2.2.1 }
def f59 (a0 : (List ByteArray)) (a1 : (List ByteArray)) : Option (Bool × Unit) :=
  (f59_l3 a0 a1 (((a1.length : Int) - (0 : Int)).toNat + 1) (0 : Int) []).bind fun o2 =>
  let u3 : (List ByteArray) := o2.1.1
  let u4 : (List ByteArray) := o2.1.2.1
  let u5 : (List ByteArray) := o2.2.2.1
  (f59_l7 (((u3.length : Int) - (0 : Int)).toNat + 1) u3 u4 (0 : Int) u5).bind fun o16 =>
  Sum.elim (fun o17 =>
    some (false, ())) (fun o18 =>
    let u19 : Bool := o18.1.1
    some (u19, ())) o16
def f59_spec : PSpec := { args := [(.sl .str), (.sl .str)], res := [.bool], fn := fun x => f59 x.1 x.2.1 }
noncomputable def f59_code : Code := Go.Proofs.Tryd.f59.body.getD .skip
noncomputable def f59_env : Env0 := { C := cfg, P := [(53, f53_spec)], L := [(⟨12, 0, 59, 3⟩, f59_l3_spec), (⟨12, 0, 59, 11⟩, f59_l11_spec), (⟨12, 0, 59, 7⟩, f59_l7_spec)], F := [(59, Go.Proofs.Tryd.f59)], S := [], R := [] }
theorem f59_l3_ok : LoopOK f59_env 12 59 0 (loopAt f59_code 3) f59_l3_spec :=
  loopOK_of (by kernel_rfl) (fun n x => f59_l3 x.1.1 x.1.2.1 n x.1.2.2.1 x.2.2.1) (fun x o h => ⟨_, h⟩) (fun x => by kernel_rfl) (fun n x => by kernel_rfl)
theorem f59_l11_ok : LoopOK f59_env 12 59 0 (loopAt f59_code 11) f59_l11_spec :=
  loopOK_of (by kernel_rfl) (fun n x => f59_l11 x.1.1 x.1.2.1 x.1.2.2.1 x.1.2.2.2.1 x.2.2.1 n x.1.2.2.2.2.1) (fun x o h => ⟨_, h⟩) (fun x => by kernel_rfl) (fun n x => by kernel_rfl)
theorem f59_l7_ok : LoopOK f59_env 12 59 0 (loopAt f59_code 7) f59_l7_spec :=
  loopOK_of (by kernel_rfl) (fun n x => f59_l7 n x.1.1 x.1.2.1 x.1.2.2.1 x.2.2.1) (fun x o h => ⟨_, h⟩) (fun x => by kernel_rfl) (fun n x => by kernel_rfl)
theorem f59_run (x : tysDen (f59_spec).args) : runF f59_env 59 Go.Proofs.Tryd.f59 f59_code (f59_spec).args (f59_spec).res x = f59_spec.fn x := by kernel_rfl
theorem f59_enter : Enterable Go.Proofs.Tryd.prog 59 := enter_fun Go.Proofs.Tryd.func59 (by kernel_rfl)
theorem f59_envOK : EnvOK Go.Proofs.Tryd.prog f59_env := envOK_of cds (by kernel_rfl) cfg_ok ⟨⟨f53_pure, f53_enter⟩, trivial⟩ trivial ⟨⟨Go.Proofs.Tryd.func59, by kernel_rfl⟩, trivial⟩ ⟨⟨Go.Proofs.Tryd.f59, f59_code, rfl, rfl, f59_l3_ok⟩, ⟨Go.Proofs.Tryd.f59, f59_code, rfl, rfl, f59_l11_ok⟩, ⟨Go.Proofs.Tryd.f59, f59_code, rfl, rfl, f59_l7_ok⟩, trivial⟩ trivial
theorem f59_pure : PureOK Go.Proofs.Tryd.prog cfg 59 f59_spec := pure_of_run f59_envOK (fn := Go.Proofs.Tryd.f59) (c := f59_code) rfl rfl f59_spec (fun x _ h => (f59_run x).trans h)

def f60_l2_head : Ann := { env := [(0, .ty (.sl .str)), (3, .ty (.int .i64))], stk := [], bxs := [] }
def f60_l2_outs : List (Ex × Ann) := [((.exit 0), { env := [], stk := [], bxs := [] }), (.ret, { env := [(2, .ty .bool)], stk := [], bxs := [] })]
def f60_l2 (t0 : (List ByteArray)) : Nat → Int → Option (outDen f60_l2_outs)
  | 0, _ => none
  | k + 1, t3 =>
    bif (decide (t3 < (t0.length : Int))) then
      bif (inR t3 t0.length) then
        (f53 (at_ .str t0 t3)).bind fun y1 =>
        (f34 ).bind fun y2 =>
        bif (decide (y1.1 = y2.1)) then
          some (.inr ((true, ()), (), ()))
        else
          f60_l2 t0 k (IntKind.wrap .i64 (t3 + (1 : Int)))
      else none
    else
      some (.inl ((), (), ()))
def f60_l2_spec : LSpec := { thaws := [], head := f60_l2_head, outs := f60_l2_outs, fn := fun x => f60_l2 x.1.1 (((x.1.1.length : Int) - x.1.2.1).toNat + 1) x.1.2.1 }
def f60 (a0 : (List ByteArray)) : Option (Bool × Unit) :=
  (f60_l2 a0 (((a0.length : Int) - (0 : Int)).toNat + 1) (0 : Int)).bind fun o3 =>
  Sum.elim (fun o4 =>
    some (false, ())) (fun o5 =>
    let u6 : Bool := o5.1.1
    some (u6, ())) o3
def f60_spec : PSpec := { args := [(.sl .str)], res := [.bool], fn := fun x => f60 x.1 }
noncomputable def f60_code : Code := Go.Proofs.Tryd.f60.body.getD .skip
noncomputable def f60_env : Env0 := { C := cfg, P := [(34, f34_spec), (53, f53_spec)], L := [(⟨12, 0, 60, 2⟩, f60_l2_spec)], F := [(60, Go.Proofs.Tryd.f60)], S := [], R := [] }
theorem f60_l2_ok : LoopOK f60_env 12 60 0 (loopAt f60_code 2) f60_l2_spec :=
  loopOK_of (by kernel_rfl) (fun n x => f60_l2 x.1.1 n x.1.2.1) (fun x o h => ⟨_, h⟩) (fun x => by kernel_rfl) (fun n x => by kernel_rfl)
theorem f60_run (x : tysDen (f60_spec).args) : runF f60_env 60 Go.Proofs.Tryd.f60 f60_code (f60_spec).args (f60_spec).res x = f60_spec.fn x := by kernel_rfl
theorem f60_enter : Enterable Go.Proofs.Tryd.prog 60 := enter_fun Go.Proofs.Tryd.func60 (by kernel_rfl)
theorem f60_envOK : EnvOK Go.Proofs.Tryd.prog f60_env := envOK_of cds (by kernel_rfl) cfg_ok ⟨⟨f34_pure, f34_enter⟩, ⟨f53_pure, f53_enter⟩, trivial⟩ trivial ⟨⟨Go.Proofs.Tryd.func60, by kernel_rfl⟩, trivial⟩ ⟨⟨Go.Proofs.Tryd.f60, f60_code, rfl, rfl, f60_l2_ok⟩, trivial⟩ trivial
theorem f60_pure : PureOK Go.Proofs.Tryd.prog cfg 60 f60_spec := pure_of_run f60_envOK (fn := Go.Proofs.Tryd.f60) (c := f60_code) rfl rfl f60_spec (fun x _ h => (f60_run x).trans h)

def f30 (a0 : (List ByteArray)) (a1 : (List ByteArray)) : Option (Bool × Unit) :=
  (f59 a0 a1).bind fun y1 =>
  bif y1.1 then
    some (true, ())
  else
    (f60 a0).bind fun y2 =>
    bif y2.1 then
      some (true, ())
    else
      (f60 a1).bind fun y3 =>
      some (y3.1, ())
def f30_spec : PSpec := { args := [(.sl .str), (.sl .str)], res := [.bool], fn := fun x => f30 x.1 x.2.1 }
noncomputable def f30_code : Code := Go.Proofs.Tryd.f30.body.getD .skip
noncomputable def f30_env : Env0 := { C := cfg, P := [(59, f59_spec), (60, f60_spec)], L := [], F := [(30, Go.Proofs.Tryd.f30)], S := [], R := [] }
theorem f30_run (x : tysDen (f30_spec).args) : runF f30_env 30 Go.Proofs.Tryd.f30 f30_code (f30_spec).args (f30_spec).res x = f30_spec.fn x := by kernel_rfl
theorem f30_enter : Enterable Go.Proofs.Tryd.prog 30 := enter_fun Go.Proofs.Tryd.func30 (by kernel_rfl)
theorem f30_envOK : EnvOK Go.Proofs.Tryd.prog f30_env := envOK_of cds (by kernel_rfl) cfg_ok ⟨⟨f59_pure, f59_enter⟩, ⟨f60_pure, f60_enter⟩, trivial⟩ trivial ⟨⟨Go.Proofs.Tryd.func30, by kernel_rfl⟩, trivial⟩ trivial trivial
theorem f30_pure : PureOK Go.Proofs.Tryd.prog cfg 30 f30_spec := pure_of_run f30_envOK (fn := Go.Proofs.Tryd.f30) (c := f30_code) rfl rfl f30_spec (fun x _ h => (f30_run x).trans h)

def f31 (a0 : (List (Int × (ByteArray × Unit)))) : Option ((List ByteArray) × Unit) :=
  (f38_go a0 (0 : Int) (64 : Int) []).bind fun y1 =>
  let u2 : ByteArray := y1.1.1
  let u3 : (List ByteArray) := y1.2.1
  some (u3, ())
def f31_spec : PSpec := { args := [(.sl (.pair (.int .i64) (.pair .str .unit)))], res := [(.sl .str)], fn := fun x => f31 x.1 }
noncomputable def f31_code : Code := Go.Proofs.Tryd.f31.body.getD .skip
noncomputable def f31_env : Env0 := { C := cfg, P := [], L := [], F := [(31, Go.Proofs.Tryd.f31)], S := [(38, f38_spec)], R := [] }
theorem f31_run (x : tysDen (f31_spec).args) : runF f31_env 31 Go.Proofs.Tryd.f31 f31_code (f31_spec).args (f31_spec).res x = f31_spec.fn x := by kernel_rfl
theorem f31_enter : Enterable Go.Proofs.Tryd.prog 31 := enter_fun Go.Proofs.Tryd.func31 (by kernel_rfl)
theorem f31_envOK : EnvOK Go.Proofs.Tryd.prog f31_env := envOK_of cds (by kernel_rfl) cfg_ok trivial ⟨⟨f38_call, by kernel_rfl, f38_enter⟩, trivial⟩ ⟨⟨Go.Proofs.Tryd.func31, by kernel_rfl⟩, trivial⟩ trivial trivial
theorem f31_pure : PureOK Go.Proofs.Tryd.prog cfg 31 f31_spec := pure_of_run f31_envOK (fn := Go.Proofs.Tryd.f31) (c := f31_code) rfl rfl f31_spec (fun x _ h => (f31_run x).trans h)

def f32 (a0 : ((List Int) × ((List ByteArray) × ((List ByteArray) × Unit)))) : Option ((List ByteArray) × Unit) :=
  (f55 a0).bind fun y1 =>
  bif (!y1.1) then
    some ([], ())
  else
    (f61_go a0 (0 : Int) (64 : Int) a0.2.2.1 []).bind fun y2 =>
    let u3 : ByteArray := y2.1.1
    let u4 : (List ByteArray) := y2.1.2.1
    let u5 : (List ByteArray) := y2.2.1
    some (u5, ())
def f32_spec : PSpec := { args := [(.pair (.sl (.int .i64)) (.pair (.sl .str) (.pair (.sl .str) .unit)))], res := [(.sl .str)], fn := fun x => f32 x.1 }
noncomputable def f32_code : Code := Go.Proofs.Tryd.f32.body.getD .skip
noncomputable def f32_env : Env0 := { C := cfg, P := [(55, f55_spec)], L := [], F := [(32, Go.Proofs.Tryd.f32)], S := [(61, f61_spec)], R := [] }
theorem f32_run (x : tysDen (f32_spec).args) : runF f32_env 32 Go.Proofs.Tryd.f32 f32_code (f32_spec).args (f32_spec).res x = f32_spec.fn x := by kernel_rfl
theorem f32_enter : Enterable Go.Proofs.Tryd.prog 32 := enter_fun Go.Proofs.Tryd.func32 (by kernel_rfl)
theorem f32_envOK : EnvOK Go.Proofs.Tryd.prog f32_env := envOK_of cds (by kernel_rfl) cfg_ok ⟨⟨f55_pure, f55_enter⟩, trivial⟩ ⟨⟨f61_call, by kernel_rfl, f61_enter⟩, trivial⟩ ⟨⟨Go.Proofs.Tryd.func32, by kernel_rfl⟩, trivial⟩ trivial trivial
theorem f32_pure : PureOK Go.Proofs.Tryd.prog cfg 32 f32_spec := pure_of_run f32_envOK (fn := Go.Proofs.Tryd.f32) (c := f32_code) rfl rfl f32_spec (fun x _ h => (f32_run x).trans h)

end Go.V.G
