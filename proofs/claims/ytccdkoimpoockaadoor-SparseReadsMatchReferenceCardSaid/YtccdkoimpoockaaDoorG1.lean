/- The functions of the program as plain ones: printed. -/
import Derived.Test.YtccdkoimpoockaaDoorCf
import Derived.KernelRfl
set_option linter.all false
set_option linter.unusedVariables false
set_option linter.unusedSectionVars false
set_option linter.unusedSimpArgs false
namespace Go.V.G
def f39 (a0 : (Int × (ByteArray × Unit))) : Option (Bool × Unit) :=
  let v1 : Bool := (decide ((a0.2.1.size : Int) = (0 : Int)))
  bif v1 then
    some (true, ())
  else
    let v2 : Bool := (decide ((a0.2.1.size : Int) > (65536 : Int)))
    some (v2, ())
def f39_spec : PSpec := { args := [(.pair (.int .i64) (.pair .str .unit))], res := [.bool], fn := fun x => f39 x.1 }
noncomputable def f39_code : Code := Go.Proofs.Tryd.f39.body.getD .skip
noncomputable def f39_env : Env0 := { C := cfg, P := [], L := [], F := [(39, Go.Proofs.Tryd.f39)], S := [], R := [] }
theorem f39_run (x : tysDen (f39_spec).args) : runF f39_env 39 Go.Proofs.Tryd.f39 f39_code (f39_spec).args (f39_spec).res x = f39_spec.fn x := by kernel_rfl
theorem f39_enter : Enterable Go.Proofs.Tryd.prog 39 := enter_fun Go.Proofs.Tryd.func39 (by kernel_rfl)
theorem f39_envOK : EnvOK Go.Proofs.Tryd.prog f39_env := envOK_of cds (by kernel_rfl) cfg_ok trivial trivial ⟨⟨Go.Proofs.Tryd.func39, by kernel_rfl⟩, trivial⟩ trivial trivial
theorem f39_pure : PureOK Go.Proofs.Tryd.prog cfg 39 f39_spec := pure_of_run f39_envOK (fn := Go.Proofs.Tryd.f39) (c := f39_code) rfl rfl f39_spec (fun x _ h => (f39_run x).trans h)

def f40_l2_head : Ann := { env := [(0, .ty (.sl (.int .i64))), (5, .ty (.sl (.int .i64))), (6, .ty (.int .i64)), (7, .ty (.int .i64))], stk := [], bxs := [] }
def f40_l2_outs : List (Ex × Ann) := [((.exit 0), { env := [], stk := [], bxs := [] }), (.ret, { env := [(2, .ty .bool)], stk := [], bxs := [] })]
def f40_l2 (t0 : (List Int)) (t5 : (List Int)) (t6 : Int) : Nat → Int → Option (outDen f40_l2_outs)
  | 0, _ => none
  | k + 1, t7 =>
    bif (decide (t7 < t6)) then
      bif (inR t7 t5.length) then
        let v1 : Bool := (decide ((at_ (.int .i64) t5 t7) < (0 : Int)))
        bif v1 then
          some (.inr ((false, ()), (), ()))
        else
          let v2 : Bool := (decide ((at_ (.int .i64) t5 t7) ≥ (64 : Int)))
          bif v2 then
            some (.inr ((false, ()), (), ()))
          else
            bif (decide (t7 > (0 : Int))) then
              bif (inR (IntKind.wrap .i64 (t7 - (1 : Int))) t0.length) then
                let v3 : Int := (at_ (.int .i64) t0 (IntKind.wrap .i64 (t7 - (1 : Int))))
                bif (decide ((at_ (.int .i64) t5 t7) ≤ v3)) then
                  some (.inr ((false, ()), (), ()))
                else
                  f40_l2 t0 t5 t6 k (IntKind.wrap .i64 (t7 + (1 : Int)))
              else none
            else
              f40_l2 t0 t5 t6 k (IntKind.wrap .i64 (t7 + (1 : Int)))
      else none
    else
      some (.inl ((), (), ()))
def f40_l2_spec : LSpec := { thaws := [], head := f40_l2_head, outs := f40_l2_outs, fn := fun x => f40_l2 x.1.1 x.1.2.1 x.1.2.2.1 ((x.1.2.2.1 - x.1.2.2.2.1).toNat + 1) x.1.2.2.2.1 }
def f40 (a0 : (List Int)) : Option (Bool × Unit) :=
  (f40_l2 a0 a0 (a0.length : Int) (((a0.length : Int) - (0 : Int)).toNat + 1) (0 : Int)).bind fun o4 =>
  Sum.elim (fun o5 =>
    some (true, ())) (fun o6 =>
    let u7 : Bool := o6.1.1
    some (u7, ())) o4
def f40_spec : PSpec := { args := [(.sl (.int .i64))], res := [.bool], fn := fun x => f40 x.1 }
noncomputable def f40_code : Code := Go.Proofs.Tryd.f40.body.getD .skip
noncomputable def f40_env : Env0 := { C := cfg, P := [], L := [(⟨12, 0, 40, 2⟩, f40_l2_spec)], F := [(40, Go.Proofs.Tryd.f40)], S := [], R := [] }
theorem f40_l2_ok : LoopOK f40_env 12 40 0 (loopAt f40_code 2) f40_l2_spec :=
  loopOK_of (by kernel_rfl) (fun n x => f40_l2 x.1.1 x.1.2.1 x.1.2.2.1 n x.1.2.2.2.1) (fun x o h => ⟨_, h⟩) (fun x => by kernel_rfl) (fun n x => by kernel_rfl)
theorem f40_run (x : tysDen (f40_spec).args) : runF f40_env 40 Go.Proofs.Tryd.f40 f40_code (f40_spec).args (f40_spec).res x = f40_spec.fn x := by kernel_rfl
theorem f40_enter : Enterable Go.Proofs.Tryd.prog 40 := enter_fun Go.Proofs.Tryd.func40 (by kernel_rfl)
theorem f40_envOK : EnvOK Go.Proofs.Tryd.prog f40_env := envOK_of cds (by kernel_rfl) cfg_ok trivial trivial ⟨⟨Go.Proofs.Tryd.func40, by kernel_rfl⟩, trivial⟩ ⟨⟨Go.Proofs.Tryd.f40, f40_code, rfl, rfl, f40_l2_ok⟩, trivial⟩ trivial
theorem f40_pure : PureOK Go.Proofs.Tryd.prog cfg 40 f40_spec := pure_of_run f40_envOK (fn := Go.Proofs.Tryd.f40) (c := f40_code) rfl rfl f40_spec (fun x _ h => (f40_run x).trans h)

def f42 (a0 : (Int × (ByteArray × Unit))) : Option (Int × Unit) :=
  some (a0.1, ())
def f42_spec : PSpec := { args := [(.pair (.int .i64) (.pair .str .unit))], res := [(.int .i64)], fn := fun x => f42 x.1 }
noncomputable def f42_code : Code := Go.Proofs.Tryd.f42.body.getD .skip
noncomputable def f42_env : Env0 := { C := cfg, P := [], L := [], F := [(42, Go.Proofs.Tryd.f42)], S := [], R := [] }
theorem f42_run (x : tysDen (f42_spec).args) : runF f42_env 42 Go.Proofs.Tryd.f42 f42_code (f42_spec).args (f42_spec).res x = f42_spec.fn x := by kernel_rfl
theorem f42_enter : Enterable Go.Proofs.Tryd.prog 42 := enter_fun Go.Proofs.Tryd.func42 (by kernel_rfl)
theorem f42_envOK : EnvOK Go.Proofs.Tryd.prog f42_env := envOK_of cds (by kernel_rfl) cfg_ok trivial trivial ⟨⟨Go.Proofs.Tryd.func42, by kernel_rfl⟩, trivial⟩ trivial trivial
theorem f42_pure : PureOK Go.Proofs.Tryd.prog cfg 42 f42_spec := pure_of_run f42_envOK (fn := Go.Proofs.Tryd.f42) (c := f42_code) rfl rfl f42_spec (fun x _ h => (f42_run x).trans h)

def f41_l3_b5000_head : Ann := { env := [(1, .cst (.fn 42 [])), (5, .cst (.row 5019 .whole)), (8, .ty (.sl (.pair (.int .i64) (.pair .str .unit)))), (9, .ty (.int .i64)), (10, .ty (.int .i64))], stk := [[(0, .ty (.sl (.pair (.int .i64) (.pair .str .unit)))), (2, .ty .bool), (3, .cst (.fn 39 []))]], bxs := [(5019, .row (.int .i64) false)] }
def f41_l3_b5000_outs : List (Ex × Ann) := [((.exit 0), { env := [(5, .cst (.row 5019 .whole))], stk := [[(0, .ty (.sl (.pair (.int .i64) (.pair .str .unit)))), (2, .ty .bool), (3, .cst (.fn 39 []))]], bxs := [(5019, .row (.int .i64) false)] })]
def f41_l3_b5000 (t8 : (List (Int × (ByteArray × Unit)))) (t9 : Int) (k0t0 : (List (Int × (ByteArray × Unit)))) (k0t2 : Bool) : Nat → Int → (List Int) → Option (outDen f41_l3_b5000_outs)
  | 0, _, _ => none
  | k + 1, t10, r5019 =>
    bif (decide (t10 < t9)) then
      bif (inR t10 t8.length) then
        (f42 (at_ (.pair (.int .i64) (.pair .str .unit)) t8 t10)).bind fun y1 =>
        bif (decide (r5019.length + ([y1.1] : List Int).length ≤ appLim)) then f41_l3_b5000 t8 t9 k0t0 k0t2 k (IntKind.wrap .i64 (t10 + (1 : Int))) (r5019 ++ ([y1.1] : List Int)) else none
      else none
    else
      some ((), ((k0t0, k0t2, ()), ()), (r5019, ()))
def f41_l3_b5000_spec : LSpec := { thaws := [.slot 5 5019 (.int .i64)], head := f41_l3_b5000_head, outs := f41_l3_b5000_outs, fn := fun x => f41_l3_b5000 x.1.1 x.1.2.1 x.2.1.1.1 x.2.1.1.2.1 ((x.1.2.1 - x.1.2.2.1).toNat + 1) x.1.2.2.1 x.2.2.1 }
def f49_l2_b10007000_head : Ann := { env := [(0, .ty (.sl (.pair (.int .i64) (.pair .str .unit)))), (1, .cst (.fn 39 [])), (7, .ty (.int .i64)), (8, .ty (.int .i64))], stk := [[(4, .ty .bool)], [(2, .ty .bool), (7, .ty .bool)]], bxs := [] }
def f49_l2_b10007000_outs : List (Ex × Ann) := [((.exit 0), { env := [], stk := [[(4, .ty .bool)], [(2, .ty .bool), (7, .ty .bool)]], bxs := [] }), (.ret, { env := [(4, .ty (.int .i64))], stk := [[(4, .ty .bool)], [(2, .ty .bool), (7, .ty .bool)]], bxs := [] })]
def f49_l2_b10007000 (t0 : (List (Int × (ByteArray × Unit)))) (t7 : Int) (k0t4 : Bool) (k1t2 : Bool) (k1t7 : Bool) : Nat → Int → Option (outDen f49_l2_b10007000_outs)
  | 0, _ => none
  | k + 1, t8 =>
    bif (decide (t8 < t7)) then
      bif (inR t8 t0.length) then
        (f39 (at_ (.pair (.int .i64) (.pair .str .unit)) t0 t8)).bind fun y7 =>
        bif y7.1 then
          some (.inr ((t8, ()), ((k0t4, ()), (k1t2, k1t7, ()), ()), ()))
        else
          f49_l2_b10007000 t0 t7 k0t4 k1t2 k1t7 k (IntKind.wrap .i64 (t8 + (1 : Int)))
      else none
    else
      some (.inl ((), ((k0t4, ()), (k1t2, k1t7, ()), ()), ()))
def f49_l2_b10007000_spec : LSpec := { thaws := [], head := f49_l2_b10007000_head, outs := f49_l2_b10007000_outs, fn := fun x => f49_l2_b10007000 x.1.1 x.1.2.1 x.2.1.1.1 x.2.1.2.1.1 x.2.1.2.1.2.1 ((x.1.2.1 - x.1.2.2.1).toNat + 1) x.1.2.2.1 }
def f15 (a0 : (List (Int × (ByteArray × Unit)))) : Option (Bool × Unit) :=
  (f41_l3_b5000 a0 (a0.length : Int) a0 false (((a0.length : Int) - (0 : Int)).toNat + 1) (0 : Int) []).bind fun o2 =>
  let u3 : (List (Int × (ByteArray × Unit))) := o2.2.1.1.1
  let u4 : Bool := o2.2.1.1.2.1
  let u5 : (List Int) := o2.2.2.1
  (f40 u5).bind fun y6 =>
  bif y6.1 then
    (f49_l2_b10007000 u3 (u3.length : Int) false u4 true (((u3.length : Int) - (0 : Int)).toNat + 1) (0 : Int)).bind fun o8 =>
    Sum.elim (fun o9 =>
      let u13 : Bool := o9.2.1.2.1.2.1
      bif u13 then
        some (true, ())
      else
        some (false, ())) (fun o10 =>
      let u14 : Int := o10.1.1
      let u17 : Bool := o10.2.1.2.1.2.1
      bif u17 then
        some ((!(decide (u14 ≥ (0 : Int)))), ())
      else
        some (false, ())) o8
  else
    some (false, ())
def f15_spec : PSpec := { args := [(.sl (.pair (.int .i64) (.pair .str .unit)))], res := [.bool], fn := fun x => f15 x.1 }
noncomputable def f15_code : Code := Go.Proofs.Tryd.f15.body.getD .skip
noncomputable def f15_code_41 : Code := Go.Proofs.Tryd.f41.body.getD .skip
noncomputable def f15_code_43 : Code := Go.Proofs.Tryd.f43.body.getD .skip
noncomputable def f15_code_49 : Code := Go.Proofs.Tryd.f49.body.getD .skip
noncomputable def f15_env : Env0 := { C := cfg, P := [(39, f39_spec), (40, f40_spec), (42, f42_spec)], L := [(⟨11, 5000, 41, 3⟩, f41_l3_b5000_spec), (⟨10, 10007000, 49, 2⟩, f49_l2_b10007000_spec)], F := [(15, Go.Proofs.Tryd.f15), (41, Go.Proofs.Tryd.f41), (43, Go.Proofs.Tryd.f43), (49, Go.Proofs.Tryd.f49)], S := [], R := [] }
theorem f41_l3_b5000_ok : LoopOK f15_env 11 41 5000 (loopAt f15_code_41 3) f41_l3_b5000_spec :=
  loopOK_of (by kernel_rfl) (fun n x => f41_l3_b5000 x.1.1 x.1.2.1 x.2.1.1.1 x.2.1.1.2.1 n x.1.2.2.1 x.2.2.1) (fun x o h => ⟨_, h⟩) (fun x => by kernel_rfl) (fun n x => by kernel_rfl)
theorem f49_l2_b10007000_ok : LoopOK f15_env 10 49 10007000 (loopAt f15_code_49 2) f49_l2_b10007000_spec :=
  loopOK_of (by kernel_rfl) (fun n x => f49_l2_b10007000 x.1.1 x.1.2.1 x.2.1.1.1 x.2.1.2.1.1 x.2.1.2.1.2.1 n x.1.2.2.1) (fun x o h => ⟨_, h⟩) (fun x => by kernel_rfl) (fun n x => by kernel_rfl)
theorem f15_run (x : tysDen (f15_spec).args) : runF f15_env 15 Go.Proofs.Tryd.f15 f15_code (f15_spec).args (f15_spec).res x = f15_spec.fn x := by kernel_rfl
theorem f15_enter : Enterable Go.Proofs.Tryd.prog 15 := enter_fun Go.Proofs.Tryd.func15 (by kernel_rfl)
theorem f15_envOK : EnvOK Go.Proofs.Tryd.prog f15_env := envOK_of cds (by kernel_rfl) cfg_ok ⟨⟨f39_pure, f39_enter⟩, ⟨f40_pure, f40_enter⟩, ⟨f42_pure, f42_enter⟩, trivial⟩ trivial ⟨⟨Go.Proofs.Tryd.func15, by kernel_rfl⟩, ⟨Go.Proofs.Tryd.func41, by kernel_rfl⟩, ⟨Go.Proofs.Tryd.func43, by kernel_rfl⟩, ⟨Go.Proofs.Tryd.func49, by kernel_rfl⟩, trivial⟩ ⟨⟨Go.Proofs.Tryd.f41, f15_code_41, rfl, rfl, f41_l3_b5000_ok⟩, ⟨Go.Proofs.Tryd.f49, f15_code_49, rfl, rfl, f49_l2_b10007000_ok⟩, trivial⟩ trivial
theorem f15_pure : PureOK Go.Proofs.Tryd.prog cfg 15 f15_spec := pure_of_run f15_envOK (fn := Go.Proofs.Tryd.f15) (c := f15_code) rfl rfl f15_spec (fun x _ h => (f15_run x).trans h)

def f65  : Option (ByteArray × Unit) :=
  bif (decide (0 ≤ (32 : Int)) && decide ((32 : Int) ≤ (32 : Int)) && decide ((32 : Int) ≤ (appLim : Int))) then
    let v1 : ByteArray := (ofBytes (List.replicate (Int.toNat (32 : Int)) (0 : Int)))
    some (v1, ())
  else none
def f65_spec : PSpec := { args := [], res := [.str], fn := fun x => f65  }
noncomputable def f65_code : Code := Go.Proofs.Tryd.f65.body.getD .skip
noncomputable def f65_env : Env0 := { C := cfg, P := [], L := [], F := [(65, Go.Proofs.Tryd.f65)], S := [], R := [] }
theorem f65_run (x : tysDen (f65_spec).args) : runF f65_env 65 Go.Proofs.Tryd.f65 f65_code (f65_spec).args (f65_spec).res x = f65_spec.fn x := by kernel_rfl
theorem f65_enter : Enterable Go.Proofs.Tryd.prog 65 := enter_fun Go.Proofs.Tryd.func65 (by kernel_rfl)
theorem f65_envOK : EnvOK Go.Proofs.Tryd.prog f65_env := envOK_of cds (by kernel_rfl) cfg_ok trivial trivial ⟨⟨Go.Proofs.Tryd.func65, by kernel_rfl⟩, trivial⟩ trivial trivial
theorem f65_pure : PureOK Go.Proofs.Tryd.prog cfg 65 f65_spec := pure_of_run f65_envOK (fn := Go.Proofs.Tryd.f65) (c := f65_code) rfl rfl f65_spec (fun x _ h => (f65_run x).trans h)

def f90 (a0 : Int) (a1 : Int) : Option (Int × Unit) :=
  let v1 : Int := (andV .u64 (IntKind.wrap .u64 a1) (31 : Int))
  bif (decide (0 ≤ v1)) then
    bif (decide (0 ≤ (IntKind.wrap .u64 ((32 : Int) - v1)))) then
      let v2 : Int := (shrV .u32 a0 (IntKind.wrap .u64 ((32 : Int) - v1)))
      some ((orV .u32 (shlV .u32 a0 v1) v2), ())
    else none
  else none
def f90_spec : PSpec := { args := [(.int .u32), (.int .i64)], res := [(.int .u32)], fn := fun x => f90 x.1 x.2.1 }
noncomputable def f90_code : Code := Go.Proofs.Tryd.f90.body.getD .skip
noncomputable def f90_env : Env0 := { C := cfg, P := [], L := [], F := [(90, Go.Proofs.Tryd.f90)], S := [], R := [] }
theorem f90_run (x : tysDen (f90_spec).args) : runF f90_env 90 Go.Proofs.Tryd.f90 f90_code (f90_spec).args (f90_spec).res x = f90_spec.fn x := by kernel_rfl
theorem f90_enter : Enterable Go.Proofs.Tryd.prog 90 := enter_fun Go.Proofs.Tryd.func90 (by kernel_rfl)
theorem f90_envOK : EnvOK Go.Proofs.Tryd.prog f90_env := envOK_of cds (by kernel_rfl) cfg_ok trivial trivial ⟨⟨Go.Proofs.Tryd.func90, by kernel_rfl⟩, trivial⟩ trivial trivial
theorem f90_pure : PureOK Go.Proofs.Tryd.prog cfg 90 f90_spec := pure_of_run f90_envOK (fn := Go.Proofs.Tryd.f90) (c := f90_code) rfl rfl f90_spec (fun x _ h => (f90_run x).trans h)

def f83_l3_head : Ann := { env := [(0, .ty (.int .u32)), (5, .ty (.int .u32)), (8, .ty (.sl (.int .i64))), (9, .ty (.int .i64)), (10, .ty (.int .i64))], stk := [], bxs := [] }
def f83_l3_outs : List (Ex × Ann) := [((.exit 0), { env := [(5, .ty (.int .u32))], stk := [], bxs := [] })]
def f83_l3 (t0 : Int) (t8 : (List Int)) (t9 : Int) : Nat → Int → Int → Option (outDen f83_l3_outs)
  | 0, _, _ => none
  | k + 1, t5, t10 =>
    bif (decide (t10 < t9)) then
      bif (inR t10 t8.length) then
        let v1 : Int := (IntKind.wrap .i64 (0 - (at_ (.int .i64) t8 t10)))
        (f90 t0 v1).bind fun y2 =>
        f83_l3 t0 t8 t9 k (xorV .u32 t5 y2.1) (IntKind.wrap .i64 (t10 + (1 : Int)))
      else none
    else
      some ((t5, ()), (), ())
def f83_l3_spec : LSpec := { thaws := [], head := f83_l3_head, outs := f83_l3_outs, fn := fun x => f83_l3 x.1.1 x.1.2.2.1 x.1.2.2.2.1 ((x.1.2.2.2.1 - x.1.2.2.2.2.1).toNat + 1) x.1.2.1 x.1.2.2.2.2.1 }
def f83 (a0 : Int) (a1 : (List Int)) : Option (Int × Unit) :=
  (f83_l3 a0 a1 (a1.length : Int) (((a1.length : Int) - (0 : Int)).toNat + 1) (0 : Int) (0 : Int)).bind fun o3 =>
  let u4 : Int := o3.1.1
  some (u4, ())
def f83_spec : PSpec := { args := [(.int .u32), (.sl (.int .i64))], res := [(.int .u32)], fn := fun x => f83 x.1 x.2.1 }
noncomputable def f83_code : Code := Go.Proofs.Tryd.f83.body.getD .skip
noncomputable def f83_env : Env0 := { C := cfg, P := [(90, f90_spec)], L := [(⟨12, 0, 83, 3⟩, f83_l3_spec)], F := [(83, Go.Proofs.Tryd.f83)], S := [], R := [] }
theorem f83_l3_ok : LoopOK f83_env 12 83 0 (loopAt f83_code 3) f83_l3_spec :=
  loopOK_of (by kernel_rfl) (fun n x => f83_l3 x.1.1 x.1.2.2.1 x.1.2.2.2.1 n x.1.2.1 x.1.2.2.2.2.1) (fun x o h => ⟨_, h⟩) (fun x => by kernel_rfl) (fun n x => by kernel_rfl)
theorem f83_run (x : tysDen (f83_spec).args) : runF f83_env 83 Go.Proofs.Tryd.f83 f83_code (f83_spec).args (f83_spec).res x = f83_spec.fn x := by kernel_rfl
theorem f83_enter : Enterable Go.Proofs.Tryd.prog 83 := enter_fun Go.Proofs.Tryd.func83 (by kernel_rfl)
theorem f83_envOK : EnvOK Go.Proofs.Tryd.prog f83_env := envOK_of cds (by kernel_rfl) cfg_ok ⟨⟨f90_pure, f90_enter⟩, trivial⟩ trivial ⟨⟨Go.Proofs.Tryd.func83, by kernel_rfl⟩, trivial⟩ ⟨⟨Go.Proofs.Tryd.f83, f83_code, rfl, rfl, f83_l3_ok⟩, trivial⟩ trivial
theorem f83_pure : PureOK Go.Proofs.Tryd.prog cfg 83 f83_spec := pure_of_run f83_envOK (fn := Go.Proofs.Tryd.f83) (c := f83_code) rfl rfl f83_spec (fun x _ h => (f83_run x).trans h)

def f82_l2_head : Ann := { env := [(0, .ty (.sl (.int .u8))), (2, .cst (.ptr 2 0 [])), (7, .ty (.int .i64))], stk := [], bxs := [(2, .var [.ty (.arr 64 (.int .u32))])] }
def f82_l2_outs : List (Ex × Ann) := [((.exit 0), { env := [(2, .cst (.ptr 2 0 []))], stk := [], bxs := [(2, .var [.ty (.arr 64 (.int .u32))])] })]
def f82_l2 (t0 : (List Int)) : Nat → Int → (List Int) → Option (outDen f82_l2_outs)
  | 0, _, _ => none
  | k + 1, t7, b2g0 =>
    bif (decide (t7 < (16 : Int))) then
      bif (inR (IntKind.wrap .i64 ((4 : Int) * t7)) t0.length) then
        let v1 : Int := (at_ (.int .u8) t0 (IntKind.wrap .i64 ((4 : Int) * t7)))
        let v2 : Int := (shlV .u32 (IntKind.wrap .u32 v1) (24 : Int))
        let v3 : Int := (IntKind.wrap .i64 ((IntKind.wrap .i64 ((4 : Int) * t7)) + (1 : Int)))
        bif (inR v3 t0.length) then
          let v4 : Int := (IntKind.wrap .u32 (at_ (.int .u8) t0 v3))
          let v5 : Int := (IntKind.wrap .i64 ((IntKind.wrap .i64 ((4 : Int) * t7)) + (2 : Int)))
          bif (inR v5 t0.length) then
            let v6 : Int := (IntKind.wrap .u32 (at_ (.int .u8) t0 v5))
            let v7 : Int := (orV .u32 (orV .u32 v2 (shlV .u32 v4 (16 : Int))) (shlV .u32 v6 (8 : Int)))
            let v8 : Int := (IntKind.wrap .i64 ((IntKind.wrap .i64 ((4 : Int) * t7)) + (3 : Int)))
            bif (inR v8 t0.length) then
              let v9 : Int := (IntKind.wrap .u32 (at_ (.int .u8) t0 v8))
              bif (inR t7 64) then f82_l2 t0 k (IntKind.wrap .i64 (t7 + (1 : Int))) (b2g0.set (Int.toNat t7) (orV .u32 v7 v9)) else none
            else none
          else none
        else none
      else none
    else
      some ((), (), ((b2g0, ()), ()))
def f82_l2_spec : LSpec := { thaws := [], head := f82_l2_head, outs := f82_l2_outs, fn := fun x => f82_l2 x.1.1 (((16 : Int) - x.1.2.1).toNat + 1) x.1.2.1 x.2.2.1.1 }
def f82_l7_head : Ann := { env := [(2, .cst (.ptr 2 0 [])), (4, .ty (.int .i64))], stk := [], bxs := [(2, .var [.ty (.arr 64 (.int .u32))])] }
def f82_l7_outs : List (Ex × Ann) := [((.exit 2), { env := [(2, .cst (.ptr 2 0 []))], stk := [], bxs := [(2, .var [.ty (.arr 64 (.int .u32))])] })]
def f82_l7 : Nat → Int → (List Int) → Option (outDen f82_l7_outs)
  | 0, _, _ => none
  | k + 1, t4, b2g0 =>
    bif (decide (t4 < (64 : Int))) then
      bif (inR (IntKind.wrap .i64 (t4 - (15 : Int))) 64) then
        let v12 : Int := (at_ (.int .u32) b2g0 (IntKind.wrap .i64 (t4 - (15 : Int))))
        bif (inR (IntKind.wrap .i64 (t4 - (2 : Int))) 64) then
          let v13 : Int := (at_ (.int .u32) b2g0 (IntKind.wrap .i64 (t4 - (2 : Int))))
          bif (inR (IntKind.wrap .i64 (t4 - (16 : Int))) 64) then
            let v14 : Int := (at_ (.int .u32) b2g0 (IntKind.wrap .i64 (t4 - (16 : Int))))
            (f83 v12 ([(7 : Int), (18 : Int)] : List Int)).bind fun y15 =>
            let v16 : Int := (xorV .u32 y15.1 (shrV .u32 v12 (3 : Int)))
            bif (inR (IntKind.wrap .i64 (t4 - (7 : Int))) 64) then
              let v17 : Int := (at_ (.int .u32) b2g0 (IntKind.wrap .i64 (t4 - (7 : Int))))
              let v18 : Int := (IntKind.wrap .u32 ((IntKind.wrap .u32 (v14 + v16)) + v17))
              (f83 v13 ([(17 : Int), (19 : Int)] : List Int)).bind fun y19 =>
              let v20 : Int := (xorV .u32 y19.1 (shrV .u32 v13 (10 : Int)))
              bif (inR t4 64) then f82_l7 k (IntKind.wrap .i64 (t4 + (1 : Int))) (b2g0.set (Int.toNat t4) (IntKind.wrap .u32 (v18 + v20))) else none
            else none
          else none
        else none
      else none
    else
      some ((), (), ((b2g0, ()), ()))
def f82_l7_spec : LSpec := { thaws := [], head := f82_l7_head, outs := f82_l7_outs, fn := fun x => f82_l7 (((64 : Int) - x.1.1).toNat + 1) x.1.1 x.2.2.1.1 }
def f82 (a0 : (List Int)) : Option ((List Int) × Unit) :=
  (f82_l2 a0 (((16 : Int) - (0 : Int)).toNat + 1) (0 : Int) (List.replicate 64 (0 : Int))).bind fun o10 =>
  let u11 : (List Int) := o10.2.2.1.1
  (f82_l7 (((64 : Int) - (16 : Int)).toNat + 1) (16 : Int) u11).bind fun o21 =>
  let u22 : (List Int) := o21.2.2.1.1
  some (u22, ())
def f82_spec : PSpec := { args := [(.sl (.int .u8))], res := [(.arr 64 (.int .u32))], fn := fun x => f82 x.1 }
noncomputable def f82_code : Code := Go.Proofs.Tryd.f82.body.getD .skip
noncomputable def f82_env : Env0 := { C := cfg, P := [(83, f83_spec)], L := [(⟨12, 0, 82, 2⟩, f82_l2_spec), (⟨12, 0, 82, 7⟩, f82_l7_spec)], F := [(82, Go.Proofs.Tryd.f82)], S := [], R := [] }
theorem f82_l2_ok : LoopOK f82_env 12 82 0 (loopAt f82_code 2) f82_l2_spec :=
  loopOK_of (by kernel_rfl) (fun n x => f82_l2 x.1.1 n x.1.2.1 x.2.2.1.1) (fun x o h => ⟨_, h⟩) (fun x => by kernel_rfl) (fun n x => by kernel_rfl)
theorem f82_l7_ok : LoopOK f82_env 12 82 0 (loopAt f82_code 7) f82_l7_spec :=
  loopOK_of (by kernel_rfl) (fun n x => f82_l7 n x.1.1 x.2.2.1.1) (fun x o h => ⟨_, h⟩) (fun x => by kernel_rfl) (fun n x => by kernel_rfl)
theorem f82_run (x : tysDen (f82_spec).args) : runF f82_env 82 Go.Proofs.Tryd.f82 f82_code (f82_spec).args (f82_spec).res x = f82_spec.fn x := by kernel_rfl
theorem f82_enter : Enterable Go.Proofs.Tryd.prog 82 := enter_fun Go.Proofs.Tryd.func82 (by kernel_rfl)
theorem f82_envOK : EnvOK Go.Proofs.Tryd.prog f82_env := envOK_of cds (by kernel_rfl) cfg_ok ⟨⟨f83_pure, f83_enter⟩, trivial⟩ trivial ⟨⟨Go.Proofs.Tryd.func82, by kernel_rfl⟩, trivial⟩ ⟨⟨Go.Proofs.Tryd.f82, f82_code, rfl, rfl, f82_l2_ok⟩, ⟨Go.Proofs.Tryd.f82, f82_code, rfl, rfl, f82_l7_ok⟩, trivial⟩ trivial
theorem f82_pure : PureOK Go.Proofs.Tryd.prog cfg 82 f82_spec := pure_of_run f82_envOK (fn := Go.Proofs.Tryd.f82) (c := f82_code) rfl rfl f82_spec (fun x _ h => (f82_run x).trans h)

def f63_l3_head : Ann := { env := [(0, .cst (.ptr 3 0 [])), (4, .cst (.ptr 4 0 [])), (5, .cst (.ptr 5 0 [])), (18, .ty (.arr 64 (.int .u32))), (19, .ty (.int .i64))], stk := [[(0, .cst (.ptr 3 0 []))]], bxs := [(3, .var [.ty (.arr 8 (.int .u32))]), (4, .var [.ty (.arr 64 (.int .u32))]), (5, .var [.ty (.arr 8 (.int .u32))])] }
def f63_l3_outs : List (Ex × Ann) := [((.exit 0), { env := [(0, .cst (.ptr 3 0 [])), (5, .cst (.ptr 5 0 []))], stk := [[(0, .cst (.ptr 3 0 []))]], bxs := [(3, .var [.ty (.arr 8 (.int .u32))]), (5, .var [.ty (.arr 8 (.int .u32))])] })]
def f63_l3 (t18 : (List Int)) (b3g0 : (List Int)) (b4g0 : (List Int)) : Nat → Int → (List Int) → Option (outDen f63_l3_outs)
  | 0, _, _ => none
  | k + 1, t19, b5g0 =>
    bif (decide (t19 < (64 : Int))) then
      bif (inR t19 64) then
        bif (inR (0 : Int) 8) then
          bif (inR (4 : Int) 8) then
            bif (inR (7 : Int) 8) then
              (f83 (at_ (.int .u32) b5g0 (4 : Int)) ([(6 : Int), (11 : Int), (25 : Int)] : List Int)).bind fun y2 =>
              let v3 : Int := (IntKind.wrap .u32 ((at_ (.int .u32) b5g0 (7 : Int)) + y2.1))
              bif (inR (5 : Int) 8) then
                let v4 : Int := (andV .u32 (at_ (.int .u32) b5g0 (4 : Int)) (at_ (.int .u32) b5g0 (5 : Int)))
                let v5 : Int := (xorV .u32 (if IntKind.signed .u32 then -1 else IntKind.max .u32) (at_ (.int .u32) b5g0 (4 : Int)))
                bif (inR (6 : Int) 8) then
                  let v6 : Int := (andV .u32 v5 (at_ (.int .u32) b5g0 (6 : Int)))
                  let v7 : Int := (IntKind.wrap .u32 (v3 + (xorV .u32 v4 v6)))
                  let v8 : Int := (IntKind.wrap .u32 (v7 + (at_ (.int .u32) t18 t19)))
                  bif (inR t19 64) then
                    let v9 : Int := (IntKind.wrap .u32 (v8 + (at_ (.int .u32) b4g0 t19)))
                    (f83 (at_ (.int .u32) b5g0 (0 : Int)) ([(2 : Int), (13 : Int), (22 : Int)] : List Int)).bind fun y10 =>
                    bif (inR (1 : Int) 8) then
                      let v11 : Int := (andV .u32 (at_ (.int .u32) b5g0 (0 : Int)) (at_ (.int .u32) b5g0 (1 : Int)))
                      bif (inR (2 : Int) 8) then
                        let v12 : Int := (andV .u32 (at_ (.int .u32) b5g0 (0 : Int)) (at_ (.int .u32) b5g0 (2 : Int)))
                        bif (inR (1 : Int) 8) then
                          bif (inR (2 : Int) 8) then
                            let v13 : Int := (andV .u32 (at_ (.int .u32) b5g0 (1 : Int)) (at_ (.int .u32) b5g0 (2 : Int)))
                            let v14 : Int := (IntKind.wrap .u32 (y10.1 + (xorV .u32 (xorV .u32 v11 v12) v13)))
                            bif (cutOk 8 (some (1 : Int)) none) then
                              bif (cutOk 8 none (some (7 : Int))) then
                                let v15 : Int := (((((b5g0.drop 0).take (cutLen 8 none (some (7 : Int)))).take (cutLen 8 (some (1 : Int)) none)).length : Nat) : Int)
                                bif (inR (4 : Int) 8) then
                                  let v16 : Int := (at_ (.int .u32) (setRange b5g0 (Int.toNat (1 : Int)) (((b5g0.drop 0).take (cutLen 8 none (some (7 : Int)))).take (cutLen 8 (some (1 : Int)) none))) (4 : Int))
                                  bif (inR (0 : Int) 8) then bif (inR (4 : Int) 8) then f63_l3 t18 b3g0 b4g0 k (IntKind.wrap .i64 (t19 + (1 : Int))) (((setRange b5g0 (Int.toNat (1 : Int)) (((b5g0.drop 0).take (cutLen 8 none (some (7 : Int)))).take (cutLen 8 (some (1 : Int)) none))).set (Int.toNat (0 : Int)) (IntKind.wrap .u32 (v9 + v14))).set (Int.toNat (4 : Int)) (IntKind.wrap .u32 (v16 + v9))) else none else none
                                else none
                              else none
                            else none
                          else none
                        else none
                      else none
                    else none
                  else none
                else none
              else none
            else none
          else none
        else none
      else none
    else
      some ((), ((), ()), ((b3g0, ()), (b5g0, ()), ()))
def f63_l3_spec : LSpec := { thaws := [], head := f63_l3_head, outs := f63_l3_outs, fn := fun x => f63_l3 x.1.1 x.2.2.1.1 x.2.2.2.1.1 (((64 : Int) - x.1.2.1).toNat + 1) x.1.2.1 x.2.2.2.2.1.1 }
def f63_l12_head : Ann := { env := [(0, .cst (.ptr 3 0 [])), (5, .cst (.ptr 5 0 [])), (82, .ty (.int .i64))], stk := [[(0, .cst (.ptr 3 0 []))]], bxs := [(3, .var [.ty (.arr 8 (.int .u32))]), (5, .var [.ty (.arr 8 (.int .u32))])] }
def f63_l12_outs : List (Ex × Ann) := [((.exit 2), { env := [], stk := [[(0, .cst (.ptr 3 0 []))]], bxs := [(3, .var [.ty (.arr 8 (.int .u32))])] })]
def f63_l12 (b5g0 : (List Int)) : Nat → Int → (List Int) → Option (outDen f63_l12_outs)
  | 0, _, _ => none
  | k + 1, t82, b3g0 =>
    bif (decide (t82 < (8 : Int))) then
      bif (inR t82 8) then
        bif (inR t82 8) then
          let v20 : Int := (IntKind.wrap .u32 ((at_ (.int .u32) b3g0 t82) + (at_ (.int .u32) b5g0 t82)))
          bif (inR t82 8) then f63_l12 b5g0 k (IntKind.wrap .i64 (t82 + (1 : Int))) (b3g0.set (Int.toNat t82) v20) else none
        else none
      else none
    else
      some ((), ((), ()), ((b3g0, ()), ()))
def f63_l12_spec : LSpec := { thaws := [], head := f63_l12_head, outs := f63_l12_outs, fn := fun x => f63_l12 x.2.2.2.1.1 (((8 : Int) - x.1.1).toNat + 1) x.1.1 x.2.2.1.1 }
abbrev f63_res : List Sh := []
abbrev f63_outs : List (Nat × BSh) := [(3, .var [.ty (.arr 8 (.int .u32))])]
def f63 (t1 : (List Int)) (b3g0 : (List Int)) : Option (shDen f63_res × bxsDen f63_outs) :=
  (f82 t1).bind fun y1 =>
  (f63_l3 roundTable b3g0 y1.1 (((64 : Int) - (0 : Int)).toNat + 1) (0 : Int) b3g0).bind fun o17 =>
  let u18 : (List Int) := o17.2.2.1.1
  let u19 : (List Int) := o17.2.2.2.1.1
  (f63_l12 u19 (((8 : Int) - (0 : Int)).toNat + 1) (0 : Int) u18).bind fun o21 =>
  let u22 : (List Int) := o21.2.2.1.1
  some ((), ((u22, ()), ()))
def f63_spec : CSpec := { thaws := [], args := [(0, .cst (.ptr 3 0 [])), (1, .ty (.sl (.int .u8)))], ins := [(3, .var [.ty (.arr 8 (.int .u32))])], res := f63_res, outs := f63_outs, fn := fun x => f63 x.1.1 x.2.1.1 }
noncomputable def f63_code : Code := Go.Proofs.Tryd.f63.body.getD .skip
noncomputable def f63_env : Env0 := { C := cfg, P := [(82, f82_spec), (83, f83_spec)], L := [(⟨12, 0, 63, 3⟩, f63_l3_spec), (⟨12, 0, 63, 12⟩, f63_l12_spec)], F := [(63, Go.Proofs.Tryd.f63)], S := [], R := [] }
theorem f63_l3_ok : LoopOK f63_env 12 63 0 (loopAt f63_code 3) f63_l3_spec :=
  loopOK_of (by kernel_rfl) (fun n x => f63_l3 x.1.1 x.2.2.1.1 x.2.2.2.1.1 n x.1.2.1 x.2.2.2.2.1.1) (fun x o h => ⟨_, h⟩) (fun x => by kernel_rfl) (fun n x => by kernel_rfl)
theorem f63_l12_ok : LoopOK f63_env 12 63 0 (loopAt f63_code 12) f63_l12_spec :=
  loopOK_of (by kernel_rfl) (fun n x => f63_l12 x.2.2.2.1.1 n x.1.1 x.2.2.1.1) (fun x o h => ⟨_, h⟩) (fun x => by kernel_rfl) (fun n x => by kernel_rfl)
theorem f63_run (x : envDen (f63_spec).args × bxsDen (f63_spec).ins) : runS f63_env 63 Go.Proofs.Tryd.f63 f63_code (f63_spec) x = (f63_spec).fn x := by kernel_rfl
theorem f63_enter : Enterable Go.Proofs.Tryd.prog 63 := enter_fun Go.Proofs.Tryd.func63 (by kernel_rfl)
theorem f63_envOK : EnvOK Go.Proofs.Tryd.prog f63_env := envOK_of cds (by kernel_rfl) cfg_ok ⟨⟨f82_pure, f82_enter⟩, ⟨f83_pure, f83_enter⟩, trivial⟩ trivial ⟨⟨Go.Proofs.Tryd.func63, by kernel_rfl⟩, trivial⟩ ⟨⟨Go.Proofs.Tryd.f63, f63_code, rfl, rfl, f63_l3_ok⟩, ⟨Go.Proofs.Tryd.f63, f63_code, rfl, rfl, f63_l12_ok⟩, trivial⟩ trivial
theorem f63_call : CallOK Go.Proofs.Tryd.prog cfg 63 f63_spec := call_of_run f63_envOK (fn := Go.Proofs.Tryd.f63) (c := f63_code) rfl rfl f63_spec (by kernel_rfl) (fun x _ h => (f63_run x).trans h)

def f64_l6_head : Ann := { env := [(3, .cst (.ptr 3 0 [])), (4, .ty (.int .i64)), (5, .ty (.int .u32)), (7, .ty (.arr 8 (.int .u32))), (8, .ty (.int .i64)), (12, .ty (.int .i64))], stk := [], bxs := [(3, .var [.ty (.arr 32 (.int .u8))])] }
def f64_l6_outs : List (Ex × Ann) := [((.exit 2), { env := [(3, .cst (.ptr 3 0 [])), (7, .ty (.arr 8 (.int .u32))), (8, .ty (.int .i64))], stk := [], bxs := [(3, .var [.ty (.arr 32 (.int .u8))])] })]
def f64_l6 (t4 : Int) (t5 : Int) (t7 : (List Int)) (t8 : Int) : Nat → Int → (List Int) → Option (outDen f64_l6_outs)
  | 0, _, _ => none
  | k + 1, t12, b3g0 =>
    bif (decide (t12 < (4 : Int))) then
      let v1 : Int := (IntKind.wrap .i64 ((IntKind.wrap .i64 ((4 : Int) * t4)) + t12))
      let v2 : Int := (IntKind.wrap .i64 ((24 : Int) - (IntKind.wrap .i64 ((8 : Int) * t12))))
      bif (decide (0 ≤ v2)) then bif (inR v1 32) then f64_l6 t4 t5 t7 t8 k (IntKind.wrap .i64 (t12 + (1 : Int))) (b3g0.set (Int.toNat v1) (IntKind.wrap .u8 (shrV .u32 t5 v2))) else none else none
    else
      some ((t7, t8, ()), (), ((b3g0, ()), ()))
def f64_l6_spec : LSpec := { thaws := [], head := f64_l6_head, outs := f64_l6_outs, fn := fun x => f64_l6 x.1.1 x.1.2.1 x.1.2.2.1 x.1.2.2.2.1 (((4 : Int) - x.1.2.2.2.2.1).toNat + 1) x.1.2.2.2.2.1 x.2.2.1.1 }
def f64_l3_head : Ann := { env := [(3, .cst (.ptr 3 0 [])), (7, .ty (.arr 8 (.int .u32))), (8, .ty (.int .i64))], stk := [], bxs := [(3, .var [.ty (.arr 32 (.int .u8))])] }
def f64_l3_outs : List (Ex × Ann) := [((.exit 0), { env := [(3, .cst (.ptr 3 0 []))], stk := [], bxs := [(3, .var [.ty (.arr 32 (.int .u8))])] })]
def f64_l3 : Nat → (List Int) → Int → (List Int) → Option (outDen f64_l3_outs)
  | 0, _, _, _ => none
  | k + 1, t7, t8, b3g0 =>
    bif (decide (t8 < (8 : Int))) then
      bif (inR t8 8) then
        (f64_l6 t8 (at_ (.int .u32) t7 t8) t7 t8 (((4 : Int) - (0 : Int)).toNat + 1) (0 : Int) b3g0).bind fun o3 =>
        let u4 : (List Int) := o3.1.1
        let u5 : Int := o3.1.2.1
        let u6 : (List Int) := o3.2.2.1.1
        f64_l3 k u4 (IntKind.wrap .i64 (u5 + (1 : Int))) u6
      else none
    else
      some ((), (), ((b3g0, ()), ()))
def f64_l3_spec : LSpec := { thaws := [], head := f64_l3_head, outs := f64_l3_outs, fn := fun x => f64_l3 (((8 : Int) - x.1.2.1).toNat + 1) x.1.1 x.1.2.1 x.2.2.1.1 }
def f64 (a0 : (List Int)) : Option (ByteArray × Unit) :=
  (f64_l3 (((8 : Int) - (0 : Int)).toNat + 1) a0 (0 : Int) (List.replicate 32 (0 : Int))).bind fun o7 =>
  let u8 : (List Int) := o7.2.2.1.1
  let v9 : ByteArray := (ofBytes ((u8.drop 0).take (cutLen 32 none none)))
  some (v9, ())
def f64_spec : PSpec := { args := [(.arr 8 (.int .u32))], res := [.str], fn := fun x => f64 x.1 }
noncomputable def f64_code : Code := Go.Proofs.Tryd.f64.body.getD .skip
noncomputable def f64_env : Env0 := { C := cfg, P := [], L := [(⟨12, 0, 64, 6⟩, f64_l6_spec), (⟨12, 0, 64, 3⟩, f64_l3_spec)], F := [(64, Go.Proofs.Tryd.f64)], S := [], R := [] }
theorem f64_l6_ok : LoopOK f64_env 12 64 0 (loopAt f64_code 6) f64_l6_spec :=
  loopOK_of (by kernel_rfl) (fun n x => f64_l6 x.1.1 x.1.2.1 x.1.2.2.1 x.1.2.2.2.1 n x.1.2.2.2.2.1 x.2.2.1.1) (fun x o h => ⟨_, h⟩) (fun x => by kernel_rfl) (fun n x => by kernel_rfl)
theorem f64_l3_ok : LoopOK f64_env 12 64 0 (loopAt f64_code 3) f64_l3_spec :=
  loopOK_of (by kernel_rfl) (fun n x => f64_l3 n x.1.1 x.1.2.1 x.2.2.1.1) (fun x o h => ⟨_, h⟩) (fun x => by kernel_rfl) (fun n x => by kernel_rfl)
theorem f64_run (x : tysDen (f64_spec).args) : runF f64_env 64 Go.Proofs.Tryd.f64 f64_code (f64_spec).args (f64_spec).res x = f64_spec.fn x := by kernel_rfl
theorem f64_enter : Enterable Go.Proofs.Tryd.prog 64 := enter_fun Go.Proofs.Tryd.func64 (by kernel_rfl)
theorem f64_envOK : EnvOK Go.Proofs.Tryd.prog f64_env := envOK_of cds (by kernel_rfl) cfg_ok trivial trivial ⟨⟨Go.Proofs.Tryd.func64, by kernel_rfl⟩, trivial⟩ ⟨⟨Go.Proofs.Tryd.f64, f64_code, rfl, rfl, f64_l6_ok⟩, ⟨Go.Proofs.Tryd.f64, f64_code, rfl, rfl, f64_l3_ok⟩, trivial⟩ trivial
theorem f64_pure : PureOK Go.Proofs.Tryd.prog cfg 64 f64_spec := pure_of_run f64_envOK (fn := Go.Proofs.Tryd.f64) (c := f64_code) rfl rfl f64_spec (fun x _ h => (f64_run x).trans h)

def f35_l3_head : Ann := { env := [(0, .ty .str), (3, .cst (.ptr 3 0 [])), (4, .cst (.row 9 .whole))], stk := [], bxs := [(3, .var [.ty (.arr 8 (.int .u32))]), (9, .row (.int .u8) false)] }
def f35_l3_outs : List (Ex × Ann) := [((.exit 0), { env := [(0, .ty .str), (3, .cst (.ptr 3 0 [])), (4, .cst (.row 9 .whole))], stk := [], bxs := [(3, .var [.ty (.arr 8 (.int .u32))]), (9, .row (.int .u8) false)] })]
def f35_l3 (t0 : ByteArray) (b3g0 : (List Int)) : Nat → (List Int) → Option (outDen f35_l3_outs)
  | 0, _ => none
  | k + 1, r9 =>
    let v2 : Bool := (decide ((Int.tmod (r9.length : Int) (64 : Int)) ≠ (56 : Int)))
    bif v2 then
      bif (decide (r9.length + ([(0 : Int)] : List Int).length ≤ appLim)) then f35_l3 t0 b3g0 k (r9 ++ ([(0 : Int)] : List Int)) else none
    else
      some ((t0, ()), (), ((b3g0, ()), r9, ()))
def f35_l3_spec : LSpec := { thaws := [], head := f35_l3_head, outs := f35_l3_outs, fn := fun x => f35_l3 x.1.1 x.2.2.1.1 ((64 : Nat)) x.2.2.2.1 }
def f35_l6_head : Ann := { env := [(0, .ty .str), (3, .cst (.ptr 3 0 [])), (4, .cst (.row 9 .whole)), (5, .ty (.int .i64))], stk := [], bxs := [(3, .var [.ty (.arr 8 (.int .u32))]), (9, .row (.int .u8) false)] }
def f35_l6_outs : List (Ex × Ann) := [((.exit 2), { env := [(3, .cst (.ptr 3 0 [])), (4, .cst (.row 9 .whole))], stk := [], bxs := [(3, .var [.ty (.arr 8 (.int .u32))]), (9, .row (.int .u8) false)] })]
def f35_l6 (t0 : ByteArray) (b3g0 : (List Int)) : Nat → Int → (List Int) → Option (outDen f35_l6_outs)
  | 0, _, _ => none
  | k + 1, t5, r9 =>
    bif (decide (t5 ≥ (0 : Int))) then
      let v7 : Int := (IntKind.wrap .i64 ((8 : Int) * (t0.size : Int)))
      bif (decide (0 ≤ (IntKind.wrap .i64 ((8 : Int) * t5)))) then
        let v8 : Int := (shrV .i64 v7 (IntKind.wrap .i64 ((8 : Int) * t5)))
        bif (decide (r9.length + ([(IntKind.wrap .u8 v8)] : List Int).length ≤ appLim)) then f35_l6 t0 b3g0 k (IntKind.wrap .i64 (t5 - (1 : Int))) (r9 ++ ([(IntKind.wrap .u8 v8)] : List Int)) else none
      else none
    else
      some ((), (), ((b3g0, ()), r9, ()))
def f35_l6_spec : LSpec := { thaws := [], head := f35_l6_head, outs := f35_l6_outs, fn := fun x => f35_l6 x.1.1 x.2.2.1.1 ((x.1.2.1 + 1).toNat + 1) x.1.2.1 x.2.2.2.1 }
def f81_l1_b910000_head : Ann := { env := [(0, .cst (.yld 910)), (1, .cst (.ptr 34002 0 [])), (2, .cst (.ptr 34003 0 [])), (4, .ty (.int .i64))], stk := [[(0, .cst (.yld 910))], [(3, .cst (.ptr 3 0 []))]], bxs := [(910, .loop false 35 10 [(3, .cst (.ptr 3 0 []))]), (34002, .var [.ty (.sl (.int .u8))]), (34003, .var [.ty (.int .i64)]), (3, .var [.ty (.arr 8 (.int .u32))])] }
def f81_l1_b910000_outs : List (Ex × Ann) := [((.exit 0), { env := [], stk := [[(0, .cst (.yld 910))], [(3, .cst (.ptr 3 0 []))]], bxs := [(910, .loop false 35 10 [(3, .cst (.ptr 3 0 []))]), (3, .var [.ty (.arr 8 (.int .u32))])] })]
def f81_l1_b910000 (b34002g0 : (List Int)) (b34003g0 : Int) : Nat → Int → (List Int) → Option (outDen f81_l1_b910000_outs)
  | 0, _, _ => none
  | k + 1, t4, b3g0 =>
    bif (decide (t4 < (b34002g0.length : Int))) then
      bif (cutOk b34002g0.length (some t4) none) then
        let v12 : Int := ((b34002g0.drop (Int.toNat t4)).length : Int)
        let v13 : Int := (if v12 < b34003g0 then v12 else b34003g0)
        bif ((cutOk b34002g0.length (some t4) (some (IntKind.wrap .i64 (t4 + v13)))) && decide ((IntKind.wrap .i64 (t4 + v13)) = (IntKind.wrap .i64 (t4 + v13)))) then
          let v14 : (List Int) := ((b34002g0.take (Int.toNat (IntKind.wrap .i64 (t4 + v13)))).drop (Int.toNat t4))
          (f63 v14 b3g0).bind fun y15 =>
          let u16 : (List Int) := y15.2.1.1
          f81_l1_b910000 b34002g0 b34003g0 k (IntKind.wrap .i64 (t4 + b34003g0)) u16
        else none
      else none
    else
      some ((), ((), (), ()), ((), (b3g0, ()), ()))
def f81_l1_b910000_spec : LSpec := { thaws := [], head := f81_l1_b910000_head, outs := f81_l1_b910000_outs, fn := fun x => f81_l1_b910000 x.2.2.2.1.1 x.2.2.2.2.1.1 (((x.2.2.2.1.1.length : Int) - x.1.1).toNat + 1) x.1.1 x.2.2.2.2.2.1.1 }
def f35 (a0 : ByteArray) : Option (ByteArray × Unit) :=
  let v1 : (List Int) := ([(1779033703 : Int), (3144134277 : Int), (1013904242 : Int), (2773480762 : Int), (1359893119 : Int), (2600822924 : Int), (528734635 : Int), (1541459225 : Int)] : List Int)
  bif (decide ((toBytes a0).length + ([(128 : Int)] : List Int).length ≤ appLim)) then
    (f35_l3 a0 v1 ((64 : Nat)) ((toBytes a0) ++ ([(128 : Int)] : List Int))).bind fun o3 =>
    let u4 : ByteArray := o3.1.1
    let u5 : (List Int) := o3.2.2.1.1
    let u6 : (List Int) := o3.2.2.2.1
    (f35_l6 u4 u5 (((7 : Int) + 1).toNat + 1) (7 : Int) u6).bind fun o9 =>
    let u10 : (List Int) := o9.2.2.1.1
    let u11 : (List Int) := o9.2.2.2.1
    (f81_l1_b910000 u11 (64 : Int) (((u11.length : Int) - (0 : Int)).toNat + 1) (0 : Int) u10).bind fun o17 =>
    let u18 : (List Int) := o17.2.2.2.1.1
    (f64 u18).bind fun y19 =>
    some (y19.1, ())
  else none
def f35_spec : PSpec := { args := [.str], res := [.str], fn := fun x => f35 x.1 }
noncomputable def f35_code : Code := Go.Proofs.Tryd.f35.body.getD .skip
noncomputable def f35_code_62 : Code := Go.Proofs.Tryd.f62.body.getD .skip
noncomputable def f35_code_81 : Code := Go.Proofs.Tryd.f81.body.getD .skip
noncomputable def f35_env : Env0 := { C := cfg, P := [(64, f64_spec)], L := [(⟨12, 0, 35, 3⟩, f35_l3_spec), (⟨12, 0, 35, 6⟩, f35_l6_spec), (⟨11, 910000, 81, 1⟩, f81_l1_b910000_spec)], F := [(35, Go.Proofs.Tryd.f35), (62, Go.Proofs.Tryd.f62), (81, Go.Proofs.Tryd.f81)], S := [(63, f63_spec)], R := [] }
theorem f35_l3_ok : LoopOK f35_env 12 35 0 (loopAt f35_code 3) f35_l3_spec :=
  loopOK_of (by kernel_rfl) (fun n x => f35_l3 x.1.1 x.2.2.1.1 n x.2.2.2.1) (fun x o h => ⟨_, h⟩) (fun x => by kernel_rfl) (fun n x => by kernel_rfl)
theorem f35_l6_ok : LoopOK f35_env 12 35 0 (loopAt f35_code 6) f35_l6_spec :=
  loopOK_of (by kernel_rfl) (fun n x => f35_l6 x.1.1 x.2.2.1.1 n x.1.2.1 x.2.2.2.1) (fun x o h => ⟨_, h⟩) (fun x => by kernel_rfl) (fun n x => by kernel_rfl)
theorem f81_l1_b910000_ok : LoopOK f35_env 11 81 910000 (loopAt f35_code_81 1) f81_l1_b910000_spec :=
  loopOK_of (by kernel_rfl) (fun n x => f81_l1_b910000 x.2.2.2.1.1 x.2.2.2.2.1.1 n x.1.1 x.2.2.2.2.2.1.1) (fun x o h => ⟨_, h⟩) (fun x => by kernel_rfl) (fun n x => by kernel_rfl)
theorem f35_run (x : tysDen (f35_spec).args) : runF f35_env 35 Go.Proofs.Tryd.f35 f35_code (f35_spec).args (f35_spec).res x = f35_spec.fn x := by kernel_rfl
theorem f35_enter : Enterable Go.Proofs.Tryd.prog 35 := enter_fun Go.Proofs.Tryd.func35 (by kernel_rfl)
theorem f35_envOK : EnvOK Go.Proofs.Tryd.prog f35_env := envOK_of cds (by kernel_rfl) cfg_ok ⟨⟨f64_pure, f64_enter⟩, trivial⟩ ⟨⟨f63_call, by kernel_rfl, f63_enter⟩, trivial⟩ ⟨⟨Go.Proofs.Tryd.func35, by kernel_rfl⟩, ⟨Go.Proofs.Tryd.func62, by kernel_rfl⟩, ⟨Go.Proofs.Tryd.func81, by kernel_rfl⟩, trivial⟩ ⟨⟨Go.Proofs.Tryd.f35, f35_code, rfl, rfl, f35_l3_ok⟩, ⟨Go.Proofs.Tryd.f35, f35_code, rfl, rfl, f35_l6_ok⟩, ⟨Go.Proofs.Tryd.f81, f35_code_81, rfl, rfl, f81_l1_b910000_ok⟩, trivial⟩ trivial
theorem f35_pure : PureOK Go.Proofs.Tryd.prog cfg 35 f35_spec := pure_of_run f35_envOK (fn := Go.Proofs.Tryd.f35) (c := f35_code) rfl rfl f35_spec (fun x _ h => (f35_run x).trans h)

def f93_l0_b905000_head : Ann := { env := [(0, .cst (.yld 905)), (1, .cst (.ptr 20001 0 []))], stk := [[(0, .cst (.yld 905))], [(2, .ty .str), (3, .ty (.int .i64)), (4, .cst (.ptr 4 0 []))]], bxs := [(905, .loop false 84 5 [(4, .cst (.ptr 4 0 []))]), (20001, .var [.ty (.int .u64)]), (4, .var [.cst (.row 905011030 .whole)]), (905011030, .row (.int .u8) false)] }
def f93_l0_b905000_outs : List (Ex × Ann) := [(.ret, { env := [], stk := [[(0, .cst (.yld 905))], [(2, .ty .str), (3, .ty (.int .i64)), (4, .cst (.ptr 4 0 []))]], bxs := [(905, .loop false 84 5 [(4, .cst (.ptr 4 0 []))]), (4, .var [.cst (.row 905011030 .whole)]), (905011030, .row (.int .u8) false)] })]
def f93_l0_b905000 (k1t2 : ByteArray) (k1t3 : Int) : Nat → Int → (List Int) → Option (outDen f93_l0_b905000_outs)
  | 0, _, _ => none
  | k + 1, b20001g0, r905011030 =>
    let v5 : Int := (IntKind.wrap .u8 (andV .u64 b20001g0 (127 : Int)))
    bif (!(decide (b20001g0 < (128 : Int)))) then
      bif (decide (r905011030.length + ([(orV .u8 v5 (128 : Int))] : List Int).length ≤ appLim)) then
        bif (decide (b20001g0 < (128 : Int))) then
          some ((), ((), (k1t2, k1t3, ()), ()), ((), (), (r905011030 ++ ([(orV .u8 v5 (128 : Int))] : List Int)), ()))
        else
          f93_l0_b905000 k1t2 k1t3 k (shrV .u64 b20001g0 (7 : Int)) (r905011030 ++ ([(orV .u8 v5 (128 : Int))] : List Int))
      else none
    else
      bif (decide (r905011030.length + ([v5] : List Int).length ≤ appLim)) then
        bif (decide (b20001g0 < (128 : Int))) then
          some ((), ((), (k1t2, k1t3, ()), ()), ((), (), (r905011030 ++ ([v5] : List Int)), ()))
        else
          f93_l0_b905000 k1t2 k1t3 k (shrV .u64 b20001g0 (7 : Int)) (r905011030 ++ ([v5] : List Int))
      else none
def f93_l0_b905000_spec : LSpec := { thaws := [.cell 4 0 905011030 (.int .u8)], head := f93_l0_b905000_head, outs := f93_l0_b905000_outs, fn := fun x => f93_l0_b905000 x.2.1.2.1.1 x.2.1.2.1.2.1 ((10 : Nat)) x.2.2.2.1.1 x.2.2.2.2.2.1 }
def f84 (a0 : Int) : Option (ByteArray × Int × Unit) :=
  let v1 : Bool := (decide (a0 < (-4611686018427387903 : Int)))
  bif v1 then
    some ((⟨#[]⟩ : ByteArray), (10 : Int), ())
  else
    let v2 : Bool := (decide (a0 > (4611686018427387903 : Int)))
    bif v2 then
      some ((⟨#[]⟩ : ByteArray), (10 : Int), ())
    else
      let v3 : Int := (shlV .u64 (IntKind.wrap .u64 a0) (1 : Int))
      let v4 : Int := (IntKind.wrap .u64 (shrV .i64 a0 (63 : Int)))
      (f93_l0_b905000 (⟨#[]⟩ : ByteArray) (0 : Int) ((10 : Nat)) (xorV .u64 v3 v4) []).bind fun o6 =>
      let u9 : (List Int) := o6.2.2.2.2.1
      some ((ofBytes u9), (0 : Int), ())
def f84_spec : PSpec := { args := [(.int .i64)], res := [.str, (.int .i64)], fn := fun x => f84 x.1 }
noncomputable def f84_code : Code := Go.Proofs.Tryd.f84.body.getD .skip
noncomputable def f84_code_91 : Code := Go.Proofs.Tryd.f91.body.getD .skip
noncomputable def f84_code_93 : Code := Go.Proofs.Tryd.f93.body.getD .skip
noncomputable def f84_env : Env0 := { C := cfg, P := [], L := [(⟨11, 905000, 93, 0⟩, f93_l0_b905000_spec)], F := [(84, Go.Proofs.Tryd.f84), (91, Go.Proofs.Tryd.f91), (93, Go.Proofs.Tryd.f93)], S := [], R := [] }
theorem f93_l0_b905000_ok : LoopOK f84_env 11 93 905000 (loopAt f84_code_93 0) f93_l0_b905000_spec :=
  loopOK_of (by kernel_rfl) (fun n x => f93_l0_b905000 x.2.1.2.1.1 x.2.1.2.1.2.1 n x.2.2.2.1.1 x.2.2.2.2.2.1) (fun x o h => ⟨_, h⟩) (fun x => by kernel_rfl) (fun n x => by kernel_rfl)
theorem f84_run (x : tysDen (f84_spec).args) : runF f84_env 84 Go.Proofs.Tryd.f84 f84_code (f84_spec).args (f84_spec).res x = f84_spec.fn x := by kernel_rfl
theorem f84_enter : Enterable Go.Proofs.Tryd.prog 84 := enter_fun Go.Proofs.Tryd.func84 (by kernel_rfl)
theorem f84_envOK : EnvOK Go.Proofs.Tryd.prog f84_env := envOK_of cds (by kernel_rfl) cfg_ok trivial trivial ⟨⟨Go.Proofs.Tryd.func84, by kernel_rfl⟩, ⟨Go.Proofs.Tryd.func91, by kernel_rfl⟩, ⟨Go.Proofs.Tryd.func93, by kernel_rfl⟩, trivial⟩ ⟨⟨Go.Proofs.Tryd.f93, f84_code_93, rfl, rfl, f93_l0_b905000_ok⟩, trivial⟩ trivial
theorem f84_pure : PureOK Go.Proofs.Tryd.prog cfg 84 f84_spec := pure_of_run f84_envOK (fn := Go.Proofs.Tryd.f84) (c := f84_code) rfl rfl f84_spec (fun x _ h => (f84_run x).trans h)

def f66 (a0 : Int) (a1 : ByteArray) : Option (ByteArray × Unit) :=
  bif (decide (a1 = (⟨#[]⟩ : ByteArray))) then
    (f65 ).bind fun y1 =>
    some (y1.1, ())
  else
    (f84 a0).bind fun y2 =>
    bif (catOk (⟨#[8]⟩ : ByteArray) y2.1) then
      bif (catOk ((⟨#[8]⟩ : ByteArray) ++ y2.1) a1) then
        (f35 (((⟨#[8]⟩ : ByteArray) ++ y2.1) ++ a1)).bind fun y3 =>
        some (y3.1, ())
      else none
    else none
def f66_spec : PSpec := { args := [(.int .i64), .str], res := [.str], fn := fun x => f66 x.1 x.2.1 }
noncomputable def f66_code : Code := Go.Proofs.Tryd.f66.body.getD .skip
noncomputable def f66_env : Env0 := { C := cfg, P := [(35, f35_spec), (65, f65_spec), (84, f84_spec)], L := [], F := [(66, Go.Proofs.Tryd.f66)], S := [], R := [] }
theorem f66_run (x : tysDen (f66_spec).args) : runF f66_env 66 Go.Proofs.Tryd.f66 f66_code (f66_spec).args (f66_spec).res x = f66_spec.fn x := by kernel_rfl
theorem f66_enter : Enterable Go.Proofs.Tryd.prog 66 := enter_fun Go.Proofs.Tryd.func66 (by kernel_rfl)
theorem f66_envOK : EnvOK Go.Proofs.Tryd.prog f66_env := envOK_of cds (by kernel_rfl) cfg_ok ⟨⟨f35_pure, f35_enter⟩, ⟨f65_pure, f65_enter⟩, ⟨f84_pure, f84_enter⟩, trivial⟩ trivial ⟨⟨Go.Proofs.Tryd.func66, by kernel_rfl⟩, trivial⟩ trivial trivial
theorem f66_pure : PureOK Go.Proofs.Tryd.prog cfg 66 f66_spec := pure_of_run f66_envOK (fn := Go.Proofs.Tryd.f66) (c := f66_code) rfl rfl f66_spec (fun x _ h => (f66_run x).trans h)

def f67 (a0 : ByteArray) (a1 : ByteArray) : Option (ByteArray × Unit) :=
  (f65 ).bind fun y1 =>
  bif (decide (a0 = y1.1)) then
    (f65 ).bind fun y2 =>
    bif (decide (a1 = y2.1)) then
      (f65 ).bind fun y3 =>
      some (y3.1, ())
    else
      bif (catOk (⟨#[9]⟩ : ByteArray) a0) then
        bif (catOk ((⟨#[9]⟩ : ByteArray) ++ a0) a1) then
          (f35 (((⟨#[9]⟩ : ByteArray) ++ a0) ++ a1)).bind fun y4 =>
          some (y4.1, ())
        else none
      else none
  else
    bif (catOk (⟨#[9]⟩ : ByteArray) a0) then
      bif (catOk ((⟨#[9]⟩ : ByteArray) ++ a0) a1) then
        (f35 (((⟨#[9]⟩ : ByteArray) ++ a0) ++ a1)).bind fun y5 =>
        some (y5.1, ())
      else none
    else none
def f67_spec : PSpec := { args := [.str, .str], res := [.str], fn := fun x => f67 x.1 x.2.1 }
noncomputable def f67_code : Code := Go.Proofs.Tryd.f67.body.getD .skip
noncomputable def f67_env : Env0 := { C := cfg, P := [(35, f35_spec), (65, f65_spec)], L := [], F := [(67, Go.Proofs.Tryd.f67)], S := [], R := [] }
theorem f67_run (x : tysDen (f67_spec).args) : runF f67_env 67 Go.Proofs.Tryd.f67 f67_code (f67_spec).args (f67_spec).res x = f67_spec.fn x := by kernel_rfl
theorem f67_enter : Enterable Go.Proofs.Tryd.prog 67 := enter_fun Go.Proofs.Tryd.func67 (by kernel_rfl)
theorem f67_envOK : EnvOK Go.Proofs.Tryd.prog f67_env := envOK_of cds (by kernel_rfl) cfg_ok ⟨⟨f35_pure, f35_enter⟩, ⟨f65_pure, f65_enter⟩, trivial⟩ trivial ⟨⟨Go.Proofs.Tryd.func67, by kernel_rfl⟩, trivial⟩ trivial trivial
theorem f67_pure : PureOK Go.Proofs.Tryd.prog cfg 67 f67_spec := pure_of_run f67_envOK (fn := Go.Proofs.Tryd.f67) (c := f67_code) rfl rfl f67_spec (fun x _ h => (f67_run x).trans h)

def f37_l3_b8000_head : Ann := { env := [(0, .ty (.sl (.pair (.int .i64) (.pair .str .unit)))), (3, .cst (.ptr 8009 0 [])), (10, .ty (.int .i64))], stk := [[(2, .ty .str), (3, .ty (.int .i64))]], bxs := [(8009, .var [.ty (.arr 128 .str)])] }
def f37_l3_b8000_outs : List (Ex × Ann) := [((.exit 0), { env := [(0, .ty (.sl (.pair (.int .i64) (.pair .str .unit)))), (3, .cst (.ptr 8009 0 []))], stk := [[(2, .ty .str), (3, .ty (.int .i64))]], bxs := [(8009, .var [.ty (.arr 128 .str)])] })]
def f37_l3_b8000 (t0 : (List (Int × (ByteArray × Unit)))) (k0t2 : ByteArray) (k0t3 : Int) : Nat → Int → (List ByteArray) → Option (outDen f37_l3_b8000_outs)
  | 0, _, _ => none
  | k + 1, t10, b8009g0 =>
    bif (decide (t10 < (64 : Int))) then
      (f65 ).bind fun y2 =>
      bif (inR (IntKind.wrap .i64 ((64 : Int) + t10)) 128) then f37_l3_b8000 t0 k0t2 k0t3 k (IntKind.wrap .i64 (t10 + (1 : Int))) (b8009g0.set (Int.toNat (IntKind.wrap .i64 ((64 : Int) + t10))) y2.1) else none
    else
      some ((t0, ()), ((k0t2, k0t3, ()), ()), ((b8009g0, ()), ()))
def f37_l3_b8000_spec : LSpec := { thaws := [], head := f37_l3_b8000_head, outs := f37_l3_b8000_outs, fn := fun x => f37_l3_b8000 x.1.1 x.2.1.1.1 x.2.1.1.2.1 (((64 : Int) - x.1.2.1).toNat + 1) x.1.2.1 x.2.2.1.1 }
def f37_l8_b8000_head : Ann := { env := [(3, .cst (.ptr 8009 0 [])), (20, .ty (.sl (.pair (.int .i64) (.pair .str .unit)))), (21, .ty (.int .i64)), (22, .ty (.int .i64))], stk := [[(2, .ty .str), (3, .ty (.int .i64))]], bxs := [(8009, .var [.ty (.arr 128 .str)])] }
def f37_l8_b8000_outs : List (Ex × Ann) := [((.exit 2), { env := [(3, .cst (.ptr 8009 0 []))], stk := [[(2, .ty .str), (3, .ty (.int .i64))]], bxs := [(8009, .var [.ty (.arr 128 .str)])] })]
def f37_l8_b8000 (t20 : (List (Int × (ByteArray × Unit)))) (t21 : Int) (k0t2 : ByteArray) (k0t3 : Int) : Nat → Int → (List ByteArray) → Option (outDen f37_l8_b8000_outs)
  | 0, _, _ => none
  | k + 1, t22, b8009g0 =>
    bif (decide (t22 < t21)) then
      bif (inR t22 t20.length) then
        let v8 : Int := (at_ (.pair (.int .i64) (.pair .str .unit)) t20 t22).1
        let v9 : Int := (at_ (.pair (.int .i64) (.pair .str .unit)) t20 t22).1
        let v10 : ByteArray := (at_ (.pair (.int .i64) (.pair .str .unit)) t20 t22).2.1
        (f66 v9 v10).bind fun y11 =>
        bif (inR (IntKind.wrap .i64 ((64 : Int) + v8)) 128) then f37_l8_b8000 t20 t21 k0t2 k0t3 k (IntKind.wrap .i64 (t22 + (1 : Int))) (b8009g0.set (Int.toNat (IntKind.wrap .i64 ((64 : Int) + v8))) y11.1) else none
      else none
    else
      some ((), ((k0t2, k0t3, ()), ()), ((b8009g0, ()), ()))
def f37_l8_b8000_spec : LSpec := { thaws := [], head := f37_l8_b8000_head, outs := f37_l8_b8000_outs, fn := fun x => f37_l8_b8000 x.1.1 x.1.2.1 x.2.1.1.1 x.2.1.1.2.1 ((x.1.2.1 - x.1.2.2.1).toNat + 1) x.1.2.2.1 x.2.2.1.1 }
def f37_l13_b8000_head : Ann := { env := [(3, .cst (.ptr 8009 0 [])), (7, .ty (.int .i64))], stk := [[(2, .ty .str), (3, .ty (.int .i64))]], bxs := [(8009, .var [.ty (.arr 128 .str)])] }
def f37_l13_b8000_outs : List (Ex × Ann) := [((.exit 4), { env := [(3, .cst (.ptr 8009 0 []))], stk := [[(2, .ty .str), (3, .ty (.int .i64))]], bxs := [(8009, .var [.ty (.arr 128 .str)])] })]
def f37_l13_b8000 (k0t2 : ByteArray) (k0t3 : Int) : Nat → Int → (List ByteArray) → Option (outDen f37_l13_b8000_outs)
  | 0, _, _ => none
  | k + 1, t7, b8009g0 =>
    bif (decide (t7 > (0 : Int))) then
      bif (inR (IntKind.wrap .i64 ((2 : Int) * t7)) 128) then
        let v16 : ByteArray := (at_ .str b8009g0 (IntKind.wrap .i64 ((2 : Int) * t7)))
        let v17 : Int := (IntKind.wrap .i64 ((IntKind.wrap .i64 ((2 : Int) * t7)) + (1 : Int)))
        bif (inR v17 128) then
          (f67 v16 (at_ .str b8009g0 v17)).bind fun y18 =>
          bif (inR t7 128) then f37_l13_b8000 k0t2 k0t3 k (IntKind.wrap .i64 (t7 - (1 : Int))) (b8009g0.set (Int.toNat t7) y18.1) else none
        else none
      else none
    else
      some ((), ((k0t2, k0t3, ()), ()), ((b8009g0, ()), ()))
def f37_l13_b8000_spec : LSpec := { thaws := [], head := f37_l13_b8000_head, outs := f37_l13_b8000_outs, fn := fun x => f37_l13_b8000 x.2.1.1.1 x.2.1.1.2.1 (x.1.1.toNat + 1) x.1.1 x.2.2.1.1 }
def f13 (a0 : (List (Int × (ByteArray × Unit)))) : Option (ByteArray × Int × Unit) :=
  (f15 a0).bind fun y1 =>
  bif (!y1.1) then
    some ((⟨#[]⟩ : ByteArray), (40 : Int), ())
  else
    (f37_l3_b8000 a0 (⟨#[]⟩ : ByteArray) (0 : Int) (((64 : Int) - (0 : Int)).toNat + 1) (0 : Int) (List.replicate 128 (⟨#[]⟩ : ByteArray))).bind fun o3 =>
    let u4 : (List (Int × (ByteArray × Unit))) := o3.1.1
    let u5 : ByteArray := o3.2.1.1.1
    let u6 : Int := o3.2.1.1.2.1
    let u7 : (List ByteArray) := o3.2.2.1.1
    (f37_l8_b8000 u4 (u4.length : Int) u5 u6 (((u4.length : Int) - (0 : Int)).toNat + 1) (0 : Int) u7).bind fun o12 =>
    let u13 : ByteArray := o12.2.1.1.1
    let u14 : Int := o12.2.1.1.2.1
    let u15 : (List ByteArray) := o12.2.2.1.1
    (f37_l13_b8000 u13 u14 ((63 : Int).toNat + 1) (63 : Int) u15).bind fun o19 =>
    let u22 : (List ByteArray) := o19.2.2.1.1
    bif (inR (1 : Int) 128) then some ((at_ .str u22 (1 : Int)), (0 : Int), ()) else none
def f13_spec : PSpec := { args := [(.sl (.pair (.int .i64) (.pair .str .unit)))], res := [.str, (.int .i64)], fn := fun x => f13 x.1 }
noncomputable def f13_code : Code := Go.Proofs.Tryd.f13.body.getD .skip
noncomputable def f13_code_37 : Code := Go.Proofs.Tryd.f37.body.getD .skip
noncomputable def f13_env : Env0 := { C := cfg, P := [(15, f15_spec), (65, f65_spec), (66, f66_spec), (67, f67_spec)], L := [(⟨11, 8000, 37, 3⟩, f37_l3_b8000_spec), (⟨11, 8000, 37, 8⟩, f37_l8_b8000_spec), (⟨11, 8000, 37, 13⟩, f37_l13_b8000_spec)], F := [(13, Go.Proofs.Tryd.f13), (37, Go.Proofs.Tryd.f37)], S := [], R := [] }
theorem f37_l3_b8000_ok : LoopOK f13_env 11 37 8000 (loopAt f13_code_37 3) f37_l3_b8000_spec :=
  loopOK_of (by kernel_rfl) (fun n x => f37_l3_b8000 x.1.1 x.2.1.1.1 x.2.1.1.2.1 n x.1.2.1 x.2.2.1.1) (fun x o h => ⟨_, h⟩) (fun x => by kernel_rfl) (fun n x => by kernel_rfl)
theorem f37_l8_b8000_ok : LoopOK f13_env 11 37 8000 (loopAt f13_code_37 8) f37_l8_b8000_spec :=
  loopOK_of (by kernel_rfl) (fun n x => f37_l8_b8000 x.1.1 x.1.2.1 x.2.1.1.1 x.2.1.1.2.1 n x.1.2.2.1 x.2.2.1.1) (fun x o h => ⟨_, h⟩) (fun x => by kernel_rfl) (fun n x => by kernel_rfl)
theorem f37_l13_b8000_ok : LoopOK f13_env 11 37 8000 (loopAt f13_code_37 13) f37_l13_b8000_spec :=
  loopOK_of (by kernel_rfl) (fun n x => f37_l13_b8000 x.2.1.1.1 x.2.1.1.2.1 n x.1.1 x.2.2.1.1) (fun x o h => ⟨_, h⟩) (fun x => by kernel_rfl) (fun n x => by kernel_rfl)
theorem f13_run (x : tysDen (f13_spec).args) : runF f13_env 13 Go.Proofs.Tryd.f13 f13_code (f13_spec).args (f13_spec).res x = f13_spec.fn x := by kernel_rfl
theorem f13_enter : Enterable Go.Proofs.Tryd.prog 13 := enter_fun Go.Proofs.Tryd.func13 (by kernel_rfl)
theorem f13_envOK : EnvOK Go.Proofs.Tryd.prog f13_env := envOK_of cds (by kernel_rfl) cfg_ok ⟨⟨f15_pure, f15_enter⟩, ⟨f65_pure, f65_enter⟩, ⟨f66_pure, f66_enter⟩, ⟨f67_pure, f67_enter⟩, trivial⟩ trivial ⟨⟨Go.Proofs.Tryd.func13, by kernel_rfl⟩, ⟨Go.Proofs.Tryd.func37, by kernel_rfl⟩, trivial⟩ ⟨⟨Go.Proofs.Tryd.f37, f13_code_37, rfl, rfl, f37_l3_b8000_ok⟩, ⟨Go.Proofs.Tryd.f37, f13_code_37, rfl, rfl, f37_l8_b8000_ok⟩, ⟨Go.Proofs.Tryd.f37, f13_code_37, rfl, rfl, f37_l13_b8000_ok⟩, trivial⟩ trivial
theorem f13_pure : PureOK Go.Proofs.Tryd.prog cfg 13 f13_spec := pure_of_run f13_envOK (fn := Go.Proofs.Tryd.f13) (c := f13_code) rfl rfl f13_spec (fun x _ h => (f13_run x).trans h)

def f45 (a0 : (List Int)) : Option ((List Int) × Unit) :=
  bif decide (a0.length ≤ appLim) then some (a0, ()) else none
def f45_spec : PSpec := { args := [(.sl (.int .i64))], res := [(.sl (.int .i64))], fn := fun x => f45 x.1 }
noncomputable def f45_code : Code := Go.Proofs.Tryd.f45.body.getD .skip
noncomputable def f45_env : Env0 := { C := cfg, P := [], L := [], F := [(45, Go.Proofs.Tryd.f45)], S := [] }
theorem f45_run0 (x : tysDen []) : runV f45_env 45 Go.Proofs.Tryd.f45 f45_code (.nils :: tysAV [] x) [(.sl (.int .i64))] = f45_spec.fn ([], x) := by kernel_rfl
theorem f45_run1 (l : (List Int)) (x : tysDen []) : runV f45_env 45 Go.Proofs.Tryd.f45 f45_code (.nn (.int .i64) l :: tysAV [] x) [(.sl (.int .i64))] = f45_spec.fn (l, x) := by kernel_rfl
theorem f45_enter : Enterable Go.Proofs.Tryd.prog 45 := enter_fun Go.Proofs.Tryd.func45 (by kernel_rfl)
theorem f45_envOK : EnvOK Go.Proofs.Tryd.prog f45_env := envOK_of cds (by kernel_rfl) cfg_ok trivial trivial ⟨⟨Go.Proofs.Tryd.func45, by kernel_rfl⟩, trivial⟩ trivial
theorem f45_pure : PureOK Go.Proofs.Tryd.prog cfg 45 f45_spec := pure_nil f45_envOK (fn := Go.Proofs.Tryd.f45) (c := f45_code) rfl rfl (.int .i64) [] [(.sl (.int .i64))] f45_spec.fn (fun x y h => (f45_run0 x).trans h) (fun l x y h => (f45_run1 l x).trans h)

def f49_l2_b23010000_head : Ann := { env := [(0, .ty (.sl (.pair (.int .i64) (.pair .str .unit)))), (1, .cst (.fn 50 [(.ptr 23004 0 [])])), (7, .ty (.int .i64)), (8, .ty (.int .i64))], stk := [[(1, .cst (.ptr 2 0 [])), (2, .cst (.ptr 7 0 [])), (3, .cst (.ptr 6 0 [])), (4, .cst (.ptr 23004 0 [])), (5, .ty .str), (6, .ty .str)], [(6, .ty .str)], [(0, .cst (.ptr 25007 0 [])), (1, .cst (.ptr 25004 0 [])), (2, .cst (.ptr 25005 0 [])), (3, .cst (.ptr 25011 0 [])), (4, .cst (.ptr 7 0 [])), (5, .cst (.ptr 6 0 [])), (6, .cst (.ptr 2 0 [])), (7, .cst (.ptr 18009 0 []))]], bxs := [(23004, .var [.ty (.int .i64)]), (2, .var [.ty (.sl (.pair (.int .i64) (.pair .str .unit)))]), (7, .var [.ty (.sl (.int .i64)), .cst (.row 900118 .whole), .cst (.row 900218 .whole)]), (6, .var [.cst (.ptr 18009 0 [])]), (25007, .var [.ty (.arr 128 .bool)]), (25004, .var [.cst (.fn 47 [(.ptr 7 0 []), (.ptr 6 0 [])])]), (25005, .var [.cst (.fn 48 [(.ptr 2 0 []), (.ptr 7 0 []), (.ptr 6 0 [])])]), (25011, .var [.cst (.fn 69 [(.ptr 25007 0 []), (.ptr 25004 0 []), (.ptr 25005 0 []), (.ptr 25011 0 [])])]), (18009, .var [.ty (.arr 128 .str)]), (900118, .row .str false), (900218, .row .str false)] }
def f49_l2_b23010000_outs : List (Ex × Ann) := [((.exit 0), { env := [], stk := [[(1, .cst (.ptr 2 0 [])), (2, .cst (.ptr 7 0 [])), (3, .cst (.ptr 6 0 [])), (4, .cst (.ptr 23004 0 [])), (5, .ty .str), (6, .ty .str)], [(6, .ty .str)], [(0, .cst (.ptr 25007 0 [])), (1, .cst (.ptr 25004 0 [])), (2, .cst (.ptr 25005 0 [])), (3, .cst (.ptr 25011 0 [])), (4, .cst (.ptr 7 0 [])), (5, .cst (.ptr 6 0 [])), (6, .cst (.ptr 2 0 [])), (7, .cst (.ptr 18009 0 []))]], bxs := [(2, .var [.ty (.sl (.pair (.int .i64) (.pair .str .unit)))]), (7, .var [.ty (.sl (.int .i64)), .cst (.row 900118 .whole), .cst (.row 900218 .whole)]), (6, .var [.cst (.ptr 18009 0 [])]), (23004, .var [.ty (.int .i64)]), (25007, .var [.ty (.arr 128 .bool)]), (25004, .var [.cst (.fn 47 [(.ptr 7 0 []), (.ptr 6 0 [])])]), (25005, .var [.cst (.fn 48 [(.ptr 2 0 []), (.ptr 7 0 []), (.ptr 6 0 [])])]), (25011, .var [.cst (.fn 69 [(.ptr 25007 0 []), (.ptr 25004 0 []), (.ptr 25005 0 []), (.ptr 25011 0 [])])]), (18009, .var [.ty (.arr 128 .str)]), (900118, .row .str false), (900218, .row .str false)] }), (.ret, { env := [(4, .ty (.int .i64))], stk := [[(1, .cst (.ptr 2 0 [])), (2, .cst (.ptr 7 0 [])), (3, .cst (.ptr 6 0 [])), (4, .cst (.ptr 23004 0 [])), (5, .ty .str), (6, .ty .str)], [(6, .ty .str)], [(0, .cst (.ptr 25007 0 [])), (1, .cst (.ptr 25004 0 [])), (2, .cst (.ptr 25005 0 [])), (3, .cst (.ptr 25011 0 [])), (4, .cst (.ptr 7 0 [])), (5, .cst (.ptr 6 0 [])), (6, .cst (.ptr 2 0 [])), (7, .cst (.ptr 18009 0 []))]], bxs := [(2, .var [.ty (.sl (.pair (.int .i64) (.pair .str .unit)))]), (7, .var [.ty (.sl (.int .i64)), .cst (.row 900118 .whole), .cst (.row 900218 .whole)]), (6, .var [.cst (.ptr 18009 0 [])]), (23004, .var [.ty (.int .i64)]), (25007, .var [.ty (.arr 128 .bool)]), (25004, .var [.cst (.fn 47 [(.ptr 7 0 []), (.ptr 6 0 [])])]), (25005, .var [.cst (.fn 48 [(.ptr 2 0 []), (.ptr 7 0 []), (.ptr 6 0 [])])]), (25011, .var [.cst (.fn 69 [(.ptr 25007 0 []), (.ptr 25004 0 []), (.ptr 25005 0 []), (.ptr 25011 0 [])])]), (18009, .var [.ty (.arr 128 .str)]), (900118, .row .str false), (900218, .row .str false)] })]
def f49_l2_b23010000 (t0 : (List (Int × (ByteArray × Unit)))) (t7 : Int) (k0t5 : ByteArray) (k0t6 : ByteArray) (k1t6 : ByteArray) (b23004g0 : Int) (b2g0 : (List (Int × (ByteArray × Unit)))) (b7g0 : (List Int)) (b25007g0 : (List Bool)) (b18009g0 : (List ByteArray)) (r900118 : (List ByteArray)) (r900218 : (List ByteArray)) : Nat → Int → Option (outDen f49_l2_b23010000_outs)
  | 0, _ => none
  | k + 1, t8 =>
    bif (decide (t8 < t7)) then
      bif (inR t8 t0.length) then
        let v1 : Int := (at_ (.pair (.int .i64) (.pair .str .unit)) t0 t8).1
        bif (decide (v1 = b23004g0)) then
          some (.inr ((t8, ()), ((k0t5, k0t6, ()), (k1t6, ()), (), ()), ((b2g0, ()), (b7g0, ()), (), (b23004g0, ()), (b25007g0, ()), (), (), (), (b18009g0, ()), r900118, r900218, ())))
        else
          f49_l2_b23010000 t0 t7 k0t5 k0t6 k1t6 b23004g0 b2g0 b7g0 b25007g0 b18009g0 r900118 r900218 k (IntKind.wrap .i64 (t8 + (1 : Int)))
      else none
    else
      some (.inl ((), ((k0t5, k0t6, ()), (k1t6, ()), (), ()), ((b2g0, ()), (b7g0, ()), (), (b23004g0, ()), (b25007g0, ()), (), (), (), (b18009g0, ()), r900118, r900218, ())))
def f49_l2_b23010000_spec : LSpec := { thaws := [], head := f49_l2_b23010000_head, outs := f49_l2_b23010000_outs, fn := fun x => f49_l2_b23010000 x.1.1 x.1.2.1 x.2.1.1.1 x.2.1.1.2.1 x.2.1.2.1.1 x.2.2.1.1 x.2.2.2.1.1 x.2.2.2.2.1.1 x.2.2.2.2.2.2.1.1 x.2.2.2.2.2.2.2.2.2.2.1.1 x.2.2.2.2.2.2.2.2.2.2.2.1 x.2.2.2.2.2.2.2.2.2.2.2.2.1 ((x.1.2.1 - x.1.2.2.1).toNat + 1) x.1.2.2.1 }
abbrev f69p_res : List Sh := [.ty .str]
abbrev f69p_outs : List (Nat × BSh) := [(25007, .var [.ty (.arr 128 .bool)]), (25004, .var [.cst (.fn 47 [(.ptr 7 0 []), (.ptr 6 0 [])])]), (25005, .var [.cst (.fn 48 [(.ptr 2 0 []), (.ptr 7 0 []), (.ptr 6 0 [])])]), (25011, .var [.cst (.fn 69 [(.ptr 25007 0 []), (.ptr 25004 0 []), (.ptr 25005 0 []), (.ptr 25011 0 [])])]), (7, .var [.ty (.sl (.int .i64)), .cst (.row 900118 .whole), .cst (.row 900218 .whole)]), (6, .var [.cst (.ptr 18009 0 [])]), (2, .var [.ty (.sl (.pair (.int .i64) (.pair .str .unit)))]), (18009, .var [.ty (.arr 128 .str)]), (900118, .row .str false), (900218, .row .str false)]
def f69p : Nat → Int → (List Bool) → (List Int) → (List (Int × (ByteArray × Unit))) → (List ByteArray) → (List ByteArray) → (List ByteArray) → Option (shDen f69p_res × bxsDen f69p_outs)
  | 0, _, _, _, _, _, _, _ => none
  | k + 1, t0, b25007g0, b7g0, b2g0, b18009g0, r900118, r900218 =>
    bif (inR t0 128) then
      bif (!(at_ .bool b25007g0 t0)) then
        bif (inR t0 128) then bif (decide (r900218.length + ([(at_ .str b18009g0 t0)] : List ByteArray).length ≤ appLim)) then bif (inR t0 128) then some (((at_ .str b18009g0 t0), ()), ((b25007g0, ()), (), (), (), (b7g0, ()), (), (b2g0, ()), (b18009g0, ()), r900118, (r900218 ++ ([(at_ .str b18009g0 t0)] : List ByteArray)), ())) else none else none else none
      else
        bif (decide (t0 ≥ (64 : Int))) then
          (f49_l2_b23010000 b2g0 (b2g0.length : Int) (⟨#[]⟩ : ByteArray) (⟨#[]⟩ : ByteArray) (⟨#[]⟩ : ByteArray) (IntKind.wrap .i64 (t0 - (64 : Int))) b2g0 b7g0 b25007g0 b18009g0 r900118 r900218 (((b2g0.length : Int) - (0 : Int)).toNat + 1) (0 : Int)).bind fun o2 =>
          Sum.elim (fun o3 =>
            let u6 : ByteArray := o3.2.1.1.2.1
            let u8 : (List (Int × (ByteArray × Unit))) := o3.2.2.1.1
            let u9 : (List Int) := o3.2.2.2.1.1
            let u10 : Int := o3.2.2.2.2.2.1.1
            let u11 : (List Bool) := o3.2.2.2.2.2.2.1.1
            let u12 : (List ByteArray) := o3.2.2.2.2.2.2.2.2.2.2.1.1
            let u13 : (List ByteArray) := o3.2.2.2.2.2.2.2.2.2.2.2.1
            let u14 : (List ByteArray) := o3.2.2.2.2.2.2.2.2.2.2.2.2.1
            bif (decide (u13.length + ([u6] : List ByteArray).length ≤ appLim)) then
              bif (inR (IntKind.wrap .i64 ((64 : Int) + u10)) 128) then
                let v15 : ByteArray := (at_ .str u12 (IntKind.wrap .i64 ((64 : Int) + u10)))
                some ((v15, ()), ((u11, ()), (), (), (), (u9, ()), (), (u8, ()), (u12, ()), (u13 ++ ([u6] : List ByteArray)), u14, ()))
              else none
            else none) (fun o4 =>
            let u16 : Int := o4.1.1
            let u18 : ByteArray := o4.2.1.1.2.1
            let u20 : (List (Int × (ByteArray × Unit))) := o4.2.2.1.1
            let u21 : (List Int) := o4.2.2.2.1.1
            let u22 : Int := o4.2.2.2.2.2.1.1
            let u23 : (List Bool) := o4.2.2.2.2.2.2.1.1
            let u24 : (List ByteArray) := o4.2.2.2.2.2.2.2.2.2.2.1.1
            let u25 : (List ByteArray) := o4.2.2.2.2.2.2.2.2.2.2.2.1
            let u26 : (List ByteArray) := o4.2.2.2.2.2.2.2.2.2.2.2.2.1
            bif (decide (u16 ≥ (0 : Int))) then
              bif (inR u16 u20.length) then
                let v27 : ByteArray := (at_ (.pair (.int .i64) (.pair .str .unit)) u20 u16).2.1
                bif (decide (u25.length + ([v27] : List ByteArray).length ≤ appLim)) then
                  bif (inR (IntKind.wrap .i64 ((64 : Int) + u22)) 128) then
                    let v28 : ByteArray := (at_ .str u24 (IntKind.wrap .i64 ((64 : Int) + u22)))
                    some ((v28, ()), ((u23, ()), (), (), (), (u21, ()), (), (u20, ()), (u24, ()), (u25 ++ ([v27] : List ByteArray)), u26, ()))
                  else none
                else none
              else none
            else
              bif (decide (u25.length + ([u18] : List ByteArray).length ≤ appLim)) then
                bif (inR (IntKind.wrap .i64 ((64 : Int) + u22)) 128) then
                  let v29 : ByteArray := (at_ .str u24 (IntKind.wrap .i64 ((64 : Int) + u22)))
                  some ((v29, ()), ((u23, ()), (), (), (), (u21, ()), (), (u20, ()), (u24, ()), (u25 ++ ([u18] : List ByteArray)), u26, ()))
                else none
              else none) o2
        else
          (f69p k (IntKind.wrap .i64 ((2 : Int) * t0)) b25007g0 b7g0 b2g0 b18009g0 r900118 r900218).bind fun y30 =>
          let u31 : ByteArray := y30.1.1
          let u32 : (List Bool) := y30.2.1.1
          let u33 : (List Int) := y30.2.2.2.2.2.1.1
          let u34 : (List (Int × (ByteArray × Unit))) := y30.2.2.2.2.2.2.2.1.1
          let u35 : (List ByteArray) := y30.2.2.2.2.2.2.2.2.1.1
          let u36 : (List ByteArray) := y30.2.2.2.2.2.2.2.2.2.1
          let u37 : (List ByteArray) := y30.2.2.2.2.2.2.2.2.2.2.1
          let v38 : Int := (IntKind.wrap .i64 ((IntKind.wrap .i64 ((2 : Int) * t0)) + (1 : Int)))
          (f69p k v38 u32 u33 u34 u35 u36 u37).bind fun y39 =>
          let u40 : ByteArray := y39.1.1
          let u41 : (List Bool) := y39.2.1.1
          let u42 : (List Int) := y39.2.2.2.2.2.1.1
          let u43 : (List (Int × (ByteArray × Unit))) := y39.2.2.2.2.2.2.2.1.1
          let u44 : (List ByteArray) := y39.2.2.2.2.2.2.2.2.1.1
          let u45 : (List ByteArray) := y39.2.2.2.2.2.2.2.2.2.1
          let u46 : (List ByteArray) := y39.2.2.2.2.2.2.2.2.2.2.1
          (f67 u31 u40).bind fun y47 =>
          some ((y47.1, ()), ((u41, ()), (), (), (), (u42, ()), (), (u43, ()), (u44, ()), u45, u46, ()))
    else none
def f69p_at (n : Nat) : CSpec := { thaws := [.cell 7 1 900118 .str, .cell 7 2 900218 .str], args := [(0, .ty (.int .i64)), (1, .cst (.ptr 25007 0 [])), (2, .cst (.ptr 25004 0 [])), (3, .cst (.ptr 25005 0 [])), (4, .cst (.ptr 25011 0 []))], ins := [(25007, .var [.ty (.arr 128 .bool)]), (25004, .var [.cst (.fn 47 [(.ptr 7 0 []), (.ptr 6 0 [])])]), (25005, .var [.cst (.fn 48 [(.ptr 2 0 []), (.ptr 7 0 []), (.ptr 6 0 [])])]), (25011, .var [.cst (.fn 69 [(.ptr 25007 0 []), (.ptr 25004 0 []), (.ptr 25005 0 []), (.ptr 25011 0 [])])]), (7, .var [.ty (.sl (.int .i64)), .cst (.row 900118 .whole), .cst (.row 900218 .whole)]), (6, .var [.cst (.ptr 18009 0 [])]), (2, .var [.ty (.sl (.pair (.int .i64) (.pair .str .unit)))]), (18009, .var [.ty (.arr 128 .str)]), (900118, .row .str false), (900218, .row .str false)], res := f69p_res, outs := f69p_outs, fn := fun x => f69p n x.1.1 x.2.1.1 x.2.2.2.2.2.1.1 x.2.2.2.2.2.2.2.1.1 x.2.2.2.2.2.2.2.2.1.1 x.2.2.2.2.2.2.2.2.2.1 x.2.2.2.2.2.2.2.2.2.2.1 }
def f69p_spec : CSpec := { thaws := [.cell 7 1 900118 .str, .cell 7 2 900218 .str], args := [(0, .ty (.int .i64)), (1, .cst (.ptr 25007 0 [])), (2, .cst (.ptr 25004 0 [])), (3, .cst (.ptr 25005 0 [])), (4, .cst (.ptr 25011 0 []))], ins := [(25007, .var [.ty (.arr 128 .bool)]), (25004, .var [.cst (.fn 47 [(.ptr 7 0 []), (.ptr 6 0 [])])]), (25005, .var [.cst (.fn 48 [(.ptr 2 0 []), (.ptr 7 0 []), (.ptr 6 0 [])])]), (25011, .var [.cst (.fn 69 [(.ptr 25007 0 []), (.ptr 25004 0 []), (.ptr 25005 0 []), (.ptr 25011 0 [])])]), (7, .var [.ty (.sl (.int .i64)), .cst (.row 900118 .whole), .cst (.row 900218 .whole)]), (6, .var [.cst (.ptr 18009 0 [])]), (2, .var [.ty (.sl (.pair (.int .i64) (.pair .str .unit)))]), (18009, .var [.ty (.arr 128 .str)]), (900118, .row .str false), (900218, .row .str false)], res := f69p_res, outs := f69p_outs, fn := fun x => f69p ((8 : Nat)) x.1.1 x.2.1.1 x.2.2.2.2.2.1.1 x.2.2.2.2.2.2.2.1.1 x.2.2.2.2.2.2.2.2.1.1 x.2.2.2.2.2.2.2.2.2.1 x.2.2.2.2.2.2.2.2.2.2.1 }
def f69p_go (t0 : Int) (b25007g0 : (List Bool)) (b7g0 : (List Int)) (b2g0 : (List (Int × (ByteArray × Unit)))) (b18009g0 : (List ByteArray)) (r900118 : (List ByteArray)) (r900218 : (List ByteArray)) : Option (shDen f69p_res × bxsDen f69p_outs) := f69p ((8 : Nat)) t0 b25007g0 b7g0 b2g0 b18009g0 r900118 r900218
noncomputable def f69p_code : Code := Go.Proofs.Tryd.f69.body.getD .skip
noncomputable def f69p_code_47 : Code := Go.Proofs.Tryd.f47.body.getD .skip
noncomputable def f69p_code_48 : Code := Go.Proofs.Tryd.f48.body.getD .skip
noncomputable def f69p_code_49 : Code := Go.Proofs.Tryd.f49.body.getD .skip
noncomputable def f69p_code_50 : Code := Go.Proofs.Tryd.f50.body.getD .skip
noncomputable def f69p_env (n : Nat) : Env0 := { C := cfg, P := [(67, f67_spec)], L := [(⟨10, 23010000, 49, 2⟩, f49_l2_b23010000_spec)], F := [(47, Go.Proofs.Tryd.f47), (48, Go.Proofs.Tryd.f48), (49, Go.Proofs.Tryd.f49), (50, Go.Proofs.Tryd.f50), (69, Go.Proofs.Tryd.f69)], S := [(69, f69p_at n)], R := [] }
theorem f49_l2_b23010000_ok (n : Nat) : LoopOK (f69p_env n) 10 49 23010000 (loopAt f69p_code_49 2) f49_l2_b23010000_spec :=
  loopOK_of (by kernel_rfl) (fun n x => f49_l2_b23010000 x.1.1 x.1.2.1 x.2.1.1.1 x.2.1.1.2.1 x.2.1.2.1.1 x.2.2.1.1 x.2.2.2.1.1 x.2.2.2.2.1.1 x.2.2.2.2.2.2.1.1 x.2.2.2.2.2.2.2.2.2.2.1.1 x.2.2.2.2.2.2.2.2.2.2.2.1 x.2.2.2.2.2.2.2.2.2.2.2.2.1 n x.1.2.2.1) (fun x o h => ⟨_, h⟩) (fun x => by kernel_rfl) (fun n x => by kernel_rfl)
theorem f69p_run (n : Nat) (x : envDen (f69p_at n).args × bxsDen (f69p_at n).ins) : runS (f69p_env n) 69 Go.Proofs.Tryd.f69 f69p_code (f69p_at n) x = f69p (n + 1) x.1.1 x.2.1.1 x.2.2.2.2.2.1.1 x.2.2.2.2.2.2.2.1.1 x.2.2.2.2.2.2.2.2.1.1 x.2.2.2.2.2.2.2.2.2.1 x.2.2.2.2.2.2.2.2.2.2.1 := by kernel_rfl
theorem f69p_enter : Enterable Go.Proofs.Tryd.prog 69 := enter_fun Go.Proofs.Tryd.func69 (by kernel_rfl)
theorem f69p_envOK (n : Nat) (ih : CallOK Go.Proofs.Tryd.prog cfg 69 (f69p_at n)) : EnvOK Go.Proofs.Tryd.prog (f69p_env n) := envOK_of cds (by kernel_rfl) cfg_ok ⟨⟨f67_pure, f67_enter⟩, trivial⟩ ⟨⟨ih, by kernel_rfl, f69p_enter⟩, trivial⟩ ⟨⟨Go.Proofs.Tryd.func47, by kernel_rfl⟩, ⟨Go.Proofs.Tryd.func48, by kernel_rfl⟩, ⟨Go.Proofs.Tryd.func49, by kernel_rfl⟩, ⟨Go.Proofs.Tryd.func50, by kernel_rfl⟩, ⟨Go.Proofs.Tryd.func69, by kernel_rfl⟩, trivial⟩ ⟨⟨Go.Proofs.Tryd.f49, f69p_code_49, rfl, rfl, f49_l2_b23010000_ok n⟩, trivial⟩ trivial
theorem f69p_call : CallOK Go.Proofs.Tryd.prog cfg 69 f69p_spec := call_rec f69p_spec (fun n x => f69p n x.1.1 x.2.1.1 x.2.2.2.2.2.1.1 x.2.2.2.2.2.2.2.1.1 x.2.2.2.2.2.2.2.2.1.1 x.2.2.2.2.2.2.2.2.2.1 x.2.2.2.2.2.2.2.2.2.2.1) (fun x => by kernel_rfl) (fun n ih => call_of_run (f69p_envOK n ih) (fn := Go.Proofs.Tryd.f69) (c := f69p_code) rfl rfl _ (by kernel_rfl) (fun x _ h => (f69p_run n x).trans h)) (fun x y h => ⟨_, h⟩)

def f37_l3_b18000_head : Ann := { env := [(0, .ty (.sl (.pair (.int .i64) (.pair .str .unit)))), (3, .cst (.ptr 18009 0 [])), (10, .ty (.int .i64))], stk := [[(1, .ty (.sl (.int .i64))), (2, .cst (.ptr 2 0 [])), (4, .cst (.ptr 4 0 [])), (5, .ty (.int .i64))]], bxs := [(18009, .var [.ty (.arr 128 .str)]), (2, .var [.ty (.sl (.pair (.int .i64) (.pair .str .unit)))]), (4, .var [.cst .nils, .cst .nils, .cst .nils])] }
def f37_l3_b18000_outs : List (Ex × Ann) := [((.exit 0), { env := [(0, .ty (.sl (.pair (.int .i64) (.pair .str .unit)))), (3, .cst (.ptr 18009 0 []))], stk := [[(1, .ty (.sl (.int .i64))), (2, .cst (.ptr 2 0 [])), (4, .cst (.ptr 4 0 [])), (5, .ty (.int .i64))]], bxs := [(18009, .var [.ty (.arr 128 .str)]), (2, .var [.ty (.sl (.pair (.int .i64) (.pair .str .unit)))]), (4, .var [.cst .nils, .cst .nils, .cst .nils])] })]
def f37_l3_b18000 (t0 : (List (Int × (ByteArray × Unit)))) (k0t1 : (List Int)) (k0t5 : Int) (b2g0 : (List (Int × (ByteArray × Unit)))) : Nat → Int → (List ByteArray) → Option (outDen f37_l3_b18000_outs)
  | 0, _, _ => none
  | k + 1, t10, b18009g0 =>
    bif (decide (t10 < (64 : Int))) then
      (f65 ).bind fun y3 =>
      bif (inR (IntKind.wrap .i64 ((64 : Int) + t10)) 128) then f37_l3_b18000 t0 k0t1 k0t5 b2g0 k (IntKind.wrap .i64 (t10 + (1 : Int))) (b18009g0.set (Int.toNat (IntKind.wrap .i64 ((64 : Int) + t10))) y3.1) else none
    else
      some ((t0, ()), ((k0t1, k0t5, ()), ()), ((b18009g0, ()), (b2g0, ()), (), ()))
def f37_l3_b18000_spec : LSpec := { thaws := [], head := f37_l3_b18000_head, outs := f37_l3_b18000_outs, fn := fun x => f37_l3_b18000 x.1.1 x.2.1.1.1 x.2.1.1.2.1 x.2.2.2.1.1 (((64 : Int) - x.1.2.1).toNat + 1) x.1.2.1 x.2.2.1.1 }
def f37_l8_b18000_head : Ann := { env := [(3, .cst (.ptr 18009 0 [])), (20, .ty (.sl (.pair (.int .i64) (.pair .str .unit)))), (21, .ty (.int .i64)), (22, .ty (.int .i64))], stk := [[(1, .ty (.sl (.int .i64))), (2, .cst (.ptr 2 0 [])), (4, .cst (.ptr 4 0 [])), (5, .ty (.int .i64))]], bxs := [(18009, .var [.ty (.arr 128 .str)]), (2, .var [.ty (.sl (.pair (.int .i64) (.pair .str .unit)))]), (4, .var [.cst .nils, .cst .nils, .cst .nils])] }
def f37_l8_b18000_outs : List (Ex × Ann) := [((.exit 2), { env := [(3, .cst (.ptr 18009 0 []))], stk := [[(1, .ty (.sl (.int .i64))), (2, .cst (.ptr 2 0 [])), (4, .cst (.ptr 4 0 [])), (5, .ty (.int .i64))]], bxs := [(18009, .var [.ty (.arr 128 .str)]), (2, .var [.ty (.sl (.pair (.int .i64) (.pair .str .unit)))]), (4, .var [.cst .nils, .cst .nils, .cst .nils])] })]
def f37_l8_b18000 (t20 : (List (Int × (ByteArray × Unit)))) (t21 : Int) (k0t1 : (List Int)) (k0t5 : Int) (b2g0 : (List (Int × (ByteArray × Unit)))) : Nat → Int → (List ByteArray) → Option (outDen f37_l8_b18000_outs)
  | 0, _, _ => none
  | k + 1, t22, b18009g0 =>
    bif (decide (t22 < t21)) then
      bif (inR t22 t20.length) then
        let v10 : Int := (at_ (.pair (.int .i64) (.pair .str .unit)) t20 t22).1
        let v11 : Int := (at_ (.pair (.int .i64) (.pair .str .unit)) t20 t22).1
        let v12 : ByteArray := (at_ (.pair (.int .i64) (.pair .str .unit)) t20 t22).2.1
        (f66 v11 v12).bind fun y13 =>
        bif (inR (IntKind.wrap .i64 ((64 : Int) + v10)) 128) then f37_l8_b18000 t20 t21 k0t1 k0t5 b2g0 k (IntKind.wrap .i64 (t22 + (1 : Int))) (b18009g0.set (Int.toNat (IntKind.wrap .i64 ((64 : Int) + v10))) y13.1) else none
      else none
    else
      some ((), ((k0t1, k0t5, ()), ()), ((b18009g0, ()), (b2g0, ()), (), ()))
def f37_l8_b18000_spec : LSpec := { thaws := [], head := f37_l8_b18000_head, outs := f37_l8_b18000_outs, fn := fun x => f37_l8_b18000 x.1.1 x.1.2.1 x.2.1.1.1 x.2.1.1.2.1 x.2.2.2.1.1 ((x.1.2.1 - x.1.2.2.1).toNat + 1) x.1.2.2.1 x.2.2.1.1 }
def f37_l13_b18000_head : Ann := { env := [(3, .cst (.ptr 18009 0 [])), (7, .ty (.int .i64))], stk := [[(1, .ty (.sl (.int .i64))), (2, .cst (.ptr 2 0 [])), (4, .cst (.ptr 4 0 [])), (5, .ty (.int .i64))]], bxs := [(18009, .var [.ty (.arr 128 .str)]), (2, .var [.ty (.sl (.pair (.int .i64) (.pair .str .unit)))]), (4, .var [.cst .nils, .cst .nils, .cst .nils])] }
def f37_l13_b18000_outs : List (Ex × Ann) := [((.exit 4), { env := [(3, .cst (.ptr 18009 0 []))], stk := [[(1, .ty (.sl (.int .i64))), (2, .cst (.ptr 2 0 [])), (4, .cst (.ptr 4 0 [])), (5, .ty (.int .i64))]], bxs := [(18009, .var [.ty (.arr 128 .str)]), (2, .var [.ty (.sl (.pair (.int .i64) (.pair .str .unit)))]), (4, .var [.cst .nils, .cst .nils, .cst .nils])] })]
def f37_l13_b18000 (k0t1 : (List Int)) (k0t5 : Int) (b2g0 : (List (Int × (ByteArray × Unit)))) : Nat → Int → (List ByteArray) → Option (outDen f37_l13_b18000_outs)
  | 0, _, _ => none
  | k + 1, t7, b18009g0 =>
    bif (decide (t7 > (0 : Int))) then
      bif (inR (IntKind.wrap .i64 ((2 : Int) * t7)) 128) then
        let v19 : ByteArray := (at_ .str b18009g0 (IntKind.wrap .i64 ((2 : Int) * t7)))
        let v20 : Int := (IntKind.wrap .i64 ((IntKind.wrap .i64 ((2 : Int) * t7)) + (1 : Int)))
        bif (inR v20 128) then
          (f67 v19 (at_ .str b18009g0 v20)).bind fun y21 =>
          bif (inR t7 128) then f37_l13_b18000 k0t1 k0t5 b2g0 k (IntKind.wrap .i64 (t7 - (1 : Int))) (b18009g0.set (Int.toNat t7) y21.1) else none
        else none
      else none
    else
      some ((), ((k0t1, k0t5, ()), ()), ((b18009g0, ()), (b2g0, ()), (), ()))
def f37_l13_b18000_spec : LSpec := { thaws := [], head := f37_l13_b18000_head, outs := f37_l13_b18000_outs, fn := fun x => f37_l13_b18000 x.2.1.1.1 x.2.1.1.2.1 x.2.2.2.1.1 (x.1.1.toNat + 1) x.1.1 x.2.2.1.1 }
def f46_l6_b25000_head : Ann := { env := [(4, .cst (.ptr 25004 0 [])), (5, .cst (.ptr 25005 0 [])), (7, .cst (.ptr 25007 0 [])), (10, .ty (.int .i64)), (13, .ty (.sl (.int .i64))), (14, .ty (.int .i64)), (15, .ty (.int .i64))], stk := [[(4, .cst (.ptr 4 0 [])), (5, .ty (.int .i64)), (7, .cst (.ptr 7 0 []))]], bxs := [(25004, .var [.cst (.fn 47 [(.ptr 7 0 []), (.ptr 6 0 [])])]), (25005, .var [.cst (.fn 48 [(.ptr 2 0 []), (.ptr 7 0 []), (.ptr 6 0 [])])]), (25007, .var [.ty (.arr 128 .bool)]), (4, .var [.cst .nils, .cst .nils, .cst .nils]), (7, .var [.ty (.sl (.int .i64)), .cst .nils, .cst .nils]), (6, .var [.cst (.ptr 18009 0 [])]), (2, .var [.ty (.sl (.pair (.int .i64) (.pair .str .unit)))]), (18009, .var [.ty (.arr 128 .str)])] }
def f46_l6_b25000_outs : List (Ex × Ann) := [((.exit 2), { env := [(4, .cst (.ptr 25004 0 [])), (5, .cst (.ptr 25005 0 [])), (7, .cst (.ptr 25007 0 [])), (13, .ty (.sl (.int .i64))), (14, .ty (.int .i64)), (15, .ty (.int .i64))], stk := [[(4, .cst (.ptr 4 0 [])), (5, .ty (.int .i64)), (7, .cst (.ptr 7 0 []))]], bxs := [(25004, .var [.cst (.fn 47 [(.ptr 7 0 []), (.ptr 6 0 [])])]), (25005, .var [.cst (.fn 48 [(.ptr 2 0 []), (.ptr 7 0 []), (.ptr 6 0 [])])]), (25007, .var [.ty (.arr 128 .bool)]), (4, .var [.cst .nils, .cst .nils, .cst .nils]), (7, .var [.ty (.sl (.int .i64)), .cst .nils, .cst .nils]), (6, .var [.cst (.ptr 18009 0 [])]), (2, .var [.ty (.sl (.pair (.int .i64) (.pair .str .unit)))]), (18009, .var [.ty (.arr 128 .str)])] })]
def f46_l6_b25000 (t13 : (List Int)) (t14 : Int) (t15 : Int) (k0t5 : Int) (b7g0 : (List Int)) (b2g0 : (List (Int × (ByteArray × Unit)))) (b18009g0 : (List ByteArray)) : Nat → Int → (List Bool) → Option (outDen f46_l6_b25000_outs)
  | 0, _, _ => none
  | k + 1, t10, b25007g0 =>
    bif (decide (t10 > (0 : Int))) then
      bif (inR t10 128) then
        let v29 : Int := (IntKind.wrap .i64 (Int.tdiv t10 (2 : Int)))
        f46_l6_b25000 t13 t14 t15 k0t5 b7g0 b2g0 b18009g0 k v29 (b25007g0.set (Int.toNat t10) true)
      else none
    else
      some ((t13, t14, t15, ()), ((k0t5, ()), ()), ((), (), (b25007g0, ()), (), (b7g0, ()), (), (b2g0, ()), (b18009g0, ()), ()))
def f46_l6_b25000_spec : LSpec := { thaws := [], head := f46_l6_b25000_head, outs := f46_l6_b25000_outs, fn := fun x => f46_l6_b25000 x.1.2.1 x.1.2.2.1 x.1.2.2.2.1 x.2.1.1.1 x.2.2.2.2.2.2.1.1 x.2.2.2.2.2.2.2.2.1.1 x.2.2.2.2.2.2.2.2.2.1.1 (x.1.1.toNat + 1) x.1.1 x.2.2.2.2.1.1 }
def f46_l3_b25000_head : Ann := { env := [(4, .cst (.ptr 25004 0 [])), (5, .cst (.ptr 25005 0 [])), (7, .cst (.ptr 25007 0 [])), (13, .ty (.sl (.int .i64))), (14, .ty (.int .i64)), (15, .ty (.int .i64))], stk := [[(4, .cst (.ptr 4 0 [])), (5, .ty (.int .i64)), (7, .cst (.ptr 7 0 []))]], bxs := [(25004, .var [.cst (.fn 47 [(.ptr 7 0 []), (.ptr 6 0 [])])]), (25005, .var [.cst (.fn 48 [(.ptr 2 0 []), (.ptr 7 0 []), (.ptr 6 0 [])])]), (25007, .var [.ty (.arr 128 .bool)]), (4, .var [.cst .nils, .cst .nils, .cst .nils]), (7, .var [.ty (.sl (.int .i64)), .cst .nils, .cst .nils]), (6, .var [.cst (.ptr 18009 0 [])]), (2, .var [.ty (.sl (.pair (.int .i64) (.pair .str .unit)))]), (18009, .var [.ty (.arr 128 .str)])] }
def f46_l3_b25000_outs : List (Ex × Ann) := [((.exit 0), { env := [(4, .cst (.ptr 25004 0 [])), (5, .cst (.ptr 25005 0 [])), (7, .cst (.ptr 25007 0 []))], stk := [[(4, .cst (.ptr 4 0 [])), (5, .ty (.int .i64)), (7, .cst (.ptr 7 0 []))]], bxs := [(25004, .var [.cst (.fn 47 [(.ptr 7 0 []), (.ptr 6 0 [])])]), (25005, .var [.cst (.fn 48 [(.ptr 2 0 []), (.ptr 7 0 []), (.ptr 6 0 [])])]), (25007, .var [.ty (.arr 128 .bool)]), (4, .var [.cst .nils, .cst .nils, .cst .nils]), (7, .var [.ty (.sl (.int .i64)), .cst .nils, .cst .nils]), (6, .var [.cst (.ptr 18009 0 [])]), (2, .var [.ty (.sl (.pair (.int .i64) (.pair .str .unit)))]), (18009, .var [.ty (.arr 128 .str)])] })]
def f46_l3_b25000 : Nat → (List Int) → Int → Int → Int → (List Bool) → (List Int) → (List (Int × (ByteArray × Unit))) → (List ByteArray) → Option (outDen f46_l3_b25000_outs)
  | 0, _, _, _, _, _, _, _, _ => none
  | k + 1, t13, t14, t15, k0t5, b25007g0, b7g0, b2g0, b18009g0 =>
    bif (decide (t15 < t14)) then
      bif (inR t15 t13.length) then
        let v28 : Int := (IntKind.wrap .i64 ((64 : Int) + (at_ (.int .i64) t13 t15)))
        (f46_l6_b25000 t13 t14 t15 k0t5 b7g0 b2g0 b18009g0 (v28.toNat + 1) v28 b25007g0).bind fun o30 =>
        let u31 : (List Int) := o30.1.1
        let u32 : Int := o30.1.2.1
        let u33 : Int := o30.1.2.2.1
        let u34 : Int := o30.2.1.1.1
        let u35 : (List Bool) := o30.2.2.2.2.1.1
        let u36 : (List Int) := o30.2.2.2.2.2.2.1.1
        let u37 : (List (Int × (ByteArray × Unit))) := o30.2.2.2.2.2.2.2.2.1.1
        let u38 : (List ByteArray) := o30.2.2.2.2.2.2.2.2.2.1.1
        f46_l3_b25000 k u31 u32 (IntKind.wrap .i64 (u33 + (1 : Int))) u34 u35 u36 u37 u38
      else none
    else
      some ((), ((k0t5, ()), ()), ((), (), (b25007g0, ()), (), (b7g0, ()), (), (b2g0, ()), (b18009g0, ()), ()))
def f46_l3_b25000_spec : LSpec := { thaws := [], head := f46_l3_b25000_head, outs := f46_l3_b25000_outs, fn := fun x => f46_l3_b25000 ((x.1.2.1 - x.1.2.2.1).toNat + 1) x.1.1 x.1.2.1 x.1.2.2.1 x.2.1.1.1 x.2.2.2.2.1.1 x.2.2.2.2.2.2.1.1 x.2.2.2.2.2.2.2.2.1.1 x.2.2.2.2.2.2.2.2.2.1.1 }
def f18 (a0 : (List (Int × (ByteArray × Unit)))) (a1 : (List Int)) : Option (((List Int) × ((List ByteArray) × ((List ByteArray) × Unit))) × Int × Unit) :=
  (f15 a0).bind fun y1 =>
  bif (!y1.1) then
    some (([], ([], ([], ()))), (40 : Int), ())
  else
    (f40 a1).bind fun y2 =>
    bif (!y2.1) then
      some (([], ([], ([], ()))), (40 : Int), ())
    else
      (f37_l3_b18000 a0 a1 (0 : Int) a0 (((64 : Int) - (0 : Int)).toNat + 1) (0 : Int) (List.replicate 128 (⟨#[]⟩ : ByteArray))).bind fun o4 =>
      let u5 : (List (Int × (ByteArray × Unit))) := o4.1.1
      let u6 : (List Int) := o4.2.1.1.1
      let u7 : Int := o4.2.1.1.2.1
      let u8 : (List ByteArray) := o4.2.2.1.1
      let u9 : (List (Int × (ByteArray × Unit))) := o4.2.2.2.1.1
      (f37_l8_b18000 u5 (u5.length : Int) u6 u7 u9 (((u5.length : Int) - (0 : Int)).toNat + 1) (0 : Int) u8).bind fun o14 =>
      let u15 : (List Int) := o14.2.1.1.1
      let u16 : Int := o14.2.1.1.2.1
      let u17 : (List ByteArray) := o14.2.2.1.1
      let u18 : (List (Int × (ByteArray × Unit))) := o14.2.2.2.1.1
      (f37_l13_b18000 u15 u16 u18 ((63 : Int).toNat + 1) (63 : Int) u17).bind fun o22 =>
      let u23 : (List Int) := o22.2.1.1.1
      let u24 : Int := o22.2.1.1.2.1
      let u25 : (List ByteArray) := o22.2.2.1.1
      let u26 : (List (Int × (ByteArray × Unit))) := o22.2.2.2.1.1
      (f45 u23).bind fun y27 =>
      (f46_l3_b25000 (((u23.length : Int) - (0 : Int)).toNat + 1) u23 (u23.length : Int) (0 : Int) u24 (List.replicate 128 false) y27.1 u26 u25).bind fun o39 =>
      let u41 : (List Bool) := o39.2.2.2.2.1.1
      let u42 : (List Int) := o39.2.2.2.2.2.2.1.1
      let u43 : (List (Int × (ByteArray × Unit))) := o39.2.2.2.2.2.2.2.2.1.1
      let u44 : (List ByteArray) := o39.2.2.2.2.2.2.2.2.2.1.1
      (f69p_go (1 : Int) u41 u42 u43 u44 [] []).bind fun y45 =>
      let u46 : ByteArray := y45.1.1
      let u47 : (List Bool) := y45.2.1.1
      let u48 : (List Int) := y45.2.2.2.2.2.1.1
      let u49 : (List (Int × (ByteArray × Unit))) := y45.2.2.2.2.2.2.2.1.1
      let u50 : (List ByteArray) := y45.2.2.2.2.2.2.2.2.1.1
      let u51 : (List ByteArray) := y45.2.2.2.2.2.2.2.2.2.1
      let u52 : (List ByteArray) := y45.2.2.2.2.2.2.2.2.2.2.1
      some ((u48, (u51, (u52, ()))), (0 : Int), ())
def f18_spec : PSpec := { args := [(.sl (.pair (.int .i64) (.pair .str .unit))), (.sl (.int .i64))], res := [(.pair (.sl (.int .i64)) (.pair (.sl .str) (.pair (.sl .str) .unit))), (.int .i64)], fn := fun x => f18 x.1 x.2.1 }
noncomputable def f18_code : Code := Go.Proofs.Tryd.f18.body.getD .skip
noncomputable def f18_code_37 : Code := Go.Proofs.Tryd.f37.body.getD .skip
noncomputable def f18_code_46 : Code := Go.Proofs.Tryd.f46.body.getD .skip
noncomputable def f18_env : Env0 := { C := cfg, P := [(15, f15_spec), (40, f40_spec), (45, f45_spec), (65, f65_spec), (66, f66_spec), (67, f67_spec)], L := [(⟨11, 18000, 37, 3⟩, f37_l3_b18000_spec), (⟨11, 18000, 37, 8⟩, f37_l8_b18000_spec), (⟨11, 18000, 37, 13⟩, f37_l13_b18000_spec), (⟨11, 25000, 46, 6⟩, f46_l6_b25000_spec), (⟨11, 25000, 46, 3⟩, f46_l3_b25000_spec)], F := [(18, Go.Proofs.Tryd.f18), (37, Go.Proofs.Tryd.f37), (46, Go.Proofs.Tryd.f46)], S := [(69, f69p_spec)], R := [] }
theorem f37_l3_b18000_ok : LoopOK f18_env 11 37 18000 (loopAt f18_code_37 3) f37_l3_b18000_spec :=
  loopOK_of (by kernel_rfl) (fun n x => f37_l3_b18000 x.1.1 x.2.1.1.1 x.2.1.1.2.1 x.2.2.2.1.1 n x.1.2.1 x.2.2.1.1) (fun x o h => ⟨_, h⟩) (fun x => by kernel_rfl) (fun n x => by kernel_rfl)
theorem f37_l8_b18000_ok : LoopOK f18_env 11 37 18000 (loopAt f18_code_37 8) f37_l8_b18000_spec :=
  loopOK_of (by kernel_rfl) (fun n x => f37_l8_b18000 x.1.1 x.1.2.1 x.2.1.1.1 x.2.1.1.2.1 x.2.2.2.1.1 n x.1.2.2.1 x.2.2.1.1) (fun x o h => ⟨_, h⟩) (fun x => by kernel_rfl) (fun n x => by kernel_rfl)
theorem f37_l13_b18000_ok : LoopOK f18_env 11 37 18000 (loopAt f18_code_37 13) f37_l13_b18000_spec :=
  loopOK_of (by kernel_rfl) (fun n x => f37_l13_b18000 x.2.1.1.1 x.2.1.1.2.1 x.2.2.2.1.1 n x.1.1 x.2.2.1.1) (fun x o h => ⟨_, h⟩) (fun x => by kernel_rfl) (fun n x => by kernel_rfl)
theorem f46_l6_b25000_ok : LoopOK f18_env 11 46 25000 (loopAt f18_code_46 6) f46_l6_b25000_spec :=
  loopOK_of (by kernel_rfl) (fun n x => f46_l6_b25000 x.1.2.1 x.1.2.2.1 x.1.2.2.2.1 x.2.1.1.1 x.2.2.2.2.2.2.1.1 x.2.2.2.2.2.2.2.2.1.1 x.2.2.2.2.2.2.2.2.2.1.1 n x.1.1 x.2.2.2.2.1.1) (fun x o h => ⟨_, h⟩) (fun x => by kernel_rfl) (fun n x => by kernel_rfl)
theorem f46_l3_b25000_ok : LoopOK f18_env 11 46 25000 (loopAt f18_code_46 3) f46_l3_b25000_spec :=
  loopOK_of (by kernel_rfl) (fun n x => f46_l3_b25000 n x.1.1 x.1.2.1 x.1.2.2.1 x.2.1.1.1 x.2.2.2.2.1.1 x.2.2.2.2.2.2.1.1 x.2.2.2.2.2.2.2.2.1.1 x.2.2.2.2.2.2.2.2.2.1.1) (fun x o h => ⟨_, h⟩) (fun x => by kernel_rfl) (fun n x => by kernel_rfl)
theorem f18_run (x : tysDen (f18_spec).args) : runF f18_env 18 Go.Proofs.Tryd.f18 f18_code (f18_spec).args (f18_spec).res x = f18_spec.fn x := by kernel_rfl
theorem f18_enter : Enterable Go.Proofs.Tryd.prog 18 := enter_fun Go.Proofs.Tryd.func18 (by kernel_rfl)
theorem f18_envOK : EnvOK Go.Proofs.Tryd.prog f18_env := envOK_of cds (by kernel_rfl) cfg_ok ⟨⟨f15_pure, f15_enter⟩, ⟨f40_pure, f40_enter⟩, ⟨f45_pure, f45_enter⟩, ⟨f65_pure, f65_enter⟩, ⟨f66_pure, f66_enter⟩, ⟨f67_pure, f67_enter⟩, trivial⟩ ⟨⟨f69p_call, by kernel_rfl, f69p_enter⟩, trivial⟩ ⟨⟨Go.Proofs.Tryd.func18, by kernel_rfl⟩, ⟨Go.Proofs.Tryd.func37, by kernel_rfl⟩, ⟨Go.Proofs.Tryd.func46, by kernel_rfl⟩, trivial⟩ ⟨⟨Go.Proofs.Tryd.f37, f18_code_37, rfl, rfl, f37_l3_b18000_ok⟩, ⟨Go.Proofs.Tryd.f37, f18_code_37, rfl, rfl, f37_l8_b18000_ok⟩, ⟨Go.Proofs.Tryd.f37, f18_code_37, rfl, rfl, f37_l13_b18000_ok⟩, ⟨Go.Proofs.Tryd.f46, f18_code_46, rfl, rfl, f46_l6_b25000_ok⟩, ⟨Go.Proofs.Tryd.f46, f18_code_46, rfl, rfl, f46_l3_b25000_ok⟩, trivial⟩ trivial
theorem f18_pure : PureOK Go.Proofs.Tryd.prog cfg 18 f18_spec := pure_of_run f18_envOK (fn := Go.Proofs.Tryd.f18) (c := f18_code) rfl rfl f18_spec (fun x _ h => (f18_run x).trans h)

def f73 (a0 : ByteArray) : Option (Bool × Unit) :=
  let v1 : Bool := (decide ((a0.size : Int) > (65536 : Int)))
  some (v1, ())
def f73_spec : PSpec := { args := [.str], res := [.bool], fn := fun x => f73 x.1 }
noncomputable def f73_code : Code := Go.Proofs.Tryd.f73.body.getD .skip
noncomputable def f73_env : Env0 := { C := cfg, P := [], L := [], F := [(73, Go.Proofs.Tryd.f73)], S := [], R := [] }
theorem f73_run (x : tysDen (f73_spec).args) : runF f73_env 73 Go.Proofs.Tryd.f73 f73_code (f73_spec).args (f73_spec).res x = f73_spec.fn x := by kernel_rfl
theorem f73_enter : Enterable Go.Proofs.Tryd.prog 73 := enter_fun Go.Proofs.Tryd.func73 (by kernel_rfl)
theorem f73_envOK : EnvOK Go.Proofs.Tryd.prog f73_env := envOK_of cds (by kernel_rfl) cfg_ok trivial trivial ⟨⟨Go.Proofs.Tryd.func73, by kernel_rfl⟩, trivial⟩ trivial trivial
theorem f73_pure : PureOK Go.Proofs.Tryd.prog cfg 73 f73_spec := pure_of_run f73_envOK (fn := Go.Proofs.Tryd.f73) (c := f73_code) rfl rfl f73_spec (fun x _ h => (f73_run x).trans h)

def f74 (a0 : ByteArray) : Option (Bool × Unit) :=
  some ((decide ((a0.size : Int) ≠ (32 : Int))), ())
def f74_spec : PSpec := { args := [.str], res := [.bool], fn := fun x => f74 x.1 }
noncomputable def f74_code : Code := Go.Proofs.Tryd.f74.body.getD .skip
noncomputable def f74_env : Env0 := { C := cfg, P := [], L := [], F := [(74, Go.Proofs.Tryd.f74)], S := [], R := [] }
theorem f74_run (x : tysDen (f74_spec).args) : runF f74_env 74 Go.Proofs.Tryd.f74 f74_code (f74_spec).args (f74_spec).res x = f74_spec.fn x := by kernel_rfl
theorem f74_enter : Enterable Go.Proofs.Tryd.prog 74 := enter_fun Go.Proofs.Tryd.func74 (by kernel_rfl)
theorem f74_envOK : EnvOK Go.Proofs.Tryd.prog f74_env := envOK_of cds (by kernel_rfl) cfg_ok trivial trivial ⟨⟨Go.Proofs.Tryd.func74, by kernel_rfl⟩, trivial⟩ trivial trivial
theorem f74_pure : PureOK Go.Proofs.Tryd.prog cfg 74 f74_spec := pure_of_run f74_envOK (fn := Go.Proofs.Tryd.f74) (c := f74_code) rfl rfl f74_spec (fun x _ h => (f74_run x).trans h)

abbrev f69s_res : List Sh := [.ty .str]
abbrev f69s_outs : List (Nat × BSh) := [(42007, .var [.ty (.arr 128 .bool)]), (42004, .var [.cst (.fn 76 [(.ptr 10 0 []), (.ptr 8 0 [])])]), (42005, .var [.cst (.fn 77 [(.ptr 9 0 [])])]), (42011, .var [.cst (.fn 69 [(.ptr 42007 0 []), (.ptr 42004 0 []), (.ptr 42005 0 []), (.ptr 42011 0 [])])]), (10, .var [.ty (.int .i64)]), (8, .var [.ty (.sl .str)]), (9, .var [.ty (.sl .str)])]
def f69s : Nat → Int → (List Bool) → Int → (List ByteArray) → (List ByteArray) → Option (shDen f69s_res × bxsDen f69s_outs)
  | 0, _, _, _, _, _ => none
  | k + 1, t0, b42007g0, b10g0, b8g0, b9g0 =>
    bif (inR t0 128) then
      bif (!(at_ .bool b42007g0 t0)) then
        let v1 : Bool := (decide ((b8g0.length : Int) = (0 : Int)))
        bif v1 then
          (f65 ).bind fun y2 =>
          some ((y2.1, ()), ((b42007g0, ()), (), (), (), ((IntKind.wrap .i64 (b10g0 + (1 : Int))), ()), (b8g0, ()), (b9g0, ()), ()))
        else
          bif (inR (0 : Int) b8g0.length) then bif (cutOk b8g0.length (some (1 : Int)) none) then some (((at_ .str b8g0 (0 : Int)), ()), ((b42007g0, ()), (), (), (), ((IntKind.wrap .i64 (b10g0 + (1 : Int))), ()), ((b8g0.drop (Int.toNat (1 : Int))), ()), (b9g0, ()), ())) else none else none
      else
        bif (decide (t0 ≥ (64 : Int))) then
          bif (inR (0 : Int) b9g0.length) then
            bif (cutOk b9g0.length (some (1 : Int)) none) then
              (f66 (IntKind.wrap .i64 (t0 - (64 : Int))) (at_ .str b9g0 (0 : Int))).bind fun y3 =>
              some ((y3.1, ()), ((b42007g0, ()), (), (), (), (b10g0, ()), (b8g0, ()), ((b9g0.drop (Int.toNat (1 : Int))), ()), ()))
            else none
          else none
        else
          (f69s k (IntKind.wrap .i64 ((2 : Int) * t0)) b42007g0 b10g0 b8g0 b9g0).bind fun y4 =>
          let u5 : ByteArray := y4.1.1
          let u6 : (List Bool) := y4.2.1.1
          let u7 : Int := y4.2.2.2.2.2.1.1
          let u8 : (List ByteArray) := y4.2.2.2.2.2.2.1.1
          let u9 : (List ByteArray) := y4.2.2.2.2.2.2.2.1.1
          let v10 : Int := (IntKind.wrap .i64 ((IntKind.wrap .i64 ((2 : Int) * t0)) + (1 : Int)))
          (f69s k v10 u6 u7 u8 u9).bind fun y11 =>
          let u12 : ByteArray := y11.1.1
          let u13 : (List Bool) := y11.2.1.1
          let u14 : Int := y11.2.2.2.2.2.1.1
          let u15 : (List ByteArray) := y11.2.2.2.2.2.2.1.1
          let u16 : (List ByteArray) := y11.2.2.2.2.2.2.2.1.1
          (f67 u5 u12).bind fun y17 =>
          some ((y17.1, ()), ((u13, ()), (), (), (), (u14, ()), (u15, ()), (u16, ()), ()))
    else none
def f69s_at (n : Nat) : CSpec := { thaws := [], args := [(0, .ty (.int .i64)), (1, .cst (.ptr 42007 0 [])), (2, .cst (.ptr 42004 0 [])), (3, .cst (.ptr 42005 0 [])), (4, .cst (.ptr 42011 0 []))], ins := [(42007, .var [.ty (.arr 128 .bool)]), (42004, .var [.cst (.fn 76 [(.ptr 10 0 []), (.ptr 8 0 [])])]), (42005, .var [.cst (.fn 77 [(.ptr 9 0 [])])]), (42011, .var [.cst (.fn 69 [(.ptr 42007 0 []), (.ptr 42004 0 []), (.ptr 42005 0 []), (.ptr 42011 0 [])])]), (10, .var [.ty (.int .i64)]), (8, .var [.ty (.sl .str)]), (9, .var [.ty (.sl .str)])], res := f69s_res, outs := f69s_outs, fn := fun x => f69s n x.1.1 x.2.1.1 x.2.2.2.2.2.1.1 x.2.2.2.2.2.2.1.1 x.2.2.2.2.2.2.2.1.1 }
def f69s_spec : CSpec := { thaws := [], args := [(0, .ty (.int .i64)), (1, .cst (.ptr 42007 0 [])), (2, .cst (.ptr 42004 0 [])), (3, .cst (.ptr 42005 0 [])), (4, .cst (.ptr 42011 0 []))], ins := [(42007, .var [.ty (.arr 128 .bool)]), (42004, .var [.cst (.fn 76 [(.ptr 10 0 []), (.ptr 8 0 [])])]), (42005, .var [.cst (.fn 77 [(.ptr 9 0 [])])]), (42011, .var [.cst (.fn 69 [(.ptr 42007 0 []), (.ptr 42004 0 []), (.ptr 42005 0 []), (.ptr 42011 0 [])])]), (10, .var [.ty (.int .i64)]), (8, .var [.ty (.sl .str)]), (9, .var [.ty (.sl .str)])], res := f69s_res, outs := f69s_outs, fn := fun x => f69s ((8 : Nat)) x.1.1 x.2.1.1 x.2.2.2.2.2.1.1 x.2.2.2.2.2.2.1.1 x.2.2.2.2.2.2.2.1.1 }
def f69s_go (t0 : Int) (b42007g0 : (List Bool)) (b10g0 : Int) (b8g0 : (List ByteArray)) (b9g0 : (List ByteArray)) : Option (shDen f69s_res × bxsDen f69s_outs) := f69s ((8 : Nat)) t0 b42007g0 b10g0 b8g0 b9g0
noncomputable def f69s_code : Code := Go.Proofs.Tryd.f69.body.getD .skip
noncomputable def f69s_code_76 : Code := Go.Proofs.Tryd.f76.body.getD .skip
noncomputable def f69s_code_77 : Code := Go.Proofs.Tryd.f77.body.getD .skip
noncomputable def f69s_env (n : Nat) : Env0 := { C := cfg, P := [(65, f65_spec), (66, f66_spec), (67, f67_spec)], L := [], F := [(69, Go.Proofs.Tryd.f69), (76, Go.Proofs.Tryd.f76), (77, Go.Proofs.Tryd.f77)], S := [(69, f69s_at n)], R := [] }
theorem f69s_run (n : Nat) (x : envDen (f69s_at n).args × bxsDen (f69s_at n).ins) : runS (f69s_env n) 69 Go.Proofs.Tryd.f69 f69s_code (f69s_at n) x = f69s (n + 1) x.1.1 x.2.1.1 x.2.2.2.2.2.1.1 x.2.2.2.2.2.2.1.1 x.2.2.2.2.2.2.2.1.1 := by kernel_rfl
theorem f69s_enter : Enterable Go.Proofs.Tryd.prog 69 := enter_fun Go.Proofs.Tryd.func69 (by kernel_rfl)
theorem f69s_envOK (n : Nat) (ih : CallOK Go.Proofs.Tryd.prog cfg 69 (f69s_at n)) : EnvOK Go.Proofs.Tryd.prog (f69s_env n) := envOK_of cds (by kernel_rfl) cfg_ok ⟨⟨f65_pure, f65_enter⟩, ⟨f66_pure, f66_enter⟩, ⟨f67_pure, f67_enter⟩, trivial⟩ ⟨⟨ih, by kernel_rfl, f69s_enter⟩, trivial⟩ ⟨⟨Go.Proofs.Tryd.func69, by kernel_rfl⟩, ⟨Go.Proofs.Tryd.func76, by kernel_rfl⟩, ⟨Go.Proofs.Tryd.func77, by kernel_rfl⟩, trivial⟩ trivial trivial
theorem f69s_call : CallOK Go.Proofs.Tryd.prog cfg 69 f69s_spec := call_rec f69s_spec (fun n x => f69s n x.1.1 x.2.1.1 x.2.2.2.2.2.1.1 x.2.2.2.2.2.2.1.1 x.2.2.2.2.2.2.2.1.1) (fun x => by kernel_rfl) (fun n ih => call_of_run (f69s_envOK n ih) (fn := Go.Proofs.Tryd.f69) (c := f69s_code) rfl rfl _ (by kernel_rfl) (fun x _ h => (f69s_run n x).trans h)) (fun x y h => ⟨_, h⟩)

def f88_l2_b27007000_head : Ann := { env := [(0, .ty (.sl .str)), (1, .cst (.fn 73 [])), (7, .ty (.int .i64)), (8, .ty (.int .i64))], stk := [[(4, .ty .bool)], [(1, .ty (.sl .str)), (2, .cst (.ptr 2 0 [])), (4, .ty .str), (5, .ty .bool), (7, .cst (.fn 74 [])), (24, .ty .bool)]], bxs := [(2, .var [.ty (.sl (.int .i64)), .ty (.sl .str), .ty (.sl .str)])] }
def f88_l2_b27007000_outs : List (Ex × Ann) := [((.exit 0), { env := [], stk := [[(4, .ty .bool)], [(1, .ty (.sl .str)), (2, .cst (.ptr 2 0 [])), (4, .ty .str), (5, .ty .bool), (7, .cst (.fn 74 [])), (24, .ty .bool)]], bxs := [(2, .var [.ty (.sl (.int .i64)), .ty (.sl .str), .ty (.sl .str)])] }), (.ret, { env := [(4, .ty (.int .i64))], stk := [[(4, .ty .bool)], [(1, .ty (.sl .str)), (2, .cst (.ptr 2 0 [])), (4, .ty .str), (5, .ty .bool), (7, .cst (.fn 74 [])), (24, .ty .bool)]], bxs := [(2, .var [.ty (.sl (.int .i64)), .ty (.sl .str), .ty (.sl .str)])] })]
def f88_l2_b27007000 (t0 : (List ByteArray)) (t7 : Int) (k0t4 : Bool) (k1t1 : (List ByteArray)) (k1t4 : ByteArray) (k1t5 : Bool) (k1t24 : Bool) (b2g0 : (List Int)) (b2g1 : (List ByteArray)) (b2g2 : (List ByteArray)) : Nat → Int → Option (outDen f88_l2_b27007000_outs)
  | 0, _ => none
  | k + 1, t8 =>
    bif (decide (t8 < t7)) then
      bif (inR t8 t0.length) then
        (f73 (at_ .str t0 t8)).bind fun y3 =>
        bif y3.1 then
          some (.inr ((t8, ()), ((k0t4, ()), (k1t1, k1t4, k1t5, k1t24, ()), ()), ((b2g0, b2g1, b2g2, ()), ())))
        else
          f88_l2_b27007000 t0 t7 k0t4 k1t1 k1t4 k1t5 k1t24 b2g0 b2g1 b2g2 k (IntKind.wrap .i64 (t8 + (1 : Int)))
      else none
    else
      some (.inl ((), ((k0t4, ()), (k1t1, k1t4, k1t5, k1t24, ()), ()), ((b2g0, b2g1, b2g2, ()), ())))
def f88_l2_b27007000_spec : LSpec := { thaws := [], head := f88_l2_b27007000_head, outs := f88_l2_b27007000_outs, fn := fun x => f88_l2_b27007000 x.1.1 x.1.2.1 x.2.1.1.1 x.2.1.2.1.1 x.2.1.2.1.2.1 x.2.1.2.1.2.2.1 x.2.1.2.1.2.2.2.1 x.2.2.1.1 x.2.2.1.2.1 x.2.2.1.2.2.1 ((x.1.2.1 - x.1.2.2.1).toNat + 1) x.1.2.2.1 }
def f88_l2_b33007000_head : Ann := { env := [(0, .ty (.sl .str)), (1, .cst (.fn 74 [])), (7, .ty (.int .i64)), (8, .ty (.int .i64))], stk := [[(4, .ty .bool)], [(1, .ty (.sl .str)), (2, .cst (.ptr 2 0 [])), (4, .ty .str), (5, .ty .bool), (29, .ty .bool)]], bxs := [(2, .var [.ty (.sl (.int .i64)), .ty (.sl .str), .ty (.sl .str)])] }
def f88_l2_b33007000_outs : List (Ex × Ann) := [((.exit 0), { env := [], stk := [[(4, .ty .bool)], [(1, .ty (.sl .str)), (2, .cst (.ptr 2 0 [])), (4, .ty .str), (5, .ty .bool), (29, .ty .bool)]], bxs := [(2, .var [.ty (.sl (.int .i64)), .ty (.sl .str), .ty (.sl .str)])] }), (.ret, { env := [(4, .ty (.int .i64))], stk := [[(4, .ty .bool)], [(1, .ty (.sl .str)), (2, .cst (.ptr 2 0 [])), (4, .ty .str), (5, .ty .bool), (29, .ty .bool)]], bxs := [(2, .var [.ty (.sl (.int .i64)), .ty (.sl .str), .ty (.sl .str)])] })]
def f88_l2_b33007000 (t0 : (List ByteArray)) (t7 : Int) (k0t4 : Bool) (k1t1 : (List ByteArray)) (k1t4 : ByteArray) (k1t5 : Bool) (k1t29 : Bool) (b2g0 : (List Int)) (b2g1 : (List ByteArray)) (b2g2 : (List ByteArray)) : Nat → Int → Option (outDen f88_l2_b33007000_outs)
  | 0, _ => none
  | k + 1, t8 =>
    bif (decide (t8 < t7)) then
      bif (inR t8 t0.length) then
        (f74 (at_ .str t0 t8)).bind fun y15 =>
        bif y15.1 then
          some (.inr ((t8, ()), ((k0t4, ()), (k1t1, k1t4, k1t5, k1t29, ()), ()), ((b2g0, b2g1, b2g2, ()), ())))
        else
          f88_l2_b33007000 t0 t7 k0t4 k1t1 k1t4 k1t5 k1t29 b2g0 b2g1 b2g2 k (IntKind.wrap .i64 (t8 + (1 : Int)))
      else none
    else
      some (.inl ((), ((k0t4, ()), (k1t1, k1t4, k1t5, k1t29, ()), ()), ((b2g0, b2g1, b2g2, ()), ())))
def f88_l2_b33007000_spec : LSpec := { thaws := [], head := f88_l2_b33007000_head, outs := f88_l2_b33007000_outs, fn := fun x => f88_l2_b33007000 x.1.1 x.1.2.1 x.2.1.1.1 x.2.1.2.1.1 x.2.1.2.1.2.1 x.2.1.2.1.2.2.1 x.2.1.2.1.2.2.2.1 x.2.2.1.1 x.2.2.1.2.1 x.2.2.1.2.2.1 ((x.1.2.1 - x.1.2.2.1).toNat + 1) x.1.2.2.1 }
def f46_l6_b42000_head : Ann := { env := [(4, .cst (.ptr 42004 0 [])), (5, .cst (.ptr 42005 0 [])), (7, .cst (.ptr 42007 0 [])), (10, .ty (.int .i64)), (13, .ty (.sl (.int .i64))), (14, .ty (.int .i64)), (15, .ty (.int .i64))], stk := [[(2, .cst (.ptr 2 0 [])), (4, .ty .str), (5, .ty .bool), (10, .cst (.ptr 10 0 []))]], bxs := [(42004, .var [.cst (.fn 76 [(.ptr 10 0 []), (.ptr 8 0 [])])]), (42005, .var [.cst (.fn 77 [(.ptr 9 0 [])])]), (42007, .var [.ty (.arr 128 .bool)]), (2, .var [.ty (.sl (.int .i64)), .ty (.sl .str), .ty (.sl .str)]), (10, .var [.ty (.int .i64)]), (8, .var [.ty (.sl .str)]), (9, .var [.ty (.sl .str)])] }
def f46_l6_b42000_outs : List (Ex × Ann) := [((.exit 2), { env := [(4, .cst (.ptr 42004 0 [])), (5, .cst (.ptr 42005 0 [])), (7, .cst (.ptr 42007 0 [])), (13, .ty (.sl (.int .i64))), (14, .ty (.int .i64)), (15, .ty (.int .i64))], stk := [[(2, .cst (.ptr 2 0 [])), (4, .ty .str), (5, .ty .bool), (10, .cst (.ptr 10 0 []))]], bxs := [(42004, .var [.cst (.fn 76 [(.ptr 10 0 []), (.ptr 8 0 [])])]), (42005, .var [.cst (.fn 77 [(.ptr 9 0 [])])]), (42007, .var [.ty (.arr 128 .bool)]), (2, .var [.ty (.sl (.int .i64)), .ty (.sl .str), .ty (.sl .str)]), (10, .var [.ty (.int .i64)]), (8, .var [.ty (.sl .str)]), (9, .var [.ty (.sl .str)])] })]
def f46_l6_b42000 (t13 : (List Int)) (t14 : Int) (t15 : Int) (k0t4 : ByteArray) (k0t5 : Bool) (b2g0 : (List Int)) (b2g1 : (List ByteArray)) (b2g2 : (List ByteArray)) (b10g0 : Int) (b8g0 : (List ByteArray)) (b9g0 : (List ByteArray)) : Nat → Int → (List Bool) → Option (outDen f46_l6_b42000_outs)
  | 0, _, _ => none
  | k + 1, t10, b42007g0 =>
    bif (decide (t10 > (0 : Int))) then
      bif (inR t10 128) then
        let v28 : Int := (IntKind.wrap .i64 (Int.tdiv t10 (2 : Int)))
        f46_l6_b42000 t13 t14 t15 k0t4 k0t5 b2g0 b2g1 b2g2 b10g0 b8g0 b9g0 k v28 (b42007g0.set (Int.toNat t10) true)
      else none
    else
      some ((t13, t14, t15, ()), ((k0t4, k0t5, ()), ()), ((), (), (b42007g0, ()), (b2g0, b2g1, b2g2, ()), (b10g0, ()), (b8g0, ()), (b9g0, ()), ()))
def f46_l6_b42000_spec : LSpec := { thaws := [], head := f46_l6_b42000_head, outs := f46_l6_b42000_outs, fn := fun x => f46_l6_b42000 x.1.2.1 x.1.2.2.1 x.1.2.2.2.1 x.2.1.1.1 x.2.1.1.2.1 x.2.2.2.2.2.1.1 x.2.2.2.2.2.1.2.1 x.2.2.2.2.2.1.2.2.1 x.2.2.2.2.2.2.1.1 x.2.2.2.2.2.2.2.1.1 x.2.2.2.2.2.2.2.2.1.1 (x.1.1.toNat + 1) x.1.1 x.2.2.2.2.1.1 }
def f46_l3_b42000_head : Ann := { env := [(4, .cst (.ptr 42004 0 [])), (5, .cst (.ptr 42005 0 [])), (7, .cst (.ptr 42007 0 [])), (13, .ty (.sl (.int .i64))), (14, .ty (.int .i64)), (15, .ty (.int .i64))], stk := [[(2, .cst (.ptr 2 0 [])), (4, .ty .str), (5, .ty .bool), (10, .cst (.ptr 10 0 []))]], bxs := [(42004, .var [.cst (.fn 76 [(.ptr 10 0 []), (.ptr 8 0 [])])]), (42005, .var [.cst (.fn 77 [(.ptr 9 0 [])])]), (42007, .var [.ty (.arr 128 .bool)]), (2, .var [.ty (.sl (.int .i64)), .ty (.sl .str), .ty (.sl .str)]), (10, .var [.ty (.int .i64)]), (8, .var [.ty (.sl .str)]), (9, .var [.ty (.sl .str)])] }
def f46_l3_b42000_outs : List (Ex × Ann) := [((.exit 0), { env := [(4, .cst (.ptr 42004 0 [])), (5, .cst (.ptr 42005 0 [])), (7, .cst (.ptr 42007 0 []))], stk := [[(2, .cst (.ptr 2 0 [])), (4, .ty .str), (5, .ty .bool), (10, .cst (.ptr 10 0 []))]], bxs := [(42004, .var [.cst (.fn 76 [(.ptr 10 0 []), (.ptr 8 0 [])])]), (42005, .var [.cst (.fn 77 [(.ptr 9 0 [])])]), (42007, .var [.ty (.arr 128 .bool)]), (2, .var [.ty (.sl (.int .i64)), .ty (.sl .str), .ty (.sl .str)]), (10, .var [.ty (.int .i64)]), (8, .var [.ty (.sl .str)]), (9, .var [.ty (.sl .str)])] })]
def f46_l3_b42000 : Nat → (List Int) → Int → Int → ByteArray → Bool → (List Bool) → (List Int) → (List ByteArray) → (List ByteArray) → Int → (List ByteArray) → (List ByteArray) → Option (outDen f46_l3_b42000_outs)
  | 0, _, _, _, _, _, _, _, _, _, _, _, _ => none
  | k + 1, t13, t14, t15, k0t4, k0t5, b42007g0, b2g0, b2g1, b2g2, b10g0, b8g0, b9g0 =>
    bif (decide (t15 < t14)) then
      bif (inR t15 t13.length) then
        let v27 : Int := (IntKind.wrap .i64 ((64 : Int) + (at_ (.int .i64) t13 t15)))
        (f46_l6_b42000 t13 t14 t15 k0t4 k0t5 b2g0 b2g1 b2g2 b10g0 b8g0 b9g0 (v27.toNat + 1) v27 b42007g0).bind fun o29 =>
        let u30 : (List Int) := o29.1.1
        let u31 : Int := o29.1.2.1
        let u32 : Int := o29.1.2.2.1
        let u33 : ByteArray := o29.2.1.1.1
        let u34 : Bool := o29.2.1.1.2.1
        let u35 : (List Bool) := o29.2.2.2.2.1.1
        let u36 : (List Int) := o29.2.2.2.2.2.1.1
        let u37 : (List ByteArray) := o29.2.2.2.2.2.1.2.1
        let u38 : (List ByteArray) := o29.2.2.2.2.2.1.2.2.1
        let u39 : Int := o29.2.2.2.2.2.2.1.1
        let u40 : (List ByteArray) := o29.2.2.2.2.2.2.2.1.1
        let u41 : (List ByteArray) := o29.2.2.2.2.2.2.2.2.1.1
        f46_l3_b42000 k u30 u31 (IntKind.wrap .i64 (u32 + (1 : Int))) u33 u34 u35 u36 u37 u38 u39 u40 u41
      else none
    else
      some ((), ((k0t4, k0t5, ()), ()), ((), (), (b42007g0, ()), (b2g0, b2g1, b2g2, ()), (b10g0, ()), (b8g0, ()), (b9g0, ()), ()))
def f46_l3_b42000_spec : LSpec := { thaws := [], head := f46_l3_b42000_head, outs := f46_l3_b42000_outs, fn := fun x => f46_l3_b42000 ((x.1.2.1 - x.1.2.2.1).toNat + 1) x.1.1 x.1.2.1 x.1.2.2.1 x.2.1.1.1 x.2.1.1.2.1 x.2.2.2.2.1.1 x.2.2.2.2.2.1.1 x.2.2.2.2.2.1.2.1 x.2.2.2.2.2.1.2.2.1 x.2.2.2.2.2.2.1.1 x.2.2.2.2.2.2.2.1.1 x.2.2.2.2.2.2.2.2.1.1 }
def f54 (a0 : ((List Int) × ((List ByteArray) × ((List ByteArray) × Unit)))) (a1 : (List ByteArray)) : Option (ByteArray × Bool × Unit) :=
  (f40 a0.1).bind fun y1 =>
  bif (!y1.1) then
    some ((⟨#[]⟩ : ByteArray), false, ())
  else
    let v2 : Bool := (decide ((a1.length : Int) ≠ (a0.1.length : Int)))
    bif v2 then
      some ((⟨#[]⟩ : ByteArray), false, ())
    else
      (f88_l2_b27007000 a1 (a1.length : Int) false a1 (⟨#[]⟩ : ByteArray) false false a0.1 a0.2.1 a0.2.2.1 (((a1.length : Int) - (0 : Int)).toNat + 1) (0 : Int)).bind fun o4 =>
      Sum.elim (fun o5 =>
        let u8 : (List ByteArray) := o5.2.1.2.1.1
        let u9 : ByteArray := o5.2.1.2.1.2.1
        let u10 : Bool := o5.2.1.2.1.2.2.1
        let u11 : Bool := o5.2.1.2.1.2.2.2.1
        let u12 : (List Int) := o5.2.2.1.1
        let u13 : (List ByteArray) := o5.2.2.1.2.1
        let u14 : (List ByteArray) := o5.2.2.1.2.2.1
        bif u11 then
          some ((⟨#[]⟩ : ByteArray), false, ())
        else
          (f88_l2_b33007000 u14 (u14.length : Int) false u8 u9 u10 false u12 u13 u14 (((u14.length : Int) - (0 : Int)).toNat + 1) (0 : Int)).bind fun o16 =>
          Sum.elim (fun o17 =>
            let u20 : (List ByteArray) := o17.2.1.2.1.1
            let u21 : ByteArray := o17.2.1.2.1.2.1
            let u22 : Bool := o17.2.1.2.1.2.2.1
            let u23 : Bool := o17.2.1.2.1.2.2.2.1
            let u24 : (List Int) := o17.2.2.1.1
            let u25 : (List ByteArray) := o17.2.2.1.2.1
            let u26 : (List ByteArray) := o17.2.2.1.2.2.1
            bif u23 then
              some ((⟨#[]⟩ : ByteArray), false, ())
            else
              (f46_l3_b42000 (((u24.length : Int) - (0 : Int)).toNat + 1) u24 (u24.length : Int) (0 : Int) u21 u22 (List.replicate 128 false) u24 u25 u26 (0 : Int) u26 u20).bind fun o42 =>
              let u45 : (List Bool) := o42.2.2.2.2.1.1
              let u48 : (List ByteArray) := o42.2.2.2.2.2.1.2.2.1
              let u49 : Int := o42.2.2.2.2.2.2.1.1
              let u50 : (List ByteArray) := o42.2.2.2.2.2.2.2.1.1
              let u51 : (List ByteArray) := o42.2.2.2.2.2.2.2.2.1.1
              (f69s_go (1 : Int) u45 u49 u50 u51).bind fun y52 =>
              let u53 : ByteArray := y52.1.1
              let u54 : (List Bool) := y52.2.1.1
              let u55 : Int := y52.2.2.2.2.2.1.1
              let u56 : (List ByteArray) := y52.2.2.2.2.2.2.1.1
              let u57 : (List ByteArray) := y52.2.2.2.2.2.2.2.1.1
              some (u53, (decide (u55 = (u48.length : Int))), ())) (fun o18 =>
            let u58 : Int := o18.1.1
            let u60 : (List ByteArray) := o18.2.1.2.1.1
            let u61 : ByteArray := o18.2.1.2.1.2.1
            let u62 : Bool := o18.2.1.2.1.2.2.1
            let u63 : Bool := o18.2.1.2.1.2.2.2.1
            let u64 : (List Int) := o18.2.2.1.1
            let u65 : (List ByteArray) := o18.2.2.1.2.1
            let u66 : (List ByteArray) := o18.2.2.1.2.2.1
            bif u63 then
              some ((⟨#[]⟩ : ByteArray), false, ())
            else
              bif (decide (u58 ≥ (0 : Int))) then
                some ((⟨#[]⟩ : ByteArray), false, ())
              else
                (f46_l3_b42000 (((u64.length : Int) - (0 : Int)).toNat + 1) u64 (u64.length : Int) (0 : Int) u61 u62 (List.replicate 128 false) u64 u65 u66 (0 : Int) u66 u60).bind fun o82 =>
                let u85 : (List Bool) := o82.2.2.2.2.1.1
                let u88 : (List ByteArray) := o82.2.2.2.2.2.1.2.2.1
                let u89 : Int := o82.2.2.2.2.2.2.1.1
                let u90 : (List ByteArray) := o82.2.2.2.2.2.2.2.1.1
                let u91 : (List ByteArray) := o82.2.2.2.2.2.2.2.2.1.1
                (f69s_go (1 : Int) u85 u89 u90 u91).bind fun y92 =>
                let u93 : ByteArray := y92.1.1
                let u94 : (List Bool) := y92.2.1.1
                let u95 : Int := y92.2.2.2.2.2.1.1
                let u96 : (List ByteArray) := y92.2.2.2.2.2.2.1.1
                let u97 : (List ByteArray) := y92.2.2.2.2.2.2.2.1.1
                some (u93, (decide (u95 = (u88.length : Int))), ())) o16) (fun o6 =>
        let u98 : Int := o6.1.1
        let u100 : (List ByteArray) := o6.2.1.2.1.1
        let u101 : ByteArray := o6.2.1.2.1.2.1
        let u102 : Bool := o6.2.1.2.1.2.2.1
        let u103 : Bool := o6.2.1.2.1.2.2.2.1
        let u104 : (List Int) := o6.2.2.1.1
        let u105 : (List ByteArray) := o6.2.2.1.2.1
        let u106 : (List ByteArray) := o6.2.2.1.2.2.1
        bif u103 then
          some ((⟨#[]⟩ : ByteArray), false, ())
        else
          bif (decide (u98 ≥ (0 : Int))) then
            some ((⟨#[]⟩ : ByteArray), false, ())
          else
            (f88_l2_b33007000 u106 (u106.length : Int) false u100 u101 u102 false u104 u105 u106 (((u106.length : Int) - (0 : Int)).toNat + 1) (0 : Int)).bind fun o108 =>
            Sum.elim (fun o109 =>
              let u112 : (List ByteArray) := o109.2.1.2.1.1
              let u113 : ByteArray := o109.2.1.2.1.2.1
              let u114 : Bool := o109.2.1.2.1.2.2.1
              let u115 : Bool := o109.2.1.2.1.2.2.2.1
              let u116 : (List Int) := o109.2.2.1.1
              let u117 : (List ByteArray) := o109.2.2.1.2.1
              let u118 : (List ByteArray) := o109.2.2.1.2.2.1
              bif u115 then
                some ((⟨#[]⟩ : ByteArray), false, ())
              else
                (f46_l3_b42000 (((u116.length : Int) - (0 : Int)).toNat + 1) u116 (u116.length : Int) (0 : Int) u113 u114 (List.replicate 128 false) u116 u117 u118 (0 : Int) u118 u112).bind fun o134 =>
                let u137 : (List Bool) := o134.2.2.2.2.1.1
                let u140 : (List ByteArray) := o134.2.2.2.2.2.1.2.2.1
                let u141 : Int := o134.2.2.2.2.2.2.1.1
                let u142 : (List ByteArray) := o134.2.2.2.2.2.2.2.1.1
                let u143 : (List ByteArray) := o134.2.2.2.2.2.2.2.2.1.1
                (f69s_go (1 : Int) u137 u141 u142 u143).bind fun y144 =>
                let u145 : ByteArray := y144.1.1
                let u146 : (List Bool) := y144.2.1.1
                let u147 : Int := y144.2.2.2.2.2.1.1
                let u148 : (List ByteArray) := y144.2.2.2.2.2.2.1.1
                let u149 : (List ByteArray) := y144.2.2.2.2.2.2.2.1.1
                some (u145, (decide (u147 = (u140.length : Int))), ())) (fun o110 =>
              let u150 : Int := o110.1.1
              let u152 : (List ByteArray) := o110.2.1.2.1.1
              let u153 : ByteArray := o110.2.1.2.1.2.1
              let u154 : Bool := o110.2.1.2.1.2.2.1
              let u155 : Bool := o110.2.1.2.1.2.2.2.1
              let u156 : (List Int) := o110.2.2.1.1
              let u157 : (List ByteArray) := o110.2.2.1.2.1
              let u158 : (List ByteArray) := o110.2.2.1.2.2.1
              bif u155 then
                some ((⟨#[]⟩ : ByteArray), false, ())
              else
                bif (decide (u150 ≥ (0 : Int))) then
                  some ((⟨#[]⟩ : ByteArray), false, ())
                else
                  (f46_l3_b42000 (((u156.length : Int) - (0 : Int)).toNat + 1) u156 (u156.length : Int) (0 : Int) u153 u154 (List.replicate 128 false) u156 u157 u158 (0 : Int) u158 u152).bind fun o174 =>
                  let u177 : (List Bool) := o174.2.2.2.2.1.1
                  let u180 : (List ByteArray) := o174.2.2.2.2.2.1.2.2.1
                  let u181 : Int := o174.2.2.2.2.2.2.1.1
                  let u182 : (List ByteArray) := o174.2.2.2.2.2.2.2.1.1
                  let u183 : (List ByteArray) := o174.2.2.2.2.2.2.2.2.1.1
                  (f69s_go (1 : Int) u177 u181 u182 u183).bind fun y184 =>
                  let u185 : ByteArray := y184.1.1
                  let u186 : (List Bool) := y184.2.1.1
                  let u187 : Int := y184.2.2.2.2.2.1.1
                  let u188 : (List ByteArray) := y184.2.2.2.2.2.2.1.1
                  let u189 : (List ByteArray) := y184.2.2.2.2.2.2.2.1.1
                  some (u185, (decide (u187 = (u180.length : Int))), ())) o108) o4
def f54_spec : PSpec := { args := [(.pair (.sl (.int .i64)) (.pair (.sl .str) (.pair (.sl .str) .unit))), (.sl .str)], res := [.str, .bool], fn := fun x => f54 x.1 x.2.1 }
noncomputable def f54_code : Code := Go.Proofs.Tryd.f54.body.getD .skip
noncomputable def f54_code_46 : Code := Go.Proofs.Tryd.f46.body.getD .skip
noncomputable def f54_code_75 : Code := Go.Proofs.Tryd.f75.body.getD .skip
noncomputable def f54_code_88 : Code := Go.Proofs.Tryd.f88.body.getD .skip
noncomputable def f54_env : Env0 := { C := cfg, P := [(40, f40_spec), (73, f73_spec), (74, f74_spec)], L := [(⟨10, 27007000, 88, 2⟩, f88_l2_b27007000_spec), (⟨10, 33007000, 88, 2⟩, f88_l2_b33007000_spec), (⟨11, 42000, 46, 6⟩, f46_l6_b42000_spec), (⟨11, 42000, 46, 3⟩, f46_l3_b42000_spec)], F := [(46, Go.Proofs.Tryd.f46), (54, Go.Proofs.Tryd.f54), (75, Go.Proofs.Tryd.f75), (88, Go.Proofs.Tryd.f88)], S := [(69, f69s_spec)], R := [] }
theorem f88_l2_b27007000_ok : LoopOK f54_env 10 88 27007000 (loopAt f54_code_88 2) f88_l2_b27007000_spec :=
  loopOK_of (by kernel_rfl) (fun n x => f88_l2_b27007000 x.1.1 x.1.2.1 x.2.1.1.1 x.2.1.2.1.1 x.2.1.2.1.2.1 x.2.1.2.1.2.2.1 x.2.1.2.1.2.2.2.1 x.2.2.1.1 x.2.2.1.2.1 x.2.2.1.2.2.1 n x.1.2.2.1) (fun x o h => ⟨_, h⟩) (fun x => by kernel_rfl) (fun n x => by kernel_rfl)
theorem f88_l2_b33007000_ok : LoopOK f54_env 10 88 33007000 (loopAt f54_code_88 2) f88_l2_b33007000_spec :=
  loopOK_of (by kernel_rfl) (fun n x => f88_l2_b33007000 x.1.1 x.1.2.1 x.2.1.1.1 x.2.1.2.1.1 x.2.1.2.1.2.1 x.2.1.2.1.2.2.1 x.2.1.2.1.2.2.2.1 x.2.2.1.1 x.2.2.1.2.1 x.2.2.1.2.2.1 n x.1.2.2.1) (fun x o h => ⟨_, h⟩) (fun x => by kernel_rfl) (fun n x => by kernel_rfl)
theorem f46_l6_b42000_ok : LoopOK f54_env 11 46 42000 (loopAt f54_code_46 6) f46_l6_b42000_spec :=
  loopOK_of (by kernel_rfl) (fun n x => f46_l6_b42000 x.1.2.1 x.1.2.2.1 x.1.2.2.2.1 x.2.1.1.1 x.2.1.1.2.1 x.2.2.2.2.2.1.1 x.2.2.2.2.2.1.2.1 x.2.2.2.2.2.1.2.2.1 x.2.2.2.2.2.2.1.1 x.2.2.2.2.2.2.2.1.1 x.2.2.2.2.2.2.2.2.1.1 n x.1.1 x.2.2.2.2.1.1) (fun x o h => ⟨_, h⟩) (fun x => by kernel_rfl) (fun n x => by kernel_rfl)
theorem f46_l3_b42000_ok : LoopOK f54_env 11 46 42000 (loopAt f54_code_46 3) f46_l3_b42000_spec :=
  loopOK_of (by kernel_rfl) (fun n x => f46_l3_b42000 n x.1.1 x.1.2.1 x.1.2.2.1 x.2.1.1.1 x.2.1.1.2.1 x.2.2.2.2.1.1 x.2.2.2.2.2.1.1 x.2.2.2.2.2.1.2.1 x.2.2.2.2.2.1.2.2.1 x.2.2.2.2.2.2.1.1 x.2.2.2.2.2.2.2.1.1 x.2.2.2.2.2.2.2.2.1.1) (fun x o h => ⟨_, h⟩) (fun x => by kernel_rfl) (fun n x => by kernel_rfl)
theorem f54_run (x : tysDen (f54_spec).args) : runF f54_env 54 Go.Proofs.Tryd.f54 f54_code (f54_spec).args (f54_spec).res x = f54_spec.fn x := by kernel_rfl
theorem f54_enter : Enterable Go.Proofs.Tryd.prog 54 := enter_fun Go.Proofs.Tryd.func54 (by kernel_rfl)
theorem f54_envOK : EnvOK Go.Proofs.Tryd.prog f54_env := envOK_of cds (by kernel_rfl) cfg_ok ⟨⟨f40_pure, f40_enter⟩, ⟨f73_pure, f73_enter⟩, ⟨f74_pure, f74_enter⟩, trivial⟩ ⟨⟨f69s_call, by kernel_rfl, f69s_enter⟩, trivial⟩ ⟨⟨Go.Proofs.Tryd.func46, by kernel_rfl⟩, ⟨Go.Proofs.Tryd.func54, by kernel_rfl⟩, ⟨Go.Proofs.Tryd.func75, by kernel_rfl⟩, ⟨Go.Proofs.Tryd.func88, by kernel_rfl⟩, trivial⟩ ⟨⟨Go.Proofs.Tryd.f88, f54_code_88, rfl, rfl, f88_l2_b27007000_ok⟩, ⟨Go.Proofs.Tryd.f88, f54_code_88, rfl, rfl, f88_l2_b33007000_ok⟩, ⟨Go.Proofs.Tryd.f46, f54_code_46, rfl, rfl, f46_l6_b42000_ok⟩, ⟨Go.Proofs.Tryd.f46, f54_code_46, rfl, rfl, f46_l3_b42000_ok⟩, trivial⟩ trivial
theorem f54_pure : PureOK Go.Proofs.Tryd.prog cfg 54 f54_spec := pure_of_run f54_envOK (fn := Go.Proofs.Tryd.f54) (c := f54_code) rfl rfl f54_spec (fun x _ h => (f54_run x).trans h)

def f23_l7_head : Ann := { env := [(3, .cst (.ptr 3 0 [])), (9, .cst (.row 54 .whole)), (10, .cst (.row 44 .whole)), (28, .ty (.sl (.int .i64))), (29, .ty (.int .i64)), (30, .ty (.int .i64))], stk := [], bxs := [(3, .var [.ty (.sl (.int .i64)), .ty (.sl .str), .ty (.sl .str)]), (54, .row (.pair (.int .i64) (.pair .str .unit)) false), (44, .row (.int .i64) false)] }
def f23_l7_outs : List (Ex × Ann) := [((.exit 0), { env := [(9, .cst (.row 54 .whole)), (10, .cst (.row 44 .whole))], stk := [], bxs := [(54, .row (.pair (.int .i64) (.pair .str .unit)) false), (44, .row (.int .i64) false)] })]
def f23_l7 (t28 : (List Int)) (t29 : Int) (b3g0 : (List Int)) (b3g1 : (List ByteArray)) (b3g2 : (List ByteArray)) : Nat → Int → (List (Int × (ByteArray × Unit))) → (List Int) → Option (outDen f23_l7_outs)
  | 0, _, _, _ => none
  | k + 1, t30, r54, r44 =>
    bif (decide (t30 < t29)) then
      bif (inR t30 t28.length) then
        bif (inR t30 b3g1.length) then
          let v2 : Bool := (decide ((at_ .str b3g1 t30) = (⟨#[]⟩ : ByteArray)))
          bif v2 then
            bif (decide (r44.length + ([(at_ (.int .i64) t28 t30)] : List Int).length ≤ appLim)) then f23_l7 t28 t29 b3g0 b3g1 b3g2 k (IntKind.wrap .i64 (t30 + (1 : Int))) r54 (r44 ++ ([(at_ (.int .i64) t28 t30)] : List Int)) else none
          else
            bif (inR t30 b3g1.length) then bif (decide (r54.length + ([((at_ (.int .i64) t28 t30), ((at_ .str b3g1 t30), ()))] : List (Int × (ByteArray × Unit))).length ≤ appLim)) then f23_l7 t28 t29 b3g0 b3g1 b3g2 k (IntKind.wrap .i64 (t30 + (1 : Int))) (r54 ++ ([((at_ (.int .i64) t28 t30), ((at_ .str b3g1 t30), ()))] : List (Int × (ByteArray × Unit)))) r44 else none else none
        else none
      else none
    else
      some ((), (), (r54, r44, ()))
def f23_l7_spec : LSpec := { thaws := [.slot 10 44 (.int .i64), .slot 9 54 (.pair (.int .i64) (.pair .str .unit))], head := f23_l7_head, outs := f23_l7_outs, fn := fun x => f23_l7 x.1.1 x.1.2.1 x.2.2.1.1 x.2.2.1.2.1 x.2.2.1.2.2.1 ((x.1.2.1 - x.1.2.2.1).toNat + 1) x.1.2.2.1 x.2.2.2.1 x.2.2.2.2.1 }
def f23 (a0 : ByteArray) (a1 : ((List Int) × ((List ByteArray) × ((List ByteArray) × Unit)))) : Option ((List (Int × (ByteArray × Unit))) × (List Int) × Bool × Unit) :=
  (f54 a1 a1.2.1).bind fun y1 =>
  bif (!y1.2.1) then
    some ([], [], false, ())
  else
    bif (!(decide (y1.1 = a0))) then
      some ([], [], false, ())
    else
      (f23_l7 a1.1 (a1.1.length : Int) a1.1 a1.2.1 a1.2.2.1 (((a1.1.length : Int) - (0 : Int)).toNat + 1) (0 : Int) [] []).bind fun o3 =>
      let u4 : (List (Int × (ByteArray × Unit))) := o3.2.2.1
      let u5 : (List Int) := o3.2.2.2.1
      some (u4, u5, true, ())
def f23_spec : PSpec := { args := [.str, (.pair (.sl (.int .i64)) (.pair (.sl .str) (.pair (.sl .str) .unit)))], res := [(.sl (.pair (.int .i64) (.pair .str .unit))), (.sl (.int .i64)), .bool], fn := fun x => f23 x.1 x.2.1 }
noncomputable def f23_code : Code := Go.Proofs.Tryd.f23.body.getD .skip
noncomputable def f23_env : Env0 := { C := cfg, P := [(54, f54_spec)], L := [(⟨12, 0, 23, 7⟩, f23_l7_spec)], F := [(23, Go.Proofs.Tryd.f23)], S := [], R := [] }
theorem f23_l7_ok : LoopOK f23_env 12 23 0 (loopAt f23_code 7) f23_l7_spec :=
  loopOK_of (by kernel_rfl) (fun n x => f23_l7 x.1.1 x.1.2.1 x.2.2.1.1 x.2.2.1.2.1 x.2.2.1.2.2.1 n x.1.2.2.1 x.2.2.2.1 x.2.2.2.2.1) (fun x o h => ⟨_, h⟩) (fun x => by kernel_rfl) (fun n x => by kernel_rfl)
theorem f23_run (x : tysDen (f23_spec).args) : runF f23_env 23 Go.Proofs.Tryd.f23 f23_code (f23_spec).args (f23_spec).res x = f23_spec.fn x := by kernel_rfl
theorem f23_enter : Enterable Go.Proofs.Tryd.prog 23 := enter_fun Go.Proofs.Tryd.func23 (by kernel_rfl)
theorem f23_envOK : EnvOK Go.Proofs.Tryd.prog f23_env := envOK_of cds (by kernel_rfl) cfg_ok ⟨⟨f54_pure, f54_enter⟩, trivial⟩ trivial ⟨⟨Go.Proofs.Tryd.func23, by kernel_rfl⟩, trivial⟩ ⟨⟨Go.Proofs.Tryd.f23, f23_code, rfl, rfl, f23_l7_ok⟩, trivial⟩ trivial
theorem f23_pure : PureOK Go.Proofs.Tryd.prog cfg 23 f23_spec := pure_of_run f23_envOK (fn := Go.Proofs.Tryd.f23) (c := f23_code) rfl rfl f23_spec (fun x _ h => (f23_run x).trans h)

def f25_l4_head : Ann := { env := [(0, .ty (.sl (.pair (.int .i64) (.pair .str .unit)))), (1, .ty (.sl (.pair (.int .i64) (.pair .str .unit)))), (5, .ty (.int .i64))], stk := [], bxs := [] }
def f25_l4_outs : List (Ex × Ann) := [((.exit 0), { env := [], stk := [], bxs := [] }), (.ret, { env := [(4, .ty .bool)], stk := [], bxs := [] })]
def f25_l4 (t0 : (List (Int × (ByteArray × Unit)))) (t1 : (List (Int × (ByteArray × Unit)))) : Nat → Int → Option (outDen f25_l4_outs)
  | 0, _ => none
  | k + 1, t5 =>
    bif (decide (t5 < (t0.length : Int))) then
      bif (inR t5 t0.length) then
        bif (inR t5 t1.length) then
          let v2 : Bool := (!(decide ((at_ (.pair (.int .i64) (.pair .str .unit)) t0 t5).1 = (at_ (.pair (.int .i64) (.pair .str .unit)) t1 t5).1) && (decide ((at_ (.pair (.int .i64) (.pair .str .unit)) t0 t5).2.1 = (at_ (.pair (.int .i64) (.pair .str .unit)) t1 t5).2.1) && true)))
          bif v2 then
            some (.inr ((false, ()), (), ()))
          else
            f25_l4 t0 t1 k (IntKind.wrap .i64 (t5 + (1 : Int)))
        else none
      else none
    else
      some (.inl ((), (), ()))
def f25_l4_spec : LSpec := { thaws := [], head := f25_l4_head, outs := f25_l4_outs, fn := fun x => f25_l4 x.1.1 x.1.2.1 (((x.1.1.length : Int) - x.1.2.2.1).toNat + 1) x.1.2.2.1 }
def f25 (a0 : (List (Int × (ByteArray × Unit)))) (a1 : (List (Int × (ByteArray × Unit)))) : Option (Bool × Unit) :=
  let v1 : Bool := (decide ((a0.length : Int) ≠ (a1.length : Int)))
  bif v1 then
    some (false, ())
  else
    (f25_l4 a0 a1 (((a0.length : Int) - (0 : Int)).toNat + 1) (0 : Int)).bind fun o3 =>
    Sum.elim (fun o4 =>
      some (true, ())) (fun o5 =>
      let u6 : Bool := o5.1.1
      some (u6, ())) o3
def f25_spec : PSpec := { args := [(.sl (.pair (.int .i64) (.pair .str .unit))), (.sl (.pair (.int .i64) (.pair .str .unit)))], res := [.bool], fn := fun x => f25 x.1 x.2.1 }
noncomputable def f25_code : Code := Go.Proofs.Tryd.f25.body.getD .skip
noncomputable def f25_env : Env0 := { C := cfg, P := [], L := [(⟨12, 0, 25, 4⟩, f25_l4_spec)], F := [(25, Go.Proofs.Tryd.f25)], S := [], R := [] }
theorem f25_l4_ok : LoopOK f25_env 12 25 0 (loopAt f25_code 4) f25_l4_spec :=
  loopOK_of (by kernel_rfl) (fun n x => f25_l4 x.1.1 x.1.2.1 n x.1.2.2.1) (fun x o h => ⟨_, h⟩) (fun x => by kernel_rfl) (fun n x => by kernel_rfl)
theorem f25_run (x : tysDen (f25_spec).args) : runF f25_env 25 Go.Proofs.Tryd.f25 f25_code (f25_spec).args (f25_spec).res x = f25_spec.fn x := by kernel_rfl
theorem f25_enter : Enterable Go.Proofs.Tryd.prog 25 := enter_fun Go.Proofs.Tryd.func25 (by kernel_rfl)
theorem f25_envOK : EnvOK Go.Proofs.Tryd.prog f25_env := envOK_of cds (by kernel_rfl) cfg_ok trivial trivial ⟨⟨Go.Proofs.Tryd.func25, by kernel_rfl⟩, trivial⟩ ⟨⟨Go.Proofs.Tryd.f25, f25_code, rfl, rfl, f25_l4_ok⟩, trivial⟩ trivial
theorem f25_pure : PureOK Go.Proofs.Tryd.prog cfg 25 f25_spec := pure_of_run f25_envOK (fn := Go.Proofs.Tryd.f25) (c := f25_code) rfl rfl f25_spec (fun x _ h => (f25_run x).trans h)

def f57 (a0 : (List ByteArray)) : Option (List ByteArray) :=
  bif decide (a0.length ≤ appLim) then some a0 else none
def f57_spec : RSpec := { args := [(.sl .str)], T := .str, fz := false, fn := fun x => f57 x.1 }
noncomputable def f57_code : Code := Go.Proofs.Tryd.f57.body.getD .skip
noncomputable def f57_env : Env0 := { C := cfg, P := [], L := [], F := [(57, Go.Proofs.Tryd.f57)], S := [] }
theorem f57_run0 (x : tysDen []) : runR f57_env 57 Go.Proofs.Tryd.f57 f57_code (.nils :: tysAV [] x) .str false = f57_spec.fn ([], x) := by kernel_rfl
theorem f57_run1 (l : (List ByteArray)) (x : tysDen []) : runR f57_env 57 Go.Proofs.Tryd.f57 f57_code (.nn .str l :: tysAV [] x) .str false = f57_spec.fn (l, x) := by kernel_rfl
theorem f57_enter : Enterable Go.Proofs.Tryd.prog 57 := enter_fun Go.Proofs.Tryd.func57 (by kernel_rfl)
theorem f57_envOK : EnvOK Go.Proofs.Tryd.prog f57_env := envOK_of cds (by kernel_rfl) cfg_ok trivial trivial ⟨⟨Go.Proofs.Tryd.func57, by kernel_rfl⟩, trivial⟩ trivial
theorem f57_fresh : FreshOK Go.Proofs.Tryd.prog cfg 57 f57_spec := fresh_nil f57_envOK (fn := Go.Proofs.Tryd.f57) (c := f57_code) rfl rfl .str [] .str false f57_spec.fn (fun x y h => (f57_run0 x).trans h) (fun l x y h => (f57_run1 l x).trans h)

def f89 (a0 : Int) : Option (Bool × Unit) :=
  some ((decide (a0 ≠ a0)), ())
def f89_spec : PSpec := { args := [(.int .i64)], res := [.bool], fn := fun x => f89 x.1 }
noncomputable def f89_code : Code := Go.Proofs.Tryd.f89.body.getD .skip
noncomputable def f89_env : Env0 := { C := cfg, P := [], L := [], F := [(89, Go.Proofs.Tryd.f89)], S := [], R := [] }
theorem f89_run (x : tysDen (f89_spec).args) : runF f89_env 89 Go.Proofs.Tryd.f89 f89_code (f89_spec).args (f89_spec).res x = f89_spec.fn x := by kernel_rfl
theorem f89_enter : Enterable Go.Proofs.Tryd.prog 89 := enter_fun Go.Proofs.Tryd.func89 (by kernel_rfl)
theorem f89_envOK : EnvOK Go.Proofs.Tryd.prog f89_env := envOK_of cds (by kernel_rfl) cfg_ok trivial trivial ⟨⟨Go.Proofs.Tryd.func89, by kernel_rfl⟩, trivial⟩ trivial trivial
theorem f89_pure : PureOK Go.Proofs.Tryd.prog cfg 89 f89_spec := pure_of_run f89_envOK (fn := Go.Proofs.Tryd.f89) (c := f89_code) rfl rfl f89_spec (fun x _ h => (f89_run x).trans h)

def f79 (a0 : Int) (a1 : Int) : Option (Bool × Unit) :=
  (f89 a0).bind fun y1 =>
  bif y1.1 then
    (f89 a1).bind fun y2 =>
    bif (!y2.1) then
      some (true, ())
    else
      some ((decide (a0 < a1)), ())
  else
    some ((decide (a0 < a1)), ())
def f79_spec : PSpec := { args := [(.int .i64), (.int .i64)], res := [.bool], fn := fun x => f79 x.1 x.2.1 }
noncomputable def f79_code : Code := Go.Proofs.Tryd.f79.body.getD .skip
noncomputable def f79_env : Env0 := { C := cfg, P := [(89, f89_spec)], L := [], F := [(79, Go.Proofs.Tryd.f79)], S := [], R := [] }
theorem f79_run (x : tysDen (f79_spec).args) : runF f79_env 79 Go.Proofs.Tryd.f79 f79_code (f79_spec).args (f79_spec).res x = f79_spec.fn x := by kernel_rfl
theorem f79_enter : Enterable Go.Proofs.Tryd.prog 79 := enter_fun Go.Proofs.Tryd.func79 (by kernel_rfl)
theorem f79_envOK : EnvOK Go.Proofs.Tryd.prog f79_env := envOK_of cds (by kernel_rfl) cfg_ok ⟨⟨f89_pure, f89_enter⟩, trivial⟩ trivial ⟨⟨Go.Proofs.Tryd.func79, by kernel_rfl⟩, trivial⟩ trivial trivial
theorem f79_pure : PureOK Go.Proofs.Tryd.prog cfg 79 f79_spec := pure_of_run f79_envOK (fn := Go.Proofs.Tryd.f79) (c := f79_code) rfl rfl f79_spec (fun x _ h => (f79_run x).trans h)

def f80 (a0 : Int) : Option (Bool × Unit) :=
  some ((decide (a0 ≠ a0)), ())
def f80_spec : PSpec := { args := [(.int .i64)], res := [.bool], fn := fun x => f80 x.1 }
noncomputable def f80_code : Code := Go.Proofs.Tryd.f80.body.getD .skip
noncomputable def f80_env : Env0 := { C := cfg, P := [], L := [], F := [(80, Go.Proofs.Tryd.f80)], S := [], R := [] }
theorem f80_run (x : tysDen (f80_spec).args) : runF f80_env 80 Go.Proofs.Tryd.f80 f80_code (f80_spec).args (f80_spec).res x = f80_spec.fn x := by kernel_rfl
theorem f80_enter : Enterable Go.Proofs.Tryd.prog 80 := enter_fun Go.Proofs.Tryd.func80 (by kernel_rfl)
theorem f80_envOK : EnvOK Go.Proofs.Tryd.prog f80_env := envOK_of cds (by kernel_rfl) cfg_ok trivial trivial ⟨⟨Go.Proofs.Tryd.func80, by kernel_rfl⟩, trivial⟩ trivial trivial
theorem f80_pure : PureOK Go.Proofs.Tryd.prog cfg 80 f80_spec := pure_of_run f80_envOK (fn := Go.Proofs.Tryd.f80) (c := f80_code) rfl rfl f80_spec (fun x _ h => (f80_run x).trans h)

def f58_l3_head : Ann := { env := [(0, .ty (.sl (.int .i64))), (1, .ty (.int .i64)), (6, .ty (.int .i64)), (7, .ty (.int .i64)), (8, .ty (.int .i64))], stk := [], bxs := [] }
def f58_l3_outs : List (Ex × Ann) := [((.exit 0), { env := [(0, .ty (.sl (.int .i64))), (1, .ty (.int .i64)), (6, .ty (.int .i64)), (7, .ty (.int .i64))], stk := [], bxs := [] })]
def f58_l3 (t0 : (List Int)) (t1 : Int) (t6 : Int) : Nat → Int → Int → Option (outDen f58_l3_outs)
  | 0, _, _ => none
  | k + 1, t7, t8 =>
    bif (decide (t7 < t8)) then
      let v1 : Int := (IntKind.wrap .u64 (IntKind.wrap .i64 (t7 + t8)))
      let v2 : Int := (IntKind.wrap .i64 (shrV .u64 v1 (1 : Int)))
      bif (inR v2 t0.length) then
        (f79 (at_ (.int .i64) t0 v2) t1).bind fun y3 =>
        bif y3.1 then
          f58_l3 t0 t1 t6 k (IntKind.wrap .i64 (v2 + (1 : Int))) t8
        else
          f58_l3 t0 t1 t6 k t7 v2
      else none
    else
      some ((t0, t1, t6, t7, ()), (), ())
def f58_l3_spec : LSpec := { thaws := [], head := f58_l3_head, outs := f58_l3_outs, fn := fun x => f58_l3 x.1.1 x.1.2.1 x.1.2.2.1 ((x.1.2.2.2.2.1 - x.1.2.2.2.1).toNat + 1) x.1.2.2.2.1 x.1.2.2.2.2.1 }
def f58 (a0 : (List Int)) (a1 : Int) : Option (Int × Bool × Unit) :=
  (f58_l3 a0 a1 (a0.length : Int) (((a0.length : Int) - (0 : Int)).toNat + 1) (0 : Int) (a0.length : Int)).bind fun o4 =>
  let u5 : (List Int) := o4.1.1
  let u6 : Int := o4.1.2.1
  let u7 : Int := o4.1.2.2.1
  let u8 : Int := o4.1.2.2.2.1
  bif (decide (u8 < u7)) then
    bif (inR u8 u5.length) then
      bif (decide ((at_ (.int .i64) u5 u8) = u6)) then
        some (u8, true, ())
      else
        bif (inR u8 u5.length) then
          (f80 (at_ (.int .i64) u5 u8)).bind fun y9 =>
          bif y9.1 then
            (f80 u6).bind fun y10 =>
            some (u8, y10.1, ())
          else
            some (u8, false, ())
        else none
    else none
  else
    some (u8, false, ())
def f58_spec : PSpec := { args := [(.sl (.int .i64)), (.int .i64)], res := [(.int .i64), .bool], fn := fun x => f58 x.1 x.2.1 }
noncomputable def f58_code : Code := Go.Proofs.Tryd.f58.body.getD .skip
noncomputable def f58_env : Env0 := { C := cfg, P := [(79, f79_spec), (80, f80_spec)], L := [(⟨12, 0, 58, 3⟩, f58_l3_spec)], F := [(58, Go.Proofs.Tryd.f58)], S := [], R := [] }
theorem f58_l3_ok : LoopOK f58_env 12 58 0 (loopAt f58_code 3) f58_l3_spec :=
  loopOK_of (by kernel_rfl) (fun n x => f58_l3 x.1.1 x.1.2.1 x.1.2.2.1 n x.1.2.2.2.1 x.1.2.2.2.2.1) (fun x o h => ⟨_, h⟩) (fun x => by kernel_rfl) (fun n x => by kernel_rfl)
theorem f58_run (x : tysDen (f58_spec).args) : runF f58_env 58 Go.Proofs.Tryd.f58 f58_code (f58_spec).args (f58_spec).res x = f58_spec.fn x := by kernel_rfl
theorem f58_enter : Enterable Go.Proofs.Tryd.prog 58 := enter_fun Go.Proofs.Tryd.func58 (by kernel_rfl)
theorem f58_envOK : EnvOK Go.Proofs.Tryd.prog f58_env := envOK_of cds (by kernel_rfl) cfg_ok ⟨⟨f79_pure, f79_enter⟩, ⟨f80_pure, f80_enter⟩, trivial⟩ trivial ⟨⟨Go.Proofs.Tryd.func58, by kernel_rfl⟩, trivial⟩ ⟨⟨Go.Proofs.Tryd.f58, f58_code, rfl, rfl, f58_l3_ok⟩, trivial⟩ trivial
theorem f58_pure : PureOK Go.Proofs.Tryd.prog cfg 58 f58_spec := pure_of_run f58_envOK (fn := Go.Proofs.Tryd.f58) (c := f58_code) rfl rfl f58_spec (fun x _ h => (f58_run x).trans h)

def f41_l3_b31000_head : Ann := { env := [(1, .cst (.fn 42 [])), (5, .cst (.row 31019 .whole)), (8, .ty (.sl (.pair (.int .i64) (.pair .str .unit)))), (9, .ty (.int .i64)), (10, .ty (.int .i64))], stk := [[(2, .ty (.sl (.pair (.int .i64) (.pair .str .unit)))), (4, .cst (.ptr 4 0 [])), (6, .ty .str), (7, .ty .bool), (29, .ty .bool)]], bxs := [(31019, .row (.int .i64) false), (4, .var [.ty (.sl (.int .i64)), .ty (.sl .str), .ty (.sl .str)])] }
def f41_l3_b31000_outs : List (Ex × Ann) := [((.exit 0), { env := [(5, .cst (.row 31019 .whole))], stk := [[(2, .ty (.sl (.pair (.int .i64) (.pair .str .unit)))), (4, .cst (.ptr 4 0 [])), (6, .ty .str), (7, .ty .bool), (29, .ty .bool)]], bxs := [(31019, .row (.int .i64) false), (4, .var [.ty (.sl (.int .i64)), .ty (.sl .str), .ty (.sl .str)])] })]
def f41_l3_b31000 (t8 : (List (Int × (ByteArray × Unit)))) (t9 : Int) (k0t2 : (List (Int × (ByteArray × Unit)))) (k0t6 : ByteArray) (k0t7 : Bool) (k0t29 : Bool) (b4g0 : (List Int)) (b4g1 : (List ByteArray)) (b4g2 : (List ByteArray)) : Nat → Int → (List Int) → Option (outDen f41_l3_b31000_outs)
  | 0, _, _ => none
  | k + 1, t10, r31019 =>
    bif (decide (t10 < t9)) then
      bif (inR t10 t8.length) then
        (f42 (at_ (.pair (.int .i64) (.pair .str .unit)) t8 t10)).bind fun y2 =>
        bif (decide (r31019.length + ([y2.1] : List Int).length ≤ appLim)) then f41_l3_b31000 t8 t9 k0t2 k0t6 k0t7 k0t29 b4g0 b4g1 b4g2 k (IntKind.wrap .i64 (t10 + (1 : Int))) (r31019 ++ ([y2.1] : List Int)) else none
      else none
    else
      some ((), ((k0t2, k0t6, k0t7, k0t29, ()), ()), (r31019, (b4g0, b4g1, b4g2, ()), ()))
def f41_l3_b31000_spec : LSpec := { thaws := [.slot 5 31019 (.int .i64)], head := f41_l3_b31000_head, outs := f41_l3_b31000_outs, fn := fun x => f41_l3_b31000 x.1.1 x.1.2.1 x.2.1.1.1 x.2.1.1.2.1 x.2.1.1.2.2.1 x.2.1.1.2.2.2.1 x.2.2.2.1.1 x.2.2.2.1.2.1 x.2.2.2.1.2.2.1 ((x.1.2.1 - x.1.2.2.1).toNat + 1) x.1.2.2.1 x.2.2.1 }
def f27_l6_head : Ann := { env := [(4, .cst (.ptr 4 0 [])), (10, .cst (.row 37 .whole)), (38, .ty (.sl (.pair (.int .i64) (.pair .str .unit)))), (39, .ty (.int .i64)), (40, .ty (.int .i64))], stk := [], bxs := [(4, .var [.ty (.sl (.int .i64)), .ty (.sl .str), .ty (.sl .str)]), (37, .row .str false)] }
def f27_l6_outs : List (Ex × Ann) := [((.exit 0), { env := [(4, .cst (.ptr 4 0 [])), (10, .cst (.row 37 .whole))], stk := [], bxs := [(4, .var [.ty (.sl (.int .i64)), .ty (.sl .str), .ty (.sl .str)]), (37, .row .str false)] }), (.ret, { env := [(6, .ty .str), (7, .ty .bool)], stk := [], bxs := [] })]
def f27_l6 (t38 : (List (Int × (ByteArray × Unit)))) (t39 : Int) (b4g0 : (List Int)) (b4g1 : (List ByteArray)) (b4g2 : (List ByteArray)) : Nat → Int → (List ByteArray) → Option (outDen f27_l6_outs)
  | 0, _, _ => none
  | k + 1, t40, r37 =>
    bif (decide (t40 < t39)) then
      bif (inR t40 t38.length) then
        let v14 : Int := (at_ (.pair (.int .i64) (.pair .str .unit)) t38 t40).1
        (f58 b4g0 v14).bind fun y15 =>
        bif (!y15.2.1) then
          some (.inr (((⟨#[]⟩ : ByteArray), false, ()), (), ()))
        else
          let v16 : ByteArray := (at_ (.pair (.int .i64) (.pair .str .unit)) t38 t40).2.1
          bif (inR y15.1 r37.length) then f27_l6 t38 t39 b4g0 b4g1 b4g2 k (IntKind.wrap .i64 (t40 + (1 : Int))) (r37.set (Int.toNat y15.1) v16) else none
      else none
    else
      some (.inl ((), (), ((b4g0, b4g1, b4g2, ()), r37, ())))
def f27_l6_spec : LSpec := { thaws := [], head := f27_l6_head, outs := f27_l6_outs, fn := fun x => f27_l6 x.1.1 x.1.2.1 x.2.2.1.1 x.2.2.1.2.1 x.2.2.1.2.2.1 ((x.1.2.1 - x.1.2.2.1).toNat + 1) x.1.2.2.1 x.2.2.2.1 }
def f27 (a0 : ByteArray) (a1 : ((List Int) × ((List ByteArray) × ((List ByteArray) × Unit)))) (a2 : (List (Int × (ByteArray × Unit)))) : Option (ByteArray × Bool × Unit) :=
  (f54 a1 a1.2.1).bind fun y1 =>
  bif (!y1.2.1) then
    some ((⟨#[]⟩ : ByteArray), false, ())
  else
    bif (!(decide (y1.1 = a0))) then
      some ((⟨#[]⟩ : ByteArray), false, ())
    else
      (f41_l3_b31000 a2 (a2.length : Int) a2 (⟨#[]⟩ : ByteArray) false false a1.1 a1.2.1 a1.2.2.1 (((a2.length : Int) - (0 : Int)).toNat + 1) (0 : Int) []).bind fun o3 =>
      let u4 : (List (Int × (ByteArray × Unit))) := o3.2.1.1.1
      let u7 : Bool := o3.2.1.1.2.2.2.1
      let u8 : (List Int) := o3.2.2.1
      let u9 : (List Int) := o3.2.2.2.1.1
      let u10 : (List ByteArray) := o3.2.2.2.1.2.1
      let u11 : (List ByteArray) := o3.2.2.2.1.2.2.1
      bif u7 then
        some ((⟨#[]⟩ : ByteArray), false, ())
      else
        (f40 u8).bind fun y12 =>
        bif (!y12.1) then
          some ((⟨#[]⟩ : ByteArray), false, ())
        else
          (f57 u10).bind fun y13 =>
          (f27_l6 u4 (u4.length : Int) u9 u10 u11 (((u4.length : Int) - (0 : Int)).toNat + 1) (0 : Int) y13).bind fun o17 =>
          Sum.elim (fun o18 =>
            let u20 : (List Int) := o18.2.2.1.1
            let u21 : (List ByteArray) := o18.2.2.1.2.1
            let u22 : (List ByteArray) := o18.2.2.1.2.2.1
            let u23 : (List ByteArray) := o18.2.2.2.1
            (f54 (u20, (u21, (u22, ()))) u23).bind fun y24 =>
            some (y24.1, y24.2.1, ())) (fun o19 =>
            let u25 : ByteArray := o19.1.1
            let u26 : Bool := o19.1.2.1
            some (u25, u26, ())) o17
def f27_spec : PSpec := { args := [.str, (.pair (.sl (.int .i64)) (.pair (.sl .str) (.pair (.sl .str) .unit))), (.sl (.pair (.int .i64) (.pair .str .unit)))], res := [.str, .bool], fn := fun x => f27 x.1 x.2.1 x.2.2.1 }
noncomputable def f27_code : Code := Go.Proofs.Tryd.f27.body.getD .skip
noncomputable def f27_code_41 : Code := Go.Proofs.Tryd.f41.body.getD .skip
noncomputable def f27_env : Env0 := { C := cfg, P := [(40, f40_spec), (42, f42_spec), (54, f54_spec), (58, f58_spec)], L := [(⟨11, 31000, 41, 3⟩, f41_l3_b31000_spec), (⟨12, 0, 27, 6⟩, f27_l6_spec)], F := [(27, Go.Proofs.Tryd.f27), (41, Go.Proofs.Tryd.f41)], S := [], R := [(57, f57_spec)] }
theorem f41_l3_b31000_ok : LoopOK f27_env 11 41 31000 (loopAt f27_code_41 3) f41_l3_b31000_spec :=
  loopOK_of (by kernel_rfl) (fun n x => f41_l3_b31000 x.1.1 x.1.2.1 x.2.1.1.1 x.2.1.1.2.1 x.2.1.1.2.2.1 x.2.1.1.2.2.2.1 x.2.2.2.1.1 x.2.2.2.1.2.1 x.2.2.2.1.2.2.1 n x.1.2.2.1 x.2.2.1) (fun x o h => ⟨_, h⟩) (fun x => by kernel_rfl) (fun n x => by kernel_rfl)
theorem f27_l6_ok : LoopOK f27_env 12 27 0 (loopAt f27_code 6) f27_l6_spec :=
  loopOK_of (by kernel_rfl) (fun n x => f27_l6 x.1.1 x.1.2.1 x.2.2.1.1 x.2.2.1.2.1 x.2.2.1.2.2.1 n x.1.2.2.1 x.2.2.2.1) (fun x o h => ⟨_, h⟩) (fun x => by kernel_rfl) (fun n x => by kernel_rfl)
theorem f27_run (x : tysDen (f27_spec).args) : runF f27_env 27 Go.Proofs.Tryd.f27 f27_code (f27_spec).args (f27_spec).res x = f27_spec.fn x := by kernel_rfl
theorem f27_enter : Enterable Go.Proofs.Tryd.prog 27 := enter_fun Go.Proofs.Tryd.func27 (by kernel_rfl)
theorem f27_envOK : EnvOK Go.Proofs.Tryd.prog f27_env := envOK_of cds (by kernel_rfl) cfg_ok ⟨⟨f40_pure, f40_enter⟩, ⟨f42_pure, f42_enter⟩, ⟨f54_pure, f54_enter⟩, ⟨f58_pure, f58_enter⟩, trivial⟩ trivial ⟨⟨Go.Proofs.Tryd.func27, by kernel_rfl⟩, ⟨Go.Proofs.Tryd.func41, by kernel_rfl⟩, trivial⟩ ⟨⟨Go.Proofs.Tryd.f41, f27_code_41, rfl, rfl, f41_l3_b31000_ok⟩, ⟨Go.Proofs.Tryd.f27, f27_code, rfl, rfl, f27_l6_ok⟩, trivial⟩ ⟨⟨f57_fresh, f57_enter⟩, trivial⟩
theorem f27_pure : PureOK Go.Proofs.Tryd.prog cfg 27 f27_spec := pure_of_run f27_envOK (fn := Go.Proofs.Tryd.f27) (c := f27_code) rfl rfl f27_spec (fun x _ h => (f27_run x).trans h)

def f34  : Option (ByteArray × Unit) :=
  bif (decide (0 ≤ (32 : Int)) && decide ((32 : Int) ≤ (32 : Int)) && decide ((32 : Int) ≤ (appLim : Int))) then
    let v1 : ByteArray := (ofBytes (List.replicate (Int.toNat (32 : Int)) (0 : Int)))
    some (v1, ())
  else none
def f34_spec : PSpec := { args := [], res := [.str], fn := fun x => f34  }
noncomputable def f34_code : Code := Go.Proofs.Tryd.f34.body.getD .skip
noncomputable def f34_env : Env0 := { C := cfg, P := [], L := [], F := [(34, Go.Proofs.Tryd.f34)], S := [], R := [] }
theorem f34_run (x : tysDen (f34_spec).args) : runF f34_env 34 Go.Proofs.Tryd.f34 f34_code (f34_spec).args (f34_spec).res x = f34_spec.fn x := by kernel_rfl
theorem f34_enter : Enterable Go.Proofs.Tryd.prog 34 := enter_fun Go.Proofs.Tryd.func34 (by kernel_rfl)
theorem f34_envOK : EnvOK Go.Proofs.Tryd.prog f34_env := envOK_of cds (by kernel_rfl) cfg_ok trivial trivial ⟨⟨Go.Proofs.Tryd.func34, by kernel_rfl⟩, trivial⟩ trivial trivial
theorem f34_pure : PureOK Go.Proofs.Tryd.prog cfg 34 f34_spec := pure_of_run f34_envOK (fn := Go.Proofs.Tryd.f34) (c := f34_code) rfl rfl f34_spec (fun x _ h => (f34_run x).trans h)

def f33_l4_head : Ann := { env := [(0, .ty (.sl (.pair (.int .i64) (.pair .str .unit)))), (1, .ty (.int .i64)), (2, .ty .str), (7, .cst (.row 34 .whole)), (8, .ty .bool), (9, .ty (.int .i64))], stk := [], bxs := [(34, .row (.pair (.int .i64) (.pair .str .unit)) false)] }
def f33_l4_outs : List (Ex × Ann) := [((.exit 0), { env := [(1, .ty (.int .i64)), (2, .ty .str), (7, .cst (.row 34 .whole)), (8, .ty .bool)], stk := [], bxs := [(34, .row (.pair (.int .i64) (.pair .str .unit)) false)] })]
def f33_l4 (t0 : (List (Int × (ByteArray × Unit)))) (t1 : Int) (t2 : ByteArray) : Nat → Bool → Int → (List (Int × (ByteArray × Unit))) → Option (outDen f33_l4_outs)
  | 0, _, _, _ => none
  | k + 1, t8, t9, r34 =>
    bif (decide (t9 < (t0.length : Int))) then
      bif (inR t9 t0.length) then
        let v1 : Int := (at_ (.pair (.int .i64) (.pair .str .unit)) t0 t9).1
        bif (decide (v1 > t1)) then
          bif (!t8) then
            bif (decide (r34.length + ([(t1, (t2, ()))] : List (Int × (ByteArray × Unit))).length ≤ appLim)) then
              bif (inR t9 t0.length) then
                let v2 : Int := (at_ (.pair (.int .i64) (.pair .str .unit)) t0 t9).1
                bif (decide (v2 ≠ t1)) then
                  bif (inR t9 t0.length) then bif (decide ((r34 ++ ([(t1, (t2, ()))] : List (Int × (ByteArray × Unit)))).length + ([(at_ (.pair (.int .i64) (.pair .str .unit)) t0 t9)] : List (Int × (ByteArray × Unit))).length ≤ appLim)) then f33_l4 t0 t1 t2 k true (IntKind.wrap .i64 (t9 + (1 : Int))) ((r34 ++ ([(t1, (t2, ()))] : List (Int × (ByteArray × Unit)))) ++ ([(at_ (.pair (.int .i64) (.pair .str .unit)) t0 t9)] : List (Int × (ByteArray × Unit)))) else none else none
                else
                  f33_l4 t0 t1 t2 k true (IntKind.wrap .i64 (t9 + (1 : Int))) (r34 ++ ([(t1, (t2, ()))] : List (Int × (ByteArray × Unit))))
              else none
            else none
          else
            bif (inR t9 t0.length) then
              let v3 : Int := (at_ (.pair (.int .i64) (.pair .str .unit)) t0 t9).1
              bif (decide (v3 ≠ t1)) then
                bif (inR t9 t0.length) then bif (decide (r34.length + ([(at_ (.pair (.int .i64) (.pair .str .unit)) t0 t9)] : List (Int × (ByteArray × Unit))).length ≤ appLim)) then f33_l4 t0 t1 t2 k t8 (IntKind.wrap .i64 (t9 + (1 : Int))) (r34 ++ ([(at_ (.pair (.int .i64) (.pair .str .unit)) t0 t9)] : List (Int × (ByteArray × Unit)))) else none else none
              else
                f33_l4 t0 t1 t2 k t8 (IntKind.wrap .i64 (t9 + (1 : Int))) r34
            else none
        else
          bif (inR t9 t0.length) then
            let v4 : Int := (at_ (.pair (.int .i64) (.pair .str .unit)) t0 t9).1
            bif (decide (v4 ≠ t1)) then
              bif (inR t9 t0.length) then bif (decide (r34.length + ([(at_ (.pair (.int .i64) (.pair .str .unit)) t0 t9)] : List (Int × (ByteArray × Unit))).length ≤ appLim)) then f33_l4 t0 t1 t2 k t8 (IntKind.wrap .i64 (t9 + (1 : Int))) (r34 ++ ([(at_ (.pair (.int .i64) (.pair .str .unit)) t0 t9)] : List (Int × (ByteArray × Unit)))) else none else none
            else
              f33_l4 t0 t1 t2 k t8 (IntKind.wrap .i64 (t9 + (1 : Int))) r34
          else none
      else none
    else
      some ((t1, t2, t8, ()), (), (r34, ()))
def f33_l4_spec : LSpec := { thaws := [.slot 7 34 (.pair (.int .i64) (.pair .str .unit))], head := f33_l4_head, outs := f33_l4_outs, fn := fun x => f33_l4 x.1.1 x.1.2.1 x.1.2.2.1 (((x.1.1.length : Int) - x.1.2.2.2.2.1).toNat + 1) x.1.2.2.2.1 x.1.2.2.2.2.1 x.2.2.1 }
def f33 (a0 : (List (Int × (ByteArray × Unit)))) (a1 : Int) (a2 : ByteArray) : Option ((List (Int × (ByteArray × Unit))) × Unit) :=
  (f33_l4 a0 a1 a2 (((a0.length : Int) - (0 : Int)).toNat + 1) (decide (a2 = (⟨#[]⟩ : ByteArray))) (0 : Int) []).bind fun o5 =>
  let u6 : Int := o5.1.1
  let u7 : ByteArray := o5.1.2.1
  let u8 : Bool := o5.1.2.2.1
  let u9 : (List (Int × (ByteArray × Unit))) := o5.2.2.1
  bif (!u8) then
    bif (decide (u9.length + ([(u6, (u7, ()))] : List (Int × (ByteArray × Unit))).length ≤ appLim)) then some ((u9 ++ ([(u6, (u7, ()))] : List (Int × (ByteArray × Unit)))), ()) else none
  else
    some (u9, ())
def f33_spec : PSpec := { args := [(.sl (.pair (.int .i64) (.pair .str .unit))), (.int .i64), .str], res := [(.sl (.pair (.int .i64) (.pair .str .unit)))], fn := fun x => f33 x.1 x.2.1 x.2.2.1 }
noncomputable def f33_code : Code := Go.Proofs.Tryd.f33.body.getD .skip
noncomputable def f33_env : Env0 := { C := cfg, P := [], L := [(⟨12, 0, 33, 4⟩, f33_l4_spec)], F := [(33, Go.Proofs.Tryd.f33)], S := [], R := [] }
theorem f33_l4_ok : LoopOK f33_env 12 33 0 (loopAt f33_code 4) f33_l4_spec :=
  loopOK_of (by kernel_rfl) (fun n x => f33_l4 x.1.1 x.1.2.1 x.1.2.2.1 n x.1.2.2.2.1 x.1.2.2.2.2.1 x.2.2.1) (fun x o h => ⟨_, h⟩) (fun x => by kernel_rfl) (fun n x => by kernel_rfl)
theorem f33_run (x : tysDen (f33_spec).args) : runF f33_env 33 Go.Proofs.Tryd.f33 f33_code (f33_spec).args (f33_spec).res x = f33_spec.fn x := by kernel_rfl
theorem f33_enter : Enterable Go.Proofs.Tryd.prog 33 := enter_fun Go.Proofs.Tryd.func33 (by kernel_rfl)
theorem f33_envOK : EnvOK Go.Proofs.Tryd.prog f33_env := envOK_of cds (by kernel_rfl) cfg_ok trivial trivial ⟨⟨Go.Proofs.Tryd.func33, by kernel_rfl⟩, trivial⟩ ⟨⟨Go.Proofs.Tryd.f33, f33_code, rfl, rfl, f33_l4_ok⟩, trivial⟩ trivial
theorem f33_pure : PureOK Go.Proofs.Tryd.prog cfg 33 f33_spec := pure_of_run f33_envOK (fn := Go.Proofs.Tryd.f33) (c := f33_code) rfl rfl f33_spec (fun x _ h => (f33_run x).trans h)

def f36 (a0 : Int) (a1 : Int) : Option (Int × Unit) :=
  bif (decide (a0 < (0 : Int))) then
    let v1 : Int := (IntKind.wrap .i64 (0 - (IntKind.wrap .i64 (a0 + (1 : Int)))))
    bif (decide (a1 ≠ 0)) then some ((Int.tmod v1 a1), ()) else none
  else
    bif (decide (a1 ≠ 0)) then some ((Int.tmod a0 a1), ()) else none
def f36_spec : PSpec := { args := [(.int .i64), (.int .i64)], res := [(.int .i64)], fn := fun x => f36 x.1 x.2.1 }
noncomputable def f36_code : Code := Go.Proofs.Tryd.f36.body.getD .skip
noncomputable def f36_env : Env0 := { C := cfg, P := [], L := [], F := [(36, Go.Proofs.Tryd.f36)], S := [], R := [] }
theorem f36_run (x : tysDen (f36_spec).args) : runF f36_env 36 Go.Proofs.Tryd.f36 f36_code (f36_spec).args (f36_spec).res x = f36_spec.fn x := by kernel_rfl
theorem f36_enter : Enterable Go.Proofs.Tryd.prog 36 := enter_fun Go.Proofs.Tryd.func36 (by kernel_rfl)
theorem f36_envOK : EnvOK Go.Proofs.Tryd.prog f36_env := envOK_of cds (by kernel_rfl) cfg_ok trivial trivial ⟨⟨Go.Proofs.Tryd.func36, by kernel_rfl⟩, trivial⟩ trivial trivial
theorem f36_pure : PureOK Go.Proofs.Tryd.prog cfg 36 f36_spec := pure_of_run f36_envOK (fn := Go.Proofs.Tryd.f36) (c := f36_code) rfl rfl f36_spec (fun x _ h => (f36_run x).trans h)

def f11_l3_head : Ann := { env := [(0, .ty (.sl (.arr 2 (.int .i64)))), (3, .ty (.sl (.pair (.int .i64) (.pair .str .unit)))), (4, .ty (.int .i64))], stk := [], bxs := [] }
def f11_l3_outs : List (Ex × Ann) := [((.exit 0), { env := [(3, .ty (.sl (.pair (.int .i64) (.pair .str .unit))))], stk := [], bxs := [] })]
def f11_l3 (t0 : (List (List Int))) : Nat → (List (Int × (ByteArray × Unit))) → Int → Option (outDen f11_l3_outs)
  | 0, _, _ => none
  | k + 1, t3, t4 =>
    bif (decide (t4 < (t0.length : Int))) then
      bif (decide (t4 < (12 : Int))) then
        bif (inR t4 t0.length) then
          bif (inR (0 : Int) 2) then
            let v1 : Int := (at_ (.int .i64) (at_ (.arr 2 (.int .i64)) t0 t4) (0 : Int))
            (f36 v1 (64 : Int)).bind fun y2 =>
            bif (inR t4 t0.length) then
              bif (inR (1 : Int) 2) then
                let v3 : Int := (at_ (.int .i64) (at_ (.arr 2 (.int .i64)) t0 t4) (1 : Int))
                (f36 v3 (3 : Int)).bind fun y4 =>
                bif (inR y4.1 ([(⟨#[97]⟩ : ByteArray), (⟨#[98, 99]⟩ : ByteArray), (⟨#[100, 32, 101, 32, 102]⟩ : ByteArray)] : List ByteArray).length) then
                  let v5 : ByteArray := (at_ .str ([(⟨#[97]⟩ : ByteArray), (⟨#[98, 99]⟩ : ByteArray), (⟨#[100, 32, 101, 32, 102]⟩ : ByteArray)] : List ByteArray) y4.1)
                  (f33 t3 y2.1 v5).bind fun y6 =>
                  f11_l3 t0 k y6.1 (IntKind.wrap .i64 (t4 + (1 : Int)))
                else none
              else none
            else none
          else none
        else none
      else
        some ((t3, ()), (), ())
    else
      some ((t3, ()), (), ())
def f11_l3_spec : LSpec := { thaws := [], head := f11_l3_head, outs := f11_l3_outs, fn := fun x => f11_l3 x.1.1 (((x.1.1.length : Int) - x.1.2.2.1).toNat + 1) x.1.2.1 x.1.2.2.1 }
def f11 (a0 : (List (List Int))) : Option ((List (Int × (ByteArray × Unit))) × Unit) :=
  (f11_l3 a0 (((a0.length : Int) - (0 : Int)).toNat + 1) [] (0 : Int)).bind fun o7 =>
  let u8 : (List (Int × (ByteArray × Unit))) := o7.1.1
  some (u8, ())
def f11_spec : PSpec := { args := [(.sl (.arr 2 (.int .i64)))], res := [(.sl (.pair (.int .i64) (.pair .str .unit)))], fn := fun x => f11 x.1 }
noncomputable def f11_code : Code := Go.Proofs.Tryd.f11.body.getD .skip
noncomputable def f11_env : Env0 := { C := cfg, P := [(33, f33_spec), (36, f36_spec)], L := [(⟨12, 0, 11, 3⟩, f11_l3_spec)], F := [(11, Go.Proofs.Tryd.f11)], S := [], R := [] }
theorem f11_l3_ok : LoopOK f11_env 12 11 0 (loopAt f11_code 3) f11_l3_spec :=
  loopOK_of (by kernel_rfl) (fun n x => f11_l3 x.1.1 n x.1.2.1 x.1.2.2.1) (fun x o h => ⟨_, h⟩) (fun x => by kernel_rfl) (fun n x => by kernel_rfl)
theorem f11_run (x : tysDen (f11_spec).args) : runF f11_env 11 Go.Proofs.Tryd.f11 f11_code (f11_spec).args (f11_spec).res x = f11_spec.fn x := by kernel_rfl
theorem f11_enter : Enterable Go.Proofs.Tryd.prog 11 := enter_fun Go.Proofs.Tryd.func11 (by kernel_rfl)
theorem f11_envOK : EnvOK Go.Proofs.Tryd.prog f11_env := envOK_of cds (by kernel_rfl) cfg_ok ⟨⟨f33_pure, f33_enter⟩, ⟨f36_pure, f36_enter⟩, trivial⟩ trivial ⟨⟨Go.Proofs.Tryd.func11, by kernel_rfl⟩, trivial⟩ ⟨⟨Go.Proofs.Tryd.f11, f11_code, rfl, rfl, f11_l3_ok⟩, trivial⟩ trivial
theorem f11_pure : PureOK Go.Proofs.Tryd.prog cfg 11 f11_spec := pure_of_run f11_envOK (fn := Go.Proofs.Tryd.f11) (c := f11_code) rfl rfl f11_spec (fun x _ h => (f11_run x).trans h)

def f12_l3_head : Ann := { env := [(0, .ty (.sl (.pair (.int .i64) (.pair .str .unit)))), (3, .cst (.row 36 .whole)), (4, .ty (.int .i64))], stk := [], bxs := [(36, .row (.pair (.int .i64) (.pair .str .unit)) false)] }
def f12_l3_outs : List (Ex × Ann) := [((.exit 0), { env := [(3, .cst (.row 36 .whole))], stk := [], bxs := [(36, .row (.pair (.int .i64) (.pair .str .unit)) false)] })]
def f12_l3 (t0 : (List (Int × (ByteArray × Unit)))) : Nat → Int → (List (Int × (ByteArray × Unit))) → Option (outDen f12_l3_outs)
  | 0, _, _ => none
  | k + 1, t4, r36 =>
    bif (decide (t4 < (t0.length : Int))) then
      bif (decide (t4 < (8 : Int))) then
        bif (inR t4 t0.length) then
          let v1 : Int := (at_ (.pair (.int .i64) (.pair .str .unit)) t0 t4).1
          bif (inR t4 t0.length) then
            let v2 : ByteArray := (at_ (.pair (.int .i64) (.pair .str .unit)) t0 t4).2.1
            bif (inR t4 t0.length) then
              let v3 : ByteArray := (at_ (.pair (.int .i64) (.pair .str .unit)) t0 t4).2.1
              let v4 : Int := (if (20 : Int) < (v3.size : Int) then (20 : Int) else (v3.size : Int))
              bif (cutOk v2.size none (some v4)) then bif (decide (r36.length + ([(v1, ((cutS v2 none (some v4)), ()))] : List (Int × (ByteArray × Unit))).length ≤ appLim)) then f12_l3 t0 k (IntKind.wrap .i64 (t4 + (1 : Int))) (r36 ++ ([(v1, ((cutS v2 none (some v4)), ()))] : List (Int × (ByteArray × Unit)))) else none else none
            else none
          else none
        else none
      else
        some ((), (), (r36, ()))
    else
      some ((), (), (r36, ()))
def f12_l3_spec : LSpec := { thaws := [.slot 3 36 (.pair (.int .i64) (.pair .str .unit))], head := f12_l3_head, outs := f12_l3_outs, fn := fun x => f12_l3 x.1.1 (((x.1.1.length : Int) - x.1.2.1).toNat + 1) x.1.2.1 x.2.2.1 }
def f12 (a0 : (List (Int × (ByteArray × Unit)))) : Option ((List (Int × (ByteArray × Unit))) × Unit) :=
  (f12_l3 a0 (((a0.length : Int) - (0 : Int)).toNat + 1) (0 : Int) []).bind fun o5 =>
  let u6 : (List (Int × (ByteArray × Unit))) := o5.2.2.1
  some (u6, ())
def f12_spec : PSpec := { args := [(.sl (.pair (.int .i64) (.pair .str .unit)))], res := [(.sl (.pair (.int .i64) (.pair .str .unit)))], fn := fun x => f12 x.1 }
noncomputable def f12_code : Code := Go.Proofs.Tryd.f12.body.getD .skip
noncomputable def f12_env : Env0 := { C := cfg, P := [], L := [(⟨12, 0, 12, 3⟩, f12_l3_spec)], F := [(12, Go.Proofs.Tryd.f12)], S := [], R := [] }
theorem f12_l3_ok : LoopOK f12_env 12 12 0 (loopAt f12_code 3) f12_l3_spec :=
  loopOK_of (by kernel_rfl) (fun n x => f12_l3 x.1.1 n x.1.2.1 x.2.2.1) (fun x o h => ⟨_, h⟩) (fun x => by kernel_rfl) (fun n x => by kernel_rfl)
theorem f12_run (x : tysDen (f12_spec).args) : runF f12_env 12 Go.Proofs.Tryd.f12 f12_code (f12_spec).args (f12_spec).res x = f12_spec.fn x := by kernel_rfl
theorem f12_enter : Enterable Go.Proofs.Tryd.prog 12 := enter_fun Go.Proofs.Tryd.func12 (by kernel_rfl)
theorem f12_envOK : EnvOK Go.Proofs.Tryd.prog f12_env := envOK_of cds (by kernel_rfl) cfg_ok trivial trivial ⟨⟨Go.Proofs.Tryd.func12, by kernel_rfl⟩, trivial⟩ ⟨⟨Go.Proofs.Tryd.f12, f12_code, rfl, rfl, f12_l3_ok⟩, trivial⟩ trivial
theorem f12_pure : PureOK Go.Proofs.Tryd.prog cfg 12 f12_spec := pure_of_run f12_envOK (fn := Go.Proofs.Tryd.f12) (c := f12_code) rfl rfl f12_spec (fun x _ h => (f12_run x).trans h)

def f44_l2_head : Ann := { env := [(0, .ty (.sl (.int .i64))), (3, .ty (.int .i64))], stk := [], bxs := [] }
def f44_l2_outs : List (Ex × Ann) := [((.exit 0), { env := [], stk := [], bxs := [] }), (.ret, { env := [(2, .ty .bool)], stk := [], bxs := [] })]
def f44_l2 (t0 : (List Int)) : Nat → Int → Option (outDen f44_l2_outs)
  | 0, _ => none
  | k + 1, t3 =>
    bif (decide (t3 < (t0.length : Int))) then
      bif (inR t3 t0.length) then
        let v1 : Bool := (decide ((at_ (.int .i64) t0 t3) < (0 : Int)))
        bif v1 then
          some (.inr ((false, ()), (), ()))
        else
          bif (inR t3 t0.length) then
            let v2 : Bool := (decide ((at_ (.int .i64) t0 t3) ≥ (64 : Int)))
            bif v2 then
              some (.inr ((false, ()), (), ()))
            else
              bif (decide (t3 > (0 : Int))) then
                bif (inR t3 t0.length) then
                  bif (inR (IntKind.wrap .i64 (t3 - (1 : Int))) t0.length) then
                    let v3 : Int := (at_ (.int .i64) t0 (IntKind.wrap .i64 (t3 - (1 : Int))))
                    bif (decide ((at_ (.int .i64) t0 t3) ≤ v3)) then
                      some (.inr ((false, ()), (), ()))
                    else
                      f44_l2 t0 k (IntKind.wrap .i64 (t3 + (1 : Int)))
                  else none
                else none
              else
                f44_l2 t0 k (IntKind.wrap .i64 (t3 + (1 : Int)))
          else none
      else none
    else
      some (.inl ((), (), ()))
def f44_l2_spec : LSpec := { thaws := [], head := f44_l2_head, outs := f44_l2_outs, fn := fun x => f44_l2 x.1.1 (((x.1.1.length : Int) - x.1.2.1).toNat + 1) x.1.2.1 }
def f44 (a0 : (List Int)) : Option (Bool × Unit) :=
  (f44_l2 a0 (((a0.length : Int) - (0 : Int)).toNat + 1) (0 : Int)).bind fun o4 =>
  Sum.elim (fun o5 =>
    some (true, ())) (fun o6 =>
    let u7 : Bool := o6.1.1
    some (u7, ())) o4
def f44_spec : PSpec := { args := [(.sl (.int .i64))], res := [.bool], fn := fun x => f44 x.1 }
noncomputable def f44_code : Code := Go.Proofs.Tryd.f44.body.getD .skip
noncomputable def f44_env : Env0 := { C := cfg, P := [], L := [(⟨12, 0, 44, 2⟩, f44_l2_spec)], F := [(44, Go.Proofs.Tryd.f44)], S := [], R := [] }
theorem f44_l2_ok : LoopOK f44_env 12 44 0 (loopAt f44_code 2) f44_l2_spec :=
  loopOK_of (by kernel_rfl) (fun n x => f44_l2 x.1.1 n x.1.2.1) (fun x o h => ⟨_, h⟩) (fun x => by kernel_rfl) (fun n x => by kernel_rfl)
theorem f44_run (x : tysDen (f44_spec).args) : runF f44_env 44 Go.Proofs.Tryd.f44 f44_code (f44_spec).args (f44_spec).res x = f44_spec.fn x := by kernel_rfl
theorem f44_enter : Enterable Go.Proofs.Tryd.prog 44 := enter_fun Go.Proofs.Tryd.func44 (by kernel_rfl)
theorem f44_envOK : EnvOK Go.Proofs.Tryd.prog f44_env := envOK_of cds (by kernel_rfl) cfg_ok trivial trivial ⟨⟨Go.Proofs.Tryd.func44, by kernel_rfl⟩, trivial⟩ ⟨⟨Go.Proofs.Tryd.f44, f44_code, rfl, rfl, f44_l2_ok⟩, trivial⟩ trivial
theorem f44_pure : PureOK Go.Proofs.Tryd.prog cfg 44 f44_spec := pure_of_run f44_envOK (fn := Go.Proofs.Tryd.f44) (c := f44_code) rfl rfl f44_spec (fun x _ h => (f44_run x).trans h)

def f16_l3_head : Ann := { env := [(0, .ty (.sl (.pair (.int .i64) (.pair .str .unit)))), (3, .cst (.row 34 .whole)), (4, .ty (.int .i64))], stk := [], bxs := [(34, .row (.int .i64) false)] }
def f16_l3_outs : List (Ex × Ann) := [((.exit 0), { env := [(3, .cst (.row 34 .whole))], stk := [], bxs := [(34, .row (.int .i64) false)] }), (.ret, { env := [(2, .ty .bool)], stk := [], bxs := [] })]
def f16_l3 (t0 : (List (Int × (ByteArray × Unit)))) : Nat → Int → (List Int) → Option (outDen f16_l3_outs)
  | 0, _, _ => none
  | k + 1, t4, r34 =>
    bif (decide (t4 < (t0.length : Int))) then
      bif (inR t4 t0.length) then
        let v1 : ByteArray := (at_ (.pair (.int .i64) (.pair .str .unit)) t0 t4).2.1
        bif (decide ((v1.size : Int) = (0 : Int))) then
          some (.inr ((false, ()), (), ()))
        else
          bif (inR t4 t0.length) then
            let v2 : ByteArray := (at_ (.pair (.int .i64) (.pair .str .unit)) t0 t4).2.1
            let v3 : Bool := (decide ((v2.size : Int) > (65536 : Int)))
            bif v3 then
              some (.inr ((false, ()), (), ()))
            else
              bif (inR t4 t0.length) then
                let v4 : Int := (at_ (.pair (.int .i64) (.pair .str .unit)) t0 t4).1
                bif (decide (r34.length + ([v4] : List Int).length ≤ appLim)) then f16_l3 t0 k (IntKind.wrap .i64 (t4 + (1 : Int))) (r34 ++ ([v4] : List Int)) else none
              else none
          else none
      else none
    else
      some (.inl ((), (), (r34, ())))
def f16_l3_spec : LSpec := { thaws := [.slot 3 34 (.int .i64)], head := f16_l3_head, outs := f16_l3_outs, fn := fun x => f16_l3 x.1.1 (((x.1.1.length : Int) - x.1.2.1).toNat + 1) x.1.2.1 x.2.2.1 }
def f16 (a0 : (List (Int × (ByteArray × Unit)))) : Option (Bool × Unit) :=
  (f16_l3 a0 (((a0.length : Int) - (0 : Int)).toNat + 1) (0 : Int) []).bind fun o5 =>
  Sum.elim (fun o6 =>
    let u8 : (List Int) := o6.2.2.1
    (f44 u8).bind fun y9 =>
    some (y9.1, ())) (fun o7 =>
    let u10 : Bool := o7.1.1
    some (u10, ())) o5
def f16_spec : PSpec := { args := [(.sl (.pair (.int .i64) (.pair .str .unit)))], res := [.bool], fn := fun x => f16 x.1 }
noncomputable def f16_code : Code := Go.Proofs.Tryd.f16.body.getD .skip
noncomputable def f16_env : Env0 := { C := cfg, P := [(44, f44_spec)], L := [(⟨12, 0, 16, 3⟩, f16_l3_spec)], F := [(16, Go.Proofs.Tryd.f16)], S := [], R := [] }
theorem f16_l3_ok : LoopOK f16_env 12 16 0 (loopAt f16_code 3) f16_l3_spec :=
  loopOK_of (by kernel_rfl) (fun n x => f16_l3 x.1.1 n x.1.2.1 x.2.2.1) (fun x o h => ⟨_, h⟩) (fun x => by kernel_rfl) (fun n x => by kernel_rfl)
theorem f16_run (x : tysDen (f16_spec).args) : runF f16_env 16 Go.Proofs.Tryd.f16 f16_code (f16_spec).args (f16_spec).res x = f16_spec.fn x := by kernel_rfl
theorem f16_enter : Enterable Go.Proofs.Tryd.prog 16 := enter_fun Go.Proofs.Tryd.func16 (by kernel_rfl)
theorem f16_envOK : EnvOK Go.Proofs.Tryd.prog f16_env := envOK_of cds (by kernel_rfl) cfg_ok ⟨⟨f44_pure, f44_enter⟩, trivial⟩ trivial ⟨⟨Go.Proofs.Tryd.func16, by kernel_rfl⟩, trivial⟩ ⟨⟨Go.Proofs.Tryd.f16, f16_code, rfl, rfl, f16_l3_ok⟩, trivial⟩ trivial
theorem f16_pure : PureOK Go.Proofs.Tryd.prog cfg 16 f16_spec := pure_of_run f16_envOK (fn := Go.Proofs.Tryd.f16) (c := f16_code) rfl rfl f16_spec (fun x _ h => (f16_run x).trans h)

def f29_l2_head : Ann := { env := [(0, .ty (.sl (.pair (.int .i64) (.pair .str .unit)))), (1, .ty (.int .i64)), (5, .ty (.int .i64))], stk := [], bxs := [] }
def f29_l2_outs : List (Ex × Ann) := [((.exit 0), { env := [], stk := [], bxs := [] }), (.ret, { env := [(4, .ty .str)], stk := [], bxs := [] })]
def f29_l2 (t0 : (List (Int × (ByteArray × Unit)))) (t1 : Int) : Nat → Int → Option (outDen f29_l2_outs)
  | 0, _ => none
  | k + 1, t5 =>
    bif (decide (t5 < (t0.length : Int))) then
      bif (inR t5 t0.length) then
        let v1 : Int := (at_ (.pair (.int .i64) (.pair .str .unit)) t0 t5).1
        bif (decide (v1 = t1)) then
          bif (inR t5 t0.length) then
            let v2 : ByteArray := (at_ (.pair (.int .i64) (.pair .str .unit)) t0 t5).2.1
            some (.inr ((v2, ()), (), ()))
          else none
        else
          f29_l2 t0 t1 k (IntKind.wrap .i64 (t5 + (1 : Int)))
      else none
    else
      some (.inl ((), (), ()))
def f29_l2_spec : LSpec := { thaws := [], head := f29_l2_head, outs := f29_l2_outs, fn := fun x => f29_l2 x.1.1 x.1.2.1 (((x.1.1.length : Int) - x.1.2.2.1).toNat + 1) x.1.2.2.1 }
def f29 (a0 : (List (Int × (ByteArray × Unit)))) (a1 : Int) : Option (ByteArray × Unit) :=
  (f29_l2 a0 a1 (((a0.length : Int) - (0 : Int)).toNat + 1) (0 : Int)).bind fun o3 =>
  Sum.elim (fun o4 =>
    some ((⟨#[]⟩ : ByteArray), ())) (fun o5 =>
    let u6 : ByteArray := o5.1.1
    some (u6, ())) o3
def f29_spec : PSpec := { args := [(.sl (.pair (.int .i64) (.pair .str .unit))), (.int .i64)], res := [.str], fn := fun x => f29 x.1 x.2.1 }
noncomputable def f29_code : Code := Go.Proofs.Tryd.f29.body.getD .skip
noncomputable def f29_env : Env0 := { C := cfg, P := [], L := [(⟨12, 0, 29, 2⟩, f29_l2_spec)], F := [(29, Go.Proofs.Tryd.f29)], S := [], R := [] }
theorem f29_l2_ok : LoopOK f29_env 12 29 0 (loopAt f29_code 2) f29_l2_spec :=
  loopOK_of (by kernel_rfl) (fun n x => f29_l2 x.1.1 x.1.2.1 n x.1.2.2.1) (fun x o h => ⟨_, h⟩) (fun x => by kernel_rfl) (fun n x => by kernel_rfl)
theorem f29_run (x : tysDen (f29_spec).args) : runF f29_env 29 Go.Proofs.Tryd.f29 f29_code (f29_spec).args (f29_spec).res x = f29_spec.fn x := by kernel_rfl
theorem f29_enter : Enterable Go.Proofs.Tryd.prog 29 := enter_fun Go.Proofs.Tryd.func29 (by kernel_rfl)
theorem f29_envOK : EnvOK Go.Proofs.Tryd.prog f29_env := envOK_of cds (by kernel_rfl) cfg_ok trivial trivial ⟨⟨Go.Proofs.Tryd.func29, by kernel_rfl⟩, trivial⟩ ⟨⟨Go.Proofs.Tryd.f29, f29_code, rfl, rfl, f29_l2_ok⟩, trivial⟩ trivial
theorem f29_pure : PureOK Go.Proofs.Tryd.prog cfg 29 f29_spec := pure_of_run f29_envOK (fn := Go.Proofs.Tryd.f29) (c := f29_code) rfl rfl f29_spec (fun x _ h => (f29_run x).trans h)

def f71_l3_head : Ann := { env := [(0, .ty .str), (3, .cst (.row 17 .whole)), (4, .ty (.int .i64))], stk := [], bxs := [(17, .row (.int .u8) false)] }
def f71_l3_outs : List (Ex × Ann) := [((.exit 0), { env := [(0, .ty .str), (3, .cst (.row 17 .whole))], stk := [], bxs := [(17, .row (.int .u8) false)] })]
def f71_l3 (t0 : ByteArray) : Nat → Int → (List Int) → Option (outDen f71_l3_outs)
  | 0, _, _ => none
  | k + 1, t4, r17 =>
    bif (decide (t4 < (t0.size : Int))) then
      bif (inR t4 t0.size) then bif (decide (r17.length + ([(byteAt t0 t4)] : List Int).length ≤ appLim)) then f71_l3 t0 k (IntKind.wrap .i64 (t4 + (1 : Int))) (r17 ++ ([(byteAt t0 t4)] : List Int)) else none else none
    else
      some ((t0, ()), (), (r17, ()))
def f71_l3_spec : LSpec := { thaws := [.slot 3 17 (.int .u8)], head := f71_l3_head, outs := f71_l3_outs, fn := fun x => f71_l3 x.1.1 (((x.1.1.size : Int) - x.1.2.1).toNat + 1) x.1.2.1 x.2.2.1 }
def f71_l7_head : Ann := { env := [(0, .ty .str), (3, .cst (.row 17 .whole))], stk := [], bxs := [(17, .row (.int .u8) false)] }
def f71_l7_outs : List (Ex × Ann) := [((.exit 2), { env := [(0, .ty .str), (3, .cst (.row 17 .whole))], stk := [], bxs := [(17, .row (.int .u8) false)] })]
def f71_l7 (t0 : ByteArray) : Nat → (List Int) → Option (outDen f71_l7_outs)
  | 0, _ => none
  | k + 1, r17 =>
    let v4 : Bool := (decide ((Int.tmod (r17.length : Int) (64 : Int)) ≠ (56 : Int)))
    bif v4 then
      bif (decide (r17.length + ([(0 : Int)] : List Int).length ≤ appLim)) then f71_l7 t0 k (r17 ++ ([(0 : Int)] : List Int)) else none
    else
      some ((t0, ()), (), (r17, ()))
def f71_l7_spec : LSpec := { thaws := [], head := f71_l7_head, outs := f71_l7_outs, fn := fun x => f71_l7 x.1.1 ((64 : Nat)) x.2.2.1 }
def f71_l10_head : Ann := { env := [(0, .ty .str), (3, .cst (.row 17 .whole)), (5, .ty (.int .i64))], stk := [], bxs := [(17, .row (.int .u8) false)] }
def f71_l10_outs : List (Ex × Ann) := [((.exit 4), { env := [(3, .cst (.row 17 .whole))], stk := [], bxs := [(17, .row (.int .u8) false)] })]
def f71_l10 (t0 : ByteArray) : Nat → Int → (List Int) → Option (outDen f71_l10_outs)
  | 0, _, _ => none
  | k + 1, t5, r17 =>
    bif (decide (t5 ≥ (0 : Int))) then
      let v8 : Int := (IntKind.wrap .i64 ((8 : Int) * (t0.size : Int)))
      bif (decide (0 ≤ (IntKind.wrap .i64 ((8 : Int) * t5)))) then
        let v9 : Int := (shrV .i64 v8 (IntKind.wrap .i64 ((8 : Int) * t5)))
        bif (decide (r17.length + ([(IntKind.wrap .u8 v9)] : List Int).length ≤ appLim)) then f71_l10 t0 k (IntKind.wrap .i64 (t5 - (1 : Int))) (r17 ++ ([(IntKind.wrap .u8 v9)] : List Int)) else none
      else none
    else
      some ((), (), (r17, ()))
def f71_l10_spec : LSpec := { thaws := [], head := f71_l10_head, outs := f71_l10_outs, fn := fun x => f71_l10 x.1.1 ((x.1.2.1 + 1).toNat + 1) x.1.2.1 x.2.2.1 }
def f71 (a0 : ByteArray) : Option ((List Int) × Unit) :=
  (f71_l3 a0 (((a0.size : Int) - (0 : Int)).toNat + 1) (0 : Int) []).bind fun o1 =>
  let u2 : ByteArray := o1.1.1
  let u3 : (List Int) := o1.2.2.1
  bif (decide (u3.length + ([(128 : Int)] : List Int).length ≤ appLim)) then
    (f71_l7 u2 ((64 : Nat)) (u3 ++ ([(128 : Int)] : List Int))).bind fun o5 =>
    let u6 : ByteArray := o5.1.1
    let u7 : (List Int) := o5.2.2.1
    (f71_l10 u6 (((7 : Int) + 1).toNat + 1) (7 : Int) u7).bind fun o10 =>
    let u11 : (List Int) := o10.2.2.1
    some (u11, ())
  else none
def f71_spec : PSpec := { args := [.str], res := [(.sl (.int .u8))], fn := fun x => f71 x.1 }
noncomputable def f71_code : Code := Go.Proofs.Tryd.f71.body.getD .skip
noncomputable def f71_env : Env0 := { C := cfg, P := [], L := [(⟨12, 0, 71, 3⟩, f71_l3_spec), (⟨12, 0, 71, 7⟩, f71_l7_spec), (⟨12, 0, 71, 10⟩, f71_l10_spec)], F := [(71, Go.Proofs.Tryd.f71)], S := [], R := [] }
theorem f71_l3_ok : LoopOK f71_env 12 71 0 (loopAt f71_code 3) f71_l3_spec :=
  loopOK_of (by kernel_rfl) (fun n x => f71_l3 x.1.1 n x.1.2.1 x.2.2.1) (fun x o h => ⟨_, h⟩) (fun x => by kernel_rfl) (fun n x => by kernel_rfl)
theorem f71_l7_ok : LoopOK f71_env 12 71 0 (loopAt f71_code 7) f71_l7_spec :=
  loopOK_of (by kernel_rfl) (fun n x => f71_l7 x.1.1 n x.2.2.1) (fun x o h => ⟨_, h⟩) (fun x => by kernel_rfl) (fun n x => by kernel_rfl)
theorem f71_l10_ok : LoopOK f71_env 12 71 0 (loopAt f71_code 10) f71_l10_spec :=
  loopOK_of (by kernel_rfl) (fun n x => f71_l10 x.1.1 n x.1.2.1 x.2.2.1) (fun x o h => ⟨_, h⟩) (fun x => by kernel_rfl) (fun n x => by kernel_rfl)
theorem f71_run (x : tysDen (f71_spec).args) : runF f71_env 71 Go.Proofs.Tryd.f71 f71_code (f71_spec).args (f71_spec).res x = f71_spec.fn x := by kernel_rfl
theorem f71_enter : Enterable Go.Proofs.Tryd.prog 71 := enter_fun Go.Proofs.Tryd.func71 (by kernel_rfl)
theorem f71_envOK : EnvOK Go.Proofs.Tryd.prog f71_env := envOK_of cds (by kernel_rfl) cfg_ok trivial trivial ⟨⟨Go.Proofs.Tryd.func71, by kernel_rfl⟩, trivial⟩ ⟨⟨Go.Proofs.Tryd.f71, f71_code, rfl, rfl, f71_l3_ok⟩, ⟨Go.Proofs.Tryd.f71, f71_code, rfl, rfl, f71_l7_ok⟩, ⟨Go.Proofs.Tryd.f71, f71_code, rfl, rfl, f71_l10_ok⟩, trivial⟩ trivial
theorem f71_pure : PureOK Go.Proofs.Tryd.prog cfg 71 f71_spec := pure_of_run f71_envOK (fn := Go.Proofs.Tryd.f71) (c := f71_code) rfl rfl f71_spec (fun x _ h => (f71_run x).trans h)

def f86 (a0 : Int) (a1 : Int) : Option (Int × Unit) :=
  bif (decide (0 ≤ a1)) then
    bif (decide (0 ≤ (IntKind.wrap .i64 ((32 : Int) - a1)))) then
      let v1 : Int := (shlV .u32 a0 (IntKind.wrap .i64 ((32 : Int) - a1)))
      some ((orV .u32 (shrV .u32 a0 a1) v1), ())
    else none
  else none
def f86_spec : PSpec := { args := [(.int .u32), (.int .i64)], res := [(.int .u32)], fn := fun x => f86 x.1 x.2.1 }
noncomputable def f86_code : Code := Go.Proofs.Tryd.f86.body.getD .skip
noncomputable def f86_env : Env0 := { C := cfg, P := [], L := [], F := [(86, Go.Proofs.Tryd.f86)], S := [], R := [] }
theorem f86_run (x : tysDen (f86_spec).args) : runF f86_env 86 Go.Proofs.Tryd.f86 f86_code (f86_spec).args (f86_spec).res x = f86_spec.fn x := by kernel_rfl
theorem f86_enter : Enterable Go.Proofs.Tryd.prog 86 := enter_fun Go.Proofs.Tryd.func86 (by kernel_rfl)
theorem f86_envOK : EnvOK Go.Proofs.Tryd.prog f86_env := envOK_of cds (by kernel_rfl) cfg_ok trivial trivial ⟨⟨Go.Proofs.Tryd.func86, by kernel_rfl⟩, trivial⟩ trivial trivial
theorem f86_pure : PureOK Go.Proofs.Tryd.prog cfg 86 f86_spec := pure_of_run f86_envOK (fn := Go.Proofs.Tryd.f86) (c := f86_code) rfl rfl f86_spec (fun x _ h => (f86_run x).trans h)

def f87  : Option ((List Int) × Unit) :=
  some (([(1116352408 : Int), (1899447441 : Int), (3049323471 : Int), (3921009573 : Int), (961987163 : Int), (1508970993 : Int), (2453635748 : Int), (2870763221 : Int), (3624381080 : Int), (310598401 : Int), (607225278 : Int), (1426881987 : Int), (1925078388 : Int), (2162078206 : Int), (2614888103 : Int), (3248222580 : Int), (3835390401 : Int), (4022224774 : Int), (264347078 : Int), (604807628 : Int), (770255983 : Int), (1249150122 : Int), (1555081692 : Int), (1996064986 : Int), (2554220882 : Int), (2821834349 : Int), (2952996808 : Int), (3210313671 : Int), (3336571891 : Int), (3584528711 : Int), (113926993 : Int), (338241895 : Int), (666307205 : Int), (773529912 : Int), (1294757372 : Int), (1396182291 : Int), (1695183700 : Int), (1986661051 : Int), (2177026350 : Int), (2456956037 : Int), (2730485921 : Int), (2820302411 : Int), (3259730800 : Int), (3345764771 : Int), (3516065817 : Int), (3600352804 : Int), (4094571909 : Int), (275423344 : Int), (430227734 : Int), (506948616 : Int), (659060556 : Int), (883997877 : Int), (958139571 : Int), (1322822218 : Int), (1537002063 : Int), (1747873779 : Int), (1955562222 : Int), (2024104815 : Int), (2227730452 : Int), (2361852424 : Int), (2428436474 : Int), (2756734187 : Int), (3204031479 : Int), (3329325298 : Int)] : List Int), ())
def f87_spec : PSpec := { args := [], res := [(.sl (.int .u32))], fn := fun x => f87  }
noncomputable def f87_code : Code := Go.Proofs.Tryd.f87.body.getD .skip
noncomputable def f87_env : Env0 := { C := cfg, P := [], L := [], F := [(87, Go.Proofs.Tryd.f87)], S := [], R := [] }
theorem f87_run (x : tysDen (f87_spec).args) : runF f87_env 87 Go.Proofs.Tryd.f87 f87_code (f87_spec).args (f87_spec).res x = f87_spec.fn x := by kernel_rfl
theorem f87_enter : Enterable Go.Proofs.Tryd.prog 87 := enter_fun Go.Proofs.Tryd.func87 (by kernel_rfl)
theorem f87_envOK : EnvOK Go.Proofs.Tryd.prog f87_env := envOK_of cds (by kernel_rfl) cfg_ok trivial trivial ⟨⟨Go.Proofs.Tryd.func87, by kernel_rfl⟩, trivial⟩ trivial trivial
theorem f87_pure : PureOK Go.Proofs.Tryd.prog cfg 87 f87_spec := pure_of_run f87_envOK (fn := Go.Proofs.Tryd.f87) (c := f87_code) rfl rfl f87_spec (fun x _ h => (f87_run x).trans h)

def f72_l3_head : Ann := { env := [(0, .ty (.sl (.int .u32))), (1, .ty (.sl (.int .u8))), (5, .cst (.row 58 .whole)), (6, .ty (.int .i64))], stk := [], bxs := [(58, .row (.int .u32) false)] }
def f72_l3_outs : List (Ex × Ann) := [((.exit 0), { env := [(0, .ty (.sl (.int .u32))), (5, .cst (.row 58 .whole))], stk := [], bxs := [(58, .row (.int .u32) false)] })]
def f72_l3 (t0 : (List Int)) (t1 : (List Int)) : Nat → Int → (List Int) → Option (outDen f72_l3_outs)
  | 0, _, _ => none
  | k + 1, t6, r58 =>
    bif (decide (t6 < (16 : Int))) then
      bif (inR (IntKind.wrap .i64 ((4 : Int) * t6)) t1.length) then
        let v1 : Int := (at_ (.int .u8) t1 (IntKind.wrap .i64 ((4 : Int) * t6)))
        let v2 : Int := (shlV .u32 (IntKind.wrap .u32 v1) (24 : Int))
        let v3 : Int := (IntKind.wrap .i64 ((IntKind.wrap .i64 ((4 : Int) * t6)) + (1 : Int)))
        bif (inR v3 t1.length) then
          let v4 : Int := (IntKind.wrap .u32 (at_ (.int .u8) t1 v3))
          let v5 : Int := (IntKind.wrap .i64 ((IntKind.wrap .i64 ((4 : Int) * t6)) + (2 : Int)))
          bif (inR v5 t1.length) then
            let v6 : Int := (IntKind.wrap .u32 (at_ (.int .u8) t1 v5))
            let v7 : Int := (orV .u32 (orV .u32 v2 (shlV .u32 v4 (16 : Int))) (shlV .u32 v6 (8 : Int)))
            let v8 : Int := (IntKind.wrap .i64 ((IntKind.wrap .i64 ((4 : Int) * t6)) + (3 : Int)))
            bif (inR v8 t1.length) then
              let v9 : Int := (IntKind.wrap .u32 (at_ (.int .u8) t1 v8))
              bif (decide (r58.length + ([(orV .u32 v7 v9)] : List Int).length ≤ appLim)) then f72_l3 t0 t1 k (IntKind.wrap .i64 (t6 + (1 : Int))) (r58 ++ ([(orV .u32 v7 v9)] : List Int)) else none
            else none
          else none
        else none
      else none
    else
      some ((t0, ()), (), (r58, ()))
def f72_l3_spec : LSpec := { thaws := [.slot 5 58 (.int .u32)], head := f72_l3_head, outs := f72_l3_outs, fn := fun x => f72_l3 x.1.1 x.1.2.1 (((16 : Int) - x.1.2.2.1).toNat + 1) x.1.2.2.1 x.2.2.1 }
def f72_l7_head : Ann := { env := [(0, .ty (.sl (.int .u32))), (5, .cst (.row 58 .whole)), (7, .ty (.int .i64))], stk := [], bxs := [(58, .row (.int .u32) false)] }
def f72_l7_outs : List (Ex × Ann) := [((.exit 2), { env := [(0, .ty (.sl (.int .u32))), (5, .cst (.row 58 .whole))], stk := [], bxs := [(58, .row (.int .u32) false)] })]
def f72_l7 (t0 : (List Int)) : Nat → Int → (List Int) → Option (outDen f72_l7_outs)
  | 0, _, _ => none
  | k + 1, t7, r58 =>
    bif (decide (t7 < (64 : Int))) then
      bif (inR (IntKind.wrap .i64 (t7 - (15 : Int))) r58.length) then
        let v13 : Int := (at_ (.int .u32) r58 (IntKind.wrap .i64 (t7 - (15 : Int))))
        (f86 v13 (7 : Int)).bind fun y14 =>
        bif (inR (IntKind.wrap .i64 (t7 - (15 : Int))) r58.length) then
          let v15 : Int := (at_ (.int .u32) r58 (IntKind.wrap .i64 (t7 - (15 : Int))))
          (f86 v15 (18 : Int)).bind fun y16 =>
          bif (inR (IntKind.wrap .i64 (t7 - (15 : Int))) r58.length) then
            let v17 : Int := (at_ (.int .u32) r58 (IntKind.wrap .i64 (t7 - (15 : Int))))
            let v18 : Int := (xorV .u32 (xorV .u32 y14.1 y16.1) (shrV .u32 v17 (3 : Int)))
            bif (inR (IntKind.wrap .i64 (t7 - (2 : Int))) r58.length) then
              let v19 : Int := (at_ (.int .u32) r58 (IntKind.wrap .i64 (t7 - (2 : Int))))
              (f86 v19 (17 : Int)).bind fun y20 =>
              bif (inR (IntKind.wrap .i64 (t7 - (2 : Int))) r58.length) then
                let v21 : Int := (at_ (.int .u32) r58 (IntKind.wrap .i64 (t7 - (2 : Int))))
                (f86 v21 (19 : Int)).bind fun y22 =>
                bif (inR (IntKind.wrap .i64 (t7 - (2 : Int))) r58.length) then
                  let v23 : Int := (at_ (.int .u32) r58 (IntKind.wrap .i64 (t7 - (2 : Int))))
                  let v24 : Int := (xorV .u32 (xorV .u32 y20.1 y22.1) (shrV .u32 v23 (10 : Int)))
                  bif (inR (IntKind.wrap .i64 (t7 - (16 : Int))) r58.length) then
                    let v25 : Int := (at_ (.int .u32) r58 (IntKind.wrap .i64 (t7 - (16 : Int))))
                    bif (inR (IntKind.wrap .i64 (t7 - (7 : Int))) r58.length) then
                      let v26 : Int := (at_ (.int .u32) r58 (IntKind.wrap .i64 (t7 - (7 : Int))))
                      let v27 : Int := (IntKind.wrap .u32 ((IntKind.wrap .u32 (v25 + v18)) + v26))
                      bif (decide (r58.length + ([(IntKind.wrap .u32 (v27 + v24))] : List Int).length ≤ appLim)) then f72_l7 t0 k (IntKind.wrap .i64 (t7 + (1 : Int))) (r58 ++ ([(IntKind.wrap .u32 (v27 + v24))] : List Int)) else none
                    else none
                  else none
                else none
              else none
            else none
          else none
        else none
      else none
    else
      some ((t0, ()), (), (r58, ()))
def f72_l7_spec : LSpec := { thaws := [], head := f72_l7_head, outs := f72_l7_outs, fn := fun x => f72_l7 x.1.1 (((64 : Int) - x.1.2.1).toNat + 1) x.1.2.1 x.2.2.1 }
def f72_l16_head : Ann := { env := [(0, .ty (.sl (.int .u32))), (5, .cst (.row 58 .whole)), (10, .ty (.sl (.int .u32))), (11, .ty (.sl (.int .u32))), (12, .ty (.int .i64))], stk := [], bxs := [(58, .row (.int .u32) false)] }
def f72_l16_outs : List (Ex × Ann) := [((.exit 4), { env := [(0, .ty (.sl (.int .u32))), (11, .ty (.sl (.int .u32)))], stk := [], bxs := [] })]
def f72_l16 (t0 : (List Int)) (t10 : (List Int)) (r58 : (List Int)) : Nat → (List Int) → Int → Option (outDen f72_l16_outs)
  | 0, _, _ => none
  | k + 1, t11, t12 =>
    bif (decide (t12 < (64 : Int))) then
      bif (inR (0 : Int) t11.length) then
        bif (inR (4 : Int) t11.length) then
          bif (inR (7 : Int) t11.length) then
            (f86 (at_ (.int .u32) t11 (4 : Int)) (6 : Int)).bind fun y32 =>
            (f86 (at_ (.int .u32) t11 (4 : Int)) (11 : Int)).bind fun y33 =>
            (f86 (at_ (.int .u32) t11 (4 : Int)) (25 : Int)).bind fun y34 =>
            let v35 : Int := (xorV .u32 (xorV .u32 y32.1 y33.1) y34.1)
            let v36 : Int := (IntKind.wrap .u32 ((at_ (.int .u32) t11 (7 : Int)) + v35))
            bif (inR (5 : Int) t11.length) then
              let v37 : Int := (andV .u32 (at_ (.int .u32) t11 (4 : Int)) (at_ (.int .u32) t11 (5 : Int)))
              let v38 : Int := (xorV .u32 (if IntKind.signed .u32 then -1 else IntKind.max .u32) (at_ (.int .u32) t11 (4 : Int)))
              bif (inR (6 : Int) t11.length) then
                let v39 : Int := (andV .u32 v38 (at_ (.int .u32) t11 (6 : Int)))
                let v40 : Int := (IntKind.wrap .u32 (v36 + (xorV .u32 v37 v39)))
                bif (inR t12 t10.length) then
                  let v41 : Int := (IntKind.wrap .u32 (v40 + (at_ (.int .u32) t10 t12)))
                  bif (inR t12 r58.length) then
                    let v42 : Int := (IntKind.wrap .u32 (v41 + (at_ (.int .u32) r58 t12)))
                    (f86 (at_ (.int .u32) t11 (0 : Int)) (2 : Int)).bind fun y43 =>
                    (f86 (at_ (.int .u32) t11 (0 : Int)) (13 : Int)).bind fun y44 =>
                    (f86 (at_ (.int .u32) t11 (0 : Int)) (22 : Int)).bind fun y45 =>
                    let v46 : Int := (xorV .u32 (xorV .u32 y43.1 y44.1) y45.1)
                    bif (inR (1 : Int) t11.length) then
                      let v47 : Int := (andV .u32 (at_ (.int .u32) t11 (0 : Int)) (at_ (.int .u32) t11 (1 : Int)))
                      bif (inR (2 : Int) t11.length) then
                        let v48 : Int := (andV .u32 (at_ (.int .u32) t11 (0 : Int)) (at_ (.int .u32) t11 (2 : Int)))
                        bif (inR (1 : Int) t11.length) then
                          bif (inR (2 : Int) t11.length) then
                            let v49 : Int := (andV .u32 (at_ (.int .u32) t11 (1 : Int)) (at_ (.int .u32) t11 (2 : Int)))
                            let v50 : Int := (IntKind.wrap .u32 (v46 + (xorV .u32 (xorV .u32 v47 v48) v49)))
                            bif (inR (1 : Int) t11.length) then
                              bif (inR (2 : Int) t11.length) then
                                bif (inR (3 : Int) t11.length) then
                                  let v51 : Int := (IntKind.wrap .u32 ((at_ (.int .u32) t11 (3 : Int)) + v42))
                                  bif (inR (5 : Int) t11.length) then bif (inR (6 : Int) t11.length) then f72_l16 t0 t10 r58 k ([(IntKind.wrap .u32 (v42 + v50)), (at_ (.int .u32) t11 (0 : Int)), (at_ (.int .u32) t11 (1 : Int)), (at_ (.int .u32) t11 (2 : Int)), v51, (at_ (.int .u32) t11 (4 : Int)), (at_ (.int .u32) t11 (5 : Int)), (at_ (.int .u32) t11 (6 : Int))] : List Int) (IntKind.wrap .i64 (t12 + (1 : Int))) else none else none
                                else none
                              else none
                            else none
                          else none
                        else none
                      else none
                    else none
                  else none
                else none
              else none
            else none
          else none
        else none
      else none
    else
      some ((t0, t11, ()), (), ())
def f72_l16_spec : LSpec := { thaws := [], head := f72_l16_head, outs := f72_l16_outs, fn := fun x => f72_l16 x.1.1 x.1.2.1 x.2.2.1 (((64 : Int) - x.1.2.2.2.1).toNat + 1) x.1.2.2.1 x.1.2.2.2.1 }
def f72_l25_head : Ann := { env := [(0, .ty (.sl (.int .u32))), (11, .ty (.sl (.int .u32))), (17, .cst (.row 236 .whole)), (18, .ty (.int .i64))], stk := [], bxs := [(236, .row (.int .u32) false)] }
def f72_l25_outs : List (Ex × Ann) := [((.exit 6), { env := [(17, .cst (.row 236 .whole))], stk := [], bxs := [(236, .row (.int .u32) false)] })]
def f72_l25 (t0 : (List Int)) (t11 : (List Int)) : Nat → Int → (List Int) → Option (outDen f72_l25_outs)
  | 0, _, _ => none
  | k + 1, t18, r236 =>
    bif (decide (t18 < (8 : Int))) then
      bif (inR t18 t0.length) then
        bif (inR t18 t11.length) then
          let v55 : Int := (IntKind.wrap .u32 ((at_ (.int .u32) t0 t18) + (at_ (.int .u32) t11 t18)))
          bif (decide (r236.length + ([v55] : List Int).length ≤ appLim)) then f72_l25 t0 t11 k (IntKind.wrap .i64 (t18 + (1 : Int))) (r236 ++ ([v55] : List Int)) else none
        else none
      else none
    else
      some ((), (), (r236, ()))
def f72_l25_spec : LSpec := { thaws := [.slot 17 236 (.int .u32)], head := f72_l25_head, outs := f72_l25_outs, fn := fun x => f72_l25 x.1.1 x.1.2.1 (((8 : Int) - x.1.2.2.1).toNat + 1) x.1.2.2.1 x.2.2.1 }
def f72 (a0 : (List Int)) (a1 : (List Int)) : Option ((List Int) × Unit) :=
  (f72_l3 a0 a1 (((16 : Int) - (0 : Int)).toNat + 1) (0 : Int) []).bind fun o10 =>
  let u11 : (List Int) := o10.1.1
  let u12 : (List Int) := o10.2.2.1
  (f72_l7 u11 (((64 : Int) - (16 : Int)).toNat + 1) (16 : Int) u12).bind fun o28 =>
  let u29 : (List Int) := o28.1.1
  let u30 : (List Int) := o28.2.2.1
  (f87 ).bind fun y31 =>
  bif (decide (u29.length ≤ appLim)) then
    (f72_l16 u29 y31.1 u30 (((64 : Int) - (0 : Int)).toNat + 1) u29 (0 : Int)).bind fun o52 =>
    let u53 : (List Int) := o52.1.1
    let u54 : (List Int) := o52.1.2.1
    (f72_l25 u53 u54 (((8 : Int) - (0 : Int)).toNat + 1) (0 : Int) []).bind fun o56 =>
    let u57 : (List Int) := o56.2.2.1
    some (u57, ())
  else none
def f72_spec : PSpec := { args := [(.sl (.int .u32)), (.sl (.int .u8))], res := [(.sl (.int .u32))], fn := fun x => f72 x.1 x.2.1 }
noncomputable def f72_code : Code := Go.Proofs.Tryd.f72.body.getD .skip
noncomputable def f72_env : Env0 := { C := cfg, P := [(86, f86_spec), (87, f87_spec)], L := [(⟨12, 0, 72, 3⟩, f72_l3_spec), (⟨12, 0, 72, 7⟩, f72_l7_spec), (⟨12, 0, 72, 16⟩, f72_l16_spec), (⟨12, 0, 72, 25⟩, f72_l25_spec)], F := [(72, Go.Proofs.Tryd.f72)], S := [], R := [] }
theorem f72_l3_ok : LoopOK f72_env 12 72 0 (loopAt f72_code 3) f72_l3_spec :=
  loopOK_of (by kernel_rfl) (fun n x => f72_l3 x.1.1 x.1.2.1 n x.1.2.2.1 x.2.2.1) (fun x o h => ⟨_, h⟩) (fun x => by kernel_rfl) (fun n x => by kernel_rfl)
theorem f72_l7_ok : LoopOK f72_env 12 72 0 (loopAt f72_code 7) f72_l7_spec :=
  loopOK_of (by kernel_rfl) (fun n x => f72_l7 x.1.1 n x.1.2.1 x.2.2.1) (fun x o h => ⟨_, h⟩) (fun x => by kernel_rfl) (fun n x => by kernel_rfl)
theorem f72_l16_ok : LoopOK f72_env 12 72 0 (loopAt f72_code 16) f72_l16_spec :=
  loopOK_of (by kernel_rfl) (fun n x => f72_l16 x.1.1 x.1.2.1 x.2.2.1 n x.1.2.2.1 x.1.2.2.2.1) (fun x o h => ⟨_, h⟩) (fun x => by kernel_rfl) (fun n x => by kernel_rfl)
theorem f72_l25_ok : LoopOK f72_env 12 72 0 (loopAt f72_code 25) f72_l25_spec :=
  loopOK_of (by kernel_rfl) (fun n x => f72_l25 x.1.1 x.1.2.1 n x.1.2.2.1 x.2.2.1) (fun x o h => ⟨_, h⟩) (fun x => by kernel_rfl) (fun n x => by kernel_rfl)
theorem f72_run (x : tysDen (f72_spec).args) : runF f72_env 72 Go.Proofs.Tryd.f72 f72_code (f72_spec).args (f72_spec).res x = f72_spec.fn x := by kernel_rfl
theorem f72_enter : Enterable Go.Proofs.Tryd.prog 72 := enter_fun Go.Proofs.Tryd.func72 (by kernel_rfl)
theorem f72_envOK : EnvOK Go.Proofs.Tryd.prog f72_env := envOK_of cds (by kernel_rfl) cfg_ok ⟨⟨f86_pure, f86_enter⟩, ⟨f87_pure, f87_enter⟩, trivial⟩ trivial ⟨⟨Go.Proofs.Tryd.func72, by kernel_rfl⟩, trivial⟩ ⟨⟨Go.Proofs.Tryd.f72, f72_code, rfl, rfl, f72_l3_ok⟩, ⟨Go.Proofs.Tryd.f72, f72_code, rfl, rfl, f72_l7_ok⟩, ⟨Go.Proofs.Tryd.f72, f72_code, rfl, rfl, f72_l16_ok⟩, ⟨Go.Proofs.Tryd.f72, f72_code, rfl, rfl, f72_l25_ok⟩, trivial⟩ trivial
theorem f72_pure : PureOK Go.Proofs.Tryd.prog cfg 72 f72_spec := pure_of_run f72_envOK (fn := Go.Proofs.Tryd.f72) (c := f72_code) rfl rfl f72_spec (fun x _ h => (f72_run x).trans h)

def f53_l4_head : Ann := { env := [(3, .ty (.sl (.int .u32))), (4, .ty (.sl (.int .u8))), (5, .ty (.int .i64))], stk := [], bxs := [] }
def f53_l4_outs : List (Ex × Ann) := [((.exit 0), { env := [(3, .ty (.sl (.int .u32)))], stk := [], bxs := [] })]
def f53_l4 (t4 : (List Int)) : Nat → (List Int) → Int → Option (outDen f53_l4_outs)
  | 0, _, _ => none
  | k + 1, t3, t5 =>
    bif (decide (t5 < (t4.length : Int))) then
      bif (cutOk t4.length (some t5) (some (IntKind.wrap .i64 (t5 + (64 : Int))))) then
        let v2 : (List Int) := ((t4.take (Int.toNat (IntKind.wrap .i64 (t5 + (64 : Int))))).drop (Int.toNat t5))
        (f72 t3 v2).bind fun y3 =>
        f53_l4 t4 k y3.1 (IntKind.wrap .i64 (t5 + (64 : Int)))
      else none
    else
      some ((t3, ()), (), ())
def f53_l4_spec : LSpec := { thaws := [], head := f53_l4_head, outs := f53_l4_outs, fn := fun x => f53_l4 x.1.2.1 (((x.1.2.1.length : Int) - x.1.2.2.1).toNat + 1) x.1.1 x.1.2.2.1 }
def f53_l9_head : Ann := { env := [(3, .ty (.sl (.int .u32))), (6, .cst (.row 53 .whole)), (7, .ty (.int .i64))], stk := [], bxs := [(53, .row (.int .u8) false)] }
def f53_l9_outs : List (Ex × Ann) := [((.exit 2), { env := [(6, .cst (.row 53 .whole))], stk := [], bxs := [(53, .row (.int .u8) false)] })]
def f53_l9 (t3 : (List Int)) : Nat → Int → (List Int) → Option (outDen f53_l9_outs)
  | 0, _, _ => none
  | k + 1, t7, r53 =>
    bif (decide (t7 < (8 : Int))) then
      bif (inR t7 t3.length) then
        let v6 : Int := (shrV .u32 (at_ (.int .u32) t3 t7) (24 : Int))
        bif (inR t7 t3.length) then
          let v7 : Int := (shrV .u32 (at_ (.int .u32) t3 t7) (16 : Int))
          bif (inR t7 t3.length) then
            let v8 : Int := (shrV .u32 (at_ (.int .u32) t3 t7) (8 : Int))
            bif (inR t7 t3.length) then
              let v9 : Int := (IntKind.wrap .u8 (at_ (.int .u32) t3 t7))
              bif (decide (r53.length + ([(IntKind.wrap .u8 v6), (IntKind.wrap .u8 v7), (IntKind.wrap .u8 v8), v9] : List Int).length ≤ appLim)) then f53_l9 t3 k (IntKind.wrap .i64 (t7 + (1 : Int))) (r53 ++ ([(IntKind.wrap .u8 v6), (IntKind.wrap .u8 v7), (IntKind.wrap .u8 v8), v9] : List Int)) else none
            else none
          else none
        else none
      else none
    else
      some ((), (), (r53, ()))
def f53_l9_spec : LSpec := { thaws := [.slot 6 53 (.int .u8)], head := f53_l9_head, outs := f53_l9_outs, fn := fun x => f53_l9 x.1.1 (((8 : Int) - x.1.2.1).toNat + 1) x.1.2.1 x.2.2.1 }
def f53 (a0 : ByteArray) : Option (ByteArray × Unit) :=
  (f71 a0).bind fun y1 =>
  (f53_l4 y1.1 (((y1.1.length : Int) - (0 : Int)).toNat + 1) ([(1779033703 : Int), (3144134277 : Int), (1013904242 : Int), (2773480762 : Int), (1359893119 : Int), (2600822924 : Int), (528734635 : Int), (1541459225 : Int)] : List Int) (0 : Int)).bind fun o4 =>
  let u5 : (List Int) := o4.1.1
  (f53_l9 u5 (((8 : Int) - (0 : Int)).toNat + 1) (0 : Int) []).bind fun o10 =>
  let u11 : (List Int) := o10.2.2.1
  some ((ofBytes u11), ())
def f53_spec : PSpec := { args := [.str], res := [.str], fn := fun x => f53 x.1 }
noncomputable def f53_code : Code := Go.Proofs.Tryd.f53.body.getD .skip
noncomputable def f53_env : Env0 := { C := cfg, P := [(71, f71_spec), (72, f72_spec)], L := [(⟨12, 0, 53, 4⟩, f53_l4_spec), (⟨12, 0, 53, 9⟩, f53_l9_spec)], F := [(53, Go.Proofs.Tryd.f53)], S := [], R := [] }
theorem f53_l4_ok : LoopOK f53_env 12 53 0 (loopAt f53_code 4) f53_l4_spec :=
  loopOK_of (by kernel_rfl) (fun n x => f53_l4 x.1.2.1 n x.1.1 x.1.2.2.1) (fun x o h => ⟨_, h⟩) (fun x => by kernel_rfl) (fun n x => by kernel_rfl)
theorem f53_l9_ok : LoopOK f53_env 12 53 0 (loopAt f53_code 9) f53_l9_spec :=
  loopOK_of (by kernel_rfl) (fun n x => f53_l9 x.1.1 n x.1.2.1 x.2.2.1) (fun x o h => ⟨_, h⟩) (fun x => by kernel_rfl) (fun n x => by kernel_rfl)
theorem f53_run (x : tysDen (f53_spec).args) : runF f53_env 53 Go.Proofs.Tryd.f53 f53_code (f53_spec).args (f53_spec).res x = f53_spec.fn x := by kernel_rfl
theorem f53_enter : Enterable Go.Proofs.Tryd.prog 53 := enter_fun Go.Proofs.Tryd.func53 (by kernel_rfl)
theorem f53_envOK : EnvOK Go.Proofs.Tryd.prog f53_env := envOK_of cds (by kernel_rfl) cfg_ok ⟨⟨f71_pure, f71_enter⟩, ⟨f72_pure, f72_enter⟩, trivial⟩ trivial ⟨⟨Go.Proofs.Tryd.func53, by kernel_rfl⟩, trivial⟩ ⟨⟨Go.Proofs.Tryd.f53, f53_code, rfl, rfl, f53_l4_ok⟩, ⟨Go.Proofs.Tryd.f53, f53_code, rfl, rfl, f53_l9_ok⟩, trivial⟩ trivial
theorem f53_pure : PureOK Go.Proofs.Tryd.prog cfg 53 f53_spec := pure_of_run f53_envOK (fn := Go.Proofs.Tryd.f53) (c := f53_code) rfl rfl f53_spec (fun x _ h => (f53_run x).trans h)

def f92 (a0 : Int) : Option (Int × Unit) :=
  bif (decide (a0 < (0 : Int))) then
    let v1 : Int := (IntKind.wrap .u64 (IntKind.wrap .i64 (0 - a0)))
    let v2 : Int := (IntKind.wrap .u64 ((IntKind.wrap .u64 (v1 * (2 : Int))) - (1 : Int)))
    some (v2, ())
  else
    let v3 : Int := (IntKind.wrap .u64 ((IntKind.wrap .u64 a0) * (2 : Int)))
    some (v3, ())
def f92_spec : PSpec := { args := [(.int .i64)], res := [(.int .u64)], fn := fun x => f92 x.1 }
noncomputable def f92_code : Code := Go.Proofs.Tryd.f92.body.getD .skip
noncomputable def f92_env : Env0 := { C := cfg, P := [], L := [], F := [(92, Go.Proofs.Tryd.f92)], S := [], R := [] }
theorem f92_run (x : tysDen (f92_spec).args) : runF f92_env 92 Go.Proofs.Tryd.f92 f92_code (f92_spec).args (f92_spec).res x = f92_spec.fn x := by kernel_rfl
theorem f92_enter : Enterable Go.Proofs.Tryd.prog 92 := enter_fun Go.Proofs.Tryd.func92 (by kernel_rfl)
theorem f92_envOK : EnvOK Go.Proofs.Tryd.prog f92_env := envOK_of cds (by kernel_rfl) cfg_ok trivial trivial ⟨⟨Go.Proofs.Tryd.func92, by kernel_rfl⟩, trivial⟩ trivial trivial
theorem f92_pure : PureOK Go.Proofs.Tryd.prog cfg 92 f92_spec := pure_of_run f92_envOK (fn := Go.Proofs.Tryd.f92) (c := f92_code) rfl rfl f92_spec (fun x _ h => (f92_run x).trans h)

def f85_l5_head : Ann := { env := [(4, .ty (.int .u64)), (5, .cst (.row 22 .whole))], stk := [], bxs := [(22, .row (.int .u8) false)] }
def f85_l5_outs : List (Ex × Ann) := [((.exit 0), { env := [(4, .ty (.int .u64)), (5, .cst (.row 22 .whole))], stk := [], bxs := [(22, .row (.int .u8) false)] })]
def f85_l5 : Nat → Int → (List Int) → Option (outDen f85_l5_outs)
  | 0, _, _ => none
  | k + 1, t4, r22 =>
    bif (decide (t4 ≥ (128 : Int))) then
      let v4 : Int := (IntKind.wrap .u64 ((Int.tmod t4 (128 : Int)) + (128 : Int)))
      bif (decide (r22.length + ([(IntKind.wrap .u8 v4)] : List Int).length ≤ appLim)) then
        let v5 : Int := (IntKind.wrap .u64 (Int.tdiv t4 (128 : Int)))
        f85_l5 k v5 (r22 ++ ([(IntKind.wrap .u8 v4)] : List Int))
      else none
    else
      some ((t4, ()), (), (r22, ()))
def f85_l5_spec : LSpec := { thaws := [.slot 5 22 (.int .u8)], head := f85_l5_head, outs := f85_l5_outs, fn := fun x => f85_l5 (x.1.1.toNat + 1) x.1.1 x.2.2.1 }
def f85 (a0 : Int) : Option (ByteArray × Int × Unit) :=
  let v1 : Bool := (decide (a0 < (-4611686018427387903 : Int)))
  bif v1 then
    some ((⟨#[]⟩ : ByteArray), (10 : Int), ())
  else
    let v2 : Bool := (decide (a0 > (4611686018427387903 : Int)))
    bif v2 then
      some ((⟨#[]⟩ : ByteArray), (10 : Int), ())
    else
      (f92 a0).bind fun y3 =>
      (f85_l5 (y3.1.toNat + 1) y3.1 []).bind fun o6 =>
      let u7 : Int := o6.1.1
      let u8 : (List Int) := o6.2.2.1
      bif (decide (u8.length + ([(IntKind.wrap .u8 u7)] : List Int).length ≤ appLim)) then
        let v9 : ByteArray := (ofBytes (u8 ++ ([(IntKind.wrap .u8 u7)] : List Int)))
        some (v9, (0 : Int), ())
      else none
def f85_spec : PSpec := { args := [(.int .i64)], res := [.str, (.int .i64)], fn := fun x => f85 x.1 }
noncomputable def f85_code : Code := Go.Proofs.Tryd.f85.body.getD .skip
noncomputable def f85_env : Env0 := { C := cfg, P := [(92, f92_spec)], L := [(⟨12, 0, 85, 5⟩, f85_l5_spec)], F := [(85, Go.Proofs.Tryd.f85)], S := [], R := [] }
theorem f85_l5_ok : LoopOK f85_env 12 85 0 (loopAt f85_code 5) f85_l5_spec :=
  loopOK_of (by kernel_rfl) (fun n x => f85_l5 n x.1.1 x.2.2.1) (fun x o h => ⟨_, h⟩) (fun x => by kernel_rfl) (fun n x => by kernel_rfl)
theorem f85_run (x : tysDen (f85_spec).args) : runF f85_env 85 Go.Proofs.Tryd.f85 f85_code (f85_spec).args (f85_spec).res x = f85_spec.fn x := by kernel_rfl
theorem f85_enter : Enterable Go.Proofs.Tryd.prog 85 := enter_fun Go.Proofs.Tryd.func85 (by kernel_rfl)
theorem f85_envOK : EnvOK Go.Proofs.Tryd.prog f85_env := envOK_of cds (by kernel_rfl) cfg_ok ⟨⟨f92_pure, f92_enter⟩, trivial⟩ trivial ⟨⟨Go.Proofs.Tryd.func85, by kernel_rfl⟩, trivial⟩ ⟨⟨Go.Proofs.Tryd.f85, f85_code, rfl, rfl, f85_l5_ok⟩, trivial⟩ trivial
theorem f85_pure : PureOK Go.Proofs.Tryd.prog cfg 85 f85_spec := pure_of_run f85_envOK (fn := Go.Proofs.Tryd.f85) (c := f85_code) rfl rfl f85_spec (fun x _ h => (f85_run x).trans h)

def f68 (a0 : Int) (a1 : ByteArray) : Option (ByteArray × Unit) :=
  (f85 a0).bind fun y1 =>
  bif (decide (y1.2.1 ≠ (0 : Int))) then
    some ((⟨#[]⟩ : ByteArray), ())
  else
    bif (catOk (⟨#[8]⟩ : ByteArray) y1.1) then bif (catOk ((⟨#[8]⟩ : ByteArray) ++ y1.1) a1) then some ((((⟨#[8]⟩ : ByteArray) ++ y1.1) ++ a1), ()) else none else none
def f68_spec : PSpec := { args := [(.int .i64), .str], res := [.str], fn := fun x => f68 x.1 x.2.1 }
noncomputable def f68_code : Code := Go.Proofs.Tryd.f68.body.getD .skip
noncomputable def f68_env : Env0 := { C := cfg, P := [(85, f85_spec)], L := [], F := [(68, Go.Proofs.Tryd.f68)], S := [], R := [] }
theorem f68_run (x : tysDen (f68_spec).args) : runF f68_env 68 Go.Proofs.Tryd.f68 f68_code (f68_spec).args (f68_spec).res x = f68_spec.fn x := by kernel_rfl
theorem f68_enter : Enterable Go.Proofs.Tryd.prog 68 := enter_fun Go.Proofs.Tryd.func68 (by kernel_rfl)
theorem f68_envOK : EnvOK Go.Proofs.Tryd.prog f68_env := envOK_of cds (by kernel_rfl) cfg_ok ⟨⟨f85_pure, f85_enter⟩, trivial⟩ trivial ⟨⟨Go.Proofs.Tryd.func68, by kernel_rfl⟩, trivial⟩ trivial trivial
theorem f68_pure : PureOK Go.Proofs.Tryd.prog cfg 68 f68_spec := pure_of_run f68_envOK (fn := Go.Proofs.Tryd.f68) (c := f68_code) rfl rfl f68_spec (fun x _ h => (f68_run x).trans h)

end Go.V.G
