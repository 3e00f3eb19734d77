/- Part of the proof. -/
import Derived.KernelRfl
import Derived.Shelf.Strings.Builder1
import Derived.Shelf.Strings.BuilderF
import Derived.Shelf.Strings.BuilderK
import Derived.Ground.Names2Prog
import Derived.WalkKit
import Derived.BigCall
import Derived.Shelf.Strings.OnBuilder
import Derived.Test.YtijakakpbijdkaaGreatDoorA10
set_option linter.all false
set_option linter.unusedVariables false
set_option linter.unusedSectionVars false
set_option linter.unusedSimpArgs false
namespace Go.V.G
open Go.Proofs
def f90_l5_head:Ann:={ env:=[(0,.ty .str),(1,YI),(7,.ty (.int .u64)),(19,YI)] }
def f90_l5_outs:List (Ex × Ann):=[((.exit 0),{ env:=[] }),(.ret,{ env:=[(4,YI),(5,YI),(6,YI)] })]
def f90_l5 (t0:ByteArray) (t1:Int):Nat→Int→Int→Option (outDen f90_l5_outs)
 | 0,_,_=>none
 | k + 1,t7,t19 =>
 bif (decide (t19 < (9:Int))) then
 let v1:Bool:=(decide ((IntKind.wrap .i64 (t1 + t19)) ≥ (t0.size:Int)))
 bif v1 then
 some (.inl ((),(),()))
 else
 bif (inR (IntKind.wrap .i64 (t1 + t19)) t0.size) then
 let v2:Int:=(byteAt t0 (IntKind.wrap .i64 (t1 + t19)))
 let v3:Int:=(IntKind.wrap .u64 (andV .u8 v2 (127:Int)))
 bif (decide (0≤(IntKind.wrap .i64 ((7:Int) * t19)))) then
 let v4:Int:=(shlV .u64 v3 (IntKind.wrap .i64 ((7:Int) * t19)))
 bif (decide (v2 ≥ (128:Int))) then
 f90_l5 t0 t1 k (orV .u64 t7 v4) (IntKind.wrap .i64 (t19 + 1))
 else
 let v5:Int:=(IntKind.wrap .i64 (shrV .u64 (orV .u64 t7 v4) (1:Int)))
 let v6:Int:=(IntKind.wrap .i64 (andV .u64 (orV .u64 t7 v4) (1:Int)))
 let v7:Int:=(xorV .i64 v5 (IntKind.wrap .i64 (0 - v6)))
 bif (decide (v2 = (0:Int))) then
 bif (decide (t19 > (0:Int))) then
 some (.inl ((),(),()))
 else
 let v8:Bool:=(decide (v7 < (-4611686018427387903:Int)))
 bif v8 then
 some (.inl ((),(),()))
 else
 let v9:Int:=(IntKind.wrap .i64 ((IntKind.wrap .i64 (t1 + t19)) + 1))
 some (.inr ((v7,v9,(0:Int),()),(),()))
 else
 let v10:Bool:=(decide (v7 < (-4611686018427387903:Int)))
 bif v10 then
 some (.inl ((),(),()))
 else
 let v11:Int:=(IntKind.wrap .i64 ((IntKind.wrap .i64 (t1 + t19)) + 1))
 some (.inr ((v7,v11,(0:Int),()),(),()))
 else none
 else none
 else
 some (.inl ((),(),()))
def f90_l5_n (n:Nat) (x:f90_l5_head.den):=f90_l5 x.1.1 x.1.2.1 n x.1.2.2.1 x.1.2.2.2.1
def f90_l5_spec:LSpec:={ head:=f90_l5_head,outs:=f90_l5_outs,fn:=fun x=>f90_l5_n (((9:Int) - x.1.2.2.2.1).toNat + 1) x }
def f90 (a0:ByteArray) (a1:Int):Option (Int × Int × Int × Unit) :=
 bif (decide (a1 < (0:Int))) then
 some ((0:Int),(0:Int),(2:Int),())
 else
 bif (decide (a1 > (a0.size:Int))) then
 some ((0:Int),(0:Int),(2:Int),())
 else
 (f90_l5 a0 a1 (((9:Int) - (0:Int)).toNat + 1) (0:Int) (0:Int)).bind fun o12 =>
 Sum.elim (fun o13 =>
 some ((0:Int),(0:Int),(10:Int),())) (fun o14 =>
 let u15:Int:=o14.1.1
 let u16:Int:=o14.1.2.1
 let u17:Int:=o14.1.2.2.1
 some (u15,u16,u17,())) o12
def f90_spec:PSpec:={ args:=[.str,yI],res:=[yI,yI,yI],fn:=fun x=>f90 x.1 x.2.1 }
noncomputable def f90_code:Code:=Tryz.f90.body.getD .skip
noncomputable def f90_env:Env0:={ C:=cfgF,P:=[],L:=[(⟨12,0,90,5⟩,f90_l5_spec)],F:=[(90,Tryz.f90)] }
theorem f90_l5_ok:LoopOK f90_env 12 90 0 (loopAt f90_code 5) f90_l5_spec :=
 loopOK_of (by kernel_rfl) f90_l5_n (fun x o h=>⟨_,h⟩) (fun x=>by kernel_rfl) (fun n x=>by kernel_rfl)
theorem f90_run (x:tysDen (f90_spec).args):runF f90_env 90 Tryz.f90 f90_code (f90_spec).args (f90_spec).res x = f90_spec.fn x:=by kernel_rfl
theorem f90_enter:Enterable Tryz.prog 90:=enter_fun Tryz.func90 (by kernel_rfl)
theorem f90_envOK:EnvOK Tryz.prog f90_env:=envOK_of cds (by kernel_rfl) cfgF_ok trivial trivial ⟨⟨Tryz.func90,by kernel_rfl⟩,trivial⟩ ⟨⟨Tryz.f90,f90_code,rfl,rfl,f90_l5_ok⟩,trivial⟩ trivial trivial
theorem f90_pure:PureOK Tryz.prog cfg 90 f90_spec:=pure_of_run f90_envOK (fn:=Tryz.f90) (c:=f90_code) rfl rfl f90_spec (fun x _ h=>(f90_run x).trans h)
def f103 (a0:Ye):Option (Bool × Unit) :=
 let v1:Bool:=(decide ((a0.2.1.size:Int) = (0:Int)))
 bif v1 then
 some (true,())
 else
 let v2:Bool:=(decide ((a0.2.1.size:Int) > (65536:Int)))
 some (v2,())
def f103_spec:PSpec:={ args:=[yE],res:=[.bool],fn:=fun x=>f103 x.1 }
noncomputable def f103_code:Code:=Tryz.f103.body.getD .skip
noncomputable def f103_env:Env0:={ C:=cfgF,P:=[],L:=[],F:=[(103,Tryz.f103)] }
theorem f103_run (x:tysDen (f103_spec).args):runF f103_env 103 Tryz.f103 f103_code (f103_spec).args (f103_spec).res x = f103_spec.fn x:=by kernel_rfl
theorem f103_enter:Enterable Tryz.prog 103:=enter_fun Tryz.func103 (by kernel_rfl)
theorem f103_envOK:EnvOK Tryz.prog f103_env:=envOK_of cds (by kernel_rfl) cfgF_ok trivial trivial ⟨⟨Tryz.func103,by kernel_rfl⟩,trivial⟩ trivial trivial trivial
theorem f103_pure:PureOK Tryz.prog cfg 103 f103_spec:=pure_of_run f103_envOK (fn:=Tryz.f103) (c:=f103_code) rfl rfl f103_spec (fun x _ h=>(f103_run x).trans h)
def f104_l2_head:Ann:={ env:=[(0,.ty (.sl yI)),(5,.ty (.sl yI)),(6,YI),(7,YI)] }
def f104_l2_outs:List (Ex × Ann):=[((.exit 0),{ env:=[] }),(.ret,{ env:=[(2,.ty .bool)] })]
def f104_l2 (t0:(List Int)) (t5:(List Int)) (t6:Int):Nat→Int→Option (outDen f104_l2_outs)
 | 0,_=>none
 | k + 1,t7 =>
 bif (decide (t7 < t6)) then
 bif (inR t7 t5.length) then
 let v1:Bool:=(decide ((at_ yI t5 t7) < (0:Int)))
 bif v1 then
 some (.inr ((false,()),(),()))
 else
 let v2:Bool:=(decide ((at_ yI t5 t7) ≥ (64:Int)))
 bif v2 then
 some (.inr ((false,()),(),()))
 else
 bif (decide (t7 > (0:Int))) then
 bif (inR (IntKind.wrap .i64 (t7 - (1:Int))) t0.length) then
 let v3:Int:=(at_ yI t0 (IntKind.wrap .i64 (t7 - (1:Int))))
 bif (decide ((at_ yI t5 t7)≤v3)) then
 some (.inr ((false,()),(),()))
 else
 f104_l2 t0 t5 t6 k (IntKind.wrap .i64 (t7 + 1))
 else none
 else
 f104_l2 t0 t5 t6 k (IntKind.wrap .i64 (t7 + 1))
 else none
 else
 some (.inl ((),(),()))
def f104_l2_n (n:Nat) (x:f104_l2_head.den):=f104_l2 x.1.1 x.1.2.1 x.1.2.2.1 n x.1.2.2.2.1
def f104_l2_spec:LSpec:={ head:=f104_l2_head,outs:=f104_l2_outs,fn:=fun x=>f104_l2_n ((x.1.2.2.1 - x.1.2.2.2.1).toNat + 1) x }
def f104 (a0:(List Int)):Option (Bool × Unit) :=
 (f104_l2 a0 a0 (a0.length:Int) (((a0.length:Int) - (0:Int)).toNat + 1) (0:Int)).bind fun o4 =>
 Sum.elim (fun o5 =>
 some (true,())) (fun o6 =>
 let u7:Bool:=o6.1.1
 some (u7,())) o4
def f104_spec:PSpec:={ args:=[(.sl yI)],res:=[.bool],fn:=fun x=>f104 x.1 }
noncomputable def f104_code:Code:=Tryz.f104.body.getD .skip
noncomputable def f104_env:Env0:={ C:=cfgF,P:=[],L:=[(⟨12,0,104,2⟩,f104_l2_spec)],F:=[(104,Tryz.f104)] }
theorem f104_l2_ok:LoopOK f104_env 12 104 0 (loopAt f104_code 2) f104_l2_spec :=
 loopOK_of (by kernel_rfl) f104_l2_n (fun x o h=>⟨_,h⟩) (fun x=>by kernel_rfl) (fun n x=>by kernel_rfl)
theorem f104_run (x:tysDen (f104_spec).args):runF f104_env 104 Tryz.f104 f104_code (f104_spec).args (f104_spec).res x = f104_spec.fn x:=by kernel_rfl
theorem f104_enter:Enterable Tryz.prog 104:=enter_fun Tryz.func104 (by kernel_rfl)
theorem f104_envOK:EnvOK Tryz.prog f104_env:=envOK_of cds (by kernel_rfl) cfgF_ok trivial trivial ⟨⟨Tryz.func104,by kernel_rfl⟩,trivial⟩ ⟨⟨Tryz.f104,f104_code,rfl,rfl,f104_l2_ok⟩,trivial⟩ trivial trivial
theorem f104_pure:PureOK Tryz.prog cfg 104 f104_spec:=pure_of_run f104_envOK (fn:=Tryz.f104) (c:=f104_code) rfl rfl f104_spec (fun x _ h=>(f104_run x).trans h)
def f106 (a0:Ye):Option (Int × Unit) :=
 some (a0.1,())
def f106_spec:PSpec:={ args:=[yE],res:=[yI],fn:=fun x=>f106 x.1 }
noncomputable def f106_code:Code:=Tryz.f106.body.getD .skip
noncomputable def f106_env:Env0:={ C:=cfgF,P:=[],L:=[],F:=[(106,Tryz.f106)] }
theorem f106_run (x:tysDen (f106_spec).args):runF f106_env 106 Tryz.f106 f106_code (f106_spec).args (f106_spec).res x = f106_spec.fn x:=by kernel_rfl
theorem f106_enter:Enterable Tryz.prog 106:=enter_fun Tryz.func106 (by kernel_rfl)
theorem f106_envOK:EnvOK Tryz.prog f106_env:=envOK_of cds (by kernel_rfl) cfgF_ok trivial trivial ⟨⟨Tryz.func106,by kernel_rfl⟩,trivial⟩ trivial trivial trivial
theorem f106_pure:PureOK Tryz.prog cfg 106 f106_spec:=pure_of_run f106_envOK (fn:=Tryz.f106) (c:=f106_code) rfl rfl f106_spec (fun x _ h=>(f106_run x).trans h)
def f105_l3_b5000_head:Ann:={ env:=[(1,.cst (.fn 106 [])),(5,.cst (.row 5019 .whole)),(8,.ty (.sl yE)),(9,YI),(10,YI)],stk:=[[(0,.ty (.sl yE)),(2,.ty .bool),(3,.cst (.fn 103 []))]],bxs:=[(5019,.row yI false)] }
def f105_l3_b5000_outs:List (Ex × Ann):=[((.exit 0),{ env:=[(5,.cst (.row 5019 .whole))],stk:=[[(0,.ty (.sl yE)),(2,.ty .bool),(3,.cst (.fn 103 []))]],bxs:=[(5019,.row yI false)] })]
def f105_l3_b5000 (t8:(List Ye)) (t9:Int) (k0t0:(List Ye)) (k0t2:Bool):Nat→Int→(List Int)→Option (outDen f105_l3_b5000_outs)
 | 0,_,_=>none
 | k + 1,t10,r5019 =>
 bif (decide (t10 < t9)) then
 bif (inR t10 t8.length) then
 (f106 (at_ yE t8 t10)).bind fun y1 =>
 bif (decide (r5019.length + ([y1.1]:List Int).length≤appLim)) then f105_l3_b5000 t8 t9 k0t0 k0t2 k (IntKind.wrap .i64 (t10 + 1)) (r5019++([y1.1]:List Int)) else none
 else none
 else
 some ((),((k0t0,k0t2,()),()),(r5019,()))
def f105_l3_b5000_n (n:Nat) (x:f105_l3_b5000_head.den):=f105_l3_b5000 x.1.1 x.1.2.1 x.2.1.1.1 x.2.1.1.2.1 n x.1.2.2.1 x.2.2.1
def f105_l3_b5000_spec:LSpec:={ thaws:=[.slot 5 5019 yI],head:=f105_l3_b5000_head,outs:=f105_l3_b5000_outs,fn:=fun x=>f105_l3_b5000_n ((x.1.2.1 - x.1.2.2.1).toNat + 1) x }
def f121_l2x_head:Ann:={ env:=[(0,.ty (.sl yE)),(1,.cst (.fn 103 [])),(7,YI),(8,YI)],stk:=[[(4,.ty .bool)],[(2,.ty .bool),(7,.ty .bool)]] }
def f121_l2x_outs:List (Ex × Ann):=[((.exit 0),{ env:=[],stk:=[[(4,.ty .bool)],[(2,.ty .bool),(7,.ty .bool)]] }),(.ret,{ env:=[(4,YI)],stk:=[[(4,.ty .bool)],[(2,.ty .bool),(7,.ty .bool)]] })]
def f121_l2x (t0:(List Ye)) (t7:Int) (k0t4:Bool) (k1t2:Bool) (k1t7:Bool):Nat→Int→Option (outDen f121_l2x_outs)
 | 0,_=>none
 | k + 1,t8 =>
 bif (decide (t8 < t7)) then
 bif (inR t8 t0.length) then
 (f103 (at_ yE t0 t8)).bind fun y7 =>
 bif y7.1 then
 some (.inr ((t8,()),((k0t4,()),(k1t2,k1t7,()),()),()))
 else
 f121_l2x t0 t7 k0t4 k1t2 k1t7 k (IntKind.wrap .i64 (t8 + 1))
 else none
 else
 some (.inl ((),((k0t4,()),(k1t2,k1t7,()),()),()))
def f121_l2x_n (n:Nat) (x:f121_l2x_head.den):=f121_l2x x.1.1 x.1.2.1 x.2.1.1.1 x.2.1.2.1.1 x.2.1.2.1.2.1 n x.1.2.2.1
def f121_l2x_spec:LSpec:={ head:=f121_l2x_head,outs:=f121_l2x_outs,fn:=fun x=>f121_l2x_n ((x.1.2.1 - x.1.2.2.1).toNat + 1) x }
def f91 (a0:(List Ye)):Option (Bool × Unit) :=
 (f105_l3_b5000 a0 (a0.length:Int) a0 false (((a0.length:Int) - (0:Int)).toNat + 1) (0:Int) []).bind fun o2 =>
 let u3:(List Ye):=o2.2.1.1.1
 let u4:Bool:=o2.2.1.1.2.1
 let u5:(List Int):=o2.2.2.1
 (f104 u5).bind fun y6 =>
 bif y6.1 then
 (f121_l2x u3 (u3.length:Int) false u4 true (((u3.length:Int) - (0:Int)).toNat + 1) (0:Int)).bind fun o8 =>
 Sum.elim (fun o9 =>
 let u13:Bool:=o9.2.1.2.1.2.1
 bif u13 then
 some (true,())
 else
 some (false,())) (fun o10 =>
 let u14:Int:=o10.1.1
 let u17:Bool:=o10.2.1.2.1.2.1
 bif u17 then
 some ((!(decide (u14 ≥ (0:Int)))),())
 else
 some (false,())) o8
 else
 some (false,())
def f91_spec:PSpec:={ args:=[(.sl yE)],res:=[.bool],fn:=fun x=>f91 x.1 }
noncomputable def f91_code:Code:=Tryz.f91.body.getD .skip
noncomputable def f91_code_105:Code:=Tryz.f105.body.getD .skip
noncomputable def f91_code_121:Code:=Tryz.f121.body.getD .skip
noncomputable def f91_env:Env0:={ C:=cfgF,P:=[(103,f103_spec),(104,f104_spec),(106,f106_spec)],L:=[(⟨11,5000,105,3⟩,f105_l3_b5000_spec),(⟨10,10007000,121,2⟩,f121_l2x_spec)],F:=[(91,Tryz.f91),(105,Tryz.f105),(107,Tryz.f107),(121,Tryz.f121)] }
theorem f105_l3_b5000_ok:LoopOK f91_env 11 105 5000 (loopAt f91_code_105 3) f105_l3_b5000_spec :=
 loopOK_of (by kernel_rfl) f105_l3_b5000_n (fun x o h=>⟨_,h⟩) (fun x=>by kernel_rfl) (fun n x=>by kernel_rfl)
theorem f121_l2x_ok:LoopOK f91_env 10 121 10007000 (loopAt f91_code_121 2) f121_l2x_spec :=
 loopOK_of (by kernel_rfl) f121_l2x_n (fun x o h=>⟨_,h⟩) (fun x=>by kernel_rfl) (fun n x=>by kernel_rfl)
theorem f91_run (x:tysDen (f91_spec).args):runF f91_env 91 Tryz.f91 f91_code (f91_spec).args (f91_spec).res x = f91_spec.fn x:=by kernel_rfl
theorem f91_enter:Enterable Tryz.prog 91:=enter_fun Tryz.func91 (by kernel_rfl)
theorem f91_envOK:EnvOK Tryz.prog f91_env:=envOK_of cds (by kernel_rfl) cfgF_ok ⟨⟨f103_pure,f103_enter⟩,⟨f104_pure,f104_enter⟩,⟨f106_pure,f106_enter⟩,trivial⟩ trivial ⟨⟨Tryz.func91,by kernel_rfl⟩,⟨Tryz.func105,by kernel_rfl⟩,⟨Tryz.func107,by kernel_rfl⟩,⟨Tryz.func121,by kernel_rfl⟩,trivial⟩ ⟨⟨Tryz.f105,f91_code_105,rfl,rfl,f105_l3_b5000_ok⟩,⟨Tryz.f121,f91_code_121,rfl,rfl,f121_l2x_ok⟩,trivial⟩ trivial trivial
theorem f91_pure:PureOK Tryz.prog cfg 91 f91_spec:=pure_of_run f91_envOK (fn:=Tryz.f91) (c:=f91_code) rfl rfl f91_spec (fun x _ h=>(f91_run x).trans h)
def f108 :Option (ByteArray × Unit) :=
 bif (decide (0≤(32:Int)) && decide ((32:Int)≤(32:Int)) && decide ((32:Int)≤(appLim:Int))) then
 let v1:ByteArray:=(ofBytes (List.replicate (Int.toNat (32:Int)) (0:Int)))
 some (v1,())
 else none
def f108_spec:PSpec:={ args:=[],res:=[.str],fn:=fun x=>f108  }
noncomputable def f108_code:Code:=Tryz.f108.body.getD .skip
noncomputable def f108_env:Env0:={ C:=cfgF,P:=[],L:=[],F:=[(108,Tryz.f108)] }
theorem f108_run (x:tysDen (f108_spec).args):runF f108_env 108 Tryz.f108 f108_code (f108_spec).args (f108_spec).res x = f108_spec.fn x:=by kernel_rfl
theorem f108_enter:Enterable Tryz.prog 108:=enter_fun Tryz.func108 (by kernel_rfl)
theorem f108_envOK:EnvOK Tryz.prog f108_env:=envOK_of cds (by kernel_rfl) cfgF_ok trivial trivial ⟨⟨Tryz.func108,by kernel_rfl⟩,trivial⟩ trivial trivial trivial
theorem f108_pure:PureOK Tryz.prog cfg 108 f108_spec:=pure_of_run f108_envOK (fn:=Tryz.f108) (c:=f108_code) rfl rfl f108_spec (fun x _ h=>(f108_run x).trans h)
def f119_l0x_head:Ann:={ env:=[(0,.cst (.yld 905)),(1,cP 20001)],stk:=[[(0,.cst (.yld 905))],[(2,.ty .str),(3,YI),(4,cP 4)]],bxs:=[(905,.loop false 87 5 [(4,cP 4)]),(20001,.var [.ty (.int .u64)]),(4,.var [.cst (.row 905011030 .whole)]),(905011030,.row (.int .u8) false)] }
def f119_l0x_outs:List (Ex × Ann):=[(.ret,{ env:=[],stk:=[[(0,.cst (.yld 905))],[(2,.ty .str),(3,YI),(4,cP 4)]],bxs:=[(905,.loop false 87 5 [(4,cP 4)]),(4,.var [.cst (.row 905011030 .whole)]),(905011030,.row (.int .u8) false)] })]
def f119_l0x (k1t2:ByteArray) (k1t3:Int):Nat→Int→(List Int)→Option (outDen f119_l0x_outs)
 | 0,_,_=>none
 | k + 1,b20001g0,r905011030 =>
 let v5:Int:=(IntKind.wrap .u8 (andV .u64 b20001g0 (127:Int)))
 bif (!(decide (b20001g0 < (128:Int)))) then
 bif (decide (r905011030.length + ([(orV .u8 v5 (128:Int))]:List Int).length≤appLim)) then
 bif (decide (b20001g0 < (128:Int))) then
 some ((),((),(k1t2,k1t3,()),()),((),(),(r905011030++([(orV .u8 v5 (128:Int))]:List Int)),()))
 else
 f119_l0x k1t2 k1t3 k (shrV .u64 b20001g0 (7:Int)) (r905011030++([(orV .u8 v5 (128:Int))]:List Int))
 else none
 else
 bif (decide (r905011030.length + ([v5]:List Int).length≤appLim)) then
 bif (decide (b20001g0 < (128:Int))) then
 some ((),((),(k1t2,k1t3,()),()),((),(),(r905011030++([v5]:List Int)),()))
 else
 f119_l0x k1t2 k1t3 k (shrV .u64 b20001g0 (7:Int)) (r905011030++([v5]:List Int))
 else none
def f119_l0x_n (n:Nat) (x:f119_l0x_head.den):=f119_l0x x.2.1.2.1.1 x.2.1.2.1.2.1 n x.2.2.2.1.1 x.2.2.2.2.2.1
def f119_l0x_spec:LSpec:={ thaws:=[.cell 4 0 905011030 (.int .u8)],head:=f119_l0x_head,outs:=f119_l0x_outs,fn:=fun x=>f119_l0x_n ((10:Nat)) x }
def f87 (a0:Int):Option (ByteArray × Int × Unit) :=
 let v1:Bool:=(decide (a0 < (-4611686018427387903:Int)))
 bif v1 then
 some ((⟨#[]⟩:ByteArray),(10:Int),())
 else
 let v2:Bool:=(decide (a0 > (4611686018427387903:Int)))
 bif v2 then
 some ((⟨#[]⟩:ByteArray),(10:Int),())
 else
 let v3:Int:=(shlV .u64 (IntKind.wrap .u64 a0) (1:Int))
 let v4:Int:=(IntKind.wrap .u64 (shrV .i64 a0 (63:Int)))
 (f119_l0x (⟨#[]⟩:ByteArray) (0:Int) ((10:Nat)) (xorV .u64 v3 v4) []).bind fun o6 =>
 let u9:(List Int):=o6.2.2.2.2.1
 some ((ofBytes u9),(0:Int),())
def f87_spec:PSpec:={ args:=[yI],res:=[.str,yI],fn:=fun x=>f87 x.1 }
noncomputable def f87_code:Code:=Tryz.f87.body.getD .skip
noncomputable def f87_code_119:Code:=Tryz.f119.body.getD .skip
noncomputable def f87_env:Env0:={ C:=cfgF,P:=[],L:=[(⟨11,905000,119,0⟩,f119_l0x_spec)],F:=[(87,Tryz.f87),(101,Tryz.f101),(119,Tryz.f119)] }
theorem f119_l0x_ok:LoopOK f87_env 11 119 905000 (loopAt f87_code_119 0) f119_l0x_spec :=
 loopOK_of (by kernel_rfl) f119_l0x_n (fun x o h=>⟨_,h⟩) (fun x=>by kernel_rfl) (fun n x=>by kernel_rfl)
theorem f87_run (x:tysDen (f87_spec).args):runF f87_env 87 Tryz.f87 f87_code (f87_spec).args (f87_spec).res x = f87_spec.fn x:=by kernel_rfl
theorem f87_enter:Enterable Tryz.prog 87:=enter_fun Tryz.func87 (by kernel_rfl)
theorem f87_envOK:EnvOK Tryz.prog f87_env:=envOK_of cds (by kernel_rfl) cfgF_ok trivial trivial ⟨⟨Tryz.func87,by kernel_rfl⟩,⟨Tryz.func101,by kernel_rfl⟩,⟨Tryz.func119,by kernel_rfl⟩,trivial⟩ ⟨⟨Tryz.f119,f87_code_119,rfl,rfl,f119_l0x_ok⟩,trivial⟩ trivial trivial
theorem f87_pure:PureOK Tryz.prog cfg 87 f87_spec:=pure_of_run f87_envOK (fn:=Tryz.f87) (c:=f87_code) rfl rfl f87_spec (fun x _ h=>(f87_run x).trans h)
def f233 (a0:Int) (a1:Int):Option (Int × Unit) :=
 let v1:Int:=(andV .u64 (IntKind.wrap .u64 a1) (31:Int))
 bif (decide (0≤v1)) then
 bif (decide (0≤(IntKind.wrap .u64 ((32:Int) - v1)))) then
 let v2:Int:=(shrV .u32 a0 (IntKind.wrap .u64 ((32:Int) - v1)))
 some ((orV .u32 (shlV .u32 a0 v1) v2),())
 else none
 else none
def f233_spec:PSpec:={ args:=[(.int .u32),yI],res:=[(.int .u32)],fn:=fun x=>f233 x.1 x.2.1 }
noncomputable def f233_code:Code:=Tryz.f233.body.getD .skip
noncomputable def f233_env:Env0:={ C:=cfgF,P:=[],L:=[],F:=[(233,Tryz.f233)] }
theorem f233_run (x:tysDen (f233_spec).args):runF f233_env 233 Tryz.f233 f233_code (f233_spec).args (f233_spec).res x = f233_spec.fn x:=by kernel_rfl
theorem f233_enter:Enterable Tryz.prog 233:=enter_fun Tryz.func233 (by kernel_rfl)
theorem f233_envOK:EnvOK Tryz.prog f233_env:=envOK_of cds (by kernel_rfl) cfgF_ok trivial trivial ⟨⟨Tryz.func233,by kernel_rfl⟩,trivial⟩ trivial trivial trivial
theorem f233_pure:PureOK Tryz.prog cfg 233 f233_spec:=pure_of_run f233_envOK (fn:=Tryz.f233) (c:=f233_code) rfl rfl f233_spec (fun x _ h=>(f233_run x).trans h)
def f162_l3_head:Ann:={ env:=[(0,.ty (.int .u32)),(5,.ty (.int .u32)),(8,.ty (.sl yI)),(9,YI),(10,YI)] }
def f162_l3_outs:List (Ex × Ann):=[((.exit 0),{ env:=[(5,.ty (.int .u32))] })]
def f162_l3 (t0:Int) (t8:(List Int)) (t9:Int):Nat→Int→Int→Option (outDen f162_l3_outs)
 | 0,_,_=>none
 | k + 1,t5,t10 =>
 bif (decide (t10 < t9)) then
 bif (inR t10 t8.length) then
 let v1:Int:=(IntKind.wrap .i64 (0 - (at_ yI t8 t10)))
 (f233 t0 v1).bind fun y2 =>
 f162_l3 t0 t8 t9 k (xorV .u32 t5 y2.1) (IntKind.wrap .i64 (t10 + 1))
 else none
 else
 some ((t5,()),(),())
def f162_l3_n (n:Nat) (x:f162_l3_head.den):=f162_l3 x.1.1 x.1.2.2.1 x.1.2.2.2.1 n x.1.2.1 x.1.2.2.2.2.1
def f162_l3_spec:LSpec:={ head:=f162_l3_head,outs:=f162_l3_outs,fn:=fun x=>f162_l3_n ((x.1.2.2.2.1 - x.1.2.2.2.2.1).toNat + 1) x }
def f162 (a0:Int) (a1:(List Int)):Option (Int × Unit) :=
 (f162_l3 a0 a1 (a1.length:Int) (((a1.length:Int) - (0:Int)).toNat + 1) (0:Int) (0:Int)).bind fun o3 =>
 let u4:Int:=o3.1.1
 some (u4,())
def f162_spec:PSpec:={ args:=[(.int .u32),(.sl yI)],res:=[(.int .u32)],fn:=fun x=>f162 x.1 x.2.1 }
noncomputable def f162_code:Code:=Tryz.f162.body.getD .skip
noncomputable def f162_env:Env0:={ C:=cfgF,P:=[(233,f233_spec)],L:=[(⟨12,0,162,3⟩,f162_l3_spec)],F:=[(162,Tryz.f162)] }
theorem f162_l3_ok:LoopOK f162_env 12 162 0 (loopAt f162_code 3) f162_l3_spec :=
 loopOK_of (by kernel_rfl) f162_l3_n (fun x o h=>⟨_,h⟩) (fun x=>by kernel_rfl) (fun n x=>by kernel_rfl)
theorem f162_run (x:tysDen (f162_spec).args):runF f162_env 162 Tryz.f162 f162_code (f162_spec).args (f162_spec).res x = f162_spec.fn x:=by kernel_rfl
theorem f162_enter:Enterable Tryz.prog 162:=enter_fun Tryz.func162 (by kernel_rfl)
theorem f162_envOK:EnvOK Tryz.prog f162_env:=envOK_of cds (by kernel_rfl) cfgF_ok ⟨⟨f233_pure,f233_enter⟩,trivial⟩ trivial ⟨⟨Tryz.func162,by kernel_rfl⟩,trivial⟩ ⟨⟨Tryz.f162,f162_code,rfl,rfl,f162_l3_ok⟩,trivial⟩ trivial trivial
theorem f162_pure:PureOK Tryz.prog cfg 162 f162_spec:=pure_of_run f162_envOK (fn:=Tryz.f162) (c:=f162_code) rfl rfl f162_spec (fun x _ h=>(f162_run x).trans h)
def f161_l2_head:Ann:={ env:=[(0,.ty (.sl (.int .u8))),(2,cP 2),(7,YI)],bxs:=[(2,.var [.ty (.arr 64 (.int .u32))])] }
def f161_l2_outs:List (Ex × Ann):=[((.exit 0),{ env:=[(2,cP 2)],bxs:=[(2,.var [.ty (.arr 64 (.int .u32))])] })]
def f161_l2 (t0:(List Int)):Nat→Int→(List Int)→Option (outDen f161_l2_outs)
 | 0,_,_=>none
 | k + 1,t7,b2g0 =>
 bif (decide (t7 < (16:Int))) then
 bif (inR (IntKind.wrap .i64 ((4:Int) * t7)) t0.length) then
 let v1:Int:=(at_ (.int .u8) t0 (IntKind.wrap .i64 ((4:Int) * t7)))
 let v2:Int:=(shlV .u32 (IntKind.wrap .u32 v1) (24:Int))
 let v3:Int:=(IntKind.wrap .i64 ((IntKind.wrap .i64 ((4:Int) * t7)) + 1))
 bif (inR v3 t0.length) then
 let v4:Int:=(IntKind.wrap .u32 (at_ (.int .u8) t0 v3))
 let v5:Int:=(IntKind.wrap .i64 ((IntKind.wrap .i64 ((4:Int) * t7)) + (2:Int)))
 bif (inR v5 t0.length) then
 let v6:Int:=(IntKind.wrap .u32 (at_ (.int .u8) t0 v5))
 let v7:Int:=(orV .u32 (orV .u32 v2 (shlV .u32 v4 (16:Int))) (shlV .u32 v6 (8:Int)))
 let v8:Int:=(IntKind.wrap .i64 ((IntKind.wrap .i64 ((4:Int) * t7)) + (3:Int)))
 bif (inR v8 t0.length) then
 let v9:Int:=(IntKind.wrap .u32 (at_ (.int .u8) t0 v8))
 bif (inR t7 64) then f161_l2 t0 k (IntKind.wrap .i64 (t7 + 1)) (b2g0.set (Int.toNat t7) (orV .u32 v7 v9)) else none
 else none
 else none
 else none
 else none
 else
 some ((),(),((b2g0,()),()))
def f161_l2_n (n:Nat) (x:f161_l2_head.den):=f161_l2 x.1.1 n x.1.2.1 x.2.2.1.1
def f161_l2_spec:LSpec:={ head:=f161_l2_head,outs:=f161_l2_outs,fn:=fun x=>f161_l2_n (((16:Int) - x.1.2.1).toNat + 1) x }
def f161_l7_head:Ann:={ env:=[(2,cP 2),(4,YI)],bxs:=[(2,.var [.ty (.arr 64 (.int .u32))])] }
def f161_l7_outs:List (Ex × Ann):=[((.exit 2),{ env:=[(2,cP 2)],bxs:=[(2,.var [.ty (.arr 64 (.int .u32))])] })]
def f161_l7:Nat→Int→(List Int)→Option (outDen f161_l7_outs)
 | 0,_,_=>none
 | k + 1,t4,b2g0 =>
 bif (decide (t4 < (64:Int))) then
 bif (inR (IntKind.wrap .i64 (t4 - (15:Int))) 64) then
 let v12:Int:=(at_ (.int .u32) b2g0 (IntKind.wrap .i64 (t4 - (15:Int))))
 bif (inR (IntKind.wrap .i64 (t4 - (2:Int))) 64) then
 let v13:Int:=(at_ (.int .u32) b2g0 (IntKind.wrap .i64 (t4 - (2:Int))))
 bif (inR (IntKind.wrap .i64 (t4 - (16:Int))) 64) then
 let v14:Int:=(at_ (.int .u32) b2g0 (IntKind.wrap .i64 (t4 - (16:Int))))
 (f162 v12 ([(7:Int),(18:Int)]:List Int)).bind fun y15 =>
 let v16:Int:=(xorV .u32 y15.1 (shrV .u32 v12 (3:Int)))
 bif (inR (IntKind.wrap .i64 (t4 - (7:Int))) 64) then
 let v17:Int:=(at_ (.int .u32) b2g0 (IntKind.wrap .i64 (t4 - (7:Int))))
 let v18:Int:=(IntKind.wrap .u32 ((IntKind.wrap .u32 (v14 + v16)) + v17))
 (f162 v13 ([(17:Int),(19:Int)]:List Int)).bind fun y19 =>
 let v20:Int:=(xorV .u32 y19.1 (shrV .u32 v13 (10:Int)))
 bif (inR t4 64) then f161_l7 k (IntKind.wrap .i64 (t4 + 1)) (b2g0.set (Int.toNat t4) (IntKind.wrap .u32 (v18 + v20))) else none
 else none
 else none
 else none
 else none
 else
 some ((),(),((b2g0,()),()))
def f161_l7_n (n:Nat) (x:f161_l7_head.den):=f161_l7 n x.1.1 x.2.2.1.1
def f161_l7_spec:LSpec:={ head:=f161_l7_head,outs:=f161_l7_outs,fn:=fun x=>f161_l7_n (((64:Int) - x.1.1).toNat + 1) x }
def f161 (a0:(List Int)):Option ((List Int) × Unit) :=
 (f161_l2 a0 (((16:Int) - (0:Int)).toNat + 1) (0:Int) (List.replicate 64 (0:Int))).bind fun o10 =>
 let u11:(List Int):=o10.2.2.1.1
 (f161_l7 (((64:Int) - (16:Int)).toNat + 1) (16:Int) u11).bind fun o21 =>
 let u22:(List Int):=o21.2.2.1.1
 some (u22,())
def f161_spec:PSpec:={ args:=[(.sl (.int .u8))],res:=[(.arr 64 (.int .u32))],fn:=fun x=>f161 x.1 }
noncomputable def f161_code:Code:=Tryz.f161.body.getD .skip
noncomputable def f161_env:Env0:={ C:=cfgF,P:=[(162,f162_spec)],L:=[(⟨12,0,161,2⟩,f161_l2_spec),(⟨12,0,161,7⟩,f161_l7_spec)],F:=[(161,Tryz.f161)] }
theorem f161_l2_ok:LoopOK f161_env 12 161 0 (loopAt f161_code 2) f161_l2_spec :=
 loopOK_of (by kernel_rfl) f161_l2_n (fun x o h=>⟨_,h⟩) (fun x=>by kernel_rfl) (fun n x=>by kernel_rfl)
theorem f161_l7_ok:LoopOK f161_env 12 161 0 (loopAt f161_code 7) f161_l7_spec :=
 loopOK_of (by kernel_rfl) f161_l7_n (fun x o h=>⟨_,h⟩) (fun x=>by kernel_rfl) (fun n x=>by kernel_rfl)
theorem f161_run (x:tysDen (f161_spec).args):runF f161_env 161 Tryz.f161 f161_code (f161_spec).args (f161_spec).res x = f161_spec.fn x:=by kernel_rfl
theorem f161_enter:Enterable Tryz.prog 161:=enter_fun Tryz.func161 (by kernel_rfl)
theorem f161_envOK:EnvOK Tryz.prog f161_env:=envOK_of cds (by kernel_rfl) cfgF_ok ⟨⟨f162_pure,f162_enter⟩,trivial⟩ trivial ⟨⟨Tryz.func161,by kernel_rfl⟩,trivial⟩ ⟨⟨Tryz.f161,f161_code,rfl,rfl,f161_l2_ok⟩,⟨Tryz.f161,f161_code,rfl,rfl,f161_l7_ok⟩,trivial⟩ trivial trivial
theorem f161_pure:PureOK Tryz.prog cfg 161 f161_spec:=pure_of_run f161_envOK (fn:=Tryz.f161) (c:=f161_code) rfl rfl f161_spec (fun x _ h=>(f161_run x).trans h)
def f116_l3_head:Ann:={ env:=[(0,cP 3),(4,cP 4),(5,cP 5),(18,.ty (.arr 64 (.int .u32))),(19,YI)],stk:=[[(0,cP 3)]],bxs:=[(3,.var [.ty (.arr 8 (.int .u32))]),(4,.var [.ty (.arr 64 (.int .u32))]),(5,.var [.ty (.arr 8 (.int .u32))])] }
def f116_l3_outs:List (Ex × Ann):=[((.exit 0),{ env:=[(0,cP 3),(5,cP 5)],stk:=[[(0,cP 3)]],bxs:=[(3,.var [.ty (.arr 8 (.int .u32))]),(5,.var [.ty (.arr 8 (.int .u32))])] })]
def f116_l3 (t18:(List Int)) (b3g0:(List Int)) (b4g0:(List Int)):Nat→Int→(List Int)→Option (outDen f116_l3_outs)
 | 0,_,_=>none
 | k + 1,t19,b5g0 =>
 bif (decide (t19 < (64:Int))) then
 bif (inR t19 64) then
 bif (inR (0:Int) 8) then
 bif (inR (4:Int) 8) then
 bif (inR (7:Int) 8) then
 (f162 (at_ (.int .u32) b5g0 (4:Int)) ([(6:Int),(11:Int),(25:Int)]:List Int)).bind fun y2 =>
 let v3:Int:=(IntKind.wrap .u32 ((at_ (.int .u32) b5g0 (7:Int)) + y2.1))
 bif (inR (5:Int) 8) then
 let v4:Int:=(andV .u32 (at_ (.int .u32) b5g0 (4:Int)) (at_ (.int .u32) b5g0 (5:Int)))
 let v5:Int:=(xorV .u32 (if IntKind.signed .u32 then -1 else IntKind.max .u32) (at_ (.int .u32) b5g0 (4:Int)))
 bif (inR (6:Int) 8) then
 let v6:Int:=(andV .u32 v5 (at_ (.int .u32) b5g0 (6:Int)))
 let v7:Int:=(IntKind.wrap .u32 (v3 + (xorV .u32 v4 v6)))
 let v8:Int:=(IntKind.wrap .u32 (v7 + (at_ (.int .u32) t18 t19)))
 bif (inR t19 64) then
 let v9:Int:=(IntKind.wrap .u32 (v8 + (at_ (.int .u32) b4g0 t19)))
 (f162 (at_ (.int .u32) b5g0 (0:Int)) ([(2:Int),(13:Int),(22:Int)]:List Int)).bind fun y10 =>
 bif (inR (1:Int) 8) then
 let v11:Int:=(andV .u32 (at_ (.int .u32) b5g0 (0:Int)) (at_ (.int .u32) b5g0 (1:Int)))
 bif (inR (2:Int) 8) then
 let v12:Int:=(andV .u32 (at_ (.int .u32) b5g0 (0:Int)) (at_ (.int .u32) b5g0 (2:Int)))
 bif (inR (1:Int) 8) then
 bif (inR (2:Int) 8) then
 let v13:Int:=(andV .u32 (at_ (.int .u32) b5g0 (1:Int)) (at_ (.int .u32) b5g0 (2:Int)))
 let v14:Int:=(IntKind.wrap .u32 (y10.1 + (xorV .u32 (xorV .u32 v11 v12) v13)))
 bif (cutOk 8 (some (1:Int)) none) then
 bif (cutOk 8 none (some (7:Int))) then
 let v15:Int:=(((((b5g0.drop 0).take (cutLen 8 none (some (7:Int)))).take (cutLen 8 (some (1:Int)) none)).length:Nat):Int)
 bif (inR (4:Int) 8) then
 let v16:Int:=(at_ (.int .u32) (setRange b5g0 (Int.toNat (1:Int)) (((b5g0.drop 0).take (cutLen 8 none (some (7:Int)))).take (cutLen 8 (some (1:Int)) none))) (4:Int))
 bif (inR (0:Int) 8) then bif (inR (4:Int) 8) then f116_l3 t18 b3g0 b4g0 k (IntKind.wrap .i64 (t19 + 1)) (((setRange b5g0 (Int.toNat (1:Int)) (((b5g0.drop 0).take (cutLen 8 none (some (7:Int)))).take (cutLen 8 (some (1:Int)) none))).set (Int.toNat (0:Int)) (IntKind.wrap .u32 (v9 + v14))).set (Int.toNat (4:Int)) (IntKind.wrap .u32 (v16 + v9))) else none else none
 else none
 else none
 else none
 else none
 else none
 else none
 else none
 else none
 else none
 else none
 else none
 else none
 else none
 else none
 else
 some ((),((),()),((b3g0,()),(b5g0,()),()))
def f116_l3_n (n:Nat) (x:f116_l3_head.den):=f116_l3 x.1.1 x.2.2.1.1 x.2.2.2.1.1 n x.1.2.1 x.2.2.2.2.1.1
def f116_l3_spec:LSpec:={ head:=f116_l3_head,outs:=f116_l3_outs,fn:=fun x=>f116_l3_n (((64:Int) - x.1.2.1).toNat + 1) x }
def f116_l12_head:Ann:={ env:=[(0,cP 3),(5,cP 5),(82,YI)],stk:=[[(0,cP 3)]],bxs:=[(3,.var [.ty (.arr 8 (.int .u32))]),(5,.var [.ty (.arr 8 (.int .u32))])] }
def f116_l12_outs:List (Ex × Ann):=[((.exit 2),{ env:=[],stk:=[[(0,cP 3)]],bxs:=[(3,.var [.ty (.arr 8 (.int .u32))])] })]
def f116_l12 (b5g0:(List Int)):Nat→Int→(List Int)→Option (outDen f116_l12_outs)
 | 0,_,_=>none
 | k + 1,t82,b3g0 =>
 bif (decide (t82 < (8:Int))) then
 bif (inR t82 8) then
 bif (inR t82 8) then
 let v20:Int:=(IntKind.wrap .u32 ((at_ (.int .u32) b3g0 t82) + (at_ (.int .u32) b5g0 t82)))
 bif (inR t82 8) then f116_l12 b5g0 k (IntKind.wrap .i64 (t82 + 1)) (b3g0.set (Int.toNat t82) v20) else none
 else none
 else none
 else
 some ((),((),()),((b3g0,()),()))
def f116_l12_n (n:Nat) (x:f116_l12_head.den):=f116_l12 x.2.2.2.1.1 n x.1.1 x.2.2.1.1
def f116_l12_spec:LSpec:={ head:=f116_l12_head,outs:=f116_l12_outs,fn:=fun x=>f116_l12_n (((8:Int) - x.1.1).toNat + 1) x }
abbrev f116_res:List Sh:=[]
abbrev f116_outs:List (Nat × BSh):=[(3,.var [.ty (.arr 8 (.int .u32))])]
def f116 (t1:(List Int)) (b3g0:(List Int)):Option (shDen f116_res × bxsDen f116_outs) :=
 (f161 t1).bind fun y1 =>
 (f116_l3 roundTable b3g0 y1.1 (((64:Int) - (0:Int)).toNat + 1) (0:Int) b3g0).bind fun o17 =>
 let u18:(List Int):=o17.2.2.1.1
 let u19:(List Int):=o17.2.2.2.1.1
 (f116_l12 u19 (((8:Int) - (0:Int)).toNat + 1) (0:Int) u18).bind fun o21 =>
 let u22:(List Int):=o21.2.2.1.1
 some ((),((u22,()),()))
def f116_spec:CSpec:={ args:=[(0,cP 3),(1,.ty (.sl (.int .u8)))],ins:=[(3,.var [.ty (.arr 8 (.int .u32))])],res:=f116_res,outs:=f116_outs,fn:=fun x=>f116 x.1.1 x.2.1.1 }
noncomputable def f116_code:Code:=Tryz.f116.body.getD .skip
noncomputable def f116_env:Env0:={ C:=cfgF,P:=[(161,f161_spec),(162,f162_spec)],L:=[(⟨12,0,116,3⟩,f116_l3_spec),(⟨12,0,116,12⟩,f116_l12_spec)],F:=[(116,Tryz.f116)] }
theorem f116_l3_ok:LoopOK f116_env 12 116 0 (loopAt f116_code 3) f116_l3_spec :=
 loopOK_of (by kernel_rfl) f116_l3_n (fun x o h=>⟨_,h⟩) (fun x=>by kernel_rfl) (fun n x=>by kernel_rfl)
theorem f116_l12_ok:LoopOK f116_env 12 116 0 (loopAt f116_code 12) f116_l12_spec :=
 loopOK_of (by kernel_rfl) f116_l12_n (fun x o h=>⟨_,h⟩) (fun x=>by kernel_rfl) (fun n x=>by kernel_rfl)
theorem f116_run (x:envDen (f116_spec).args × bxsDen (f116_spec).ins):runS f116_env 116 Tryz.f116 f116_code (f116_spec) x = (f116_spec).fn x:=by kernel_rfl
theorem f116_enter:Enterable Tryz.prog 116:=enter_fun Tryz.func116 (by kernel_rfl)
theorem f116_envOK:EnvOK Tryz.prog f116_env:=envOK_of cds (by kernel_rfl) cfgF_ok ⟨⟨f161_pure,f161_enter⟩,⟨f162_pure,f162_enter⟩,trivial⟩ trivial ⟨⟨Tryz.func116,by kernel_rfl⟩,trivial⟩ ⟨⟨Tryz.f116,f116_code,rfl,rfl,f116_l3_ok⟩,⟨Tryz.f116,f116_code,rfl,rfl,f116_l12_ok⟩,trivial⟩ trivial trivial
theorem f116_call:CallOK Tryz.prog cfg 116 f116_spec:=call_of_run f116_envOK (fn:=Tryz.f116) (c:=f116_code) rfl rfl f116_spec (by kernel_rfl) (fun x _ h=>(f116_run x).trans h)
def f117_l6_head:Ann:={ env:=[(3,cP 3),(4,YI),(5,.ty (.int .u32)),(7,.ty (.arr 8 (.int .u32))),(8,YI),(12,YI)],bxs:=[(3,.var [.ty (.arr 32 (.int .u8))])] }
def f117_l6_outs:List (Ex × Ann):=[((.exit 2),{ env:=[(3,cP 3),(7,.ty (.arr 8 (.int .u32))),(8,YI)],bxs:=[(3,.var [.ty (.arr 32 (.int .u8))])] })]
def f117_l6 (t4:Int) (t5:Int) (t7:(List Int)) (t8:Int):Nat→Int→(List Int)→Option (outDen f117_l6_outs)
 | 0,_,_=>none
 | k + 1,t12,b3g0 =>
 bif (decide (t12 < (4:Int))) then
 let v1:Int:=(IntKind.wrap .i64 ((IntKind.wrap .i64 ((4:Int) * t4)) + t12))
 let v2:Int:=(IntKind.wrap .i64 ((24:Int) - (IntKind.wrap .i64 ((8:Int) * t12))))
 bif (decide (0≤v2)) then bif (inR v1 32) then f117_l6 t4 t5 t7 t8 k (IntKind.wrap .i64 (t12 + 1)) (b3g0.set (Int.toNat v1) (IntKind.wrap .u8 (shrV .u32 t5 v2))) else none else none
 else
 some ((t7,t8,()),(),((b3g0,()),()))
def f117_l6_n (n:Nat) (x:f117_l6_head.den):=f117_l6 x.1.1 x.1.2.1 x.1.2.2.1 x.1.2.2.2.1 n x.1.2.2.2.2.1 x.2.2.1.1
def f117_l6_spec:LSpec:={ head:=f117_l6_head,outs:=f117_l6_outs,fn:=fun x=>f117_l6_n (((4:Int) - x.1.2.2.2.2.1).toNat + 1) x }
def f117_l3_head:Ann:={ env:=[(3,cP 3),(7,.ty (.arr 8 (.int .u32))),(8,YI)],bxs:=[(3,.var [.ty (.arr 32 (.int .u8))])] }
def f117_l3_outs:List (Ex × Ann):=[((.exit 0),{ env:=[(3,cP 3)],bxs:=[(3,.var [.ty (.arr 32 (.int .u8))])] })]
def f117_l3:Nat→(List Int)→Int→(List Int)→Option (outDen f117_l3_outs)
 | 0,_,_,_=>none
 | k + 1,t7,t8,b3g0 =>
 bif (decide (t8 < (8:Int))) then
 bif (inR t8 8) then
 (f117_l6 t8 (at_ (.int .u32) t7 t8) t7 t8 (((4:Int) - (0:Int)).toNat + 1) (0:Int) b3g0).bind fun o3 =>
 let u4:(List Int):=o3.1.1
 let u5:Int:=o3.1.2.1
 let u6:(List Int):=o3.2.2.1.1
 f117_l3 k u4 (IntKind.wrap .i64 (u5 + 1)) u6
 else none
 else
 some ((),(),((b3g0,()),()))
def f117_l3_n (n:Nat) (x:f117_l3_head.den):=f117_l3 n x.1.1 x.1.2.1 x.2.2.1.1
def f117_l3_spec:LSpec:={ head:=f117_l3_head,outs:=f117_l3_outs,fn:=fun x=>f117_l3_n (((8:Int) - x.1.2.1).toNat + 1) x }
def f117 (a0:(List Int)):Option (ByteArray × Unit) :=
 (f117_l3 (((8:Int) - (0:Int)).toNat + 1) a0 (0:Int) (List.replicate 32 (0:Int))).bind fun o7 =>
 let u8:(List Int):=o7.2.2.1.1
 let v9:ByteArray:=(ofBytes ((u8.drop 0).take (cutLen 32 none none)))
 some (v9,())
def f117_spec:PSpec:={ args:=[(.arr 8 (.int .u32))],res:=[.str],fn:=fun x=>f117 x.1 }
noncomputable def f117_code:Code:=Tryz.f117.body.getD .skip
noncomputable def f117_env:Env0:={ C:=cfgF,P:=[],L:=[(⟨12,0,117,6⟩,f117_l6_spec),(⟨12,0,117,3⟩,f117_l3_spec)],F:=[(117,Tryz.f117)] }
theorem f117_l6_ok:LoopOK f117_env 12 117 0 (loopAt f117_code 6) f117_l6_spec :=
 loopOK_of (by kernel_rfl) f117_l6_n (fun x o h=>⟨_,h⟩) (fun x=>by kernel_rfl) (fun n x=>by kernel_rfl)
theorem f117_l3_ok:LoopOK f117_env 12 117 0 (loopAt f117_code 3) f117_l3_spec :=
 loopOK_of (by kernel_rfl) f117_l3_n (fun x o h=>⟨_,h⟩) (fun x=>by kernel_rfl) (fun n x=>by kernel_rfl)
theorem f117_run (x:tysDen (f117_spec).args):runF f117_env 117 Tryz.f117 f117_code (f117_spec).args (f117_spec).res x = f117_spec.fn x:=by kernel_rfl
theorem f117_enter:Enterable Tryz.prog 117:=enter_fun Tryz.func117 (by kernel_rfl)
theorem f117_envOK:EnvOK Tryz.prog f117_env:=envOK_of cds (by kernel_rfl) cfgF_ok trivial trivial ⟨⟨Tryz.func117,by kernel_rfl⟩,trivial⟩ ⟨⟨Tryz.f117,f117_code,rfl,rfl,f117_l6_ok⟩,⟨Tryz.f117,f117_code,rfl,rfl,f117_l3_ok⟩,trivial⟩ trivial trivial
theorem f117_pure:PureOK Tryz.prog cfg 117 f117_spec:=pure_of_run f117_envOK (fn:=Tryz.f117) (c:=f117_code) rfl rfl f117_spec (fun x _ h=>(f117_run x).trans h)
def f97_l3_head:Ann:={ env:=[(0,.ty .str),(3,cP 3),(4,.cst (.row 9 .whole))],bxs:=[(3,.var [.ty (.arr 8 (.int .u32))]),(9,.row (.int .u8) false)] }
def f97_l3_outs:List (Ex × Ann):=[((.exit 0),{ env:=[(0,.ty .str),(3,cP 3),(4,.cst (.row 9 .whole))],bxs:=[(3,.var [.ty (.arr 8 (.int .u32))]),(9,.row (.int .u8) false)] })]
def f97_l3 (t0:ByteArray) (b3g0:(List Int)):Nat→(List Int)→Option (outDen f97_l3_outs)
 | 0,_=>none
 | k + 1,r9 =>
 let v1:Bool:=(decide ((Int.tmod (r9.length:Int) (64:Int)) ≠ (56:Int)))
 bif v1 then
 bif (decide (r9.length + ([(0:Int)]:List Int).length≤appLim)) then f97_l3 t0 b3g0 k (r9++([(0:Int)]:List Int)) else none
 else
 some ((t0,()),(),((b3g0,()),r9,()))
def f97_l3_n (n:Nat) (x:f97_l3_head.den):=f97_l3 x.1.1 x.2.2.1.1 n x.2.2.2.1
def f97_l3_spec:LSpec:={ head:=f97_l3_head,outs:=f97_l3_outs,fn:=fun x=>f97_l3_n ((64:Nat)) x }
def f97_l6_head:Ann:={ env:=[(0,.ty .str),(3,cP 3),(4,.cst (.row 9 .whole)),(5,YI)],bxs:=[(3,.var [.ty (.arr 8 (.int .u32))]),(9,.row (.int .u8) false)] }
def f97_l6_outs:List (Ex × Ann):=[((.exit 2),{ env:=[(3,cP 3),(4,.cst (.row 9 .whole))],bxs:=[(3,.var [.ty (.arr 8 (.int .u32))]),(9,.row (.int .u8) false)] })]
def f97_l6 (t0:ByteArray) (b3g0:(List Int)):Nat→Int→(List Int)→Option (outDen f97_l6_outs)
 | 0,_,_=>none
 | k + 1,t5,r9 =>
 bif (decide (t5 ≥ (0:Int))) then
 let v6:Int:=(IntKind.wrap .i64 ((8:Int) * (t0.size:Int)))
 bif (decide (0≤(IntKind.wrap .i64 ((8:Int) * t5)))) then
 let v7:Int:=(shrV .i64 v6 (IntKind.wrap .i64 ((8:Int) * t5)))
 bif (decide (r9.length + ([(IntKind.wrap .u8 v7)]:List Int).length≤appLim)) then f97_l6 t0 b3g0 k (IntKind.wrap .i64 (t5 - (1:Int))) (r9++([(IntKind.wrap .u8 v7)]:List Int)) else none
 else none
 else
 some ((),(),((b3g0,()),r9,()))
def f97_l6_n (n:Nat) (x:f97_l6_head.den):=f97_l6 x.1.1 x.2.2.1.1 n x.1.2.1 x.2.2.2.1
def f97_l6_spec:LSpec:={ head:=f97_l6_head,outs:=f97_l6_outs,fn:=fun x=>f97_l6_n ((x.1.2.1 + 1).toNat + 1) x }
def f160_l1x_head:Ann:={ env:=[(0,.cst (.yld 910)),(1,cP 34002),(2,cP 34003),(4,YI)],stk:=[[(0,.cst (.yld 910))],[(3,cP 3)]],bxs:=[(910,.loop false 97 10 [(3,cP 3)]),(34002,.var [.ty (.sl (.int .u8))]),(34003,.var [YI]),(3,.var [.ty (.arr 8 (.int .u32))])] }
def f160_l1x_outs:List (Ex × Ann):=[((.exit 0),{ env:=[],stk:=[[(0,.cst (.yld 910))],[(3,cP 3)]],bxs:=[(910,.loop false 97 10 [(3,cP 3)]),(3,.var [.ty (.arr 8 (.int .u32))])] })]
def f160_l1x (b34002g0:(List Int)) (b34003g0:Int):Nat→Int→(List Int)→Option (outDen f160_l1x_outs)
 | 0,_,_=>none
 | k + 1,t4,b3g0 =>
 bif (decide (t4 < (b34002g0.length:Int))) then
 bif (cutOk b34002g0.length (some t4) none) then
 let v11:Int:=((b34002g0.drop (Int.toNat t4)).length:Int)
 let v12:Int:=(if v11 < b34003g0 then v11 else b34003g0)
 bif ((cutOk b34002g0.length (some t4) (some (IntKind.wrap .i64 (t4 + v12)))) && decide ((IntKind.wrap .i64 (t4 + v12)) = (IntKind.wrap .i64 (t4 + v12)))) then
 (f116 ((b34002g0.take (Int.toNat (IntKind.wrap .i64 (t4 + v12)))).drop (Int.toNat t4)) b3g0).bind fun y13 =>
 let u14:(List Int):=y13.2.1.1
 f160_l1x b34002g0 b34003g0 k (IntKind.wrap .i64 (t4 + b34003g0)) u14
 else none
 else none
 else
 some ((),((),(),()),((),(b3g0,()),()))
def f160_l1x_n (n:Nat) (x:f160_l1x_head.den):=f160_l1x x.2.2.2.1.1 x.2.2.2.2.1.1 n x.1.1 x.2.2.2.2.2.1.1
def f160_l1x_spec:LSpec:={ head:=f160_l1x_head,outs:=f160_l1x_outs,fn:=fun x=>f160_l1x_n (((x.2.2.2.1.1.length:Int) - x.1.1).toNat + 1) x }
def f97 (a0:ByteArray):Option (ByteArray × Unit) :=
 bif (decide ((toBytes a0).length + ([(128:Int)]:List Int).length≤appLim)) then
 (f97_l3 a0 ([(1779033703:Int),(3144134277:Int),(1013904242:Int),(2773480762:Int),(1359893119:Int),(2600822924:Int),(528734635:Int),(1541459225:Int)]:List Int) ((64:Nat)) ((toBytes a0)++([(128:Int)]:List Int))).bind fun o2 =>
 let u3:ByteArray:=o2.1.1
 let u4:(List Int):=o2.2.2.1.1
 let u5:(List Int):=o2.2.2.2.1
 (f97_l6 u3 u4 (((7:Int) + 1).toNat + 1) (7:Int) u5).bind fun o8 =>
 let u9:(List Int):=o8.2.2.1.1
 let u10:(List Int):=o8.2.2.2.1
 (f160_l1x u10 (64:Int) (((u10.length:Int) - (0:Int)).toNat + 1) (0:Int) u9).bind fun o15 =>
 let u16:(List Int):=o15.2.2.2.1.1
 (f117 u16).bind fun y17 =>
 some (y17.1,())
 else none
def f97_spec:PSpec:={ args:=[.str],res:=[.str],fn:=fun x=>f97 x.1 }
noncomputable def f97_code:Code:=Tryz.f97.body.getD .skip
noncomputable def f97_code_160:Code:=Tryz.f160.body.getD .skip
noncomputable def f97_env:Env0:={ C:=cfgF,P:=[(117,f117_spec)],L:=[(⟨12,0,97,3⟩,f97_l3_spec),(⟨12,0,97,6⟩,f97_l6_spec),(⟨11,910000,160,1⟩,f160_l1x_spec)],F:=[(97,Tryz.f97),(115,Tryz.f115),(160,Tryz.f160)],S:=[(116,f116_spec)] }
theorem f97_l3_ok:LoopOK f97_env 12 97 0 (loopAt f97_code 3) f97_l3_spec :=
 loopOK_of (by kernel_rfl) f97_l3_n (fun x o h=>⟨_,h⟩) (fun x=>by kernel_rfl) (fun n x=>by kernel_rfl)
theorem f97_l6_ok:LoopOK f97_env 12 97 0 (loopAt f97_code 6) f97_l6_spec :=
 loopOK_of (by kernel_rfl) f97_l6_n (fun x o h=>⟨_,h⟩) (fun x=>by kernel_rfl) (fun n x=>by kernel_rfl)
theorem f160_l1x_ok:LoopOK f97_env 11 160 910000 (loopAt f97_code_160 1) f160_l1x_spec :=
 loopOK_of (by kernel_rfl) f160_l1x_n (fun x o h=>⟨_,h⟩) (fun x=>by kernel_rfl) (fun n x=>by kernel_rfl)
theorem f97_run (x:tysDen (f97_spec).args):runF f97_env 97 Tryz.f97 f97_code (f97_spec).args (f97_spec).res x = f97_spec.fn x:=by kernel_rfl
theorem f97_enter:Enterable Tryz.prog 97:=enter_fun Tryz.func97 (by kernel_rfl)
theorem f97_envOK:EnvOK Tryz.prog f97_env:=envOK_of cds (by kernel_rfl) cfgF_ok ⟨⟨f117_pure,f117_enter⟩,trivial⟩ ⟨⟨f116_call,by kernel_rfl,f116_enter⟩,trivial⟩ ⟨⟨Tryz.func97,by kernel_rfl⟩,⟨Tryz.func115,by kernel_rfl⟩,⟨Tryz.func160,by kernel_rfl⟩,trivial⟩ ⟨⟨Tryz.f97,f97_code,rfl,rfl,f97_l3_ok⟩,⟨Tryz.f97,f97_code,rfl,rfl,f97_l6_ok⟩,⟨Tryz.f160,f97_code_160,rfl,rfl,f160_l1x_ok⟩,trivial⟩ trivial trivial
theorem f97_pure:PureOK Tryz.prog cfg 97 f97_spec:=pure_of_run f97_envOK (fn:=Tryz.f97) (c:=f97_code) rfl rfl f97_spec (fun x _ h=>(f97_run x).trans h)
def f109 (a0:Int) (a1:ByteArray):Option (ByteArray × Unit) :=
 bif (decide (a1 = (⟨#[]⟩:ByteArray))) then
 (f108 ).bind fun y1 =>
 some (y1.1,())
 else
 (f87 a0).bind fun y2 =>
 bif (catOk (⟨#[8]⟩:ByteArray) y2.1) then
 bif (catOk ((⟨#[8]⟩:ByteArray)++y2.1) a1) then
 (f97 (((⟨#[8]⟩:ByteArray)++y2.1)++a1)).bind fun y3 =>
 some (y3.1,())
 else none
 else none
def f109_spec:PSpec:={ args:=[yI,.str],res:=[.str],fn:=fun x=>f109 x.1 x.2.1 }
noncomputable def f109_code:Code:=Tryz.f109.body.getD .skip
noncomputable def f109_env:Env0:={ C:=cfgF,P:=[(87,f87_spec),(97,f97_spec),(108,f108_spec)],L:=[],F:=[(109,Tryz.f109)] }
theorem f109_run (x:tysDen (f109_spec).args):runF f109_env 109 Tryz.f109 f109_code (f109_spec).args (f109_spec).res x = f109_spec.fn x:=by kernel_rfl
theorem f109_enter:Enterable Tryz.prog 109:=enter_fun Tryz.func109 (by kernel_rfl)
theorem f109_envOK:EnvOK Tryz.prog f109_env:=envOK_of cds (by kernel_rfl) cfgF_ok ⟨⟨f87_pure,f87_enter⟩,⟨f97_pure,f97_enter⟩,⟨f108_pure,f108_enter⟩,trivial⟩ trivial ⟨⟨Tryz.func109,by kernel_rfl⟩,trivial⟩ trivial trivial trivial
theorem f109_pure:PureOK Tryz.prog cfg 109 f109_spec:=pure_of_run f109_envOK (fn:=Tryz.f109) (c:=f109_code) rfl rfl f109_spec (fun x _ h=>(f109_run x).trans h)
def f110 (a0:ByteArray) (a1:ByteArray):Option (ByteArray × Unit) :=
 (f108 ).bind fun y1 =>
 bif (decide (a0 = y1.1)) then
 (f108 ).bind fun y2 =>
 bif (decide (a1 = y2.1)) then
 (f108 ).bind fun y3 =>
 some (y3.1,())
 else
 bif (catOk (⟨#[9]⟩:ByteArray) a0) then
 bif (catOk ((⟨#[9]⟩:ByteArray)++a0) a1) then
 (f97 (((⟨#[9]⟩:ByteArray)++a0)++a1)).bind fun y4 =>
 some (y4.1,())
 else none
 else none
 else
 bif (catOk (⟨#[9]⟩:ByteArray) a0) then
 bif (catOk ((⟨#[9]⟩:ByteArray)++a0) a1) then
 (f97 (((⟨#[9]⟩:ByteArray)++a0)++a1)).bind fun y5 =>
 some (y5.1,())
 else none
 else none
def f110_spec:PSpec:={ args:=[.str,.str],res:=[.str],fn:=fun x=>f110 x.1 x.2.1 }
noncomputable def f110_code:Code:=Tryz.f110.body.getD .skip
noncomputable def f110_env:Env0:={ C:=cfgF,P:=[(97,f97_spec),(108,f108_spec)],L:=[],F:=[(110,Tryz.f110)] }
theorem f110_run (x:tysDen (f110_spec).args):runF f110_env 110 Tryz.f110 f110_code (f110_spec).args (f110_spec).res x = f110_spec.fn x:=by kernel_rfl
theorem f110_enter:Enterable Tryz.prog 110:=enter_fun Tryz.func110 (by kernel_rfl)
theorem f110_envOK:EnvOK Tryz.prog f110_env:=envOK_of cds (by kernel_rfl) cfgF_ok ⟨⟨f97_pure,f97_enter⟩,⟨f108_pure,f108_enter⟩,trivial⟩ trivial ⟨⟨Tryz.func110,by kernel_rfl⟩,trivial⟩ trivial trivial trivial
theorem f110_pure:PureOK Tryz.prog cfg 110 f110_spec:=pure_of_run f110_envOK (fn:=Tryz.f110) (c:=f110_code) rfl rfl f110_spec (fun x _ h=>(f110_run x).trans h)
def f92_l3_b8000_head:Ann:={ env:=[(0,.ty (.sl yE)),(3,cP 8009),(10,YI)],stk:=[[(2,.ty .str),(3,YI)]],bxs:=[(8009,.var [.ty (.arr 128 .str)])] }
def f92_l3_b8000_outs:List (Ex × Ann):=[((.exit 0),{ env:=[(0,.ty (.sl yE)),(3,cP 8009)],stk:=[[(2,.ty .str),(3,YI)]],bxs:=[(8009,.var [.ty (.arr 128 .str)])] })]
def f92_l3_b8000 (t0:(List Ye)) (k0t2:ByteArray) (k0t3:Int):Nat→Int→(List ByteArray)→Option (outDen f92_l3_b8000_outs)
 | 0,_,_=>none
 | k + 1,t10,b8009g0 =>
 bif (decide (t10 < (64:Int))) then
 (f108 ).bind fun y2 =>
 bif (inR (IntKind.wrap .i64 ((64:Int) + t10)) 128) then f92_l3_b8000 t0 k0t2 k0t3 k (IntKind.wrap .i64 (t10 + 1)) (b8009g0.set (Int.toNat (IntKind.wrap .i64 ((64:Int) + t10))) y2.1) else none
 else
 some ((t0,()),((k0t2,k0t3,()),()),((b8009g0,()),()))
def f92_l3_b8000_n (n:Nat) (x:f92_l3_b8000_head.den):=f92_l3_b8000 x.1.1 x.2.1.1.1 x.2.1.1.2.1 n x.1.2.1 x.2.2.1.1
def f92_l3_b8000_spec:LSpec:={ head:=f92_l3_b8000_head,outs:=f92_l3_b8000_outs,fn:=fun x=>f92_l3_b8000_n (((64:Int) - x.1.2.1).toNat + 1) x }
def f92_l8_b8000_head:Ann:={ env:=[(3,cP 8009),(20,.ty (.sl yE)),(21,YI),(22,YI)],stk:=[[(2,.ty .str),(3,YI)]],bxs:=[(8009,.var [.ty (.arr 128 .str)])] }
def f92_l8_b8000_outs:List (Ex × Ann):=[((.exit 2),{ env:=[(3,cP 8009)],stk:=[[(2,.ty .str),(3,YI)]],bxs:=[(8009,.var [.ty (.arr 128 .str)])] })]
def f92_l8_b8000 (t20:(List Ye)) (t21:Int) (k0t2:ByteArray) (k0t3:Int):Nat→Int→(List ByteArray)→Option (outDen f92_l8_b8000_outs)
 | 0,_,_=>none
 | k + 1,t22,b8009g0 =>
 bif (decide (t22 < t21)) then
 bif (inR t22 t20.length) then
 let v8:Int:=(at_ yE t20 t22).1
 let v9:Int:=(at_ yE t20 t22).1
 let v10:ByteArray:=(at_ yE t20 t22).2.1
 (f109 v9 v10).bind fun y11 =>
 bif (inR (IntKind.wrap .i64 ((64:Int) + v8)) 128) then f92_l8_b8000 t20 t21 k0t2 k0t3 k (IntKind.wrap .i64 (t22 + 1)) (b8009g0.set (Int.toNat (IntKind.wrap .i64 ((64:Int) + v8))) y11.1) else none
 else none
 else
 some ((),((k0t2,k0t3,()),()),((b8009g0,()),()))
def f92_l8_b8000_n (n:Nat) (x:f92_l8_b8000_head.den):=f92_l8_b8000 x.1.1 x.1.2.1 x.2.1.1.1 x.2.1.1.2.1 n x.1.2.2.1 x.2.2.1.1
def f92_l8_b8000_spec:LSpec:={ head:=f92_l8_b8000_head,outs:=f92_l8_b8000_outs,fn:=fun x=>f92_l8_b8000_n ((x.1.2.1 - x.1.2.2.1).toNat + 1) x }
def f92_l13_b8000_head:Ann:={ env:=[(3,cP 8009),(7,YI)],stk:=[[(2,.ty .str),(3,YI)]],bxs:=[(8009,.var [.ty (.arr 128 .str)])] }
def f92_l13_b8000_outs:List (Ex × Ann):=[((.exit 4),{ env:=[(3,cP 8009)],stk:=[[(2,.ty .str),(3,YI)]],bxs:=[(8009,.var [.ty (.arr 128 .str)])] })]
def f92_l13_b8000 (k0t2:ByteArray) (k0t3:Int):Nat→Int→(List ByteArray)→Option (outDen f92_l13_b8000_outs)
 | 0,_,_=>none
 | k + 1,t7,b8009g0 =>
 bif (decide (t7 > (0:Int))) then
 bif (inR (IntKind.wrap .i64 ((2:Int) * t7)) 128) then
 let v16:ByteArray:=(at_ .str b8009g0 (IntKind.wrap .i64 ((2:Int) * t7)))
 let v17:Int:=(IntKind.wrap .i64 ((IntKind.wrap .i64 ((2:Int) * t7)) + 1))
 bif (inR v17 128) then
 (f110 v16 (at_ .str b8009g0 v17)).bind fun y18 =>
 bif (inR t7 128) then f92_l13_b8000 k0t2 k0t3 k (IntKind.wrap .i64 (t7 - (1:Int))) (b8009g0.set (Int.toNat t7) y18.1) else none
 else none
 else none
 else
 some ((),((k0t2,k0t3,()),()),((b8009g0,()),()))
def f92_l13_b8000_n (n:Nat) (x:f92_l13_b8000_head.den):=f92_l13_b8000 x.2.1.1.1 x.2.1.1.2.1 n x.1.1 x.2.2.1.1
def f92_l13_b8000_spec:LSpec:={ head:=f92_l13_b8000_head,outs:=f92_l13_b8000_outs,fn:=fun x=>f92_l13_b8000_n (x.1.1.toNat + 1) x }
def f74 (a0:(List Ye)):Option (ByteArray × Int × Unit) :=
 (f91 a0).bind fun y1 =>
 bif (!y1.1) then
 some ((⟨#[]⟩:ByteArray),(40:Int),())
 else
 (f92_l3_b8000 a0 (⟨#[]⟩:ByteArray) (0:Int) (((64:Int) - (0:Int)).toNat + 1) (0:Int) (List.replicate 128 (⟨#[]⟩:ByteArray))).bind fun o3 =>
 let u4:(List Ye):=o3.1.1
 let u5:ByteArray:=o3.2.1.1.1
 let u6:Int:=o3.2.1.1.2.1
 let u7:(List ByteArray):=o3.2.2.1.1
 (f92_l8_b8000 u4 (u4.length:Int) u5 u6 (((u4.length:Int) - (0:Int)).toNat + 1) (0:Int) u7).bind fun o12 =>
 let u13:ByteArray:=o12.2.1.1.1
 let u14:Int:=o12.2.1.1.2.1
 let u15:(List ByteArray):=o12.2.2.1.1
 (f92_l13_b8000 u13 u14 ((63:Int).toNat + 1) (63:Int) u15).bind fun o19 =>
 let u22:(List ByteArray):=o19.2.2.1.1
 bif (inR (1:Int) 128) then some ((at_ .str u22 (1:Int)),(0:Int),()) else none
def f74_spec:PSpec:={ args:=[(.sl yE)],res:=[.str,yI],fn:=fun x=>f74 x.1 }
noncomputable def f74_code:Code:=Tryz.f74.body.getD .skip
noncomputable def f74_code_92:Code:=Tryz.f92.body.getD .skip
noncomputable def f74_env:Env0:={ C:=cfgF,P:=[(91,f91_spec),(108,f108_spec),(109,f109_spec),(110,f110_spec)],L:=[(⟨11,8000,92,3⟩,f92_l3_b8000_spec),(⟨11,8000,92,8⟩,f92_l8_b8000_spec),(⟨11,8000,92,13⟩,f92_l13_b8000_spec)],F:=[(74,Tryz.f74),(92,Tryz.f92)] }
theorem f92_l3_b8000_ok:LoopOK f74_env 11 92 8000 (loopAt f74_code_92 3) f92_l3_b8000_spec :=
 loopOK_of (by kernel_rfl) f92_l3_b8000_n (fun x o h=>⟨_,h⟩) (fun x=>by kernel_rfl) (fun n x=>by kernel_rfl)
theorem f92_l8_b8000_ok:LoopOK f74_env 11 92 8000 (loopAt f74_code_92 8) f92_l8_b8000_spec :=
 loopOK_of (by kernel_rfl) f92_l8_b8000_n (fun x o h=>⟨_,h⟩) (fun x=>by kernel_rfl) (fun n x=>by kernel_rfl)
theorem f92_l13_b8000_ok:LoopOK f74_env 11 92 8000 (loopAt f74_code_92 13) f92_l13_b8000_spec :=
 loopOK_of (by kernel_rfl) f92_l13_b8000_n (fun x o h=>⟨_,h⟩) (fun x=>by kernel_rfl) (fun n x=>by kernel_rfl)
theorem f74_run (x:tysDen (f74_spec).args):runF f74_env 74 Tryz.f74 f74_code (f74_spec).args (f74_spec).res x = f74_spec.fn x:=by kernel_rfl
theorem f74_enter:Enterable Tryz.prog 74:=enter_fun Tryz.func74 (by kernel_rfl)
theorem f74_envOK:EnvOK Tryz.prog f74_env:=envOK_of cds (by kernel_rfl) cfgF_ok ⟨⟨f91_pure,f91_enter⟩,⟨f108_pure,f108_enter⟩,⟨f109_pure,f109_enter⟩,⟨f110_pure,f110_enter⟩,trivial⟩ trivial ⟨⟨Tryz.func74,by kernel_rfl⟩,⟨Tryz.func92,by kernel_rfl⟩,trivial⟩ ⟨⟨Tryz.f92,f74_code_92,rfl,rfl,f92_l3_b8000_ok⟩,⟨Tryz.f92,f74_code_92,rfl,rfl,f92_l8_b8000_ok⟩,⟨Tryz.f92,f74_code_92,rfl,rfl,f92_l13_b8000_ok⟩,trivial⟩ trivial trivial
theorem f74_pure:PureOK Tryz.prog cfg 74 f74_spec:=pure_of_run f74_envOK (fn:=Tryz.f74) (c:=f74_code) rfl rfl f74_spec (fun x _ h=>(f74_run x).trans h)
end Go.V.G
namespace Go.Proofs
open Go.Shelf
def Tryz.lays166_ren : Ren :=
  { f := fun x => match x with
      | 166 => 88
      | 240 => 102
      | 276 => 120
      | 169 => 89
      | n => n,
    t := fun x => match x with
      | 70 => 134
      | 72 => 136
      | 37 => 124
      | 75 => 139
      | 80 => 77
      | 164 => 192
      | 127 => 168
      | n => n,
    g := fun n => n }
theorem Tryz.lays166 : Lays.n166 Tryz.prog Tryz.lays166_ren :=
  { mixed := by kernel_rfl, f166 := Tryz.func88.trans (congrArg some (by kernel_rfl)), f240 := Tryz.func102.trans (congrArg some (by kernel_rfl)), f276 := Tryz.func120.trans (congrArg some (by kernel_rfl)),
    t0 := Tryz.underlying0, a0 := Tryz.isAgg0, z0 := Tryz.sizeOf0, v0 := Tryz.zeroValue0, t3 := Tryz.underlying3, a3 := Tryz.isAgg3, z3 := Tryz.sizeOf3, v3 := Tryz.zeroValue3,
    t4 := Tryz.underlying4, a4 := Tryz.isAgg4, z4 := Tryz.sizeOf4, v4 := Tryz.zeroValue4, t9 := Tryz.underlying9, a9 := Tryz.isAgg9, z9 := Tryz.sizeOf9, v9 := Tryz.zeroValue9,
    t20 := Tryz.underlying20, a20 := Tryz.isAgg20, z20 := Tryz.sizeOf20, v20 := Tryz.zeroValue20, t37 := Tryz.underlying124, a37 := Tryz.isAgg124, z37 := Tryz.sizeOf124, v37 := Tryz.zeroValue124,
    t70 := Tryz.underlying134, a70 := Tryz.isAgg134, z70 := Tryz.sizeOf134, v70 := Tryz.zeroValue134, t72 := Tryz.underlying136, a72 := Tryz.isAgg136, z72 := Tryz.sizeOf136, v72 := Tryz.zeroValue136,
    t75 := Tryz.underlying139, a75 := Tryz.isAgg139, z75 := Tryz.sizeOf139, v75 := Tryz.zeroValue139, t164 := Tryz.underlying192, a164 := Tryz.isAgg192, z164 := Tryz.sizeOf192, v164 := Tryz.zeroValue192 }
theorem Tryz.lays169 : Lays.n169 Tryz.prog Tryz.lays166_ren :=
  { mixed := by kernel_rfl, f169 := Tryz.func89.trans (congrArg some (by kernel_rfl)),
    t0 := Tryz.underlying0, a0 := Tryz.isAgg0, z0 := Tryz.sizeOf0, v0 := Tryz.zeroValue0, t3 := Tryz.underlying3, a3 := Tryz.isAgg3, z3 := Tryz.sizeOf3, v3 := Tryz.zeroValue3,
    t9 := Tryz.underlying9, a9 := Tryz.isAgg9, z9 := Tryz.sizeOf9, v9 := Tryz.zeroValue9, t37 := Tryz.underlying124, a37 := Tryz.isAgg124, z37 := Tryz.sizeOf124, v37 := Tryz.zeroValue124,
    t70 := Tryz.underlying134, a70 := Tryz.isAgg134, z70 := Tryz.sizeOf134, v70 := Tryz.zeroValue134, t72 := Tryz.underlying136, a72 := Tryz.isAgg136, z72 := Tryz.sizeOf136, v72 := Tryz.zeroValue136,
    t127 := Tryz.underlying168, a127 := Tryz.isAgg168, z127 := Tryz.sizeOf168, v127 := Tryz.zeroValue168 }
theorem Tryz.builderExtra:Builder.Extra Tryz.prog Tryz.lays166_ren where
 sizeBuilder:=by kernel_rfl
 liesBuilder:=by kernel_rfl
 t5:=Tryz.underlying5
 a5:=Tryz.isAgg5
 z5:=Tryz.sizeOf5
 v5:=Tryz.zeroValue5
 infoByte:=by kernel_rfl
 cellsByte:=by kernel_rfl
 sizeByte:=by kernel_rfl
 neB5:=by decide
theorem Tryz.Builder_WriteString (B b:Nat) (bs:List Value) (s:ByteArray) (w:World) (h:Lib.IsBuilderF 136 5 B b bs w) (hlen:bs.length + s.size≤140737488355328) (hBw:B≤w.heap.size) :
  Calls Tryz.prog 88 #[.pointer (some ⟨b,0,none⟩),.string s] w fun e w'=>e = .returned (.tuple #[.int .i64 s.size,.nilIface])∧(Lib.BuilderAtF 136 5 B b (.pointer (some ⟨b,0,none⟩)) (bs++Lib.strCells s) w'∧RowKit.Below B w w'∧Lib.OthersKept 5 (some b) w w') :=
 Any.Builder_WriteString_k Tryz.lays166 Tryz.builderExtra B b bs s w h hlen hBw
theorem Tryz.Builder_String (B b:Nat) (l:List UInt8) (w:World) (h:Lib.IsBuilderF 136 5 B b (Lib.byteCells l) w) (hBw:B≤w.heap.size) :
  Calls Tryz.prog 89 #[.pointer (some ⟨b,0,none⟩)] w fun e w'=>e = .returned (.string ⟨l.toArray⟩)∧(Lib.IsBuilderF 136 5 B b (Lib.byteCells l) w'∧RowKit.Below B w w'∧Lib.OthersKept 5 (some b) w w') :=
 Any.Builder_String_any_k Tryz.lays169 Tryz.builderExtra B b l w h hBw
end Go.Proofs
namespace Go.V.G
def intsGo:List Int→Option ByteArray
 | []=>some ⟨#[]⟩
 | n :: l=>(f87 n).bind fun y=>bif decide (y.1.size≤100) then (intsGo l).bind fun r=>some (y.1++r) else none
end Go.V.G
namespace Go.Proofs
open Go.RowKit Go.V Go.V.G
theorem putInt_calls {fz:Nat→Nat→Option Value} (hG:GlobOK cfg fz) {w:World} (hf:FzOK (.of fz) w) {n:Int} {y} (hy:f87 n = some y) :
  Calls Tryz.prog 87 #[.int .i64 n] w fun e w'=>e = .returned (.tuple #[.string y.1,.int .i64 y.2.1])∧Below w.heap.size w w':=by
 refine Calls.mono (f87_pure fz w #[.int .i64 n] (n,()) y hG hf ⟨⟨#[.int .i64 n],rfl,rfl⟩,rfl⟩ hy) ?_
 rintro e w' ⟨cs,fz',rfl,h1,h2,h3⟩
 refine ⟨?_,⟨h3.os,h3.tape,h3.output,h3.size,fun b hb=>h3.block b hb (V.not_owned _ _)⟩⟩
 match cs,h1 with
 | [c1,c2],⟨⟨a1,e1,e2⟩,⟨a2,e3,e4⟩,_⟩ =>
  have ha1:a1.toList = [.string y.1]:=e1
  have ha2:a2.toList = [.int .i64 y.2.1]:=e3
  have hc1:c1 = .string y.1:=by
   rw [e2]
   show a1.getD 0 undef = _
   rw [Array.getD_eq_getD_getElem?,← Array.getElem?_toList,ha1]
   rfl
  have hc2:c2 = .int .i64 y.2.1:=by
   rw [e4]
   show a2.getD 0 undef = _
   rw [Array.getD_eq_getD_getElem?,← Array.getElem?_toList,ha2]
   rfl
  rw [hc1,hc2]
  rfl
theorem heap_below {w w':World} (hk:Below w.heap.size w w') {b:Nat} {o:Obj} (h:w.heap[b]? = some o):w'.heap[b]? = some o:=by
 rw [hk.block b (Array.getElem?_eq_some_iff.1 h).1,h]
theorem builder_below {B b:Nat} {bs:List Value} {w w':World} (h:Lib.IsBuilderF 136 5 B b bs w) (hk:Below w.heap.size w w'):Lib.IsBuilderF 136 5 B b bs w':=by
 have main:∀ p,Lib.BuilderAtF 136 5 B b p bs w→Lib.BuilderAtF 136 5 B b p bs w':=by
  rintro p ⟨h1,v,h2,⟨h3,h4⟩,h5⟩
  refine ⟨h1,v,heap_below hk h2,⟨h3,?_⟩,h5⟩
  rcases h4 with h4 | ⟨g,cap,cur,fz,e1,e2,e3,e4⟩
  ·exact .inl h4
  ·exact .inr ⟨g,cap,cur,fz,e1,e2,heap_below hk e3,e4⟩
 exact h.imp (main _) (main _)
theorem strCells_bytes (s:ByteArray):Lib.strCells s = Lib.byteCells s.data.toList:=rfl
theorem byteCells_app (a b:List UInt8):Lib.byteCells (a++b) = Lib.byteCells a++Lib.byteCells b:=by simp [Lib.byteCells]
theorem byteCells_len (a:List UInt8):(Lib.byteCells a).length = a.length:=by simp [Lib.byteCells]
set_option maxHeartbeats 4000000 in
set_option maxRecDepth 1000000 in
theorem ints_walk {fz:Nat→Nat→Option Value} (hG:GlobOK cfg fz) (l:List Int) (base:Option Addr) (cap:Nat) (w:World) (hf:FzOK (.of fz) w) (hl:l.length≤1000) (s:ByteArray) (hs:intsGo l = some s)
  (hb:∀ j (_:j < l.length),∃ blk off,base = some ⟨blk,off,none⟩∧blk < w.heap.size∧w.cell? ⟨blk,off + j,none⟩ = some (.int .i64 l[j])) :
  Calls Tryz.prog 66 #[.slice base l.length cap] w fun e w'=>e = .returned (.string s)∧Below w.heap.size w w':=by
 have hff:∀ wr,Below w.heap.size w wr→FzOK (.of fz) wr:=by
  intro wr hbw b o v e
  have:=hf b o v e
  exact this.same (hbw.block b this.lt)
 go_enter Tryz.func66,Tryz.ntmps66
 go_wp2
 go_loopw [10] (fun i wr=>∃ (k:Nat) (acc:List UInt8),k≤l.length∧i = .int .i64 k∧Lib.IsBuilderF 136 5 w.heap.size w.heap.size (Lib.byteCells acc) wr∧Below w.heap.size w wr∧acc.length≤100 * k∧∃ r,intsGo (l.drop k) = some r∧acc++r.data.toList = s.data.toList) (fun i _=>l.length - (intOf i).toNat)
 case atStart =>
  exact ⟨0,[],Nat.zero_le _,rfl,Lib.IsBuilderF.of (Lib.fresh_isBuilder 136 5 w),(Below.refl _ w).alloc (Nat.le_refl _) _,by simp,s,by simpa using hs,by simp⟩
 case round =>
  obtain ⟨k,acc,hk,rfl,hI,hbw,hal,r,hr,hac⟩:=hrel
  have hsz:=hbw.size
  by_cases hlt:k < l.length
  ·obtain ⟨blk,off,rfl,hblk,hcell⟩:=hb k hlt
   have hcr:wr.cell? ⟨blk,off + k,none⟩ = some (.int .i64 l[k]):=by
    rw [← hcell]
    simp only [World.cell?,hbw.block blk hblk]
   rw [List.drop_eq_getElem_cons hlt] at hr
   simp only [intsGo,Option.bind_eq_some_iff] at hr
   obtain ⟨y,hy,hr⟩:=hr
   cases h100:decide (y.1.size≤100) with
   | false=>rw [h100] at hr; cases hr
   | true =>
    rw [h100,cond_true,Option.bind_eq_some_iff] at hr
    obtain ⟨r',hr',hrr⟩:=hr
    have h100':=of_decide_eq_true h100
    go_wp2_with (go_at_call 87; refine (putInt_calls hG (hff _ hbw) hy).mono ?_)
    rintro e W1 ⟨rfl,b1⟩
    have hI1:=builder_below hI b1
    have hbw1:Below w.heap.size w W1:=hbw.trans ⟨b1.os,b1.tape,b1.output,b1.size,fun k hk=>b1.block k (by omega)⟩
    have hsz1:=hbw1.size
    have hlen:(Lib.byteCells acc).length + y.1.size≤140737488355328:=by rw [byteCells_len]; omega
    go_wp2_with (go_at_call 88; refine (Tryz.Builder_WriteString w.heap.size w.heap.size _ y.1 _ hI1 hlen hsz1).mono ?_)
    rintro e W2 ⟨rfl,h1,b2,_⟩
    go_wp2
    go_roundw
    case rel =>
     have hwrap:IntKind.i64.wrap ((k:Int) + 1) = ((k + 1:Nat):Int):=by simp [IntKind.wrap,IntKind.bits,IntKind.signed] <;> omega
     refine ⟨k + 1,acc++y.1.data.toList,by omega,by first | (rw [hwrap]; done) | (simp only [hwrap]; done) | (simp <;> omega),?_,hbw1.trans b2,?_,r',hr',?_⟩
     ·rw [byteCells_app,← strCells_bytes]; exact Or.inr h1
     ·have:y.1.data.toList.length = y.1.size:=rfl
      rw [List.length_append,this]; omega
     ·simp only [Option.some.injEq] at hrr
      rw [← hac,← hrr]
      simp
    case measure =>
     simp [intOf]; omega
  ·go_wp2_with (go_at_call 89; refine (Tryz.Builder_String w.heap.size w.heap.size acc _ hI (by omega)).mono ?_)
   rintro e W1 ⟨rfl,_,b1,_⟩
   go_wp2
   go_ret
   have hk':k = l.length:=by omega
   subst hk'
   rw [List.drop_length] at hr
   simp only [intsGo,Option.some.injEq] at hr
   subst hr
   simp only [List.append_nil] at hac
   exact ⟨by rw [hac]; simp,hbw.trans b1⟩
end Go.Proofs
namespace Go.V.G
open Go.Proofs
def f66 (a0:List Int):Option (ByteArray × Unit):=bif decide (a0.length≤1000) then (intsGo a0).bind fun r=>some (r,()) else none
def f66_spec:PSpec:={ args:=[.sl (.int .i64)],res:=[.str],fn:=fun x=>f66 x.1 }
theorem elems_int_get {fz:Nat→Nat→Option Value}:∀ {l:List Int} {cs:List Value},Elems (CR fz (.int .i64)) l cs→∀ j (h:j < l.length),cs[j]? = some (.int .i64 l[j])
 | [],_,_,j,h=>by simp at h
 | x :: l,cs,⟨c1,c2,e,h1,h2⟩,j,h=>by
  have h1':c1 = [.int .i64 x]:=h1
  subst h1'
  subst e
  cases j with
  | zero=>rfl
  | succ j=>simpa using elems_int_get h2 j (by simpa using h)
theorem f66_pure:PureOK Go.Proofs.Tryz.prog cfg 66 f66_spec:=by
 intro fz w args x y hG hf ha hy
 obtain ⟨l,u⟩:=x
 obtain ⟨s,u'⟩:=y
 change f66 l = some (s,u') at hy
 unfold f66 at hy
 cases hl:decide (List.length (α:=Int) l≤1000) with
 | false=>rw [hl] at hy; cases hy
 | true =>
  rw [hl,cond_true,Option.bind_eq_some_iff] at hy
  obtain ⟨s',hs,e⟩:=hy
  simp only [Option.some.injEq,Prod.mk.injEq] at e
  obtain ⟨rfl,_⟩:=e
  obtain ⟨al⟩:=args
  match al,ha with
  | [c],⟨⟨arr,e1,e2⟩,_⟩ =>
   obtain ⟨v,e3,hv⟩:=e1
   have hc:c = v:=by
    rw [e2]
    show arr.getD 0 undef = v
    rw [Array.getD_eq_getD_getElem?,← Array.getElem?_toList,e3]
    rfl
   subst hc
   have fin:∀ base cap,c = .slice base (List.length (α:=Int) l) cap→(∀ j (_:j < List.length (α:=Int) l),∃ blk off,base = some ⟨blk,off,none⟩∧blk < w.heap.size∧w.cell? ⟨blk,off + j,none⟩ = some (.int .i64 (l[j]:Int))) →
     Calls Go.Proofs.Tryz.prog 66 #[c] w fun e w'=>∃ cs fz',e = .returned (resVal cs)∧TVs fz' [.str] (s',u') cs∧FzOK (.of fz') w'∧Tr (.of fz) w (.of fz') w':=by
    intro base cap hc hb
    subst hc
    refine Calls.mono (ints_walk hG l base cap w hf (of_decide_eq_true hl) s' hs hb) ?_
    rintro e w' ⟨rfl,hb⟩
    refine ⟨[.string s'],fz,rfl,⟨⟨#[.string s'],rfl,rfl⟩,rfl⟩,?_,⟨hb.os,hb.tape,hb.output,hb.size,fun _ _ _ h=>h,fun _ _ h=>.inl h,fun _ h=>.inl h,fun b hb' _=>hb.block b hb'⟩⟩
    intro b o v e
    have:=hf b o v e
    exact this.same (hb.block b this.lt)
   rcases hv with ⟨rfl,a0,rfl⟩ | ⟨blk,off,cap,cs,rfl,h1,h2,h3⟩
   ·exact fin a0 0 rfl (fun j h=>by simp at h)
   ·refine fin _ cap rfl (fun j h=>⟨blk,off,rfl,?_,(hf _ _ _ (h3 j _ (elems_int_get h2 j h))).cell rfl⟩)
    exact (hf _ _ _ (h3 j _ (elems_int_get h2 j h))).lt
theorem f66_enter:Enterable Go.Proofs.Tryz.prog 66:=enter_fun Go.Proofs.Tryz.func66 (by kernel_rfl)
end Go.V.G
namespace Go.V.G
open Go.Proofs
noncomputable section
def f27 (a0:(List Int)):Option (ByteArray × Int × Unit) :=
 (f65 a0).bind fun y1 =>
 bif (!y1.1) then
 some ((⟨#[]⟩:ByteArray),(160:Int),())
 else
 (f66 ([(a0.length:Int)]:List Int)).bind fun y2 =>
 (f66 a0).bind fun y3 =>
 bif (catOk y2.1 y3.1) then some ((y2.1++y3.1),(0:Int),()) else none
def f27_spec:PSpec:={ args:=[(.sl yI)],res:=[.str,yI],fn:=fun x=>f27 x.1 }
noncomputable def f27_code:Code:=Tryz.f27.body.getD .skip
noncomputable def f27_env:Env0:={ C:=cfgF,P:=[(65,f65_spec),(66,f66_spec)],L:=[],F:=[(27,Tryz.f27)] }
theorem f27_run (x:tysDen (f27_spec).args):runF f27_env 27 Tryz.f27 f27_code (f27_spec).args (f27_spec).res x = f27_spec.fn x:=by kernel_rfl
theorem f27_enter:Enterable Tryz.prog 27:=enter_fun Tryz.func27 (by kernel_rfl)
theorem f27_envOK:EnvOK Tryz.prog f27_env:=envOK_of cds (by kernel_rfl) cfgF_ok ⟨⟨f65_pure,f65_enter⟩,⟨f66_pure,f66_enter⟩,trivial⟩ trivial ⟨⟨Tryz.func27,by kernel_rfl⟩,trivial⟩ trivial trivial trivial
theorem f27_pure:PureOK Tryz.prog cfg 27 f27_spec:=pure_of_run f27_envOK (fn:=Tryz.f27) (c:=f27_code) rfl rfl f27_spec (fun x _ h=>(f27_run x).trans h)
def f68_l3x_head:Ann:={ env:=[(0,cP 8),(3,.cst (.row 10012 .whole)),(5,YI),(6,YI)],stk:=[[(0,.ty .str),(2,cP 2),(3,cP 3),(4,cP 8)],[(0,.cst (.tup [(.fn 47 []),(.ptr 3 0 [])]))],[(0,.cst (.tup [(.fn 67 [(.ptr 3 0 []),(.ptr 2 0 [])])]))]],bxs:=[(8,.var [.ty .str,YI]),(10012,.row yI false),(2,.var [.cst .nils]),(3,.var [YI])] }
def f68_l3x_outs:List (Ex × Ann):=[((.exit 0),{ env:=[(3,.cst (.row 10012 .whole))],stk:=[[(0,.ty .str),(2,cP 2),(3,cP 3),(4,cP 8)],[(0,.cst (.tup [(.fn 47 []),(.ptr 3 0 [])]))],[(0,.cst (.tup [(.fn 67 [(.ptr 3 0 []),(.ptr 2 0 [])])]))]],bxs:=[(10012,.row yI false),(2,.var [.cst .nils]),(3,.var [YI]),(8,.var [.ty .str,YI])] }),((.pan ⟨130,.emp⟩),{ env:=[],stk:=[[(0,.ty .str),(2,cP 2),(3,cP 3),(4,cP 8)],[(0,.cst (.tup [(.fn 47 []),(.ptr 3 0 [])]))],[(0,.cst (.tup [(.fn 67 [(.ptr 3 0 []),(.ptr 2 0 [])])]))]],bxs:=[(2,.var [.cst .nils]),(3,.var [YI]),(8,.var [.ty .str,YI])] })]
def f68_l3x (t5:Int) (k0t0:ByteArray) (b8g0:ByteArray) (b3g0:Int):Nat→Int→Int→(List Int)→Option (outDen f68_l3x_outs)
 | 0,_,_,_=>none
 | k + 1,t6,b8g1,r10012 =>
 bif (decide (t6 < t5)) then
 (f90 b8g0 b8g1).bind fun y2 =>
 bif (decide (y2.2.2.1 = (0:Int))) then
 let v3:Bool:=(decide (y2.1 ≥ (-1152921504606846976:Int)))
 bif v3 then
 let v4:Bool:=(decide (y2.1≤(1152921504606846976:Int)))
 bif (!v4) then
 some (.inr ((),((k0t0,()),(),(),()),((),(b3g0,()),(b8g0,b8g1,()),())))
 else
 bif (decide (r10012.length + ([y2.1]:List Int).length≤appLim)) then f68_l3x t5 k0t0 b8g0 b3g0 k (IntKind.wrap .i64 (t6 + 1)) y2.2.1 (r10012++([y2.1]:List Int)) else none
 else
 some (.inr ((),((k0t0,()),(),(),()),((),(b3g0,()),(b8g0,b8g1,()),())))
 else
 some (.inr ((),((k0t0,()),(),(),()),((),(b3g0,()),(b8g0,b8g1,()),())))
 else
 some (.inl ((),((k0t0,()),(),(),()),(r10012,(),(b3g0,()),(b8g0,b8g1,()),())))
def f68_l3x_n (n:Nat) (x:f68_l3x_head.den):=f68_l3x x.1.1 x.2.1.1.1 x.2.2.1.1 x.2.2.2.2.2.1.1 n x.1.2.1 x.2.2.1.2.1 x.2.2.2.1
def f68_l3x_spec:LSpec:={ thaws:=[.slot 3 10012 yI],head:=f68_l3x_head,outs:=f68_l3x_outs,fn:=fun x=>f68_l3x_n ((x.1.1 - x.1.2.1).toNat + 1) x }
def f28 (a0:ByteArray):Option ((List Int) × Int × Unit) :=
 (f90 a0 0).bind fun y1 =>
 bif (decide (y1.2.2.1 = (0:Int))) then
 bif (decide (y1.1 ≥ (0:Int))) then
 bif (!(decide (y1.1≤(64:Int)))) then
 some ([],(160:Int),())
 else
 (f68_l3x y1.1 a0 a0 0 ((y1.1 - (0:Int)).toNat + 1) (0:Int) y1.2.1 []).bind fun o5 =>
 Sum.elim (fun o6 =>
 let u8:ByteArray:=o6.2.1.1.1
 let u9:(List Int):=o6.2.2.1
 let u12:Int:=o6.2.2.2.2.2.1.2.1
 bif (!(decide (u12 = (u8.size:Int)))) then
 some ([],(160:Int),())
 else
 some (u9,(0:Int),())) (fun o7 =>
 some ([],(160:Int),())) o5
 else
 some ([],(160:Int),())
 else
 some ([],(160:Int),())
def f28_spec:PSpec:={ args:=[.str],res:=[(.sl yI),yI],fn:=fun x=>f28 x.1 }
noncomputable def f28_code:Code:=Tryz.f28.body.getD .skip
noncomputable def f28_code_68:Code:=Tryz.f68.body.getD .skip
noncomputable def f28_env:Env0:={ C:=cfgF,P:=[(90,f90_spec)],L:=[(⟨11,10000,68,3⟩,f68_l3x_spec)],F:=[(28,Tryz.f28),(47,Tryz.f47),(48,Tryz.f48),(67,Tryz.f67),(68,Tryz.f68),(71,Tryz.f71)] }
theorem f68_l3x_ok:LoopOK f28_env 11 68 10000 (loopAt f28_code_68 3) f68_l3x_spec :=
 loopOK_of (by kernel_rfl) f68_l3x_n (fun x o h=>⟨_,h⟩) (fun x=>by kernel_rfl) (fun n x=>by kernel_rfl)
theorem f28_run (x:tysDen (f28_spec).args):runF f28_env 28 Tryz.f28 f28_code (f28_spec).args (f28_spec).res x = f28_spec.fn x:=by kernel_rfl
theorem f28_enter:Enterable Tryz.prog 28:=enter_fun Tryz.func28 (by kernel_rfl)
theorem f28_envOK:EnvOK Tryz.prog f28_env:=envOK_of cds (by kernel_rfl) cfgF_ok ⟨⟨f90_pure,f90_enter⟩,trivial⟩ trivial ⟨⟨Tryz.func28,by kernel_rfl⟩,⟨Tryz.func47,by kernel_rfl⟩,⟨Tryz.func48,by kernel_rfl⟩,⟨Tryz.func67,by kernel_rfl⟩,⟨Tryz.func68,by kernel_rfl⟩,⟨Tryz.func71,by kernel_rfl⟩,trivial⟩ ⟨⟨Tryz.f68,f28_code_68,rfl,rfl,f68_l3x_ok⟩,trivial⟩ trivial trivial
theorem f28_pure:PureOK Tryz.prog cfg 28 f28_spec:=pure_of_run f28_envOK (fn:=Tryz.f28) (c:=f28_code) rfl rfl f28_spec (fun x _ h=>(f28_run x).trans h)
def f69 (a0:(Bool × ((List Int) × Unit))):Option (ByteArray × Unit) :=
 bif (!a0.1) then
 (f66 ([(0:Int)]:List Int)).bind fun y1 =>
 some (y1.1,())
 else
 (f27 a0.2.1).bind fun y2 =>
 (f66 ([(1:Int)]:List Int)).bind fun y3 =>
 bif (catOk y3.1 y2.1) then some ((y3.1++y2.1),()) else none
def f69_spec:PSpec:={ args:=[(.pair .bool (.pair (.sl yI) .unit))],res:=[.str],fn:=fun x=>f69 x.1 }
noncomputable def f69_code:Code:=Tryz.f69.body.getD .skip
noncomputable def f69_env:Env0:={ C:=cfgF,P:=[(27,f27_spec),(66,f66_spec)],L:=[],F:=[(69,Tryz.f69)] }
theorem f69_run (x:tysDen (f69_spec).args):runF f69_env 69 Tryz.f69 f69_code (f69_spec).args (f69_spec).res x = f69_spec.fn x:=by kernel_rfl
theorem f69_enter:Enterable Tryz.prog 69:=enter_fun Tryz.func69 (by kernel_rfl)
theorem f69_envOK:EnvOK Tryz.prog f69_env:=envOK_of cds (by kernel_rfl) cfgF_ok ⟨⟨f27_pure,f27_enter⟩,⟨f66_pure,f66_enter⟩,trivial⟩ trivial ⟨⟨Tryz.func69,by kernel_rfl⟩,trivial⟩ trivial trivial trivial
theorem f69_pure:PureOK Tryz.prog cfg 69 f69_spec:=pure_of_run f69_envOK (fn:=Tryz.f69) (c:=f69_code) rfl rfl f69_spec (fun x _ h=>(f69_run x).trans h)
def f29_l5_head:Ann:={ env:=[(4,.ty .str),(16,.ty (.sl yR)),(17,YI),(18,YI)] }
def f29_l5_outs:List (Ex × Ann):=[((.exit 0),{ env:=[(4,.ty .str)] })]
def f29_l5 (t16:(List Yr)) (t17:Int):Nat→ByteArray→Int→Option (outDen f29_l5_outs)
 | 0,_,_=>none
 | k + 1,t4,t18 =>
 bif (decide (t18 < t17)) then
 bif (inR t18 t16.length) then
 let v3:Int:=(at_ yR t16 t18).1
 let v4:Int:=(at_ yR t16 t18).2.1
 (f66 ([v3,v4]:List Int)).bind fun y5 =>
 (f52 (at_ yR t16 t18)).bind fun y6 =>
 (f69 y6.1).bind fun y7 =>
 bif (catOk y5.1 y7.1) then
 (f53 (at_ yR t16 t18)).bind fun y8 =>
 (f69 y8.1).bind fun y9 =>
 bif (catOk (y5.1++y7.1) y9.1) then bif (catOk t4 ((y5.1++y7.1)++y9.1)) then f29_l5 t16 t17 k (t4++((y5.1++y7.1)++y9.1)) (IntKind.wrap .i64 (t18 + 1)) else none else none
 else none
 else none
 else
 some ((t4,()),(),())
def f29_l5_n (n:Nat) (x:f29_l5_head.den):=f29_l5 x.1.2.1 x.1.2.2.1 n x.1.1 x.1.2.2.2.1
def f29_l5_spec:LSpec:={ head:=f29_l5_head,outs:=f29_l5_outs,fn:=fun x=>f29_l5_n ((x.1.2.2.1 - x.1.2.2.2.1).toNat + 1) x }
def f29 (a0:((List Yr) × Unit)):Option (ByteArray × Int × Unit) :=
 (f19 a0).bind fun y1 =>
 bif (!y1.1) then
 some ((⟨#[]⟩:ByteArray),(160:Int),())
 else
 (f66 ([(a0.1.length:Int)]:List Int)).bind fun y2 =>
 (f29_l5 a0.1 (a0.1.length:Int) (((a0.1.length:Int) - (0:Int)).toNat + 1) y2.1 (0:Int)).bind fun o10 =>
 let u11:ByteArray:=o10.1.1
 some (u11,(0:Int),())
def f29_spec:PSpec:={ args:=[(.pair (.sl yR) .unit)],res:=[.str,yI],fn:=fun x=>f29 x.1 }
noncomputable def f29_code:Code:=Tryz.f29.body.getD .skip
noncomputable def f29_env:Env0:={ C:=cfgF,P:=[(19,f19_spec),(52,f52_spec),(53,f53_spec),(66,f66_spec),(69,f69_spec)],L:=[(⟨12,0,29,5⟩,f29_l5_spec)],F:=[(29,Tryz.f29)] }
theorem f29_l5_ok:LoopOK f29_env 12 29 0 (loopAt f29_code 5) f29_l5_spec :=
 loopOK_of (by kernel_rfl) f29_l5_n (fun x o h=>⟨_,h⟩) (fun x=>by kernel_rfl) (fun n x=>by kernel_rfl)
theorem f29_run (x:tysDen (f29_spec).args):runF f29_env 29 Tryz.f29 f29_code (f29_spec).args (f29_spec).res x = f29_spec.fn x:=by kernel_rfl
theorem f29_enter:Enterable Tryz.prog 29:=enter_fun Tryz.func29 (by kernel_rfl)
theorem f29_envOK:EnvOK Tryz.prog f29_env:=envOK_of cds (by kernel_rfl) cfgF_ok ⟨⟨f19_pure,f19_enter⟩,⟨f52_pure,f52_enter⟩,⟨f53_pure,f53_enter⟩,⟨f66_pure,f66_enter⟩,⟨f69_pure,f69_enter⟩,trivial⟩ trivial ⟨⟨Tryz.func29,by kernel_rfl⟩,trivial⟩ ⟨⟨Tryz.f29,f29_code,rfl,rfl,f29_l5_ok⟩,trivial⟩ trivial trivial
theorem f29_pure:PureOK Tryz.prog cfg 29 f29_spec:=pure_of_run f29_envOK (fn:=Tryz.f29) (c:=f29_code) rfl rfl f29_spec (fun x _ h=>(f29_run x).trans h)
def f73_l5_head:Ann:={ env:=[(6,.cst (.row 43 .whole)),(25,.ty (.sl yN)),(26,YI),(27,YI)],bxs:=[(43,.row yE false)] }
def f73_l5_outs:List (Ex × Ann):=[((.exit 0),{ env:=[(6,.cst (.row 43 .whole))],bxs:=[(43,.row yE false)] })]
def f73_l5 (t25:(List Yn)) (t26:Int):Nat→Int→(List Ye)→Option (outDen f73_l5_outs)
 | 0,_,_=>none
 | k + 1,t27,r43 =>
 bif (decide (t27 < t26)) then
 bif (inR t27 t25.length) then
 let v3:(List Int):=(at_ yN t25 t27).2.1
 (f27 v3).bind fun y4 =>
 let v5:Int:=(at_ yN t25 t27).1
 bif (decide (r43.length + ([(v5,(y4.1,()))]:List Ye).length≤appLim)) then f73_l5 t25 t26 k (IntKind.wrap .i64 (t27 + 1)) (r43++([(v5,(y4.1,()))]:List Ye)) else none
 else none
 else
 some ((),(),(r43,()))
def f73_l5_n (n:Nat) (x:f73_l5_head.den):=f73_l5 x.1.1 x.1.2.1 n x.1.2.2.1 x.2.2.1
def f73_l5_spec:LSpec:={ thaws:=[.slot 6 43 yE],head:=f73_l5_head,outs:=f73_l5_outs,fn:=fun x=>f73_l5_n ((x.1.2.1 - x.1.2.2.1).toNat + 1) x }
def f73 (a0:Yc) (a1:Int):Option ((List Ye) × Int × Unit) :=
 (f35 a0).bind fun y1 =>
 bif (!y1.1) then
 some ([],(160:Int),())
 else
 bif (decide (a1 < (1:Int))) then
 some ([],(160:Int),())
 else
 bif (decide (a1 > (7:Int))) then
 some ([],(160:Int),())
 else
 bif (inR a1 8) then
 let v2:(List Yn):=(at_ (.sl yN) a0.1 a1)
 (f73_l5 v2 (v2.length:Int) (((v2.length:Int) - (0:Int)).toNat + 1) (0:Int) []).bind fun o6 =>
 let u7:(List Ye):=o6.2.2.1
 some (u7,(0:Int),())
 else none
def f73_spec:PSpec:={ args:=[yC,yI],res:=[(.sl yE),yI],fn:=fun x=>f73 x.1 x.2.1 }
noncomputable def f73_code:Code:=Tryz.f73.body.getD .skip
noncomputable def f73_env:Env0:={ C:=cfgF,P:=[(27,f27_spec),(35,f35_spec)],L:=[(⟨12,0,73,5⟩,f73_l5_spec)],F:=[(73,Tryz.f73)] }
theorem f73_l5_ok:LoopOK f73_env 12 73 0 (loopAt f73_code 5) f73_l5_spec :=
 loopOK_of (by kernel_rfl) f73_l5_n (fun x o h=>⟨_,h⟩) (fun x=>by kernel_rfl) (fun n x=>by kernel_rfl)
theorem f73_run (x:tysDen (f73_spec).args):runF f73_env 73 Tryz.f73 f73_code (f73_spec).args (f73_spec).res x = f73_spec.fn x:=by kernel_rfl
theorem f73_enter:Enterable Tryz.prog 73:=enter_fun Tryz.func73 (by kernel_rfl)
theorem f73_envOK:EnvOK Tryz.prog f73_env:=envOK_of cds (by kernel_rfl) cfgF_ok ⟨⟨f27_pure,f27_enter⟩,⟨f35_pure,f35_enter⟩,trivial⟩ trivial ⟨⟨Tryz.func73,by kernel_rfl⟩,trivial⟩ ⟨⟨Tryz.f73,f73_code,rfl,rfl,f73_l5_ok⟩,trivial⟩ trivial trivial
theorem f73_pure:PureOK Tryz.prog cfg 73 f73_spec:=pure_of_run f73_envOK (fn:=Tryz.f73) (c:=f73_code) rfl rfl f73_spec (fun x _ h=>(f73_run x).trans h)
def f31_l5_head:Ann:={ env:=[(1,cP 1),(2,cP 2),(4,cP 4),(5,YI)],bxs:=[(1,.var [.ty (.arr 8 (.sl yN))]),(2,.var [.ty (.arr 8 .str)]),(4,.var [.ty (.arr 8 .str)])] }
def f31_l5_outs:List (Ex × Ann):=[((.exit 0),{ env:=[(2,cP 2),(4,cP 4)],bxs:=[(2,.var [.ty (.arr 8 .str)]),(4,.var [.ty (.arr 8 .str)])] })]
def f31_l5 (b1g0:(List (List Yn))) (b2g0:(List ByteArray)):Nat→Int→(List ByteArray)→Option (outDen f31_l5_outs)
 | 0,_,_=>none
 | k + 1,t5,b4g0 =>
 bif (decide (t5≤(7:Int))) then
 (f73 (b1g0,()) t5).bind fun y2 =>
 (f74 y2.1).bind fun y3 =>
 bif (inR t5 8) then f31_l5 b1g0 b2g0 k (IntKind.wrap .i64 (t5 + 1)) (b4g0.set (Int.toNat t5) y3.1) else none
 else
 some ((),(),((b2g0,()),(b4g0,()),()))
def f31_l5_n (n:Nat) (x:f31_l5_head.den):=f31_l5 x.2.2.1.1 x.2.2.2.1.1 n x.1.1 x.2.2.2.2.1.1
def f31_l5_spec:LSpec:={ head:=f31_l5_head,outs:=f31_l5_outs,fn:=fun x=>f31_l5_n (((8:Int) - x.1.1).toNat + 1) x }
def f31 (a0:Yc):Option ((List ByteArray) × Int × Unit) :=
 (f35 a0).bind fun y1 =>
 bif (!y1.1) then
 some ((List.replicate 8 (⟨#[]⟩:ByteArray)),(160:Int),())
 else
 (f31_l5 a0.1 (List.replicate 8 (⟨#[]⟩:ByteArray)) (((8:Int) - (1:Int)).toNat + 1) (1:Int) (List.replicate 8 (⟨#[]⟩:ByteArray))).bind fun o4 =>
 let u6:(List ByteArray):=o4.2.2.2.1.1
 some (u6,(0:Int),())
def f31_spec:PSpec:={ args:=[yC],res:=[(.arr 8 .str),yI],fn:=fun x=>f31 x.1 }
noncomputable def f31_code:Code:=Tryz.f31.body.getD .skip
noncomputable def f31_env:Env0:={ C:=cfgF,P:=[(35,f35_spec),(73,f73_spec),(74,f74_spec)],L:=[(⟨12,0,31,5⟩,f31_l5_spec)],F:=[(31,Tryz.f31)] }
theorem f31_l5_ok:LoopOK f31_env 12 31 0 (loopAt f31_code 5) f31_l5_spec :=
 loopOK_of (by kernel_rfl) f31_l5_n (fun x o h=>⟨_,h⟩) (fun x=>by kernel_rfl) (fun n x=>by kernel_rfl)
theorem f31_run (x:tysDen (f31_spec).args):runF f31_env 31 Tryz.f31 f31_code (f31_spec).args (f31_spec).res x = f31_spec.fn x:=by kernel_rfl
theorem f31_enter:Enterable Tryz.prog 31:=enter_fun Tryz.func31 (by kernel_rfl)
theorem f31_envOK:EnvOK Tryz.prog f31_env:=envOK_of cds (by kernel_rfl) cfgF_ok ⟨⟨f35_pure,f35_enter⟩,⟨f73_pure,f73_enter⟩,⟨f74_pure,f74_enter⟩,trivial⟩ trivial ⟨⟨Tryz.func31,by kernel_rfl⟩,trivial⟩ ⟨⟨Tryz.f31,f31_code,rfl,rfl,f31_l5_ok⟩,trivial⟩ trivial trivial
theorem f31_pure:PureOK Tryz.prog cfg 31 f31_spec:=pure_of_run f31_envOK (fn:=Tryz.f31) (c:=f31_code) rfl rfl f31_spec (fun x _ h=>(f31_run x).trans h)
end
end Go.V.G
namespace Go.V
def tysDeq:(l:List Ty)→tysDen l→tysDen l→Bool
 | [],_,_=>true
 | T :: l,x,y=>T.deq x.1 y.1 && tysDeq l x.2 y.2
theorem tysDeq_eq:∀ {l:List Ty} {x y:tysDen l},tysDeq l x y = true→x = y
 | [],_,_,_=>rfl
 | T :: l,x,y,h=>by
  simp only [tysDeq,Bool.and_eq_true] at h
  exact Prod.ext (Ty.deq_eq T _ _ h.1) (tysDeq_eq h.2)
end Go.V
namespace Go.Proofs
open Go.Shelf
def Tryz.lays156_ren:Go.Shelf.Ren:=⟨fun | 156=>159 | 165=>232 | 166=>88 | 169=>89 | 240=>102 | 241=>293 | 276=>120 | 277=>328 | n=>n,fun | 31=>123 | 9=>9 | 3=>3 | 4=>4 | 0=>0 | 20=>20 | 72=>136 | 76=>140 | 70=>134 | 37=>124 | 75=>139 | 127=>168 | 164=>192 | 5=>5 | 80=>77 | n=>n,fun | n=>n⟩
theorem Tryz.lays156:Go.Proofs.Lays.n156 Tryz.prog Tryz.lays156_ren:={
 mixed:=by kernel_rfl,
 f156:=Tryz.func159.trans (congrArg some (by kernel_rfl)),
 f165:=Tryz.func232.trans (congrArg some (by kernel_rfl)),
 f166:=Tryz.func88.trans (congrArg some (by kernel_rfl)),
 f169:=Tryz.func89.trans (congrArg some (by kernel_rfl)),
 f240:=Tryz.func102.trans (congrArg some (by kernel_rfl)),
 f241:=Tryz.func293.trans (congrArg some (by kernel_rfl)),
 f276:=Tryz.func120.trans (congrArg some (by kernel_rfl)),
 f277:=Tryz.func328.trans (congrArg some (by kernel_rfl)),
 t0:=Tryz.underlying0,
 a0:=Tryz.isAgg0,
 z0:=Tryz.sizeOf0,
 v0:=Tryz.zeroValue0,
 t3:=Tryz.underlying3,
 a3:=Tryz.isAgg3,
 z3:=Tryz.sizeOf3,
 v3:=Tryz.zeroValue3,
 t4:=Tryz.underlying4,
 a4:=Tryz.isAgg4,
 z4:=Tryz.sizeOf4,
 v4:=Tryz.zeroValue4,
 t9:=Tryz.underlying9,
 a9:=Tryz.isAgg9,
 z9:=Tryz.sizeOf9,
 v9:=Tryz.zeroValue9,
 t20:=Tryz.underlying20,
 a20:=Tryz.isAgg20,
 z20:=Tryz.sizeOf20,
 v20:=Tryz.zeroValue20,
 t31:=Tryz.underlying123,
 a31:=Tryz.isAgg123,
 z31:=Tryz.sizeOf123,
 v31:=Tryz.zeroValue123,
 t37:=Tryz.underlying124,
 a37:=Tryz.isAgg124,
 z37:=Tryz.sizeOf124,
 v37:=Tryz.zeroValue124,
 t70:=Tryz.underlying134,
 a70:=Tryz.isAgg134,
 z70:=Tryz.sizeOf134,
 v70:=Tryz.zeroValue134,
 t72:=Tryz.underlying136,
 a72:=Tryz.isAgg136,
 z72:=Tryz.sizeOf136,
 v72:=Tryz.zeroValue136,
 t75:=Tryz.underlying139,
 a75:=Tryz.isAgg139,
 z75:=Tryz.sizeOf139,
 v75:=Tryz.zeroValue139,
 t76:=Tryz.underlying140,
 a76:=Tryz.isAgg140,
 z76:=Tryz.sizeOf140,
 v76:=Tryz.zeroValue140,
 t127:=Tryz.underlying168,
 a127:=Tryz.isAgg168,
 z127:=Tryz.sizeOf168,
 v127:=Tryz.zeroValue168,
 t164:=Tryz.underlying192,
 a164:=Tryz.isAgg192,
 z164:=Tryz.sizeOf192,
 v164:=Tryz.zeroValue192 }
theorem Tryz.builderExtra156:Builder.Extra Tryz.prog Tryz.lays156_ren where
 sizeBuilder:=by kernel_rfl
 liesBuilder:=by kernel_rfl
 t5:=Tryz.underlying5
 a5:=Tryz.isAgg5
 z5:=Tryz.sizeOf5
 v5:=Tryz.zeroValue5
 infoByte:=by kernel_rfl
 cellsByte:=by kernel_rfl
 sizeByte:=by kernel_rfl
 neB5:=by decide
theorem Tryz.strings_Join (bk o c:Nat) (xs:List ByteArray) (sep:ByteArray) (w:World) (hcells:∀ (j:Nat) x,xs[j]? = some x→w.cell? ⟨bk,o + j,none⟩ = some (.string x)) (hbk:bk < w.heap.size) (hN:xs.length≤140737488355328) (hcap:xs.length≤c) (hlen:(Lib.join (xs.map (·.data.toList)) sep.data.toList).length≤140737488355328) :
  Calls Tryz.prog 159 #[.slice (some ⟨bk,o,none⟩) xs.length c,.string sep] w fun e w'=>e = .returned (.string ⟨(Lib.join (xs.map (·.data.toList)) sep.data.toList).toArray⟩)∧RowKit.Below w.heap.size w w':=Any.strings_Join Tryz.lays156 Tryz.builderExtra156 bk o c xs sep w hcells hbk hN hcap hlen
theorem Tryz.strings_Join_none (a:Option Addr) (c:Nat) (sep:ByteArray) (w:World) :
  Calls Tryz.prog 159 #[.slice a 0 c,.string sep] w fun e w'=>e = .returned (.string ⟨#[]⟩)∧w' = w:=Any.strings_Join_none Tryz.lays156 Tryz.builderExtra156 a c sep w
end Go.Proofs
namespace Go.V.G
open Go.Proofs
def joinS (l:List ByteArray) (sep:ByteArray):ByteArray:=⟨(Lib.join (l.map (·.data.toList)) sep.data.toList).toArray⟩
def f159 (a0:List ByteArray) (a1:ByteArray):Option (ByteArray × Unit):=bif Nat.ble a0.length 100 && Nat.ble (Lib.join (a0.map (·.data.toList)) a1.data.toList).length 100000 then some (joinS a0 a1,()) else none
def f159_spec:PSpec:={ args:=[.sl .str,.str],res:=[.str],fn:=fun x=>f159 x.1 x.2.1 }
theorem elems_str_get {fz:Nat→Nat→Option Value}:∀ {l:List ByteArray} {cs:List Value},Elems (CR fz .str) l cs→∀ (j:Nat) (x:ByteArray),l[j]? = some x→cs[j]? = some (Value.string x)
 | [],_,_,j,x,h=>by simp at h
 | y :: l,cs,⟨c1,c2,e,h1,h2⟩,j,x,h=>by
  have h1':c1 = [Value.string y]:=h1
  subst h1'
  subst e
  cases j with
  | zero=>simp at h; simp [h]
  | succ j=>simpa using elems_str_get h2 j x (by simpa using h)
theorem f159_pure:PureOK Go.Proofs.Tryz.prog cfg 159 f159_spec:=by
 intro fz w args x y hG hf ha hy
 obtain ⟨l,sep,u⟩:=x
 obtain ⟨s,u'⟩:=y
 change f159 l sep = some (s,u') at hy
 unfold f159 at hy
 cases hcd:(Nat.ble (List.length (α:=ByteArray) l) 100 && Nat.ble (Lib.join (List.map (fun x:ByteArray=>x.data.toList) l) (show ByteArray from sep).data.toList).length 100000) with
 | false=>rw [hcd] at hy; cases hy
 | true =>
  rw [hcd,cond_true] at hy
  simp only [Option.some.injEq,Prod.mk.injEq] at hy
  obtain ⟨rfl,_⟩:=hy
  rw [Bool.and_eq_true] at hcd
  have n1:=Nat.le_of_ble_eq_true hcd.1
  have n2:(Lib.join (List.map (fun x:ByteArray=>x.data.toList) l) (ByteArray.data sep).toList).length≤100000:=Nat.le_of_ble_eq_true hcd.2
  clear hcd
  obtain ⟨al⟩:=args
  have fin:∀ w',RowKit.Below w.heap.size w w'→∃ cs fz',Ending.returned (Value.string (joinS l sep)) = .returned (resVal cs)∧TVs fz' [.str] (joinS l sep,u') cs∧FzOK (.of fz') w'∧Tr (.of fz) w (.of fz') w':=by
   intro w' hb
   refine ⟨[.string (joinS l sep)],fz,rfl,⟨⟨#[.string (joinS l sep)],rfl,rfl⟩,rfl⟩,?_,⟨hb.os,hb.tape,hb.output,hb.size,fun _ _ _ h=>h,fun _ _ h=>.inl h,fun _ h=>.inl h,fun b hb' _=>hb.block b hb'⟩⟩
   intro b o v e
   have:=hf b o v e
   exact this.same (hb.block b this.lt)
  match al,ha with
  | [c,d],⟨⟨arr,e1,e2⟩,⟨arr2,g1,g2⟩,_⟩ =>
   have hd:d = .string sep:=by
    have g1':arr2.toList = [.string sep]:=g1
    rw [g2]
    show arr2.getD 0 undef = _
    rw [Array.getD_eq_getD_getElem?,← Array.getElem?_toList,g1']
    rfl
   subst hd
   obtain ⟨v,e3,hv⟩:=e1
   have hc:c = v:=by
    rw [e2]
    show arr.getD 0 undef = v
    rw [Array.getD_eq_getD_getElem?,← Array.getElem?_toList,e3]
    rfl
   subst hc
   rcases hv with ⟨h0,a0,hc⟩ | ⟨blk,off,cap,cs,hc,h1,h2,h3⟩
   ·have h0':l = []:=h0
    subst h0'
    subst hc
    refine Calls.mono (Tryz.strings_Join_none a0 0 sep w) ?_
    rintro e w' ⟨rfl,rfl⟩
    exact fin w' (RowKit.Below.refl _ _)
   ·subst hc
    by_cases hn:List.length (α:=ByteArray) l = 0
    ·have h0':l = []:=List.eq_nil_of_length_eq_zero hn
     subst h0'
     refine Calls.mono (Tryz.strings_Join_none _ cap sep w) ?_
     rintro e w' ⟨rfl,rfl⟩
     exact fin w' (RowKit.Below.refl _ _)
    ·have hcell:∀ (j:Nat) (x:ByteArray),(show List ByteArray from l)[j]? = some x→w.cell? ⟨blk,off + j,none⟩ = some (.string x):=fun j x hx=>(hf _ _ _ (h3 j _ (elems_str_get h2 j x hx))).cell rfl
     have hlt:blk < w.heap.size:=by
      cases l with
      | nil=>exact absurd rfl hn
      | cons x l=>exact (hf _ _ _ (h3 0 _ (elems_str_get h2 0 x rfl))).lt
     refine Calls.mono (Tryz.strings_Join blk off cap l sep w hcell hlt (by omega) h1 (by omega)) ?_
     rintro e w' ⟨rfl,hb⟩
     exact fin w' hb
theorem f159_enter:Enterable Go.Proofs.Tryz.prog 159:=enter_fun Go.Proofs.Tryz.func159 (by kernel_rfl)
end Go.V.G
namespace Go.Proofs
open Go.RowKit Go.V Go.V.G
set_option maxHeartbeats 4000000 in
set_option maxRecDepth 1000000 in
theorem ints_walk157 {fz:Nat→Nat→Option Value} (hG:GlobOK cfg fz) (l:List Int) (base:Option Addr) (cap:Nat) (w:World) (hf:FzOK (.of fz) w) (hl:l.length≤1000) (s:ByteArray) (hs:intsGo l = some s)
  (hb:∀ j (_:j < l.length),∃ blk off,base = some ⟨blk,off,none⟩∧blk < w.heap.size∧w.cell? ⟨blk,off + j,none⟩ = some (.int .i64 l[j])) :
  Calls Tryz.prog 157 #[.slice base l.length cap] w fun e w'=>e = .returned (.string s)∧Below w.heap.size w w':=by
 have hff:∀ wr,Below w.heap.size w wr→FzOK (.of fz) wr:=by
  intro wr hbw b o v e
  have:=hf b o v e
  exact this.same (hbw.block b this.lt)
 go_enter Tryz.func157,Tryz.ntmps157
 go_wp2
 go_loopw [10] (fun i wr=>∃ (k:Nat) (acc:List UInt8),k≤l.length∧i = .int .i64 k∧Lib.IsBuilderF 136 5 w.heap.size w.heap.size (Lib.byteCells acc) wr∧Below w.heap.size w wr∧acc.length≤100 * k∧∃ r,intsGo (l.drop k) = some r∧acc++r.data.toList = s.data.toList) (fun i _=>l.length - (intOf i).toNat)
 case atStart =>
  exact ⟨0,[],Nat.zero_le _,rfl,Lib.IsBuilderF.of (Lib.fresh_isBuilder 136 5 w),(Below.refl _ w).alloc (Nat.le_refl _) _,by simp,s,by simpa using hs,by simp⟩
 case round =>
  obtain ⟨k,acc,hk,rfl,hI,hbw,hal,r,hr,hac⟩:=hrel
  have hsz:=hbw.size
  by_cases hlt:k < l.length
  ·obtain ⟨blk,off,rfl,hblk,hcell⟩:=hb k hlt
   have hcr:wr.cell? ⟨blk,off + k,none⟩ = some (.int .i64 l[k]):=by
    rw [← hcell]
    simp only [World.cell?,hbw.block blk hblk]
   rw [List.drop_eq_getElem_cons hlt] at hr
   simp only [intsGo,Option.bind_eq_some_iff] at hr
   obtain ⟨y,hy,hr⟩:=hr
   cases h100:decide (y.1.size≤100) with
   | false=>rw [h100] at hr; cases hr
   | true =>
    rw [h100,cond_true,Option.bind_eq_some_iff] at hr
    obtain ⟨r',hr',hrr⟩:=hr
    have h100':=of_decide_eq_true h100
    go_wp2_with (go_at_call 87; refine (putInt_calls hG (hff _ hbw) hy).mono ?_)
    rintro e W1 ⟨rfl,b1⟩
    have hI1:=builder_below hI b1
    have hbw1:Below w.heap.size w W1:=hbw.trans ⟨b1.os,b1.tape,b1.output,b1.size,fun k hk=>b1.block k (by omega)⟩
    have hsz1:=hbw1.size
    have hlen:(Lib.byteCells acc).length + y.1.size≤140737488355328:=by rw [byteCells_len]; omega
    go_wp2_with (go_at_call 88; refine (Tryz.Builder_WriteString w.heap.size w.heap.size _ y.1 _ hI1 hlen hsz1).mono ?_)
    rintro e W2 ⟨rfl,h1,b2,_⟩
    go_wp2
    go_roundw
    case rel =>
     have hwrap:IntKind.i64.wrap ((k:Int) + 1) = ((k + 1:Nat):Int):=by simp [IntKind.wrap,IntKind.bits,IntKind.signed] <;> omega
     refine ⟨k + 1,acc++y.1.data.toList,by omega,by first | (rw [hwrap]; done) | (simp only [hwrap]; done) | (simp <;> omega),?_,hbw1.trans b2,?_,r',hr',?_⟩
     ·rw [byteCells_app,← strCells_bytes]; exact Or.inr h1
     ·have:y.1.data.toList.length = y.1.size:=rfl
      rw [List.length_append,this]; omega
     ·simp only [Option.some.injEq] at hrr
      rw [← hac,← hrr]
      simp
    case measure =>
     simp [intOf]; omega
  ·go_wp2_with (go_at_call 89; refine (Tryz.Builder_String w.heap.size w.heap.size acc _ hI (by omega)).mono ?_)
   rintro e W1 ⟨rfl,_,b1,_⟩
   go_wp2
   go_ret
   have hk':k = l.length:=by omega
   subst hk'
   rw [List.drop_length] at hr
   simp only [intsGo,Option.some.injEq] at hr
   subst hr
   simp only [List.append_nil] at hac
   exact ⟨by rw [hac]; simp,hbw.trans b1⟩
end Go.Proofs
namespace Go.V.G
open Go.Proofs
def f157 (a0:List Int):Option (ByteArray × Unit):=bif decide (a0.length≤1000) then (intsGo a0).bind fun r=>some (r,()) else none
def f157_spec:PSpec:={ args:=[.sl (.int .i64)],res:=[.str],fn:=fun x=>f157 x.1 }
theorem f157_pure:PureOK Go.Proofs.Tryz.prog cfg 157 f157_spec:=by
 intro fz w args x y hG hf ha hy
 obtain ⟨l,u⟩:=x
 obtain ⟨s,u'⟩:=y
 change f157 l = some (s,u') at hy
 unfold f157 at hy
 cases hl:decide (List.length (α:=Int) l≤1000) with
 | false=>rw [hl] at hy; cases hy
 | true =>
  rw [hl,cond_true,Option.bind_eq_some_iff] at hy
  obtain ⟨s',hs,e⟩:=hy
  simp only [Option.some.injEq,Prod.mk.injEq] at e
  obtain ⟨rfl,_⟩:=e
  obtain ⟨al⟩:=args
  match al,ha with
  | [c],⟨⟨arr,e1,e2⟩,_⟩ =>
   obtain ⟨v,e3,hv⟩:=e1
   have hc:c = v:=by
    rw [e2]
    show arr.getD 0 undef = v
    rw [Array.getD_eq_getD_getElem?,← Array.getElem?_toList,e3]
    rfl
   subst hc
   have fin:∀ base cap,c = .slice base (List.length (α:=Int) l) cap→(∀ j (_:j < List.length (α:=Int) l),∃ blk off,base = some ⟨blk,off,none⟩∧blk < w.heap.size∧w.cell? ⟨blk,off + j,none⟩ = some (.int .i64 (l[j]:Int))) →
     Calls Go.Proofs.Tryz.prog 157 #[c] w fun e w'=>∃ cs fz',e = .returned (resVal cs)∧TVs fz' [.str] (s',u') cs∧FzOK (.of fz') w'∧Tr (.of fz) w (.of fz') w':=by
    intro base cap hc hb
    subst hc
    refine Calls.mono (ints_walk157 hG l base cap w hf (of_decide_eq_true hl) s' hs hb) ?_
    rintro e w' ⟨rfl,hb⟩
    refine ⟨[.string s'],fz,rfl,⟨⟨#[.string s'],rfl,rfl⟩,rfl⟩,?_,⟨hb.os,hb.tape,hb.output,hb.size,fun _ _ _ h=>h,fun _ _ h=>.inl h,fun _ h=>.inl h,fun b hb' _=>hb.block b hb'⟩⟩
    intro b o v e
    have:=hf b o v e
    exact this.same (hb.block b this.lt)
   rcases hv with ⟨rfl,a0,rfl⟩ | ⟨blk,off,cap,cs,rfl,h1,h2,h3⟩
   ·exact fin a0 0 rfl (fun j h=>by simp at h)
   ·refine fin _ cap rfl (fun j h=>⟨blk,off,rfl,?_,(hf _ _ _ (h3 j _ (elems_int_get h2 j h))).cell rfl⟩)
    exact (hf _ _ _ (h3 j _ (elems_int_get h2 j h))).lt
theorem f157_enter:Enterable Go.Proofs.Tryz.prog 157:=enter_fun Go.Proofs.Tryz.func157 (by kernel_rfl)
end Go.V.G
namespace Go.V.G
open Go.Proofs
def q192 (a0:Int) (a1:Int):Option (Int × Unit) :=
 bif (decide (0≤a1)) then
  bif (decide (0≤(IntKind.wrap .i64 ((32:Int) - a1)))) then
   let v1:Int:=(shlV .u32 a0 (IntKind.wrap .i64 ((32:Int) - a1)))
   some ((orV .u32 (shrV .u32 a0 a1) v1),())
  else none
 else none
def q193 :Option ((List Int) × Unit) :=
 some (([(1116352408:Int),(1899447441:Int),(3049323471:Int),(3921009573:Int),(961987163:Int),(1508970993:Int),(2453635748:Int),(2870763221:Int),(3624381080:Int),(310598401:Int),(607225278:Int),(1426881987:Int),(1925078388:Int),(2162078206:Int),(2614888103:Int),(3248222580:Int),(3835390401:Int),(4022224774:Int),(264347078:Int),(604807628:Int),(770255983:Int),(1249150122:Int),(1555081692:Int),(1996064986:Int),(2554220882:Int),(2821834349:Int),(2952996808:Int),(3210313671:Int),(3336571891:Int),(3584528711:Int),(113926993:Int),(338241895:Int),(666307205:Int),(773529912:Int),(1294757372:Int),(1396182291:Int),(1695183700:Int),(1986661051:Int),(2177026350:Int),(2456956037:Int),(2730485921:Int),(2820302411:Int),(3259730800:Int),(3345764771:Int),(3516065817:Int),(3600352804:Int),(4094571909:Int),(275423344:Int),(430227734:Int),(506948616:Int),(659060556:Int),(883997877:Int),(958139571:Int),(1322822218:Int),(1537002063:Int),(1747873779:Int),(1955562222:Int),(2024104815:Int),(2227730452:Int),(2361852424:Int),(2428436474:Int),(2756734187:Int),(3204031479:Int),(3329325298:Int)]:List Int),())
def q138_l3_outs:List (Ex × Ann):=[((.exit 0),{ env:=[(0,.ty .str),(3,.cst (.row 17 .whole))],stk:=[],bxs:=[(17,.row (.int .u8) false)] })]
def q138_l3 (t0:ByteArray):Nat→Int→(List Int)→Option (outDen q138_l3_outs)
 | 0,_,_=>none
 | k + 1,t4,r17 =>
  bif (decide (t4 < (t0.size:Int))) then
   bif (inR t4 t0.size) then bif (decide (r17.length + ([(byteAt t0 t4)]:List Int).length≤appLim)) then q138_l3 t0 k (IntKind.wrap .i64 (t4 + (1:Int))) (r17++([(byteAt t0 t4)]:List Int)) else none else none
  else
   some ((t0,()),(),(r17,()))
def q138_l7_outs:List (Ex × Ann):=[((.exit 2),{ env:=[(0,.ty .str),(3,.cst (.row 17 .whole))],stk:=[],bxs:=[(17,.row (.int .u8) false)] })]
def q138_l7 (t0:ByteArray):Nat→(List Int)→Option (outDen q138_l7_outs)
 | 0,_=>none
 | k + 1,r17 =>
  let v4:Bool:=(decide ((Int.tmod (r17.length:Int) (64:Int)) ≠ (56:Int)))
  bif v4 then
   bif (decide (r17.length + ([(0:Int)]:List Int).length≤appLim)) then q138_l7 t0 k (r17++([(0:Int)]:List Int)) else none
  else
   some ((t0,()),(),(r17,()))
def q138_l10_outs:List (Ex × Ann):=[((.exit 4),{ env:=[(3,.cst (.row 17 .whole))],stk:=[],bxs:=[(17,.row (.int .u8) false)] })]
def q138_l10 (t0:ByteArray):Nat→Int→(List Int)→Option (outDen q138_l10_outs)
 | 0,_,_=>none
 | k + 1,t5,r17 =>
  bif (decide (t5 ≥ (0:Int))) then
   let v8:Int:=(IntKind.wrap .i64 ((8:Int) * (t0.size:Int)))
   bif (decide (0≤(IntKind.wrap .i64 ((8:Int) * t5)))) then
    let v9:Int:=(shrV .i64 v8 (IntKind.wrap .i64 ((8:Int) * t5)))
    bif (decide (r17.length + ([(IntKind.wrap .u8 v9)]:List Int).length≤appLim)) then q138_l10 t0 k (IntKind.wrap .i64 (t5 - (1:Int))) (r17++([(IntKind.wrap .u8 v9)]:List Int)) else none
   else none
  else
   some ((),(),(r17,()))
def q138 (a0:ByteArray):Option ((List Int) × Unit) :=
 (q138_l3 a0 (((a0.size:Int) - (0:Int)).toNat + 1) (0:Int) []).bind fun o1 =>
 let u2:ByteArray:=o1.1.1
 let u3:(List Int):=o1.2.2.1
 bif (decide (u3.length + ([(128:Int)]:List Int).length≤appLim)) then
  (q138_l7 u2 ((64:Nat)) (u3++([(128:Int)]:List Int))).bind fun o5 =>
  let u6:ByteArray:=o5.1.1
  let u7:(List Int):=o5.2.2.1
  (q138_l10 u6 (((7:Int) + 1).toNat + 1) (7:Int) u7).bind fun o10 =>
  let u11:(List Int):=o10.2.2.1
  some (u11,())
 else none
def q139_l3_outs:List (Ex × Ann):=[((.exit 0),{ env:=[(0,.ty (.sl (.int .u32))),(5,.cst (.row 58 .whole))],stk:=[],bxs:=[(58,.row (.int .u32) false)] })]
def q139_l3 (t0:(List Int)) (t1:(List Int)):Nat→Int→(List Int)→Option (outDen q139_l3_outs)
 | 0,_,_=>none
 | k + 1,t6,r58 =>
  bif (decide (t6 < (16:Int))) then
   bif (inR (IntKind.wrap .i64 ((4:Int) * t6)) t1.length) then
    let v1:Int:=(at_ (.int .u8) t1 (IntKind.wrap .i64 ((4:Int) * t6)))
    let v2:Int:=(shlV .u32 (IntKind.wrap .u32 v1) (24:Int))
    let v3:Int:=(IntKind.wrap .i64 ((IntKind.wrap .i64 ((4:Int) * t6)) + (1:Int)))
    bif (inR v3 t1.length) then
     let v4:Int:=(IntKind.wrap .u32 (at_ (.int .u8) t1 v3))
     let v5:Int:=(IntKind.wrap .i64 ((IntKind.wrap .i64 ((4:Int) * t6)) + (2:Int)))
     bif (inR v5 t1.length) then
      let v6:Int:=(IntKind.wrap .u32 (at_ (.int .u8) t1 v5))
      let v7:Int:=(orV .u32 (orV .u32 v2 (shlV .u32 v4 (16:Int))) (shlV .u32 v6 (8:Int)))
      let v8:Int:=(IntKind.wrap .i64 ((IntKind.wrap .i64 ((4:Int) * t6)) + (3:Int)))
      bif (inR v8 t1.length) then
       let v9:Int:=(IntKind.wrap .u32 (at_ (.int .u8) t1 v8))
       bif (decide (r58.length + ([(orV .u32 v7 v9)]:List Int).length≤appLim)) then q139_l3 t0 t1 k (IntKind.wrap .i64 (t6 + (1:Int))) (r58++([(orV .u32 v7 v9)]:List Int)) else none
      else none
     else none
    else none
   else none
  else
   some ((t0,()),(),(r58,()))
def q139_l7_outs:List (Ex × Ann):=[((.exit 2),{ env:=[(0,.ty (.sl (.int .u32))),(5,.cst (.row 58 .whole))],stk:=[],bxs:=[(58,.row (.int .u32) false)] })]
def q139_l7 (t0:(List Int)):Nat→Int→(List Int)→Option (outDen q139_l7_outs)
 | 0,_,_=>none
 | k + 1,t7,r58 =>
  bif (decide (t7 < (64:Int))) then
   bif (inR (IntKind.wrap .i64 (t7 - (15:Int))) r58.length) then
    let v13:Int:=(at_ (.int .u32) r58 (IntKind.wrap .i64 (t7 - (15:Int))))
    (q192 v13 (7:Int)).bind fun y14 =>
    bif (inR (IntKind.wrap .i64 (t7 - (15:Int))) r58.length) then
     let v15:Int:=(at_ (.int .u32) r58 (IntKind.wrap .i64 (t7 - (15:Int))))
     (q192 v15 (18:Int)).bind fun y16 =>
     bif (inR (IntKind.wrap .i64 (t7 - (15:Int))) r58.length) then
      let v17:Int:=(at_ (.int .u32) r58 (IntKind.wrap .i64 (t7 - (15:Int))))
      let v18:Int:=(xorV .u32 (xorV .u32 y14.1 y16.1) (shrV .u32 v17 (3:Int)))
      bif (inR (IntKind.wrap .i64 (t7 - (2:Int))) r58.length) then
       let v19:Int:=(at_ (.int .u32) r58 (IntKind.wrap .i64 (t7 - (2:Int))))
       (q192 v19 (17:Int)).bind fun y20 =>
       bif (inR (IntKind.wrap .i64 (t7 - (2:Int))) r58.length) then
        let v21:Int:=(at_ (.int .u32) r58 (IntKind.wrap .i64 (t7 - (2:Int))))
        (q192 v21 (19:Int)).bind fun y22 =>
        bif (inR (IntKind.wrap .i64 (t7 - (2:Int))) r58.length) then
         let v23:Int:=(at_ (.int .u32) r58 (IntKind.wrap .i64 (t7 - (2:Int))))
         let v24:Int:=(xorV .u32 (xorV .u32 y20.1 y22.1) (shrV .u32 v23 (10:Int)))
         bif (inR (IntKind.wrap .i64 (t7 - (16:Int))) r58.length) then
          let v25:Int:=(at_ (.int .u32) r58 (IntKind.wrap .i64 (t7 - (16:Int))))
          bif (inR (IntKind.wrap .i64 (t7 - (7:Int))) r58.length) then
           let v26:Int:=(at_ (.int .u32) r58 (IntKind.wrap .i64 (t7 - (7:Int))))
           let v27:Int:=(IntKind.wrap .u32 ((IntKind.wrap .u32 (v25 + v18)) + v26))
           bif (decide (r58.length + ([(IntKind.wrap .u32 (v27 + v24))]:List Int).length≤appLim)) then q139_l7 t0 k (IntKind.wrap .i64 (t7 + (1:Int))) (r58++([(IntKind.wrap .u32 (v27 + v24))]:List Int)) else none
          else none
         else none
        else none
       else none
      else none
     else none
    else none
   else none
  else
   some ((t0,()),(),(r58,()))
def q139_l16_outs:List (Ex × Ann):=[((.exit 4),{ env:=[(0,.ty (.sl (.int .u32))),(11,.ty (.sl (.int .u32)))],stk:=[],bxs:=[] })]
def q139_l16 (t0:(List Int)) (t10:(List Int)) (r58:(List Int)):Nat→(List Int)→Int→Option (outDen q139_l16_outs)
 | 0,_,_=>none
 | k + 1,t11,t12 =>
  bif (decide (t12 < (64:Int))) then
   bif (inR (0:Int) t11.length) then
    bif (inR (4:Int) t11.length) then
     bif (inR (7:Int) t11.length) then
      (q192 (at_ (.int .u32) t11 (4:Int)) (6:Int)).bind fun y32 =>
      (q192 (at_ (.int .u32) t11 (4:Int)) (11:Int)).bind fun y33 =>
      (q192 (at_ (.int .u32) t11 (4:Int)) (25:Int)).bind fun y34 =>
      let v35:Int:=(xorV .u32 (xorV .u32 y32.1 y33.1) y34.1)
      let v36:Int:=(IntKind.wrap .u32 ((at_ (.int .u32) t11 (7:Int)) + v35))
      bif (inR (5:Int) t11.length) then
       let v37:Int:=(andV .u32 (at_ (.int .u32) t11 (4:Int)) (at_ (.int .u32) t11 (5:Int)))
       let v38:Int:=(xorV .u32 (if IntKind.signed .u32 then -1 else IntKind.max .u32) (at_ (.int .u32) t11 (4:Int)))
       bif (inR (6:Int) t11.length) then
        let v39:Int:=(andV .u32 v38 (at_ (.int .u32) t11 (6:Int)))
        let v40:Int:=(IntKind.wrap .u32 (v36 + (xorV .u32 v37 v39)))
        bif (inR t12 t10.length) then
         let v41:Int:=(IntKind.wrap .u32 (v40 + (at_ (.int .u32) t10 t12)))
         bif (inR t12 r58.length) then
          let v42:Int:=(IntKind.wrap .u32 (v41 + (at_ (.int .u32) r58 t12)))
          (q192 (at_ (.int .u32) t11 (0:Int)) (2:Int)).bind fun y43 =>
          (q192 (at_ (.int .u32) t11 (0:Int)) (13:Int)).bind fun y44 =>
          (q192 (at_ (.int .u32) t11 (0:Int)) (22:Int)).bind fun y45 =>
          let v46:Int:=(xorV .u32 (xorV .u32 y43.1 y44.1) y45.1)
          bif (inR (1:Int) t11.length) then
           let v47:Int:=(andV .u32 (at_ (.int .u32) t11 (0:Int)) (at_ (.int .u32) t11 (1:Int)))
           bif (inR (2:Int) t11.length) then
            let v48:Int:=(andV .u32 (at_ (.int .u32) t11 (0:Int)) (at_ (.int .u32) t11 (2:Int)))
            bif (inR (1:Int) t11.length) then
             bif (inR (2:Int) t11.length) then
              let v49:Int:=(andV .u32 (at_ (.int .u32) t11 (1:Int)) (at_ (.int .u32) t11 (2:Int)))
              let v50:Int:=(IntKind.wrap .u32 (v46 + (xorV .u32 (xorV .u32 v47 v48) v49)))
              bif (inR (1:Int) t11.length) then
               bif (inR (2:Int) t11.length) then
                bif (inR (3:Int) t11.length) then
                 let v51:Int:=(IntKind.wrap .u32 ((at_ (.int .u32) t11 (3:Int)) + v42))
                 bif (inR (5:Int) t11.length) then bif (inR (6:Int) t11.length) then q139_l16 t0 t10 r58 k ([(IntKind.wrap .u32 (v42 + v50)),(at_ (.int .u32) t11 (0:Int)),(at_ (.int .u32) t11 (1:Int)),(at_ (.int .u32) t11 (2:Int)),v51,(at_ (.int .u32) t11 (4:Int)),(at_ (.int .u32) t11 (5:Int)),(at_ (.int .u32) t11 (6:Int))]:List Int) (IntKind.wrap .i64 (t12 + (1:Int))) else none else none
                else none
               else none
              else none
             else none
            else none
           else none
          else none
         else none
        else none
       else none
      else none
     else none
    else none
   else none
  else
   some ((t0,t11,()),(),())
def q139_l25_outs:List (Ex × Ann):=[((.exit 6),{ env:=[(17,.cst (.row 236 .whole))],stk:=[],bxs:=[(236,.row (.int .u32) false)] })]
def q139_l25 (t0:(List Int)) (t11:(List Int)):Nat→Int→(List Int)→Option (outDen q139_l25_outs)
 | 0,_,_=>none
 | k + 1,t18,r236 =>
  bif (decide (t18 < (8:Int))) then
   bif (inR t18 t0.length) then
    bif (inR t18 t11.length) then
     let v55:Int:=(IntKind.wrap .u32 ((at_ (.int .u32) t0 t18) + (at_ (.int .u32) t11 t18)))
     bif (decide (r236.length + ([v55]:List Int).length≤appLim)) then q139_l25 t0 t11 k (IntKind.wrap .i64 (t18 + (1:Int))) (r236++([v55]:List Int)) else none
    else none
   else none
  else
   some ((),(),(r236,()))
def q139 (a0:(List Int)) (a1:(List Int)):Option ((List Int) × Unit) :=
 (q139_l3 a0 a1 (((16:Int) - (0:Int)).toNat + 1) (0:Int) []).bind fun o10 =>
 let u11:(List Int):=o10.1.1
 let u12:(List Int):=o10.2.2.1
 (q139_l7 u11 (((64:Int) - (16:Int)).toNat + 1) (16:Int) u12).bind fun o28 =>
 let u29:(List Int):=o28.1.1
 let u30:(List Int):=o28.2.2.1
 (q193 ).bind fun y31 =>
 bif (decide (u29.length≤appLim)) then
  (q139_l16 u29 y31.1 u30 (((64:Int) - (0:Int)).toNat + 1) u29 (0:Int)).bind fun o52 =>
  let u53:(List Int):=o52.1.1
  let u54:(List Int):=o52.1.2.1
  (q139_l25 u53 u54 (((8:Int) - (0:Int)).toNat + 1) (0:Int) []).bind fun o56 =>
  let u57:(List Int):=o56.2.2.1
  some (u57,())
 else none
def q89_l4_outs:List (Ex × Ann):=[((.exit 0),{ env:=[(3,.ty (.sl (.int .u32)))],stk:=[],bxs:=[] })]
def q89_l4 (t4:(List Int)):Nat→(List Int)→Int→Option (outDen q89_l4_outs)
 | 0,_,_=>none
 | k + 1,t3,t5 =>
  bif (decide (t5 < (t4.length:Int))) then
   bif (cutOk t4.length (some t5) (some (IntKind.wrap .i64 (t5 + (64:Int))))) then
    let v2:(List Int):=((t4.take (Int.toNat (IntKind.wrap .i64 (t5 + (64:Int))))).drop (Int.toNat t5))
    (q139 t3 v2).bind fun y3 =>
    q89_l4 t4 k y3.1 (IntKind.wrap .i64 (t5 + (64:Int)))
   else none
  else
   some ((t3,()),(),())
def q89_l9_outs:List (Ex × Ann):=[((.exit 2),{ env:=[(6,.cst (.row 53 .whole))],stk:=[],bxs:=[(53,.row (.int .u8) false)] })]
def q89_l9 (t3:(List Int)):Nat→Int→(List Int)→Option (outDen q89_l9_outs)
 | 0,_,_=>none
 | k + 1,t7,r53 =>
  bif (decide (t7 < (8:Int))) then
   bif (inR t7 t3.length) then
    let v6:Int:=(shrV .u32 (at_ (.int .u32) t3 t7) (24:Int))
    bif (inR t7 t3.length) then
     let v7:Int:=(shrV .u32 (at_ (.int .u32) t3 t7) (16:Int))
     bif (inR t7 t3.length) then
      let v8:Int:=(shrV .u32 (at_ (.int .u32) t3 t7) (8:Int))
      bif (inR t7 t3.length) then
       let v9:Int:=(IntKind.wrap .u8 (at_ (.int .u32) t3 t7))
       bif (decide (r53.length + ([(IntKind.wrap .u8 v6),(IntKind.wrap .u8 v7),(IntKind.wrap .u8 v8),v9]:List Int).length≤appLim)) then q89_l9 t3 k (IntKind.wrap .i64 (t7 + (1:Int))) (r53++([(IntKind.wrap .u8 v6),(IntKind.wrap .u8 v7),(IntKind.wrap .u8 v8),v9]:List Int)) else none
      else none
     else none
    else none
   else none
  else
   some ((),(),(r53,()))
def q89 (a0:ByteArray):Option (ByteArray × Unit) :=
 (q138 a0).bind fun y1 =>
 (q89_l4 y1.1 (((y1.1.length:Int) - (0:Int)).toNat + 1) ([(1779033703:Int),(3144134277:Int),(1013904242:Int),(2773480762:Int),(1359893119:Int),(2600822924:Int),(528734635:Int),(1541459225:Int)]:List Int) (0:Int)).bind fun o4 =>
 let u5:(List Int):=o4.1.1
 (q89_l9 u5 (((8:Int) - (0:Int)).toNat + 1) (0:Int) []).bind fun o10 =>
 let u11:(List Int):=o10.2.2.1
 some ((ofBytes u11),())
end Go.V.G
namespace Go.V.G
open Go.Proofs
theorem wrapS {x:Int} (h1:-9223372036854775808≤x) (h2:x≤9223372036854775807):IntKind.wrap .i64 x = x:=by
 unfold IntKind.wrap
 simp only [IntKind.signed,IntKind.bits,Bool.true_and,decide_eq_true_eq,show (2:Int) ^ 64 = 18446744073709551616 from rfl,show (2:Int) ^ (64 - 1) = 9223372036854775808 from rfl]
 split <;> omega
theorem inR_of {i:Int} {n:Nat} (h1:0≤i) (h2:i < n):inR i n = true:=by
 unfold inR
 simp [h1,h2]
theorem decT {p:Prop} [Decidable p] (h:p):decide p = true:=zT h
theorem decF {p:Prop} [Decidable p] (h:¬ p):decide p = false:=zF h
theorem at_append {T:Ty} {l m:List T.den} {i:Int} (h:i.toNat < l.length):at_ T (l++m) i = at_ T l i:=by
 unfold at_
 rw [List.getD_eq_getElem?_getD,List.getD_eq_getElem?_getD,List.getElem?_append_left h]
theorem orV_comm (k:IntKind) (x y:Int):orV k x y = orV k y x:=by
 unfold orV
 rw [BitVec.or_comm]
theorem wrap_u32 (x:Int):IntKind.wrap .u32 x = x % 4294967296:=by
 unfold IntKind.wrap
 simp only [IntKind.signed,IntKind.bits]
 simp
theorem xor_zero_or (x y:Int):xorV .u32 0 (orV .u32 x y) = orV .u32 x y:=by
 unfold xorV orV
 simp only [wrap_u32,IntKind.bits]
 have hb:∀ b:BitVec 32,(BitVec.ofInt 32 0 ^^^ BitVec.ofInt 32 ((b.toNat:Int) % 4294967296)).toNat = b.toNat:=by
  intro b
  have h1:BitVec.ofInt 32 0 = 0#32:=rfl
  have hlt:=b.isLt
  have h2:((b.toNat:Int) % 4294967296) = b.toNat:=by omega
  rw [h1,BitVec.zero_xor,h2,BitVec.ofInt_natCast,BitVec.ofNat_toNat,BitVec.setWidth_eq]
 exact congrArg (fun n:Nat=>(n:Int) % 4294967296) (hb (BitVec.ofInt 32 x ||| BitVec.ofInt 32 y))
def rotr (x:Int) (n m:Int):Int:=orV .u32 (shrV .u32 x n) (shlV .u32 x m)
theorem mixed2 (x:Int):(f162 x [7,18] = some (xorV .u32 (rotr x 7 25) (rotr x 18 14),()))∧(f162 x [17,19] = some (xorV .u32 (rotr x 17 15) (rotr x 19 13),())):=by
 constructor
 ·have h:f162 x [7,18] = some (xorV .u32 (xorV .u32 0 (orV .u32 (shlV .u32 x 25) (shrV .u32 x 7))) (orV .u32 (shlV .u32 x 14) (shrV .u32 x 18)),()):=by kernel_rfl
  rw [h,xor_zero_or,orV_comm,orV_comm .u32 (shlV .u32 x 14)]
  rfl
 ·have h:f162 x [17,19] = some (xorV .u32 (xorV .u32 0 (orV .u32 (shlV .u32 x 15) (shrV .u32 x 17))) (orV .u32 (shlV .u32 x 13) (shrV .u32 x 19)),()):=by kernel_rfl
  rw [h,xor_zero_or,orV_comm,orV_comm .u32 (shlV .u32 x 13)]
  rfl
theorem mixed3 (x:Int):(f162 x [6,11,25] = some (xorV .u32 (xorV .u32 (rotr x 6 26) (rotr x 11 21)) (rotr x 25 7),()))∧(f162 x [2,13,22] = some (xorV .u32 (xorV .u32 (rotr x 2 30) (rotr x 13 19)) (rotr x 22 10),())):=by
 constructor
 ·have h:f162 x [6,11,25] = some (xorV .u32 (xorV .u32 (xorV .u32 0 (orV .u32 (shlV .u32 x 26) (shrV .u32 x 6))) (orV .u32 (shlV .u32 x 21) (shrV .u32 x 11))) (orV .u32 (shlV .u32 x 7) (shrV .u32 x 25)),()):=by kernel_rfl
  rw [h,xor_zero_or,orV_comm,orV_comm .u32 (shlV .u32 x 21),orV_comm .u32 (shlV .u32 x 7)]
  rfl
 ·have h:f162 x [2,13,22] = some (xorV .u32 (xorV .u32 (xorV .u32 0 (orV .u32 (shlV .u32 x 30) (shrV .u32 x 2))) (orV .u32 (shlV .u32 x 19) (shrV .u32 x 13))) (orV .u32 (shlV .u32 x 10) (shrV .u32 x 22)),()):=by kernel_rfl
  rw [h,xor_zero_or,orV_comm,orV_comm .u32 (shlV .u32 x 19),orV_comm .u32 (shlV .u32 x 10)]
  rfl
theorem rot_eq (x:Int):q192 x 7 = some (rotr x 7 25,())∧q192 x 18 = some (rotr x 18 14,())∧q192 x 17 = some (rotr x 17 15,())∧q192 x 19 = some (rotr x 19 13,()) ∧
  q192 x 6 = some (rotr x 6 26,())∧q192 x 11 = some (rotr x 11 21,())∧q192 x 25 = some (rotr x 25 7,())∧q192 x 2 = some (rotr x 2 30,())∧q192 x 13 = some (rotr x 13 19,())∧q192 x 22 = some (rotr x 22 10,()):=by
 refine ⟨?_,?_,?_,?_,?_,?_,?_,?_,?_,?_⟩ <;> kernel_rfl
theorem bindE {α β:Type} {o:Option α} {a:α} {f:α→Option β} {r:Option β} (h:o = some a) (h2:f a = r):o.bind f = r:=by rw [h]; exact h2
theorem rep_succ (n:Nat) (h:n < 64):List.replicate (64 - n) (0:Int) = 0 :: List.replicate (64 - (n + 1)) 0:=by
 have:64 - n = (64 - (n + 1)) + 1:=by omega
 rw [this,List.replicate_succ]
theorem set_mid (r s:List Int) (x y:Int) (n:Nat) (h:r.length = n):(r++y :: s).set n x = (r++[x])++s:=by
 subst h
 induction r with
 | nil=>rfl
 | cons a r ih=>simp
theorem sched1 (c h:List Int) (hc:c.length = 64):∀ (m n:Nat) (r:List Int),n + m = 16→r.length = n →
  ∃ r':List Int,r'.length = 16∧f161_l2 c (m + 1) n (r++List.replicate (64 - n) 0) = some ((),(),((r'++List.replicate 48 0,()),()))∧q139_l3 h c (m + 1) n r = some ((h,()),(),(r',()))
 | 0,n,r,hn,hr=>by
  have:n = 16:=by omega
  subst this
  refine ⟨r,hr,?_,?_⟩
  ·rfl
  ·rfl
 | m + 1,n,r,hn,hr=>by
  have hn':n < 16:=by omega
  have e0:IntKind.wrap .i64 ((4:Int) * (n:Int)) = 4 * n:=wrapS (by omega) (by omega)
  have e1:IntKind.wrap .i64 ((4:Int) * (n:Int) + 1) = 4 * n + 1:=wrapS (by omega) (by omega)
  have e2:IntKind.wrap .i64 ((4:Int) * (n:Int) + 2) = 4 * n + 2:=wrapS (by omega) (by omega)
  have e3:IntKind.wrap .i64 ((4:Int) * (n:Int) + 3) = 4 * n + 3:=wrapS (by omega) (by omega)
  have e4:IntKind.wrap .i64 ((n:Int) + 1) = ((n + 1:Nat):Int):=by rw [wrapS (by omega) (by omega)]; omega
  have i0:inR ((4:Int) * n) 64 = true:=inR_of (by omega) (by omega)
  have i1:inR ((4:Int) * n + 1) 64 = true:=inR_of (by omega) (by omega)
  have i2:inR ((4:Int) * n + 2) 64 = true:=inR_of (by omega) (by omega)
  have i3:inR ((4:Int) * n + 3) 64 = true:=inR_of (by omega) (by omega)
  have i4:inR (n:Int) 64 = true:=inR_of (by omega) (by omega)
  obtain ⟨r',k1,k2,k3⟩:=sched1 c h hc m (n + 1) (r++[_]) (by omega) (by simp [hr])
  refine ⟨r',k1,?_,?_⟩
  ·rw [f161_l2]
   simp only [decT (show (n:Int) < 16 by omega),cond_true,e0,e1,e2,e3,e4,hc,i0,i1,i2,i3,i4,Int.toNat_natCast]
   rw [rep_succ n (by omega),set_mid _ _ _ _ n hr]
   exact k2
  ·rw [q139_l3]
   have l:(r.length + 1≤appLim):=by rw [hr]; unfold appLim; omega
   simp only [decT (show (n:Int) < 16 by omega),cond_true,e0,e1,e2,e3,e4,hc,i0,i1,i2,i3,List.length_singleton,decT l]
   exact k3
theorem at_tail {l:List Int} {i:Int} {z:List Int} (h:i.toNat < l.length):at_ (.int .u32) (l++z) i = at_ (.int .u32) l i:=at_append (T:=.int .u32) h
theorem sched2 (h:List Int):∀ (m n:Nat) (r:List Int),n + m = 64→16≤n→r.length = n →
  ∃ r':List Int,r'.length = 64∧f161_l7 (m + 1) n (r++List.replicate (64 - n) 0) = some ((),(),((r',()),()))∧q139_l7 h (m + 1) n r = some ((h,()),(),(r',()))
 | 0,n,r,hn,h16,hr=>by
  have:n = 64:=by omega
  subst this
  refine ⟨r,hr,?_,?_⟩
  ·have:r++List.replicate (64 - 64) (0:Int) = r:=by simp
   rw [this]
   rfl
  ·rfl
 | m + 1,n,r,hn,h16,hr=>by
  have hn':n < 64:=by omega
  have e1:IntKind.wrap .i64 ((n:Int) - 15) = n - 15:=wrapS (by omega) (by omega)
  have e2:IntKind.wrap .i64 ((n:Int) - 2) = n - 2:=wrapS (by omega) (by omega)
  have e3:IntKind.wrap .i64 ((n:Int) - 16) = n - 16:=wrapS (by omega) (by omega)
  have e5:IntKind.wrap .i64 ((n:Int) - 7) = n - 7:=wrapS (by omega) (by omega)
  have e4:IntKind.wrap .i64 ((n:Int) + 1) = ((n + 1:Nat):Int):=by rw [wrapS (by omega) (by omega)]; rfl
  have i1:inR ((n:Int) - 15) 64 = true:=inR_of (by omega) (by omega)
  have i2:inR ((n:Int) - 2) 64 = true:=inR_of (by omega) (by omega)
  have i3:inR ((n:Int) - 16) 64 = true:=inR_of (by omega) (by omega)
  have i5:inR ((n:Int) - 7) 64 = true:=inR_of (by omega) (by omega)
  have i4:inR (n:Int) 64 = true:=inR_of (by omega) (by omega)
  have j1:inR ((n:Int) - 15) n = true:=inR_of (by omega) (by omega)
  have j2:inR ((n:Int) - 2) n = true:=inR_of (by omega) (by omega)
  have j3:inR ((n:Int) - 16) n = true:=inR_of (by omega) (by omega)
  have j5:inR ((n:Int) - 7) n = true:=inR_of (by omega) (by omega)
  have a1:at_ (.int .u32) (r++List.replicate (64 - n) 0) ((n:Int) - 15) = at_ (.int .u32) r ((n:Int) - 15):=at_tail (by omega)
  have a2:at_ (.int .u32) (r++List.replicate (64 - n) 0) ((n:Int) - 2) = at_ (.int .u32) r ((n:Int) - 2):=at_tail (by omega)
  have a3:at_ (.int .u32) (r++List.replicate (64 - n) 0) ((n:Int) - 16) = at_ (.int .u32) r ((n:Int) - 16):=at_tail (by omega)
  have a5:at_ (.int .u32) (r++List.replicate (64 - n) 0) ((n:Int) - 7) = at_ (.int .u32) r ((n:Int) - 7):=at_tail (by omega)
  obtain ⟨r',k1,k2,k3⟩:=sched2 h m (n + 1) (r++[_]) (by omega) (by omega) (by simp [hr])
  refine ⟨r',k1,?_,?_⟩
  ·rw [f161_l7]
   simp only [decT (show (n:Int) < 64 by omega),cond_true,e1,e2,e3,e4,e5,i1,i2,i3,i4,i5,a1,a2,a3,a5,(mixed2 _).1,(mixed2 _).2,Option.bind_some,Int.toNat_natCast]
   rw [rep_succ n (by omega),set_mid _ _ _ _ n hr]
   exact k2
  ·rw [q139_l7]
   have l:(r.length + 1≤appLim):=by rw [hr]; unfold appLim; omega
   simp only [decT (show (n:Int) < 64 by omega),cond_true,e1,e2,e3,e4,e5,hr,j1,j2,j3,j5,(rot_eq _).1,(rot_eq _).2.1,(rot_eq _).2.2.1,(rot_eq _).2.2.2.1,Option.bind_some,List.length_singleton]
   rw [hr] at l
   simp only [decT l,cond_true]
   exact k3
theorem eight {l:List Int} (h:l.length = 8):∃ a b c d e f g i,l = [a,b,c,d,e,f,g,i]:=by
 match l,h with
 | [a,b,c,d,e,f,g,i],_=>exact ⟨a,b,c,d,e,f,g,i,rfl⟩
theorem sha_rounds (h K b3 w:List Int) (hK:K.length = 64) (hw:w.length = 64):∀ (m n:Nat) (v:List Int),n + m = 64→v.length = 8 →
  ∃ v':List Int,v'.length = 8∧f116_l3 K b3 w (m + 1) n v = some ((),((),()),((b3,()),(v',()),()))∧q139_l16 h K w (m + 1) v n = some ((h,v',()),(),())
 | 0,n,v,hn,hv=>by
  have:n = 64:=by omega
  subst this
  exact ⟨v,hv,rfl,rfl⟩
 | m + 1,n,v,hn,hv=>by
  have hn':n < 64:=by omega
  obtain ⟨a,b,c,d,e,f,g,i,rfl⟩:=eight hv
  have e4:IntKind.wrap .i64 ((n:Int) + 1) = ((n + 1:Nat):Int):=by rw [wrapS (by omega) (by omega)]; rfl
  have i4:inR (n:Int) 64 = true:=inR_of (by omega) (by omega)
  obtain ⟨v',k1,k2,k3⟩:=sha_rounds h K b3 w hK hw m (n + 1) [_,a,b,c,_,e,f,g] (by omega) rfl
  refine ⟨v',k1,?_,?_⟩
  ·rw [f116_l3]
   simp only [decT (show (n:Int) < 64 by omega),cond_true,i4,(mixed3 _).1,(mixed3 _).2,Option.bind_some,e4]
   exact k2
  ·rw [q139_l16]
   simp only [decT (show (n:Int) < 64 by omega),cond_true,hK,hw,i4,(rot_eq _).2.2.2.2.1,(rot_eq _).2.2.2.2.2.1,(rot_eq _).2.2.2.2.2.2.1,(rot_eq _).2.2.2.2.2.2.2.1,(rot_eq _).2.2.2.2.2.2.2.2.1,(rot_eq _).2.2.2.2.2.2.2.2.2,Option.bind_some,e4]
   exact k3
theorem added (h v:List Int) (hh:h.length = 8) (hv:v.length = 8):∃ r:List Int,r.length = 8∧f116_l12 v 9 0 h = some ((),((),()),((r,()),()))∧q139_l25 h v 9 0 [] = some ((),(),(r,())):=by
 obtain ⟨a,b,c,d,e,f,g,i,rfl⟩:=eight hh
 obtain ⟨a',b',c',d',e',f',g',i',rfl⟩:=eight hv
 exact ⟨[IntKind.wrap .u32 (a + a'),IntKind.wrap .u32 (b + b'),IntKind.wrap .u32 (c + c'),IntKind.wrap .u32 (d + d'),IntKind.wrap .u32 (e + e'),IntKind.wrap .u32 (f + f'),IntKind.wrap .u32 (g + g'),IntKind.wrap .u32 (i + i')],rfl,by kernel_rfl,by kernel_rfl⟩
theorem block_eq (h c:List Int) (hh:h.length = 8) (hc:c.length = 64):∃ r:List Int,r.length = 8∧f116 c h = some ((),((r,()),()))∧q139 h c = some (r,()):=by
 obtain ⟨w1,a1,a2,a3⟩:=sched1 c h hc 16 0 [] rfl rfl
 obtain ⟨w2,b1,b2,b3⟩:=sched2 h 48 16 w1 rfl (Nat.le_refl _) a1
 obtain ⟨v,c1,c2,c3⟩:=sha_rounds h roundTable h w2 (by kernel_rfl) b1 64 0 h rfl hh
 obtain ⟨r,d1,d2,d3⟩:=added h v hh c1
 refine ⟨r,d1,?_,?_⟩
 ·have e82:f161 c = some (w2,()):=by
   unfold f161
   exact bindE a2 (bindE b2 rfl)
  unfold f116
  exact bindE e82 (bindE c2 (bindE d2 rfl))
 ·unfold q139
  have e87:q193 = some (roundTable,()):=by kernel_rfl
  have l:h.length≤appLim:=by rw [hh]; unfold appLim; omega
  refine bindE a3 (bindE b3 (bindE e87 ?_))
  show (bif decide (h.length≤appLim) then _ else none) = _
  rw [decT l]
  exact bindE c3 (bindE d3 rfl)
theorem blocks_eq (b:List Int) (hb:b.length≤appLim):∀ (m k n:Nat) (h:List Int),n + 64 * m = b.length→m < k→h.length = 8 →
  ∃ r:List Int,r.length = 8∧f160_l1x b 64 k n h = some ((),((),(),()),((),(r,()),()))∧q89_l4 b k h n = some ((r,()),(),())
 | 0,0,n,h,_,hk,_=>by omega
 | 0,k + 1,n,h,hn,_,hh=>by
  refine ⟨h,hh,?_,?_⟩
  ·rw [f160_l1x]; rw [decF (by omega)]; rfl
  ·rw [q89_l4]; rw [decF (by omega)]; rfl
 | m + 1,0,n,h,_,hk,_=>by omega
 | m + 1,k + 1,n,h,hn,hk,hh=>by
  have hlim:b.length≤1073741824:=hb
  have e4:IntKind.wrap .i64 ((n:Int) + 64) = ((n + 64:Nat):Int):=by rw [wrapS (by omega) (by omega)]; rfl
  have hc:((b.take (n + 64)).drop n).length = 64:=by rw [List.length_drop,List.length_take]; omega
  obtain ⟨h',q1,q2,q3⟩:=block_eq h _ hh hc
  obtain ⟨r,k1,k2,k3⟩:=blocks_eq b hb m k (n + 64) h' (by omega) (by omega) q1
  have dl:((b.drop n).length:Int) = ((b.length - n:Nat):Int):=by rw [List.length_drop]
  refine ⟨r,k1,?_,?_⟩
  ·rw [f160_l1x]
   have c1:cutOk b.length (some (n:Int)) none = true:=by unfold cutOk; simp; omega
   have c2:cutOk b.length (some (n:Int)) (some ((n + 64:Nat):Int)) = true:=by unfold cutOk; simp only [Bool.and_eq_true,decide_eq_true_eq]; omega
   have c3:(if ((b.length - n:Nat):Int) < 64 then ((b.length - n:Nat):Int) else 64) = 64:=by split <;> omega
   simp only [decT (show (n:Int) < b.length by omega),cond_true,c1,Int.toNat_natCast,dl,c3,e4,c2,decide_true,Bool.and_self,q2,Option.bind_some]
   exact k2
  ·rw [q89_l4]
   have c2:cutOk b.length (some (n:Int)) (some ((n + 64:Nat):Int)) = true:=by unfold cutOk; simp only [Bool.and_eq_true,decide_eq_true_eq]; omega
   simp only [decT (show (n:Int) < b.length by omega),cond_true,Int.toNat_natCast,e4,c2,q3,Option.bind_some]
   exact k3
theorem out_eq (h:List Int) (hh:h.length = 8):∃ r:List Int,r.length = 32∧f117 h = some (ofBytes r,())∧q89_l9 h 9 0 [] = some ((),(),(r,())):=by
 obtain ⟨a,b,c,d,e,f,g,i,rfl⟩:=eight hh
 have hx:∃ r:List Int,q89_l9 [a,b,c,d,e,f,g,i] 9 0 [] = some ((),(),(r,()))∧r.length = 32∧f117 [a,b,c,d,e,f,g,i] = some (ofBytes r,()):=by
  refine ⟨[IntKind.wrap .u8 (shrV .u32 a 24),IntKind.wrap .u8 (shrV .u32 a 16),IntKind.wrap .u8 (shrV .u32 a 8),IntKind.wrap .u8 a,IntKind.wrap .u8 (shrV .u32 b 24),IntKind.wrap .u8 (shrV .u32 b 16),IntKind.wrap .u8 (shrV .u32 b 8),IntKind.wrap .u8 b,
   IntKind.wrap .u8 (shrV .u32 c 24),IntKind.wrap .u8 (shrV .u32 c 16),IntKind.wrap .u8 (shrV .u32 c 8),IntKind.wrap .u8 c,IntKind.wrap .u8 (shrV .u32 d 24),IntKind.wrap .u8 (shrV .u32 d 16),IntKind.wrap .u8 (shrV .u32 d 8),IntKind.wrap .u8 d,
   IntKind.wrap .u8 (shrV .u32 e 24),IntKind.wrap .u8 (shrV .u32 e 16),IntKind.wrap .u8 (shrV .u32 e 8),IntKind.wrap .u8 e,IntKind.wrap .u8 (shrV .u32 f 24),IntKind.wrap .u8 (shrV .u32 f 16),IntKind.wrap .u8 (shrV .u32 f 8),IntKind.wrap .u8 f,
   IntKind.wrap .u8 (shrV .u32 g 24),IntKind.wrap .u8 (shrV .u32 g 16),IntKind.wrap .u8 (shrV .u32 g 8),IntKind.wrap .u8 g,IntKind.wrap .u8 (shrV .u32 i 24),IntKind.wrap .u8 (shrV .u32 i 16),IntKind.wrap .u8 (shrV .u32 i 8),IntKind.wrap .u8 i],by kernel_rfl,rfl,?_⟩
  have h0:∀ y:Int,shrV .u32 y 0 = y:=fun y=>by simp [shrV,IntKind.bits]
  have hz:f117 [a,b,c,d,e,f,g,i] = some (ofBytes [IntKind.wrap .u8 (shrV .u32 a 24),IntKind.wrap .u8 (shrV .u32 a 16),IntKind.wrap .u8 (shrV .u32 a 8),IntKind.wrap .u8 (shrV .u32 a 0),IntKind.wrap .u8 (shrV .u32 b 24),IntKind.wrap .u8 (shrV .u32 b 16),IntKind.wrap .u8 (shrV .u32 b 8),IntKind.wrap .u8 (shrV .u32 b 0),
   IntKind.wrap .u8 (shrV .u32 c 24),IntKind.wrap .u8 (shrV .u32 c 16),IntKind.wrap .u8 (shrV .u32 c 8),IntKind.wrap .u8 (shrV .u32 c 0),IntKind.wrap .u8 (shrV .u32 d 24),IntKind.wrap .u8 (shrV .u32 d 16),IntKind.wrap .u8 (shrV .u32 d 8),IntKind.wrap .u8 (shrV .u32 d 0),
   IntKind.wrap .u8 (shrV .u32 e 24),IntKind.wrap .u8 (shrV .u32 e 16),IntKind.wrap .u8 (shrV .u32 e 8),IntKind.wrap .u8 (shrV .u32 e 0),IntKind.wrap .u8 (shrV .u32 f 24),IntKind.wrap .u8 (shrV .u32 f 16),IntKind.wrap .u8 (shrV .u32 f 8),IntKind.wrap .u8 (shrV .u32 f 0),
   IntKind.wrap .u8 (shrV .u32 g 24),IntKind.wrap .u8 (shrV .u32 g 16),IntKind.wrap .u8 (shrV .u32 g 8),IntKind.wrap .u8 (shrV .u32 g 0),IntKind.wrap .u8 (shrV .u32 i 24),IntKind.wrap .u8 (shrV .u32 i 16),IntKind.wrap .u8 (shrV .u32 i 8),IntKind.wrap .u8 (shrV .u32 i 0)],()):=by kernel_rfl
  rw [hz]
  simp only [h0]
 obtain ⟨r,h1,h2,h3⟩:=hx
 exact ⟨r,h2,h3,h1⟩
theorem toBytes_length (s:ByteArray):(toBytes s).length = s.size:=by
 unfold toBytes
 rw [List.length_map]
 exact Array.length_toList
theorem byteAt_eq (s:ByteArray) (n:Nat) (h:n < s.size):(toBytes s)[n]? = some (byteAt s n):=by
 have hl:n < s.data.toList.length:=by rw [Array.length_toList]; exact h
 unfold toBytes byteAt
 rw [List.getElem?_map,List.getElem?_eq_getElem hl,Option.map_some,Int.toNat_natCast,List.getD_eq_getElem?_getD,List.getElem?_eq_getElem hl]
 rfl
theorem copy_eq (s:ByteArray) (hs:s.size≤1000000):∀ (m n:Nat),n + m = s.size→q138_l3 s (m + 1) n ((toBytes s).take n) = some ((s,()),(),(toBytes s,()))
 | 0,n,hn=>by
  rw [q138_l3,decF (by omega)]
  have:(toBytes s).take n = toBytes s:=List.take_of_length_le (by rw [toBytes_length]; omega)
  rw [this]
  rfl
 | m + 1,n,hn=>by
  have e4:IntKind.wrap .i64 ((n:Int) + 1) = ((n + 1:Nat):Int):=by rw [wrapS (by omega) (by omega)]; rfl
  have hn2:n < (toBytes s).length:=by rw [toBytes_length]; omega
  have e5:(toBytes s).take n++[byteAt s n] = (toBytes s).take (n + 1):=by
   have h1:=byteAt_eq s n (by omega)
   rw [List.getElem?_eq_getElem hn2] at h1
   rw [List.take_succ_eq_append_getElem hn2,Option.some.inj h1]
  have l:((toBytes s).take n).length + 1≤appLim:=by rw [List.length_take]; unfold appLim; omega
  rw [q138_l3]
  simp only [decT (show (n:Int) < s.size by omega),cond_true,inR_of (show (0:Int)≤n by omega) (show (n:Int) < s.size by omega),List.length_singleton,decT l,e4,e5]
  exact copy_eq s hs m (n + 1) (by omega)
theorem tmod64 (r:List Int):Int.tmod (r.length:Int) 64 = ((r.length % 64:Nat):Int):=rfl
theorem pad1 (s:ByteArray) (b3:List Int):∀ (k:Nat) (r:List Int),(120 - r.length % 64) % 64 < k→r.length + (120 - r.length % 64) % 64≤appLim →
  ∃ r':List Int,r'.length = r.length + (120 - r.length % 64) % 64∧f97_l3 s b3 k r = some ((s,()),(),((b3,()),r',()))∧q138_l7 s k r = some ((s,()),(),(r',()))
 | 0,r,hk,_=>by omega
 | k + 1,r,hk,hl=>by
  have ht:=tmod64 r
  by_cases h56:r.length % 64 = 56
  ·have hn:¬ Int.tmod (r.length:Int) 64 ≠ 56:=by omega
   refine ⟨r,by omega,?_,?_⟩
   ·rw [f97_l3,decF hn]; rfl
   ·rw [q138_l7,decF hn]; rfl
  ·have h1:Int.tmod (r.length:Int) 64 ≠ 56:=by omega
   have l:r.length + 1≤appLim:=by omega
   have hlen:(r++[(0:Int)]).length = r.length + 1:=by simp
   obtain ⟨r',q1,q2,q3⟩:=pad1 s b3 k (r++[0]) (by rw [hlen]; omega) (by rw [hlen]; omega)
   refine ⟨r',by rw [q1,hlen]; omega,?_,?_⟩
   ·rw [f97_l3]
    simp only [decT h1,cond_true,List.length_singleton,decT l]
    exact q2
   ·rw [q138_l7]
    simp only [decT h1,cond_true,List.length_singleton,decT l]
    exact q3
theorem pad2 (s:ByteArray) (b3:List Int):∀ (m:Nat) (r:List Int),m≤8→r.length + m≤appLim →
  ∃ r':List Int,r'.length = r.length + m∧f97_l6 s b3 (m + 1) ((m:Int) - 1) r = some ((),(),((b3,()),r',()))∧q138_l10 s (m + 1) ((m:Int) - 1) r = some ((),(),(r',()))
 | 0,r,_,_=>⟨r,rfl,rfl,rfl⟩
 | m + 1,r,hm,hl=>by
  have e0:((m + 1:Nat):Int) - 1 = m:=by omega
  have e1:IntKind.wrap .i64 ((8:Int) * (m:Int)) = 8 * m:=wrapS (by omega) (by omega)
  have e2:IntKind.wrap .i64 ((m:Int) - 1) = m - 1:=wrapS (by omega) (by omega)
  have l:r.length + 1≤appLim:=by omega
  obtain ⟨r',q1,q2,q3⟩:=pad2 s b3 m (r++[IntKind.wrap .u8 (shrV .i64 (IntKind.wrap .i64 ((8:Int) * (s.size:Int))) (8 * (m:Int)))]) (by omega) (by rw [List.length_append,List.length_singleton]; omega)
  refine ⟨r',by rw [q1,List.length_append,List.length_singleton]; omega,?_,?_⟩
  ·rw [f97_l6,e0]
   simp only [decT (show (m:Int) ≥ 0 by omega),cond_true,e1,decT (show (0:Int)≤8 * m by omega),List.length_singleton,decT l,e2]
   exact q2
  ·rw [q138_l10,e0]
   simp only [decT (show (m:Int) ≥ 0 by omega),cond_true,e1,decT (show (0:Int)≤8 * m by omega),List.length_singleton,decT l,e2]
   exact q3
theorem sha_eq (s:ByteArray) (hs:s.size≤1000000):∃ r:List Int,r.length = 32∧f97 s = some (ofBytes r,())∧q89 s = some (ofBytes r,()):=by
 have hb:=toBytes_length s
 obtain ⟨h0,hh0⟩:∃ h0:List Int,h0 = [(1779033703:Int),(3144134277:Int),(1013904242:Int),(2773480762:Int),(1359893119:Int),(2600822924:Int),(528734635:Int),(1541459225:Int)]:=⟨_,rfl⟩
 have l1:(toBytes s).length + 1≤appLim:=by rw [hb]; unfold appLim; omega
 have hl1:(toBytes s++[(128:Int)]).length = s.size + 1:=by rw [List.length_append,hb]; rfl
 obtain ⟨r1,a1,a2,a3⟩:=pad1 s h0 64 (toBytes s++[128]) (by omega) (by rw [hl1]; unfold appLim; omega)
 rw [hl1] at a1
 obtain ⟨r2,b1,b2,b3⟩:=pad2 s h0 8 r1 (Nat.le_refl _) (by rw [a1]; unfold appLim; omega)
 have hm:∃ m,0 + 64 * m = r2.length:=⟨r2.length / 64,by rw [b1,a1]; omega⟩
 obtain ⟨m,hm⟩:=hm
 obtain ⟨h,c1,c2,c3⟩:=blocks_eq r2 (by rw [b1,a1]; unfold appLim; omega) m (r2.length + 1) 0 h0 hm (by omega) (by rw [hh0]; rfl)
 obtain ⟨r,d1,d2,d3⟩:=out_eq h c1
 have ec:(((r2.length:Int) - 0).toNat + 1) = r2.length + 1:=by omega
 refine ⟨r,d1,?_,?_⟩
 ·unfold f97
  simp only [List.length_singleton]
  rw [decT l1,cond_true,← hh0]
  refine bindE a2 (bindE b2 ?_)
  show (f160_l1x r2 64 (((r2.length:Int) - 0).toNat + 1) 0 h0).bind _ = _
  rw [ec]
  refine bindE c2 ?_
  exact bindE d2 rfl
 ·have e71:q138 s = some (r2,()):=by
   unfold q138
   have k1:q138_l3 s (((s.size:Int) - 0).toNat + 1) 0 [] = some ((s,()),(),(toBytes s,())):=by
    have:((s.size:Int) - 0).toNat + 1 = s.size + 1:=by omega
    rw [this]
    exact copy_eq s hs s.size 0 (by omega)
   refine bindE k1 ?_
   show (bif decide ((toBytes s).length + 1≤appLim) then _ else none) = _
   rw [decT l1,cond_true]
   exact bindE a3 (bindE b3 rfl)
  unfold q89
  refine bindE e71 ?_
  show (q89_l4 r2 (((r2.length:Int) - 0).toNat + 1) _ 0).bind _ = _
  rw [ec,← hh0]
  refine bindE c3 ?_
  exact bindE d3 rfl
end Go.V.G
namespace Go.V.G
open Go.Proofs
namespace TR
abbrev Ent:=Int × (ByteArray × Unit)
theorem ofBytes_size (r:List Int):(ofBytes r).size = r.length:=by
 unfold ofBytes
 show (List.toArray _).size = _
 rw [List.size_toArray,List.length_map]
def sha (s:ByteArray):ByteArray :=
 match f97 s with
 | some y=>y.1
 | none=>⟨#[]⟩
theorem sha_spec (s:ByteArray) (hs:s.size≤1000000):f97 s = some (sha s,())∧q89 s = some (sha s,())∧(sha s).size = 32:=by
 obtain ⟨r,h1,h2,h3⟩:=sha_eq s hs
 have e:sha s = ofBytes r:=by unfold sha; rw [h2]
 rw [e]
 exact ⟨h2,h3,by rw [ofBytes_size,h1]⟩
def zeroD:ByteArray:=ofBytes (List.replicate 32 0)
theorem zero_eq:f108 = some (zeroD,())∧f34 = some (zeroD,()):=by constructor <;> kernel_rfl
theorem zero_size:zeroD.size = 32:=by kernel_rfl
def emp:ByteArray:=⟨#[]⟩
structure Valid (l:List Ent):Prop where
 key:∀ e∈l,0≤e.1∧e.1 < 64
 val:∀ e∈l,e.2.1.size ≠ 0∧e.2.1.size≤65536
 asc:l.Pairwise (fun a b=>a.1 < b.1)
theorem asc_len:∀ (l:List Ent) (lo:Int),(∀ e∈l,lo≤e.1∧e.1 < 64)→l.Pairwise (fun a b=>a.1 < b.1)→lo≤64→(l.length:Int)≤64 - lo
 | [],lo,_,_,h=>by simp; omega
 | e :: l,lo,hk,ha,hlo=>by
  have h0:=hk e (by simp)
  rw [List.pairwise_cons] at ha
  have:=asc_len l (e.1 + 1) (fun x hx=>⟨by have:=ha.1 x hx; omega,(hk x (by simp [hx])).2⟩) ha.2 (by omega)
  simp only [List.length_cons]
  omega
theorem Valid.len {l:List Ent} (h:Valid l):l.length≤64:=by
 have:=asc_len l 0 h.key h.asc (by omega)
 omega
def atK:List Ent→Int→ByteArray
 | [],_=>emp
 | e :: l,k=>if e.1 = k then e.2.1 else atK l k
theorem at_get {T:Ty} {l:List T.den} {n:Nat} {x:T.den} (h:l[n]? = some x):at_ T l (n:Int) = x:=by
 unfold at_
 rw [Int.toNat_natCast,List.getD_eq_getElem?_getD,h]
 rfl
abbrev TE:Ty:=.pair yI (.pair .str .unit)
def kb (k:Int):ByteArray:=ofBytes [2 * k]
theorem key_enc:∀ n:Nat,n < 64→f87 n = some (kb n,0,())∧True:=by
 have h:(List.range 64).all (fun n=>(match f87 n with | some (s,e,_)=>decide (s = kb n) && decide (e = 0) | none=>false)) = true:=by kernel_rfl
 intro n hn
 have h1:=List.all_eq_true.1 h n (List.mem_range.2 hn)
 refine ⟨?_,trivial⟩
 split at h1
 ·rename_i s e u heq
  simp only [Bool.and_eq_true,decide_eq_true_eq] at h1
  rw [heq,h1.1,h1.2]
 ·cases h1
def leafS (k:Int) (v:ByteArray):ByteArray:=((⟨#[8]⟩:ByteArray)++kb k)++v
def leafD (k:Int) (v:ByteArray):ByteArray:=if v = emp then zeroD else sha (leafS k v)
def joinS (a b:ByteArray):ByteArray:=((⟨#[9]⟩:ByteArray)++a)++b
def joinD (a b:ByteArray):ByteArray:=if a = zeroD∧b = zeroD then zeroD else sha (joinS a b)
theorem kb_size (k:Int):(kb k).size = 1:=by unfold kb; rw [ofBytes_size]; rfl
theorem leafS_size (k:Int) (v:ByteArray):(leafS k v).size = v.size + 2:=by
 unfold leafS
 rw [ByteArray.size_append,ByteArray.size_append,kb_size]
 show 1 + 1 + v.size = _
 omega
theorem joinS_size (a b:ByteArray):(joinS a b).size = a.size + b.size + 1:=by
 unfold joinS
 rw [ByteArray.size_append,ByteArray.size_append]
 show 1 + a.size + b.size = _
 omega
theorem catOk_of {x y:ByteArray} (h:x.size + y.size≤2000000):catOk x y = true:=by
 unfold catOk
 exact zT (by omega)
theorem f66_eq (k:Nat) (hk:k < 64) (v:ByteArray) (hv:v.size≤65536):f109 k v = some (leafD k v,()):=by
 unfold f109 leafD
 by_cases he:v = emp
 ·rw [if_pos he]
  have:decide (v = (⟨#[]⟩:ByteArray)) = true:=zT he
  rw [this,cond_true]
  exact bindE zero_eq.1 rfl
 ·rw [if_neg he]
  have:decide (v = (⟨#[]⟩:ByteArray)) = false:=zF he
  rw [this,cond_false]
  refine bindE (key_enc k hk).1 ?_
  show (bif catOk (⟨#[8]⟩:ByteArray) (kb k) then (bif catOk ((⟨#[8]⟩:ByteArray)++kb k) v then _ else none) else none) = _
  rw [catOk_of (by rw [kb_size]; decide),catOk_of (by rw [ByteArray.size_append,kb_size]; show 1 + 1 + v.size≤_; omega),cond_true,cond_true]
  exact bindE (sha_spec (leafS k v) (by rw [leafS_size]; omega)).1 rfl
theorem f67_eq (a b:ByteArray) (ha:a.size≤100) (hb:b.size≤100):f110 a b = some (joinD a b,()):=by
 have c1:catOk (⟨#[9]⟩:ByteArray) a = true:=catOk_of (by show 1 + a.size≤_; omega)
 have c2:catOk ((⟨#[9]⟩:ByteArray)++a) b = true:=catOk_of (by rw [ByteArray.size_append]; show 1 + a.size + b.size≤_; omega)
 have hs:=(sha_spec (joinS a b) (by rw [joinS_size]; omega)).1
 unfold f110 joinD
 refine bindE zero_eq.1 ?_
 show (bif decide (a = zeroD) then _ else _) = _
 by_cases h1:a = zeroD
 ·rw [decT h1,cond_true]
  refine bindE zero_eq.1 ?_
  show (bif decide (b = zeroD) then _ else _) = _
  by_cases h2:b = zeroD
  ·rw [decT h2,cond_true,if_pos ⟨h1,h2⟩]
   exact bindE zero_eq.1 rfl
  ·rw [decF h2,cond_false,if_neg (fun h=>h2 h.2),c1,c2,cond_true,cond_true]
   exact bindE hs rfl
 ·rw [decF h1,cond_false,if_neg (fun h=>h1 h.1),c1,c2,cond_true,cond_true]
  exact bindE hs rfl
theorem leafD_size (k:Int) (v:ByteArray) (hv:v.size≤65536):(leafD k v).size = 32:=by
 unfold leafD
 split
 ·exact zero_size
 ·exact (sha_spec _ (by rw [leafS_size]; omega)).2.2
theorem joinD_size (a b:ByteArray) (ha:a.size≤100) (hb:b.size≤100):(joinD a b).size = 32:=by
 unfold joinD
 split
 ·exact zero_size
 ·exact (sha_spec _ (by rw [joinS_size]; omega)).2.2
def D (l:List Ent):Nat→Int→ByteArray
 | 0,low=>leafD low (atK l low)
 | h + 1,low=>joinD (D l h low) (D l h (low + 2 ^ h))
theorem atK_size {l:List Ent} (hv:∀ e∈l,e.2.1.size≤65536) (k:Int):(atK l k).size≤65536:=by
 induction l with
 | nil=>show (0:Nat)≤_; omega
 | cons e l ih =>
  unfold atK
  split
  ·exact hv e (by simp)
  ·exact ih (fun x hx=>hv x (by simp [hx]))
theorem D_size {l:List Ent} (hv:∀ e∈l,e.2.1.size≤65536):∀ (h:Nat) (low:Int),(D l h low).size = 32
 | 0,low=>leafD_size _ _ (atK_size hv low)
 | h + 1,low=>joinD_size _ _ (by rw [D_size hv h low]; omega) (by rw [D_size hv h _]; omega)
end TR
end Go.V.G
