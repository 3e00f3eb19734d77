/- Part of the proof. -/
import Derived.KernelRfl
import Derived.Test.YtfjpfjcdejjkeaaGreatDoorA3
set_option linter.all false
set_option linter.unusedVariables false
set_option linter.unusedSectionVars false
set_option linter.unusedSimpArgs false
namespace Go.V.G
open Go.Proofs
def f31_l2_head:Ann:={ env:=[(2,cP 2),(4,.cst (.row 28 .whole)),(7,.ty (.sl tE)),(8,TI),(9,TI)],bxs:=[(2,.var [TI]),(28,.row tI false)] }
def f31_l2_outs:List (Ex × Ann):=[((.exit 0),{ env:=[(2,cP 2),(4,.cst (.row 28 .whole))],bxs:=[(2,.var [TI]),(28,.row tI false)] })]
def f31_l2 (t7:(List Ed)) (t8:Int) (b2g0:Int):Nat→Int→(List Int)→Option (outDen f31_l2_outs)
 | 0,_,_=>none
 | k + 1,t9,r28 =>
 bif (decide (t9 < t8)) then
 bif (inR t9 t7.length) then
 let v1:Int:=(at_ tE t7 t9).2.1
 bif (decide (v1 = b2g0)) then
 (f64 (at_ tE t7 t9) b2g0).bind fun y2 =>
 bif (decide (r28.length + ([y2.1]:List Int).length≤appLim)) then f31_l2 t7 t8 b2g0 k (IntKind.wrap .i64 (t9 + 1)) (r28++([y2.1]:List Int)) else none
 else
 let v3:Int:=(at_ tE t7 t9).2.2.1
 bif (decide (v3 = b2g0)) then
 (f64 (at_ tE t7 t9) b2g0).bind fun y4 =>
 bif (decide (r28.length + ([y4.1]:List Int).length≤appLim)) then f31_l2 t7 t8 b2g0 k (IntKind.wrap .i64 (t9 + 1)) (r28++([y4.1]:List Int)) else none
 else
 f31_l2 t7 t8 b2g0 k (IntKind.wrap .i64 (t9 + 1)) r28
 else none
 else
 some ((),(),((b2g0,()),r28,()))
def f31_l2_n (n:Nat) (x:f31_l2_head.den):=f31_l2 x.1.1 x.1.2.1 x.2.2.1.1 n x.1.2.2.1 x.2.2.2.1
def f31_l2_spec:LSpec:={ thaws:=[.slot 4 28 tI],head:=f31_l2_head,outs:=f31_l2_outs,fn:=fun x=>f31_l2_n ((x.1.2.1 - x.1.2.2.1).toNat + 1) x }
def f125_l2y_head:Ann:={ env:=[(0,.dyn (.win 28)),(1,.cst (.fn 74 [(.ptr 2 0 [])])),(7,TI),(8,TI)],stk:=[[(0,.dyn (.win 28)),(1,.cst (.fn 74 [(.ptr 2 0 [])])),(4,.cst .nils)],[(4,.dyn (.win 28))]],bxs:=[(28,.row tI false),(2,.var [TI])] }
def f125_l2y_outs:List (Ex × Ann):=[((.exit 0),{ env:=[],stk:=[[(0,.dyn (.win 28)),(1,.cst (.fn 74 [(.ptr 2 0 [])])),(4,.cst .nils)],[(4,.dyn (.win 28))]],bxs:=[(28,.row tI false),(2,.var [TI])] }),(.ret,{ env:=[(4,TI)],stk:=[[(0,.dyn (.win 28)),(1,.cst (.fn 74 [(.ptr 2 0 [])])),(4,.cst .nils)],[(4,.dyn (.win 28))]],bxs:=[(28,.row tI false),(2,.var [TI])] })]
def f125_l2y (t0:Nat) (t7:Int) (k0t0:Nat) (k1t4:Nat) (r28:(List Int)) (b2g0:Int):Nat→Int→Option (outDen f125_l2y_outs)
 | 0,_=>none
 | k + 1,t8 =>
 bif (decide (t8 < t7)) then
 bif (inR t8 t0) then
 let v9:Bool:=(decide ((at_ tI r28 (0 + t8)) = b2g0))
 bif v9 then
 some (.inr ((t8,()),((k0t0,()),(k1t4,()),()),(r28,(b2g0,()),())))
 else
 f125_l2y t0 t7 k0t0 k1t4 r28 b2g0 k (IntKind.wrap .i64 (t8 + 1))
 else none
 else
 some (.inl ((),((k0t0,()),(k1t4,()),()),(r28,(b2g0,()),())))
def f125_l2y_n (n:Nat) (x:f125_l2y_head.den):=f125_l2y x.1.1 x.1.2.1 x.2.1.1.1 x.2.1.2.1.1 x.2.2.1 x.2.2.2.1.1 n x.1.2.2.1
def f125_l2y_spec:LSpec:={ head:=f125_l2y_head,outs:=f125_l2y_outs,fn:=fun x=>f125_l2y_n ((x.1.2.1 - x.1.2.2.1).toNat + 1) x }
def f72_l5x_head:Ann:={ env:=[(0,.dyn (.win 28)),(1,.cst (.fn 74 [(.ptr 2 0 [])])),(5,TI),(6,TI)],stk:=[[(4,.dyn (.win 28))]],bxs:=[(28,.row tI false),(2,.var [TI])] }
def f72_l5x_outs:List (Ex × Ann):=[((.exit 0),{ env:=[(0,.dyn (.win 28)),(5,TI)],stk:=[[(4,.dyn (.win 28))]],bxs:=[(28,.row tI false)] })]
def f72_l5x (t0:Nat) (k0t4:Nat) (b2g0:Int):Nat→Int→Int→(List Int)→Option (outDen f72_l5x_outs)
 | 0,_,_,_=>none
 | k + 1,t5,t6,r28 =>
 let v22:Bool:=(decide (t6 < (((r28.drop 0).take t0).length:Int)))
 bif v22 then
 bif (inR t6 t0) then
 let v23:Bool:=(decide ((at_ tI r28 (0 + t6)) = b2g0))
 bif (!v23) then
 bif (inR t5 t0) then f72_l5x t0 k0t4 b2g0 k (IntKind.wrap .i64 (t5 + 1)) (IntKind.wrap .i64 (t6 + 1)) (r28.set (Int.toNat (0 + t5)) (at_ tI r28 (0 + t6))) else none
 else
 f72_l5x t0 k0t4 b2g0 k t5 (IntKind.wrap .i64 (t6 + 1)) r28
 else none
 else
 some ((t0,t5,()),((k0t4,()),()),(r28,()))
def f72_l5x_n (n:Nat) (x:f72_l5x_head.den):=f72_l5x x.1.1 x.2.1.1.1 x.2.2.2.1.1 n x.1.2.1 x.1.2.2.1 x.2.2.1
def f72_l5x_spec:LSpec:={ head:=f72_l5x_head,outs:=f72_l5x_outs,fn:=fun x=>f72_l5x_n (((((x.2.2.1.drop 0).take x.1.1).length:Int) - x.1.2.2.1).toNat + 1) x }
def f73_l9x_head:Ann:={ env:=[(0,.cst (.row 28 .whole)),(3,TI),(4,.dyn (.wino 28)),(5,TI)],stk:=[[(2,cP 2),(4,.cst (.row 28 .whole))]],bxs:=[(28,.row tI false),(2,.var [TI])] }
def f73_l9x_outs:List (Ex × Ann):=[((.exit 2),{ env:=[(0,.cst (.row 28 .whole)),(3,TI)],stk:=[[(2,cP 2),(4,.cst (.row 28 .whole))]],bxs:=[(28,.row tI false),(2,.var [TI])] })]
def f73_l9x (t4:(Nat × Nat)) (b2g0:Int):Nat→Int→Int→(List Int)→Option (outDen f73_l9x_outs)
 | 0,_,_,_=>none
 | k + 1,t3,t5,r28 =>
 let v31:Int:=(((r28.drop t4.1).take t4.2).length:Int)
 bif (decide (t5 < v31)) then
 bif (inR t5 t4.2) then
 bif (inR (IntKind.wrap .i64 (t5 - (1:Int))) t4.2) then
 let v32:Int:=(at_ tI r28 (t4.1 + (IntKind.wrap .i64 (t5 - (1:Int)))))
 let v33:Bool:=(decide ((at_ tI r28 (t4.1 + t5)) ≠ v32))
 bif v33 then
 bif (inR t5 t4.2) then bif (inR t3 r28.length) then f73_l9x t4 b2g0 k (IntKind.wrap .i64 (t3 + 1)) (IntKind.wrap .i64 (t5 + 1)) (r28.set (Int.toNat t3) (at_ tI r28 (t4.1 + t5))) else none else none
 else
 f73_l9x t4 b2g0 k t3 (IntKind.wrap .i64 (t5 + 1)) r28
 else none
 else none
 else
 some ((t3,()),((),()),(r28,(b2g0,()),()))
def f73_l9x_n (n:Nat) (x:f73_l9x_head.den):=f73_l9x x.1.2.1 x.2.2.2.1.1 n x.1.1 x.1.2.2.1 x.2.2.1
def f73_l9x_spec:LSpec:={ head:=f73_l9x_head,outs:=f73_l9x_outs,fn:=fun x=>f73_l9x_n (x.1.2.1.2 + 1) x }
def f73_l4x_head:Ann:={ env:=[(0,.cst (.row 28 .whole)),(3,TI)],stk:=[[(2,cP 2),(4,.cst (.row 28 .whole))]],bxs:=[(28,.row tI false),(2,.var [TI])] }
def f73_l4x_outs:List (Ex × Ann):=[((.exit 0),{ env:=[(0,.cst (.row 28 .whole))],stk:=[[(2,cP 2),(4,.cst (.row 28 .whole))]],bxs:=[(28,.row tI false),(2,.var [TI])] }),(.ret,{ env:=[(2,.dyn (.win 28))],stk:=[[(2,cP 2),(4,.cst (.row 28 .whole))]],bxs:=[(28,.row tI false),(2,.var [TI])] })]
def f73_l4x (r28:(List Int)) (b2g0:Int):Nat→Int→Option (outDen f73_l4x_outs)
 | 0,_=>none
 | k + 1,t3 =>
 bif (decide (t3 < (r28.length:Int))) then
 bif (inR t3 r28.length) then
 bif (inR (IntKind.wrap .i64 (t3 - (1:Int))) r28.length) then
 let v29:Int:=(at_ tI r28 (IntKind.wrap .i64 (t3 - (1:Int))))
 let v30:Bool:=(decide ((at_ tI r28 t3) = v29))
 bif v30 then
 bif (cutOk r28.length (some t3) none) then
 (f73_l9x ((Int.toNat t3),(cutLen r28.length (some t3) none)) b2g0 (((Int.toNat t3),(cutLen r28.length (some t3) none)).2 + 1) t3 (1:Int) r28).bind fun o34 =>
 let u35:Int:=o34.1.1
 let u36:(List Int):=o34.2.2.1
 let u37:Int:=o34.2.2.2.1.1
 bif (cutOk u36.length (some u35) none) then bif (cutOk (setRange u36 (Int.toNat u35) (List.replicate (cutLen u36.length (some u35) none) (0:Int))).length none (some u35)) then some (.inr (((cutLen (setRange u36 (Int.toNat u35) (List.replicate (cutLen u36.length (some u35) none) (0:Int))).length none (some u35)),()),((),()),((setRange u36 (Int.toNat u35) (List.replicate (cutLen u36.length (some u35) none) (0:Int))),(u37,()),()))) else none else none
 else none
 else
 f73_l4x r28 b2g0 k (IntKind.wrap .i64 (t3 + 1))
 else none
 else none
 else
 some (.inl ((),((),()),(r28,(b2g0,()),())))
def f73_l4x_n (n:Nat) (x:f73_l4x_head.den):=f73_l4x x.2.2.1 x.2.2.2.1.1 n x.1.1
def f73_l4x_spec:LSpec:={ head:=f73_l4x_head,outs:=f73_l4x_outs,fn:=fun x=>f73_l4x_n (((x.2.2.1.length:Int) - x.1.1).toNat + 1) x }
def f31 (a0:Int) (a1:(List Ed)):Option (List Int) :=
 (f31_l2 a1 (a1.length:Int) a0 (((a1.length:Int) - (0:Int)).toNat + 1) (0:Int) []).bind fun o5 =>
 let u6:Int:=o5.2.2.1.1
 let u7:(List Int):=o5.2.2.2.1
 (sortInts u7).bind fun y8 =>
 bif (decide ((y8.length:Int) < (2:Int))) then
 (f125_l2y y8.length (y8.length:Int) y8.length y8.length y8 u6 (((y8.length:Int) - (0:Int)).toNat + 1) (0:Int)).bind fun o10 =>
 Sum.elim (fun o11 =>
 let u13:Nat:=o11.2.1.1.1
 let u15:(List Int):=o11.2.2.1
 some ((u15.drop 0).take u13)) (fun o12 =>
 let u17:Int:=o12.1.1
 let u18:Nat:=o12.2.1.1.1
 let u19:Nat:=o12.2.1.2.1.1
 let u20:(List Int):=o12.2.2.1
 let u21:Int:=o12.2.2.2.1.1
 bif (decide (u17 = (-1:Int))) then
 some ((u20.drop 0).take u18)
 else
 (f72_l5x u18 u19 u21 (((((u20.drop 0).take u18).length:Int) - (IntKind.wrap .i64 (u17 + 1))).toNat + 1) u17 (IntKind.wrap .i64 (u17 + 1)) u20).bind fun o24 =>
 let u25:Nat:=o24.1.1
 let u26:Int:=o24.1.2.1
 let u28:(List Int):=o24.2.2.1
 bif (cutOk u25 (some u26) none) then bif (cutOk u25 none (some u26)) then some (((setRange u28 (0 + (Int.toNat u26)) (List.replicate (cutLen u25 (some u26) none) (0:Int))).drop 0).take (cutLen u25 none (some u26))) else none else none) o10
 else
 (f73_l4x y8 u6 (((y8.length:Int) - (1:Int)).toNat + 1) (1:Int)).bind fun o38 =>
 Sum.elim (fun o39 =>
 let u41:(List Int):=o39.2.2.1
 let u42:Int:=o39.2.2.2.1.1
 (f125_l2y u41.length (u41.length:Int) u41.length u41.length u41 u42 (((u41.length:Int) - (0:Int)).toNat + 1) (0:Int)).bind fun o44 =>
 Sum.elim (fun o45 =>
 let u47:Nat:=o45.2.1.1.1
 let u49:(List Int):=o45.2.2.1
 some ((u49.drop 0).take u47)) (fun o46 =>
 let u51:Int:=o46.1.1
 let u52:Nat:=o46.2.1.1.1
 let u53:Nat:=o46.2.1.2.1.1
 let u54:(List Int):=o46.2.2.1
 let u55:Int:=o46.2.2.2.1.1
 bif (decide (u51 = (-1:Int))) then
 some ((u54.drop 0).take u52)
 else
 (f72_l5x u52 u53 u55 (((((u54.drop 0).take u52).length:Int) - (IntKind.wrap .i64 (u51 + 1))).toNat + 1) u51 (IntKind.wrap .i64 (u51 + 1)) u54).bind fun o58 =>
 let u59:Nat:=o58.1.1
 let u60:Int:=o58.1.2.1
 let u62:(List Int):=o58.2.2.1
 bif (cutOk u59 (some u60) none) then bif (cutOk u59 none (some u60)) then some (((setRange u62 (0 + (Int.toNat u60)) (List.replicate (cutLen u59 (some u60) none) (0:Int))).drop 0).take (cutLen u59 none (some u60))) else none else none) o44) (fun o40 =>
 let u63:Nat:=o40.1.1
 let u64:(List Int):=o40.2.2.1
 let u65:Int:=o40.2.2.2.1.1
 (f125_l2y u63 (((u64.drop 0).take u63).length:Int) u63 u64.length u64 u65 (((((u64.drop 0).take u63).length:Int) - (0:Int)).toNat + 1) (0:Int)).bind fun o67 =>
 Sum.elim (fun o68 =>
 let u70:Nat:=o68.2.1.1.1
 let u72:(List Int):=o68.2.2.1
 some ((u72.drop 0).take u70)) (fun o69 =>
 let u74:Int:=o69.1.1
 let u75:Nat:=o69.2.1.1.1
 let u76:Nat:=o69.2.1.2.1.1
 let u77:(List Int):=o69.2.2.1
 let u78:Int:=o69.2.2.2.1.1
 bif (decide (u74 = (-1:Int))) then
 some ((u77.drop 0).take u75)
 else
 (f72_l5x u75 u76 u78 (((((u77.drop 0).take u75).length:Int) - (IntKind.wrap .i64 (u74 + 1))).toNat + 1) u74 (IntKind.wrap .i64 (u74 + 1)) u77).bind fun o81 =>
 let u82:Nat:=o81.1.1
 let u83:Int:=o81.1.2.1
 let u85:(List Int):=o81.2.2.1
 bif (cutOk u82 (some u83) none) then bif (cutOk u82 none (some u83)) then some (((setRange u85 (0 + (Int.toNat u83)) (List.replicate (cutLen u82 (some u83) none) (0:Int))).drop 0).take (cutLen u82 none (some u83))) else none else none) o67) o38
def f31_spec:RSpec:={ args:=[tI,(.sl tE)],T:=tI,fz:=false,fn:=fun x=>f31 x.1 x.2.1 }
noncomputable def f31_code:Code:=Tryz.f31.body.getD .skip
noncomputable def f31_code_72:Code:=Tryz.f72.body.getD .skip
noncomputable def f31_code_73:Code:=Tryz.f73.body.getD .skip
noncomputable def f31_code_125:Code:=Tryz.f125.body.getD .skip
noncomputable def f31_env:Env0:={ C:=cfg,P:=[(64,f64_spec)],L:=[(⟨12,0,31,2⟩,f31_l2_spec),(⟨10,35010000,125,2⟩,f125_l2y_spec),(⟨11,35000,72,5⟩,f72_l5x_spec),(⟨11,33000,73,9⟩,f73_l9x_spec),(⟨11,33000,73,4⟩,f73_l4x_spec)],F:=[(31,Tryz.f31),(72,Tryz.f72),(73,Tryz.f73),(74,Tryz.f74),(125,Tryz.f125)],I:=[(71,sortInts_spec)] }
theorem f31_l2_ok:LoopOK f31_env 12 31 0 (loopAt f31_code 2) f31_l2_spec :=
 loopOK_of (by kernel_rfl) f31_l2_n (fun x o h=>⟨_,h⟩) (fun x=>by kernel_rfl) (fun n x=>by kernel_rfl)
theorem f125_l2y_ok:LoopOK f31_env 10 125 35010000 (loopAt f31_code_125 2) f125_l2y_spec :=
 loopOK_of (by kernel_rfl) f125_l2y_n (fun x o h=>⟨_,h⟩) (fun x=>by kernel_rfl) (fun n x=>by kernel_rfl)
theorem f72_l5x_ok:LoopOK f31_env 11 72 35000 (loopAt f31_code_72 5) f72_l5x_spec :=
 loopOK_of (by kernel_rfl) f72_l5x_n (fun x o h=>⟨_,h⟩) (fun x=>by kernel_rfl) (fun n x=>by kernel_rfl)
theorem f73_l9x_ok:LoopOK f31_env 11 73 33000 (loopAt f31_code_73 9) f73_l9x_spec :=
 loopOK_of (by kernel_rfl) f73_l9x_n (fun x o h=>⟨_,h⟩) (fun x=>by kernel_rfl) (fun n x=>by kernel_rfl)
theorem f73_l4x_ok:LoopOK f31_env 11 73 33000 (loopAt f31_code_73 4) f73_l4x_spec :=
 loopOK_of (by kernel_rfl) f73_l4x_n (fun x o h=>⟨_,h⟩) (fun x=>by kernel_rfl) (fun n x=>by kernel_rfl)
theorem f31_run (x:tysDen (f31_spec).args):runR f31_env 31 Tryz.f31 f31_code (tysAV (f31_spec).args x) (f31_spec).T (f31_spec).fz = f31_spec.fn x:=by kernel_rfl
theorem f31_enter:Enterable Tryz.prog 31:=enter_fun Tryz.func31 (by kernel_rfl)
theorem f31_envOK:EnvOK Tryz.prog f31_env:=envOK_of cds (by kernel_rfl) cfg_ok ⟨⟨f64_pure,f64_enter⟩,trivial⟩ trivial ⟨⟨Tryz.func31,by kernel_rfl⟩,⟨Tryz.func72,by kernel_rfl⟩,⟨Tryz.func73,by kernel_rfl⟩,⟨Tryz.func74,by kernel_rfl⟩,⟨Tryz.func125,by kernel_rfl⟩,trivial⟩ ⟨⟨Tryz.f31,f31_code,rfl,rfl,f31_l2_ok⟩,⟨Tryz.f125,f31_code_125,rfl,rfl,f125_l2y_ok⟩,⟨Tryz.f72,f31_code_72,rfl,rfl,f72_l5x_ok⟩,⟨Tryz.f73,f31_code_73,rfl,rfl,f73_l9x_ok⟩,⟨Tryz.f73,f31_code_73,rfl,rfl,f73_l4x_ok⟩,trivial⟩ trivial ⟨⟨sortInts_inpl,sortInts_enter⟩,trivial⟩
theorem f31_fresh:FreshOK Tryz.prog cfg 31 f31_spec:=fresh_of_run f31_envOK (fn:=Tryz.f31) (c:=f31_code) rfl rfl f31_spec (fun x _ h=>(f31_run x).trans h)
def pf31_l2_head:Ann:={ env:=[(2,cP 2),(4,.cst (.row 28 .whole)),(7,.ty (.sl tE)),(8,TI),(9,TI)],bxs:=[(2,.var [TI]),(28,.row tI false)] }
def pf31_l2_outs:List (Ex × Ann):=[((.exit 0),{ env:=[(2,cP 2),(4,.cst (.row 28 .whole))],bxs:=[(2,.var [TI]),(28,.row tI false)] })]
def pf31_l2 (t7:(List Ed)) (t8:Int) (b2g0:Int):Nat→Int→(List Int)→Option (outDen pf31_l2_outs)
 | 0,_,_=>none
 | k + 1,t9,r28 =>
 bif (decide (t9 < t8)) then
 bif (inR t9 t7.length) then
 let v1:Int:=(at_ tE t7 t9).2.1
 bif (decide (v1 = b2g0)) then
 (f64 (at_ tE t7 t9) b2g0).bind fun y2 =>
 bif (decide (r28.length + ([y2.1]:List Int).length≤appLim)) then pf31_l2 t7 t8 b2g0 k (IntKind.wrap .i64 (t9 + 1)) (r28++([y2.1]:List Int)) else none
 else
 let v3:Int:=(at_ tE t7 t9).2.2.1
 bif (decide (v3 = b2g0)) then
 (f64 (at_ tE t7 t9) b2g0).bind fun y4 =>
 bif (decide (r28.length + ([y4.1]:List Int).length≤appLim)) then pf31_l2 t7 t8 b2g0 k (IntKind.wrap .i64 (t9 + 1)) (r28++([y4.1]:List Int)) else none
 else
 pf31_l2 t7 t8 b2g0 k (IntKind.wrap .i64 (t9 + 1)) r28
 else none
 else
 some ((),(),((b2g0,()),r28,()))
def pf31_l2_n (n:Nat) (x:pf31_l2_head.den):=pf31_l2 x.1.1 x.1.2.1 x.2.2.1.1 n x.1.2.2.1 x.2.2.2.1
def pf31_l2_spec:LSpec:={ thaws:=[.slot 4 28 tI],head:=pf31_l2_head,outs:=pf31_l2_outs,fn:=fun x=>pf31_l2_n ((x.1.2.1 - x.1.2.2.1).toNat + 1) x }
def pf125_l2x_head:Ann:={ env:=[(0,.dyn (.win 28)),(1,.cst (.fn 74 [(.ptr 2 0 [])])),(7,TI),(8,TI)],stk:=[[(0,.dyn (.win 28)),(1,.cst (.fn 74 [(.ptr 2 0 [])])),(4,.cst .nils)],[(4,.dyn (.win 28))]],bxs:=[(28,.row tI false),(2,.var [TI])] }
def pf125_l2x_outs:List (Ex × Ann):=[((.exit 0),{ env:=[],stk:=[[(0,.dyn (.win 28)),(1,.cst (.fn 74 [(.ptr 2 0 [])])),(4,.cst .nils)],[(4,.dyn (.win 28))]],bxs:=[(28,.row tI false),(2,.var [TI])] }),(.ret,{ env:=[(4,TI)],stk:=[[(0,.dyn (.win 28)),(1,.cst (.fn 74 [(.ptr 2 0 [])])),(4,.cst .nils)],[(4,.dyn (.win 28))]],bxs:=[(28,.row tI false),(2,.var [TI])] })]
def pf125_l2x (t0:Nat) (t7:Int) (k0t0:Nat) (k1t4:Nat) (r28:(List Int)) (b2g0:Int):Nat→Int→Option (outDen pf125_l2x_outs)
 | 0,_=>none
 | k + 1,t8 =>
 bif (decide (t8 < t7)) then
 bif (inR t8 t0) then
 let v9:Bool:=(decide ((at_ tI r28 (0 + t8)) = b2g0))
 bif v9 then
 some (.inr ((t8,()),((k0t0,()),(k1t4,()),()),(r28,(b2g0,()),())))
 else
 pf125_l2x t0 t7 k0t0 k1t4 r28 b2g0 k (IntKind.wrap .i64 (t8 + 1))
 else none
 else
 some (.inl ((),((k0t0,()),(k1t4,()),()),(r28,(b2g0,()),())))
def pf125_l2x_n (n:Nat) (x:pf125_l2x_head.den):=pf125_l2x x.1.1 x.1.2.1 x.2.1.1.1 x.2.1.2.1.1 x.2.2.1 x.2.2.2.1.1 n x.1.2.2.1
def pf125_l2x_spec:LSpec:={ head:=pf125_l2x_head,outs:=pf125_l2x_outs,fn:=fun x=>pf125_l2x_n ((x.1.2.1 - x.1.2.2.1).toNat + 1) x }
def pf72_l5x_head:Ann:={ env:=[(0,.dyn (.win 28)),(1,.cst (.fn 74 [(.ptr 2 0 [])])),(5,TI),(6,TI)],stk:=[[(4,.dyn (.win 28))]],bxs:=[(28,.row tI false),(2,.var [TI])] }
def pf72_l5x_outs:List (Ex × Ann):=[((.exit 0),{ env:=[(0,.dyn (.win 28)),(5,TI)],stk:=[[(4,.dyn (.win 28))]],bxs:=[(28,.row tI false)] })]
def pf72_l5x (t0:Nat) (k0t4:Nat) (b2g0:Int):Nat→Int→Int→(List Int)→Option (outDen pf72_l5x_outs)
 | 0,_,_,_=>none
 | k + 1,t5,t6,r28 =>
 let v22:Bool:=(decide (t6 < (((r28.drop 0).take t0).length:Int)))
 bif v22 then
 bif (inR t6 t0) then
 let v23:Bool:=(decide ((at_ tI r28 (0 + t6)) = b2g0))
 bif (!v23) then
 bif (inR t5 t0) then pf72_l5x t0 k0t4 b2g0 k (IntKind.wrap .i64 (t5 + 1)) (IntKind.wrap .i64 (t6 + 1)) (r28.set (Int.toNat (0 + t5)) (at_ tI r28 (0 + t6))) else none
 else
 pf72_l5x t0 k0t4 b2g0 k t5 (IntKind.wrap .i64 (t6 + 1)) r28
 else none
 else
 some ((t0,t5,()),((k0t4,()),()),(r28,()))
def pf72_l5x_n (n:Nat) (x:pf72_l5x_head.den):=pf72_l5x x.1.1 x.2.1.1.1 x.2.2.2.1.1 n x.1.2.1 x.1.2.2.1 x.2.2.1
def pf72_l5x_spec:LSpec:={ head:=pf72_l5x_head,outs:=pf72_l5x_outs,fn:=fun x=>pf72_l5x_n (((((x.2.2.1.drop 0).take x.1.1).length:Int) - x.1.2.2.1).toNat + 1) x }
def pf73_l9x_head:Ann:={ env:=[(0,.cst (.row 28 .whole)),(3,TI),(4,.dyn (.wino 28)),(5,TI)],stk:=[[(2,cP 2),(4,.cst (.row 28 .whole))]],bxs:=[(28,.row tI false),(2,.var [TI])] }
def pf73_l9x_outs:List (Ex × Ann):=[((.exit 2),{ env:=[(0,.cst (.row 28 .whole)),(3,TI)],stk:=[[(2,cP 2),(4,.cst (.row 28 .whole))]],bxs:=[(28,.row tI false),(2,.var [TI])] })]
def pf73_l9x (t4:(Nat × Nat)) (b2g0:Int):Nat→Int→Int→(List Int)→Option (outDen pf73_l9x_outs)
 | 0,_,_,_=>none
 | k + 1,t3,t5,r28 =>
 let v31:Int:=(((r28.drop t4.1).take t4.2).length:Int)
 bif (decide (t5 < v31)) then
 bif (inR t5 t4.2) then
 bif (inR (IntKind.wrap .i64 (t5 - (1:Int))) t4.2) then
 let v32:Int:=(at_ tI r28 (t4.1 + (IntKind.wrap .i64 (t5 - (1:Int)))))
 let v33:Bool:=(decide ((at_ tI r28 (t4.1 + t5)) ≠ v32))
 bif v33 then
 bif (inR t5 t4.2) then bif (inR t3 r28.length) then pf73_l9x t4 b2g0 k (IntKind.wrap .i64 (t3 + 1)) (IntKind.wrap .i64 (t5 + 1)) (r28.set (Int.toNat t3) (at_ tI r28 (t4.1 + t5))) else none else none
 else
 pf73_l9x t4 b2g0 k t3 (IntKind.wrap .i64 (t5 + 1)) r28
 else none
 else none
 else
 some ((t3,()),((),()),(r28,(b2g0,()),()))
def pf73_l9x_n (n:Nat) (x:pf73_l9x_head.den):=pf73_l9x x.1.2.1 x.2.2.2.1.1 n x.1.1 x.1.2.2.1 x.2.2.1
def pf73_l9x_spec:LSpec:={ head:=pf73_l9x_head,outs:=pf73_l9x_outs,fn:=fun x=>pf73_l9x_n (x.1.2.1.2 + 1) x }
def pf73_l4x_head:Ann:={ env:=[(0,.cst (.row 28 .whole)),(3,TI)],stk:=[[(2,cP 2),(4,.cst (.row 28 .whole))]],bxs:=[(28,.row tI false),(2,.var [TI])] }
def pf73_l4x_outs:List (Ex × Ann):=[((.exit 0),{ env:=[(0,.cst (.row 28 .whole))],stk:=[[(2,cP 2),(4,.cst (.row 28 .whole))]],bxs:=[(28,.row tI false),(2,.var [TI])] }),(.ret,{ env:=[(2,.dyn (.win 28))],stk:=[[(2,cP 2),(4,.cst (.row 28 .whole))]],bxs:=[(28,.row tI false),(2,.var [TI])] })]
def pf73_l4x (r28:(List Int)) (b2g0:Int):Nat→Int→Option (outDen pf73_l4x_outs)
 | 0,_=>none
 | k + 1,t3 =>
 bif (decide (t3 < (r28.length:Int))) then
 bif (inR t3 r28.length) then
 bif (inR (IntKind.wrap .i64 (t3 - (1:Int))) r28.length) then
 let v29:Int:=(at_ tI r28 (IntKind.wrap .i64 (t3 - (1:Int))))
 let v30:Bool:=(decide ((at_ tI r28 t3) = v29))
 bif v30 then
 bif (cutOk r28.length (some t3) none) then
 (pf73_l9x ((Int.toNat t3),(cutLen r28.length (some t3) none)) b2g0 (((Int.toNat t3),(cutLen r28.length (some t3) none)).2 + 1) t3 (1:Int) r28).bind fun o34 =>
 let u35:Int:=o34.1.1
 let u36:(List Int):=o34.2.2.1
 let u37:Int:=o34.2.2.2.1.1
 bif (cutOk u36.length (some u35) none) then bif (cutOk (setRange u36 (Int.toNat u35) (List.replicate (cutLen u36.length (some u35) none) (0:Int))).length none (some u35)) then some (.inr (((cutLen (setRange u36 (Int.toNat u35) (List.replicate (cutLen u36.length (some u35) none) (0:Int))).length none (some u35)),()),((),()),((setRange u36 (Int.toNat u35) (List.replicate (cutLen u36.length (some u35) none) (0:Int))),(u37,()),()))) else none else none
 else none
 else
 pf73_l4x r28 b2g0 k (IntKind.wrap .i64 (t3 + 1))
 else none
 else none
 else
 some (.inl ((),((),()),(r28,(b2g0,()),())))
def pf73_l4x_n (n:Nat) (x:pf73_l4x_head.den):=pf73_l4x x.2.2.1 x.2.2.2.1.1 n x.1.1
def pf73_l4x_spec:LSpec:={ head:=pf73_l4x_head,outs:=pf73_l4x_outs,fn:=fun x=>pf73_l4x_n (((x.2.2.1.length:Int) - x.1.1).toNat + 1) x }
def pf31 (a0:Int) (a1:(List Ed)):Option ((List Int) × Unit) :=
 (pf31_l2 a1 (a1.length:Int) a0 (((a1.length:Int) - (0:Int)).toNat + 1) (0:Int) []).bind fun o5 =>
 let u6:Int:=o5.2.2.1.1
 let u7:(List Int):=o5.2.2.2.1
 (sortInts u7).bind fun y8 =>
 bif (decide ((y8.length:Int) < (2:Int))) then
 (pf125_l2x y8.length (y8.length:Int) y8.length y8.length y8 u6 (((y8.length:Int) - (0:Int)).toNat + 1) (0:Int)).bind fun o10 =>
 Sum.elim (fun o11 =>
 let u13:Nat:=o11.2.1.1.1
 let u15:(List Int):=o11.2.2.1
 some (((u15.drop 0).take u13),())) (fun o12 =>
 let u17:Int:=o12.1.1
 let u18:Nat:=o12.2.1.1.1
 let u19:Nat:=o12.2.1.2.1.1
 let u20:(List Int):=o12.2.2.1
 let u21:Int:=o12.2.2.2.1.1
 bif (decide (u17 = (-1:Int))) then
 some (((u20.drop 0).take u18),())
 else
 (pf72_l5x u18 u19 u21 (((((u20.drop 0).take u18).length:Int) - (IntKind.wrap .i64 (u17 + 1))).toNat + 1) u17 (IntKind.wrap .i64 (u17 + 1)) u20).bind fun o24 =>
 let u25:Nat:=o24.1.1
 let u26:Int:=o24.1.2.1
 let u28:(List Int):=o24.2.2.1
 bif (cutOk u25 (some u26) none) then bif (cutOk u25 none (some u26)) then some ((((setRange u28 (0 + (Int.toNat u26)) (List.replicate (cutLen u25 (some u26) none) (0:Int))).drop 0).take (cutLen u25 none (some u26))),()) else none else none) o10
 else
 (pf73_l4x y8 u6 (((y8.length:Int) - (1:Int)).toNat + 1) (1:Int)).bind fun o38 =>
 Sum.elim (fun o39 =>
 let u41:(List Int):=o39.2.2.1
 let u42:Int:=o39.2.2.2.1.1
 (pf125_l2x u41.length (u41.length:Int) u41.length u41.length u41 u42 (((u41.length:Int) - (0:Int)).toNat + 1) (0:Int)).bind fun o44 =>
 Sum.elim (fun o45 =>
 let u47:Nat:=o45.2.1.1.1
 let u49:(List Int):=o45.2.2.1
 some (((u49.drop 0).take u47),())) (fun o46 =>
 let u51:Int:=o46.1.1
 let u52:Nat:=o46.2.1.1.1
 let u53:Nat:=o46.2.1.2.1.1
 let u54:(List Int):=o46.2.2.1
 let u55:Int:=o46.2.2.2.1.1
 bif (decide (u51 = (-1:Int))) then
 some (((u54.drop 0).take u52),())
 else
 (pf72_l5x u52 u53 u55 (((((u54.drop 0).take u52).length:Int) - (IntKind.wrap .i64 (u51 + 1))).toNat + 1) u51 (IntKind.wrap .i64 (u51 + 1)) u54).bind fun o58 =>
 let u59:Nat:=o58.1.1
 let u60:Int:=o58.1.2.1
 let u62:(List Int):=o58.2.2.1
 bif (cutOk u59 (some u60) none) then bif (cutOk u59 none (some u60)) then some ((((setRange u62 (0 + (Int.toNat u60)) (List.replicate (cutLen u59 (some u60) none) (0:Int))).drop 0).take (cutLen u59 none (some u60))),()) else none else none) o44) (fun o40 =>
 let u63:Nat:=o40.1.1
 let u64:(List Int):=o40.2.2.1
 let u65:Int:=o40.2.2.2.1.1
 (pf125_l2x u63 (((u64.drop 0).take u63).length:Int) u63 u64.length u64 u65 (((((u64.drop 0).take u63).length:Int) - (0:Int)).toNat + 1) (0:Int)).bind fun o67 =>
 Sum.elim (fun o68 =>
 let u70:Nat:=o68.2.1.1.1
 let u72:(List Int):=o68.2.2.1
 some (((u72.drop 0).take u70),())) (fun o69 =>
 let u74:Int:=o69.1.1
 let u75:Nat:=o69.2.1.1.1
 let u76:Nat:=o69.2.1.2.1.1
 let u77:(List Int):=o69.2.2.1
 let u78:Int:=o69.2.2.2.1.1
 bif (decide (u74 = (-1:Int))) then
 some (((u77.drop 0).take u75),())
 else
 (pf72_l5x u75 u76 u78 (((((u77.drop 0).take u75).length:Int) - (IntKind.wrap .i64 (u74 + 1))).toNat + 1) u74 (IntKind.wrap .i64 (u74 + 1)) u77).bind fun o81 =>
 let u82:Nat:=o81.1.1
 let u83:Int:=o81.1.2.1
 let u85:(List Int):=o81.2.2.1
 bif (cutOk u82 (some u83) none) then bif (cutOk u82 none (some u83)) then some ((((setRange u85 (0 + (Int.toNat u83)) (List.replicate (cutLen u82 (some u83) none) (0:Int))).drop 0).take (cutLen u82 none (some u83))),()) else none else none) o67) o38
def pf31_spec:PSpec:={ args:=[tI,(.sl tE)],res:=[(.sl tI)],fn:=fun x=>pf31 x.1 x.2.1 }
noncomputable def pf31_code:Code:=Tryz.f31.body.getD .skip
noncomputable def pf31_code_72:Code:=Tryz.f72.body.getD .skip
noncomputable def pf31_code_73:Code:=Tryz.f73.body.getD .skip
noncomputable def pf31_code_125:Code:=Tryz.f125.body.getD .skip
noncomputable def pf31_env:Env0:={ C:=cfg,P:=[(64,f64_spec)],L:=[(⟨12,0,31,2⟩,pf31_l2_spec),(⟨10,35010000,125,2⟩,pf125_l2x_spec),(⟨11,35000,72,5⟩,pf72_l5x_spec),(⟨11,33000,73,9⟩,pf73_l9x_spec),(⟨11,33000,73,4⟩,pf73_l4x_spec)],F:=[(31,Tryz.f31),(72,Tryz.f72),(73,Tryz.f73),(74,Tryz.f74),(125,Tryz.f125)],I:=[(71,sortInts_spec)] }
theorem pf31_l2_ok:LoopOK pf31_env 12 31 0 (loopAt pf31_code 2) pf31_l2_spec :=
 loopOK_of (by kernel_rfl) pf31_l2_n (fun x o h=>⟨_,h⟩) (fun x=>by kernel_rfl) (fun n x=>by kernel_rfl)
theorem pf125_l2x_ok:LoopOK pf31_env 10 125 35010000 (loopAt pf31_code_125 2) pf125_l2x_spec :=
 loopOK_of (by kernel_rfl) pf125_l2x_n (fun x o h=>⟨_,h⟩) (fun x=>by kernel_rfl) (fun n x=>by kernel_rfl)
theorem pf72_l5x_ok:LoopOK pf31_env 11 72 35000 (loopAt pf31_code_72 5) pf72_l5x_spec :=
 loopOK_of (by kernel_rfl) pf72_l5x_n (fun x o h=>⟨_,h⟩) (fun x=>by kernel_rfl) (fun n x=>by kernel_rfl)
theorem pf73_l9x_ok:LoopOK pf31_env 11 73 33000 (loopAt pf31_code_73 9) pf73_l9x_spec :=
 loopOK_of (by kernel_rfl) pf73_l9x_n (fun x o h=>⟨_,h⟩) (fun x=>by kernel_rfl) (fun n x=>by kernel_rfl)
theorem pf73_l4x_ok:LoopOK pf31_env 11 73 33000 (loopAt pf31_code_73 4) pf73_l4x_spec :=
 loopOK_of (by kernel_rfl) pf73_l4x_n (fun x o h=>⟨_,h⟩) (fun x=>by kernel_rfl) (fun n x=>by kernel_rfl)
theorem pf31_run (x:tysDen (pf31_spec).args):runF pf31_env 31 Tryz.f31 pf31_code (pf31_spec).args (pf31_spec).res x = pf31_spec.fn x:=by kernel_rfl
theorem pf31_enter:Enterable Tryz.prog 31:=enter_fun Tryz.func31 (by kernel_rfl)
theorem pf31_envOK:EnvOK Tryz.prog pf31_env:=envOK_of cds (by kernel_rfl) cfg_ok ⟨⟨f64_pure,f64_enter⟩,trivial⟩ trivial ⟨⟨Tryz.func31,by kernel_rfl⟩,⟨Tryz.func72,by kernel_rfl⟩,⟨Tryz.func73,by kernel_rfl⟩,⟨Tryz.func74,by kernel_rfl⟩,⟨Tryz.func125,by kernel_rfl⟩,trivial⟩ ⟨⟨Tryz.f31,pf31_code,rfl,rfl,pf31_l2_ok⟩,⟨Tryz.f125,pf31_code_125,rfl,rfl,pf125_l2x_ok⟩,⟨Tryz.f72,pf31_code_72,rfl,rfl,pf72_l5x_ok⟩,⟨Tryz.f73,pf31_code_73,rfl,rfl,pf73_l9x_ok⟩,⟨Tryz.f73,pf31_code_73,rfl,rfl,pf73_l4x_ok⟩,trivial⟩ trivial ⟨⟨sortInts_inpl,sortInts_enter⟩,trivial⟩
theorem pf31_pure:PureOK Tryz.prog cfg 31 pf31_spec:=pure_of_run pf31_envOK (fn:=Tryz.f31) (c:=pf31_code) rfl rfl pf31_spec (fun x _ h=>(pf31_run x).trans h)
def f67_l3_head:Ann:={ env:=[(4,cP 4),(5,cP 5),(15,.ty (.sl tI)),(16,TI),(17,TI)],bxs:=[(4,.var [.cst .nils,.cst .nils,.cst .nils]),(5,.var [.cst (.row 9 .whole),.ty (.sl tE),.cst .nils]),(9,.row tV false)] }
def f67_l3_outs:List (Ex × Ann):=[((.exit 0),{ env:=[(4,cP 4),(5,cP 5)],bxs:=[(4,.var [.cst .nils,.cst .nils,.cst .nils]),(5,.var [.cst (.row 9 .whole),.ty (.sl tE),.cst .nils]),(9,.row tV false)] })]
def f67_l3 (t15:(List Int)) (t16:Int) (b5g1:(List Ed)):Nat→Int→(List Vx)→Option (outDen f67_l3_outs)
 | 0,_,_=>none
 | k + 1,t17,r9 =>
 bif (decide (t17 < t16)) then
 bif (inR t17 t15.length) then bif (decide (r9.length + ([((at_ tI t15 t17),(0,()))]:List Vx).length≤appLim)) then f67_l3 t15 t16 b5g1 k (IntKind.wrap .i64 (t17 + 1)) (r9++([((at_ tI t15 t17),(0,()))]:List Vx)) else none else none
 else
 some ((),(),((),(b5g1,()),r9,()))
def f67_l3_n (n:Nat) (x:f67_l3_head.den):=f67_l3 x.1.1 x.1.2.1 x.2.2.2.1.1 n x.1.2.2.1 x.2.2.2.2.1
def f67_l3_spec:LSpec:={ head:=f67_l3_head,outs:=f67_l3_outs,fn:=fun x=>f67_l3_n ((x.1.2.1 - x.1.2.2.1).toNat + 1) x }
def f67 (a0:Vx) (a1:(List Ed)):Option (Gr × Unit) :=
 (pf31 a0.1 a1).bind fun y1 =>
 (f67_l3 y1.1 (y1.1.length:Int) a1 (((y1.1.length:Int) - (0:Int)).toNat + 1) (0:Int) ([a0]:List Vx)).bind fun o2 =>
 let u3:(List Ed):=o2.2.2.2.1.1
 let u4:(List Vx):=o2.2.2.2.2.1
 (sortV u4).bind fun y5 =>
 some ((y5,(u3,([],()))),())
def f67_spec:PSpec:={ args:=[tV,(.sl tE)],res:=[tG],fn:=fun x=>f67 x.1 x.2.1 }
noncomputable def f67_code:Code:=Tryz.f67.body.getD .skip
noncomputable def f67_env:Env0:={ C:=cfg2,P:=[(31,pf31_spec)],L:=[(⟨12,0,67,3⟩,f67_l3_spec)],F:=[(67,Tryz.f67)],I:=[(120,sortV_spec)] }
theorem f67_l3_ok:LoopOK f67_env 12 67 0 (loopAt f67_code 3) f67_l3_spec :=
 loopOK_of (by kernel_rfl) f67_l3_n (fun x o h=>⟨_,h⟩) (fun x=>by kernel_rfl) (fun n x=>by kernel_rfl)
theorem f67_run (x:tysDen (f67_spec).args):runF f67_env 67 Tryz.f67 f67_code (f67_spec).args (f67_spec).res x = f67_spec.fn x:=by kernel_rfl
theorem f67_enter:Enterable Tryz.prog 67:=enter_fun Tryz.func67 (by kernel_rfl)
theorem f67_envOK:EnvOK Tryz.prog f67_env:=envOK_of cds (by kernel_rfl) cfg2_ok ⟨⟨pf31_pure,pf31_enter⟩,trivial⟩ trivial ⟨⟨Tryz.func67,by kernel_rfl⟩,trivial⟩ ⟨⟨Tryz.f67,f67_code,rfl,rfl,f67_l3_ok⟩,trivial⟩ trivial ⟨⟨sortV_inpl,sortV_enter⟩,trivial⟩
theorem f67_pure:PureOK Tryz.prog cfg 67 f67_spec:=pure_of_run f67_envOK (fn:=Tryz.f67) (c:=f67_code) rfl rfl f67_spec (fun x _ h=>(f67_run x).trans h)
def f59_l4x_head:Ann:={ env:=[(0,cP 10010),(1,cP 5),(2,cP 6),(28,TI),(29,TI)],stk:=[[(0,.ty .str),(4,cP 10004),(5,cP 10010)],[(0,.cst (.tup [(.fn 117 [(.ptr 10004 0 [])])]))],[(2,cP 2),(3,.cst .nils),(4,TI),(5,cP 5),(6,cP 6)]],bxs:=[(10010,.var [.ty .str,TI]),(5,.var [TI,TI]),(6,.var [.cst (.row 10013035 .whole)]),(10004,.var [.ty .bool]),(2,.var [TI,TI]),(10013035,.row tE false)] }
def f59_l4x_outs:List (Ex × Ann):=[((.exit 0),{ env:=[(1,cP 5),(2,cP 6)],stk:=[[(0,.ty .str),(4,cP 10004),(5,cP 10010)],[(0,.cst (.tup [(.fn 117 [(.ptr 10004 0 [])])]))],[(2,cP 2),(3,.cst .nils),(4,TI),(5,cP 5),(6,cP 6)]],bxs:=[(5,.var [TI,TI]),(6,.var [.cst (.row 10013035 .whole)]),(10004,.var [.ty .bool]),(10010,.var [.ty .str,TI]),(2,.var [TI,TI]),(10013035,.row tE false)] }),((.pan ⟨36,.int .i64 (60)⟩),{ env:=[],stk:=[[(0,.ty .str),(4,cP 10004),(5,cP 10010)],[(0,.cst (.tup [(.fn 117 [(.ptr 10004 0 [])])]))],[(2,cP 2),(3,.cst .nils),(4,TI),(5,cP 5),(6,cP 6)]],bxs:=[(10004,.var [.ty .bool]),(10010,.var [.ty .str,TI]),(2,.var [TI,TI]),(5,.var [TI,TI]),(6,.var [.cst (.row 10013035 .whole)]),(10013035,.row tE false)] })]
def f59_l4x (t28:Int) (k0t0:ByteArray) (k2t4:Int) (b10010g0:ByteArray) (b5g0:Int) (b5g1:Int) (b10004g0:Bool) (b2g0:Int) (b2g1:Int):Nat→Int→Int→(List Ed)→Option (outDen f59_l4x_outs)
 | 0,_,_,_=>none
 | k + 1,t29,b10010g1,r10013035 =>
 bif (decide (t29 < t28)) then
 (f118 b10010g0 b10010g1).bind fun y4 =>
 bif (!(decide (y4.2.2.1 = (0:Int)))) then
 some (.inr ((),((k0t0,()),(),(k2t4,()),()),((b10004g0,()),(b10010g0,b10010g1,()),(b2g0,b2g1,()),(b5g0,b5g1,()),(),r10013035,())))
 else
 (f118 b10010g0 y4.2.1).bind fun y5 =>
 bif (!(decide (y5.2.2.1 = (0:Int)))) then
 some (.inr ((),((k0t0,()),(),(k2t4,()),()),((b10004g0,()),(b10010g0,y4.2.1,()),(b2g0,b2g1,()),(b5g0,b5g1,()),(),r10013035,())))
 else
 (f118 b10010g0 y5.2.1).bind fun y6 =>
 bif (!(decide (y6.2.2.1 = (0:Int)))) then
 some (.inr ((),((k0t0,()),(),(k2t4,()),()),((b10004g0,()),(b10010g0,y5.2.1,()),(b2g0,b2g1,()),(b5g0,b5g1,()),(),r10013035,())))
 else
 (f118 b10010g0 y6.2.1).bind fun y7 =>
 bif (!(decide (y7.2.2.1 = (0:Int)))) then
 some (.inr ((),((k0t0,()),(),(k2t4,()),()),((b10004g0,()),(b10010g0,y6.2.1,()),(b2g0,b2g1,()),(b5g0,b5g1,()),(),r10013035,())))
 else
 bif (decide (y7.1 = (0:Int))) then
 (f118 b10010g0 y7.2.1).bind fun y8 =>
 bif (!(decide (y8.2.2.1 = (0:Int)))) then
 some (.inr ((),((k0t0,()),(),(k2t4,()),()),((b10004g0,()),(b10010g0,y7.2.1,()),(b2g0,b2g1,()),(b5g0,b5g1,()),(),r10013035,())))
 else
 (f118 b10010g0 y8.2.1).bind fun y9 =>
 bif (!(decide (y9.2.2.1 = (0:Int)))) then
 some (.inr ((),((k0t0,()),(),(k2t4,()),()),((b10004g0,()),(b10010g0,y8.2.1,()),(b2g0,b2g1,()),(b5g0,b5g1,()),(),r10013035,())))
 else
 bif (decide (r10013035.length + ([(y4.1,(y5.1,(y6.1,((decide (y7.1 = (1:Int))),(y8.1,(y9.1,()))))))]:List Ed).length≤appLim)) then f59_l4x t28 k0t0 k2t4 b10010g0 b5g0 b5g1 b10004g0 b2g0 b2g1 k (IntKind.wrap .i64 (t29 + 1)) y9.2.1 (r10013035++([(y4.1,(y5.1,(y6.1,((decide (y7.1 = (1:Int))),(y8.1,(y9.1,()))))))]:List Ed)) else none
 else
 bif (!(decide (y7.1 = (1:Int)))) then
 some (.inr ((),((k0t0,()),(),(k2t4,()),()),((b10004g0,()),(b10010g0,y7.2.1,()),(b2g0,b2g1,()),(b5g0,b5g1,()),(),r10013035,())))
 else
 (f118 b10010g0 y7.2.1).bind fun y10 =>
 bif (!(decide (y10.2.2.1 = (0:Int)))) then
 some (.inr ((),((k0t0,()),(),(k2t4,()),()),((b10004g0,()),(b10010g0,y7.2.1,()),(b2g0,b2g1,()),(b5g0,b5g1,()),(),r10013035,())))
 else
 (f118 b10010g0 y10.2.1).bind fun y11 =>
 bif (!(decide (y11.2.2.1 = (0:Int)))) then
 some (.inr ((),((k0t0,()),(),(k2t4,()),()),((b10004g0,()),(b10010g0,y10.2.1,()),(b2g0,b2g1,()),(b5g0,b5g1,()),(),r10013035,())))
 else
 bif (decide (r10013035.length + ([(y4.1,(y5.1,(y6.1,((decide (y7.1 = (1:Int))),(y10.1,(y11.1,()))))))]:List Ed).length≤appLim)) then f59_l4x t28 k0t0 k2t4 b10010g0 b5g0 b5g1 b10004g0 b2g0 b2g1 k (IntKind.wrap .i64 (t29 + 1)) y11.2.1 (r10013035++([(y4.1,(y5.1,(y6.1,((decide (y7.1 = (1:Int))),(y10.1,(y11.1,()))))))]:List Ed)) else none
 else
 some (.inl ((),((k0t0,()),(),(k2t4,()),()),((b5g0,b5g1,()),(),(b10004g0,()),(b10010g0,b10010g1,()),(b2g0,b2g1,()),r10013035,())))
def f59_l4x_n (n:Nat) (x:f59_l4x_head.den):=f59_l4x x.1.1 x.2.1.1.1 x.2.1.2.2.1.1 x.2.2.1.1 x.2.2.2.1.1 x.2.2.2.1.2.1 x.2.2.2.2.2.1.1 x.2.2.2.2.2.2.1.1 x.2.2.2.2.2.2.1.2.1 n x.1.2.1 x.2.2.1.2.1 x.2.2.2.2.2.2.2.1
def f59_l4x_spec:LSpec:={ thaws:=[.cell 6 0 10013035 tE],head:=f59_l4x_head,outs:=f59_l4x_outs,fn:=fun x=>f59_l4x_n ((x.1.1 - x.1.2.1).toNat + 1) x }
def f119_l2x_head:Ann:={ env:=[(0,.cst (.row 10013035 .whole)),(1,.cst (.fn 65 [])),(7,TI),(8,TI)],stk:=[[(4,.ty .bool)],[(1,cP 5),(2,cP 6),(5,.cst (.fn 63 [(.ptr 5 0 [])])),(46,.ty .bool)],[(0,.ty .str),(4,cP 10004),(5,cP 10010)],[(0,.cst (.tup [(.fn 117 [(.ptr 10004 0 [])])]))],[(2,cP 2),(3,.cst .nils),(4,TI),(5,cP 5),(6,cP 6)]],bxs:=[(10013035,.row tE false),(5,.var [TI,TI]),(6,.var [.cst (.row 10013035 .whole)]),(10004,.var [.ty .bool]),(10010,.var [.ty .str,TI]),(2,.var [TI,TI])] }
def f119_l2x_outs:List (Ex × Ann):=[((.exit 0),{ env:=[],stk:=[[(4,.ty .bool)],[(1,cP 5),(2,cP 6),(5,.cst (.fn 63 [(.ptr 5 0 [])])),(46,.ty .bool)],[(0,.ty .str),(4,cP 10004),(5,cP 10010)],[(0,.cst (.tup [(.fn 117 [(.ptr 10004 0 [])])]))],[(2,cP 2),(3,.cst .nils),(4,TI),(5,cP 5),(6,cP 6)]],bxs:=[(5,.var [TI,TI]),(6,.var [.cst (.row 10013035 .whole)]),(10004,.var [.ty .bool]),(10010,.var [.ty .str,TI]),(2,.var [TI,TI]),(10013035,.row tE false)] }),(.ret,{ env:=[(4,TI)],stk:=[[(4,.ty .bool)],[(1,cP 5),(2,cP 6),(5,.cst (.fn 63 [(.ptr 5 0 [])])),(46,.ty .bool)],[(0,.ty .str),(4,cP 10004),(5,cP 10010)],[(0,.cst (.tup [(.fn 117 [(.ptr 10004 0 [])])]))],[(2,cP 2),(3,.cst .nils),(4,TI),(5,cP 5),(6,cP 6)]],bxs:=[(5,.var [TI,TI]),(6,.var [.cst (.row 10013035 .whole)]),(10004,.var [.ty .bool]),(10010,.var [.ty .str,TI]),(2,.var [TI,TI]),(10013035,.row tE false)] })]
def f119_l2x (t7:Int) (k0t4:Bool) (k1t46:Bool) (k2t0:ByteArray) (k4t4:Int) (r10013035:(List Ed)) (b5g0:Int) (b5g1:Int) (b10004g0:Bool) (b10010g0:ByteArray) (b10010g1:Int) (b2g0:Int) (b2g1:Int):Nat→Int→Option (outDen f119_l2x_outs)
 | 0,_=>none
 | k + 1,t8 =>
 bif (decide (t8 < t7)) then
 bif (inR t8 r10013035.length) then
 (f65 (at_ tE r10013035 t8)).bind fun y25 =>
 bif y25.1 then
 some (.inr ((t8,()),((k0t4,()),(k1t46,()),(k2t0,()),(),(k4t4,()),()),((b5g0,b5g1,()),(),(b10004g0,()),(b10010g0,b10010g1,()),(b2g0,b2g1,()),r10013035,())))
 else
 f119_l2x t7 k0t4 k1t46 k2t0 k4t4 r10013035 b5g0 b5g1 b10004g0 b10010g0 b10010g1 b2g0 b2g1 k (IntKind.wrap .i64 (t8 + 1))
 else none
 else
 some (.inl ((),((k0t4,()),(k1t46,()),(k2t0,()),(),(k4t4,()),()),((b5g0,b5g1,()),(),(b10004g0,()),(b10010g0,b10010g1,()),(b2g0,b2g1,()),r10013035,())))
def f119_l2x_n (n:Nat) (x:f119_l2x_head.den):=f119_l2x x.1.1 x.2.1.1.1 x.2.1.2.1.1 x.2.1.2.2.1.1 x.2.1.2.2.2.2.1.1 x.2.2.1 x.2.2.2.1.1 x.2.2.2.1.2.1 x.2.2.2.2.2.1.1 x.2.2.2.2.2.2.1.1 x.2.2.2.2.2.2.1.2.1 x.2.2.2.2.2.2.2.1.1 x.2.2.2.2.2.2.2.1.2.1 n x.1.2.1
def f119_l2x_spec:LSpec:={ head:=f119_l2x_head,outs:=f119_l2x_outs,fn:=fun x=>f119_l2x_n ((x.1.1 - x.1.2.1).toNat + 1) x }
def f119_l2y_head:Ann:={ env:=[(0,.cst (.row 10013035 .whole)),(1,.cst (.fn 63 [(.ptr 5 0 [])])),(7,TI),(8,TI)],stk:=[[(4,.ty .bool)],[(1,cP 5),(2,cP 6),(52,.ty .bool)],[(0,.ty .str),(4,cP 10004),(5,cP 10010)],[(0,.cst (.tup [(.fn 117 [(.ptr 10004 0 [])])]))],[(2,cP 2),(3,.cst .nils),(4,TI),(5,cP 5),(6,cP 6)]],bxs:=[(10013035,.row tE false),(5,.var [TI,TI]),(6,.var [.cst (.row 10013035 .whole)]),(10004,.var [.ty .bool]),(10010,.var [.ty .str,TI]),(2,.var [TI,TI])] }
def f119_l2y_outs:List (Ex × Ann):=[((.exit 0),{ env:=[],stk:=[[(4,.ty .bool)],[(1,cP 5),(2,cP 6),(52,.ty .bool)],[(0,.ty .str),(4,cP 10004),(5,cP 10010)],[(0,.cst (.tup [(.fn 117 [(.ptr 10004 0 [])])]))],[(2,cP 2),(3,.cst .nils),(4,TI),(5,cP 5),(6,cP 6)]],bxs:=[(5,.var [TI,TI]),(6,.var [.cst (.row 10013035 .whole)]),(10004,.var [.ty .bool]),(10010,.var [.ty .str,TI]),(2,.var [TI,TI]),(10013035,.row tE false)] }),(.ret,{ env:=[(4,TI)],stk:=[[(4,.ty .bool)],[(1,cP 5),(2,cP 6),(52,.ty .bool)],[(0,.ty .str),(4,cP 10004),(5,cP 10010)],[(0,.cst (.tup [(.fn 117 [(.ptr 10004 0 [])])]))],[(2,cP 2),(3,.cst .nils),(4,TI),(5,cP 5),(6,cP 6)]],bxs:=[(5,.var [TI,TI]),(6,.var [.cst (.row 10013035 .whole)]),(10004,.var [.ty .bool]),(10010,.var [.ty .str,TI]),(2,.var [TI,TI]),(10013035,.row tE false)] })]
def f119_l2y (t7:Int) (k0t4:Bool) (k1t52:Bool) (k2t0:ByteArray) (k4t4:Int) (r10013035:(List Ed)) (b5g0:Int) (b5g1:Int) (b10004g0:Bool) (b10010g0:ByteArray) (b10010g1:Int) (b2g0:Int) (b2g1:Int):Nat→Int→Option (outDen f119_l2y_outs)
 | 0,_=>none
 | k + 1,t8 =>
 bif (decide (t8 < t7)) then
 bif (inR t8 r10013035.length) then
 (f64 (at_ tE r10013035 t8) b5g0).bind fun y41 =>
 bif (decide (y41.1 < (0:Int))) then
 some (.inr ((t8,()),((k0t4,()),(k1t52,()),(k2t0,()),(),(k4t4,()),()),((b5g0,b5g1,()),(),(b10004g0,()),(b10010g0,b10010g1,()),(b2g0,b2g1,()),r10013035,())))
 else
 f119_l2y t7 k0t4 k1t52 k2t0 k4t4 r10013035 b5g0 b5g1 b10004g0 b10010g0 b10010g1 b2g0 b2g1 k (IntKind.wrap .i64 (t8 + 1))
 else none
 else
 some (.inl ((),((k0t4,()),(k1t52,()),(k2t0,()),(),(k4t4,()),()),((b5g0,b5g1,()),(),(b10004g0,()),(b10010g0,b10010g1,()),(b2g0,b2g1,()),r10013035,())))
def f119_l2y_n (n:Nat) (x:f119_l2y_head.den):=f119_l2y x.1.1 x.2.1.1.1 x.2.1.2.1.1 x.2.1.2.2.1.1 x.2.1.2.2.2.2.1.1 x.2.2.1 x.2.2.2.1.1 x.2.2.2.1.2.1 x.2.2.2.2.2.1.1 x.2.2.2.2.2.2.1.1 x.2.2.2.2.2.2.1.2.1 x.2.2.2.2.2.2.2.1.1 x.2.2.2.2.2.2.2.1.2.1 n x.1.2.1
def f119_l2y_spec:LSpec:={ head:=f119_l2y_head,outs:=f119_l2y_outs,fn:=fun x=>f119_l2y_n ((x.1.1 - x.1.2.1).toNat + 1) x }
def f25 (a0:ByteArray):Option (Vx × (List Ed) × Int × Unit) :=
 (f118 a0 0).bind fun y1 =>
 bif (!(decide (y1.2.2.1 = (0:Int)))) then
 some ((0,(0,())),[],(60:Int),())
 else
 (f118 a0 y1.2.1).bind fun y2 =>
 bif (!(decide (y2.2.2.1 = (0:Int)))) then
 some ((0,(0,())),[],(60:Int),())
 else
 (f118 a0 y2.2.1).bind fun y3 =>
 bif (!(decide (y3.2.2.1 = (0:Int)))) then
 some ((0,(0,())),[],(60:Int),())
 else
 bif (decide (y3.1 ≥ (0:Int))) then
 bif (!(decide (y3.1≤(40:Int)))) then
 some ((0,(0,())),[],(60:Int),())
 else
 (f59_l4x y3.1 a0 (0:Int) a0 y1.1 y2.1 false 0 0 ((y3.1 - (0:Int)).toNat + 1) (0:Int) y3.2.1 []).bind fun o12 =>
 Sum.elim (fun o13 =>
 let u15:ByteArray:=o13.2.1.1.1
 let u16:Int:=o13.2.1.2.2.1.1
 let u17:Int:=o13.2.2.1.1
 let u18:Int:=o13.2.2.1.2.1
 let u19:Bool:=o13.2.2.2.2.1.1
 let u20:ByteArray:=o13.2.2.2.2.2.1.1
 let u21:Int:=o13.2.2.2.2.2.1.2.1
 let u22:Int:=o13.2.2.2.2.2.2.1.1
 let u23:Int:=o13.2.2.2.2.2.2.1.2.1
 let u24:(List Ed):=o13.2.2.2.2.2.2.2.1
 bif (decide (u17 ≥ (0:Int))) then
 bif (decide (u17 < (24:Int))) then
 (f119_l2x (u24.length:Int) false true u15 u16 u24 u17 u18 u19 u20 u21 u22 u23 (((u24.length:Int) - (0:Int)).toNat + 1) (0:Int)).bind fun o26 =>
 Sum.elim (fun o27 =>
 let u30:Bool:=o27.2.1.2.1.1
 let u31:ByteArray:=o27.2.1.2.2.1.1
 let u32:Int:=o27.2.1.2.2.2.2.1.1
 let u33:Int:=o27.2.2.1.1
 let u34:Int:=o27.2.2.1.2.1
 let u35:Bool:=o27.2.2.2.2.1.1
 let u36:ByteArray:=o27.2.2.2.2.2.1.1
 let u37:Int:=o27.2.2.2.2.2.1.2.1
 let u38:Int:=o27.2.2.2.2.2.2.1.1
 let u39:Int:=o27.2.2.2.2.2.2.1.2.1
 let u40:(List Ed):=o27.2.2.2.2.2.2.2.1
 bif u30 then
 (f119_l2y (u40.length:Int) false true u31 u32 u40 u33 u34 u35 u36 u37 u38 u39 (((u40.length:Int) - (0:Int)).toNat + 1) (0:Int)).bind fun o42 =>
 Sum.elim (fun o43 =>
 let u46:Bool:=o43.2.1.2.1.1
 let u47:ByteArray:=o43.2.1.2.2.1.1
 let u49:Int:=o43.2.2.1.1
 let u50:Int:=o43.2.2.1.2.1
 let u51:Bool:=o43.2.2.2.2.1.1
 let u53:Int:=o43.2.2.2.2.2.1.2.1
 let u56:(List Ed):=o43.2.2.2.2.2.2.2.1
 bif u46 then
 (f67 (u49,(u50,())) u56).bind fun y57 =>
 (f46 y57.1).bind fun y58 =>
 bif (!y58.1) then
 bif u51 then
 some ((0,(0,())),[],(60:Int),())
 else
 some ((0,(0,())),[],(60:Int),())
 else
 bif (decide (u53 = (u47.size:Int))) then
 some ((u49,(u50,())),u56,(0:Int),())
 else
 some ((0,(0,())),[],(60:Int),())
 else
 bif u51 then
 some ((0,(0,())),[],(60:Int),())
 else
 some ((0,(0,())),[],(60:Int),())) (fun o44 =>
 let u59:Int:=o44.1.1
 let u61:Bool:=o44.2.1.2.1.1
 let u62:ByteArray:=o44.2.1.2.2.1.1
 let u64:Int:=o44.2.2.1.1
 let u65:Int:=o44.2.2.1.2.1
 let u66:Bool:=o44.2.2.2.2.1.1
 let u68:Int:=o44.2.2.2.2.2.1.2.1
 let u71:(List Ed):=o44.2.2.2.2.2.2.2.1
 bif u61 then
 bif (!(decide (u59 ≥ (0:Int)))) then
 (f67 (u64,(u65,())) u71).bind fun y72 =>
 (f46 y72.1).bind fun y73 =>
 bif (!y73.1) then
 bif u66 then
 some ((0,(0,())),[],(60:Int),())
 else
 some ((0,(0,())),[],(60:Int),())
 else
 bif (decide (u68 = (u62.size:Int))) then
 some ((u64,(u65,())),u71,(0:Int),())
 else
 some ((0,(0,())),[],(60:Int),())
 else
 bif u66 then
 some ((0,(0,())),[],(60:Int),())
 else
 some ((0,(0,())),[],(60:Int),())
 else
 bif u66 then
 some ((0,(0,())),[],(60:Int),())
 else
 some ((0,(0,())),[],(60:Int),())) o42
 else
 bif u35 then
 some ((0,(0,())),[],(60:Int),())
 else
 some ((0,(0,())),[],(60:Int),())) (fun o28 =>
 let u74:Int:=o28.1.1
 let u76:Bool:=o28.2.1.2.1.1
 let u77:ByteArray:=o28.2.1.2.2.1.1
 let u78:Int:=o28.2.1.2.2.2.2.1.1
 let u79:Int:=o28.2.2.1.1
 let u80:Int:=o28.2.2.1.2.1
 let u81:Bool:=o28.2.2.2.2.1.1
 let u82:ByteArray:=o28.2.2.2.2.2.1.1
 let u83:Int:=o28.2.2.2.2.2.1.2.1
 let u84:Int:=o28.2.2.2.2.2.2.1.1
 let u85:Int:=o28.2.2.2.2.2.2.1.2.1
 let u86:(List Ed):=o28.2.2.2.2.2.2.2.1
 bif u76 then
 bif (!(decide (u74 ≥ (0:Int)))) then
 (f119_l2y (u86.length:Int) false true u77 u78 u86 u79 u80 u81 u82 u83 u84 u85 (((u86.length:Int) - (0:Int)).toNat + 1) (0:Int)).bind fun o88 =>
 Sum.elim (fun o89 =>
 let u92:Bool:=o89.2.1.2.1.1
 let u93:ByteArray:=o89.2.1.2.2.1.1
 let u95:Int:=o89.2.2.1.1
 let u96:Int:=o89.2.2.1.2.1
 let u97:Bool:=o89.2.2.2.2.1.1
 let u99:Int:=o89.2.2.2.2.2.1.2.1
 let u102:(List Ed):=o89.2.2.2.2.2.2.2.1
 bif u92 then
 (f67 (u95,(u96,())) u102).bind fun y103 =>
 (f46 y103.1).bind fun y104 =>
 bif (!y104.1) then
 bif u97 then
 some ((0,(0,())),[],(60:Int),())
 else
 some ((0,(0,())),[],(60:Int),())
 else
 bif (decide (u99 = (u93.size:Int))) then
 some ((u95,(u96,())),u102,(0:Int),())
 else
 some ((0,(0,())),[],(60:Int),())
 else
 bif u97 then
 some ((0,(0,())),[],(60:Int),())
 else
 some ((0,(0,())),[],(60:Int),())) (fun o90 =>
 let u105:Int:=o90.1.1
 let u107:Bool:=o90.2.1.2.1.1
 let u108:ByteArray:=o90.2.1.2.2.1.1
 let u110:Int:=o90.2.2.1.1
 let u111:Int:=o90.2.2.1.2.1
 let u112:Bool:=o90.2.2.2.2.1.1
 let u114:Int:=o90.2.2.2.2.2.1.2.1
 let u117:(List Ed):=o90.2.2.2.2.2.2.2.1
 bif u107 then
 bif (!(decide (u105 ≥ (0:Int)))) then
 (f67 (u110,(u111,())) u117).bind fun y118 =>
 (f46 y118.1).bind fun y119 =>
 bif (!y119.1) then
 bif u112 then
 some ((0,(0,())),[],(60:Int),())
 else
 some ((0,(0,())),[],(60:Int),())
 else
 bif (decide (u114 = (u108.size:Int))) then
 some ((u110,(u111,())),u117,(0:Int),())
 else
 some ((0,(0,())),[],(60:Int),())
 else
 bif u112 then
 some ((0,(0,())),[],(60:Int),())
 else
 some ((0,(0,())),[],(60:Int),())
 else
 bif u112 then
 some ((0,(0,())),[],(60:Int),())
 else
 some ((0,(0,())),[],(60:Int),())) o88
 else
 bif u81 then
 some ((0,(0,())),[],(60:Int),())
 else
 some ((0,(0,())),[],(60:Int),())
 else
 bif u81 then
 some ((0,(0,())),[],(60:Int),())
 else
 some ((0,(0,())),[],(60:Int),())) o26
 else
 bif u19 then
 some ((0,(0,())),[],(60:Int),())
 else
 some ((0,(0,())),[],(60:Int),())
 else
 bif u19 then
 some ((0,(0,())),[],(60:Int),())
 else
 some ((0,(0,())),[],(60:Int),())) (fun o14 =>
 let u122:Bool:=o14.2.2.1.1
 bif u122 then
 some ((0,(0,())),[],(60:Int),())
 else
 some ((0,(0,())),[],(60:Int),())) o12
 else
 some ((0,(0,())),[],(60:Int),())
def f25_spec:PSpec:={ args:=[.str],res:=[tV,(.sl tE),tI],fn:=fun x=>f25 x.1 }
noncomputable def f25_code:Code:=Tryz.f25.body.getD .skip
noncomputable def f25_code_59:Code:=Tryz.f59.body.getD .skip
noncomputable def f25_code_119:Code:=Tryz.f119.body.getD .skip
noncomputable def f25_env:Env0:={ C:=cfg,P:=[(46,f46_spec),(64,f64_spec),(65,f65_spec),(67,f67_spec),(118,f118_spec)],L:=[(⟨10,10013000,59,4⟩,f59_l4x_spec),(⟨8,10013049007000,119,2⟩,f119_l2x_spec),(⟨8,10013055007000,119,2⟩,f119_l2y_spec)],F:=[(25,Tryz.f25),(58,Tryz.f58),(59,Tryz.f59),(60,Tryz.f60),(61,Tryz.f61),(62,Tryz.f62),(63,Tryz.f63),(66,Tryz.f66),(117,Tryz.f117),(119,Tryz.f119)],I:=[],tot:=[(59,[0,5]),(62,[1,5])] }
theorem f59_l4x_ok:LoopOK f25_env 10 59 10013000 (loopAt f25_code_59 4) f59_l4x_spec :=
 loopOK_of (by kernel_rfl) f59_l4x_n (fun x o h=>⟨_,h⟩) (fun x=>by kernel_rfl) (fun n x=>by kernel_rfl)
theorem f119_l2x_ok:LoopOK f25_env 8 119 10013049007000 (loopAt f25_code_119 2) f119_l2x_spec :=
 loopOK_of (by kernel_rfl) f119_l2x_n (fun x o h=>⟨_,h⟩) (fun x=>by kernel_rfl) (fun n x=>by kernel_rfl)
theorem f119_l2y_ok:LoopOK f25_env 8 119 10013055007000 (loopAt f25_code_119 2) f119_l2y_spec :=
 loopOK_of (by kernel_rfl) f119_l2y_n (fun x o h=>⟨_,h⟩) (fun x=>by kernel_rfl) (fun n x=>by kernel_rfl)
theorem f25_run (x:tysDen (f25_spec).args):runF f25_env 25 Tryz.f25 f25_code (f25_spec).args (f25_spec).res x = f25_spec.fn x:=by kernel_rfl
theorem f25_enter:Enterable Tryz.prog 25:=enter_fun Tryz.func25 (by kernel_rfl)
theorem f25_envOK:EnvOK Tryz.prog f25_env:=envOK_of cds (by kernel_rfl) cfg_ok ⟨⟨f46_pure,f46_enter⟩,⟨f64_pure,f64_enter⟩,⟨f65_pure,f65_enter⟩,⟨f67_pure,f67_enter⟩,⟨f118_pure,f118_enter⟩,trivial⟩ trivial ⟨⟨Tryz.func25,by kernel_rfl⟩,⟨Tryz.func58,by kernel_rfl⟩,⟨Tryz.func59,by kernel_rfl⟩,⟨Tryz.func60,by kernel_rfl⟩,⟨Tryz.func61,by kernel_rfl⟩,⟨Tryz.func62,by kernel_rfl⟩,⟨Tryz.func63,by kernel_rfl⟩,⟨Tryz.func66,by kernel_rfl⟩,⟨Tryz.func117,by kernel_rfl⟩,⟨Tryz.func119,by kernel_rfl⟩,trivial⟩ ⟨⟨Tryz.f59,f25_code_59,rfl,rfl,f59_l4x_ok⟩,⟨Tryz.f119,f25_code_119,rfl,rfl,f119_l2x_ok⟩,⟨Tryz.f119,f25_code_119,rfl,rfl,f119_l2y_ok⟩,trivial⟩ trivial trivial
theorem f25_pure:PureOK Tryz.prog cfg 25 f25_spec:=pure_of_run f25_envOK (fn:=Tryz.f25) (c:=f25_code) rfl rfl f25_spec (fun x _ h=>(f25_run x).trans h)
def f70_l4x_head:Ann:={ env:=[(0,cP 10010),(1,cP 5),(2,cP 6),(5,TI),(18,TI),(19,TI)],stk:=[[(0,.ty .str),(4,cP 10004),(5,cP 10010)],[(0,.cst (.tup [(.fn 117 [(.ptr 10004 0 [])])]))],[(2,.cst .nils),(3,TI),(4,TI),(5,cP 5),(6,cP 6)]],bxs:=[(10010,.var [.ty .str,TI]),(5,.var [.cst (.row 10013036 .whole)]),(6,.var [TI]),(10004,.var [.ty .bool]),(10013036,.row tI false)] }
def f70_l4x_outs:List (Ex × Ann):=[((.exit 0),{ env:=[(0,cP 10010),(2,cP 6)],stk:=[[(0,.ty .str),(4,cP 10004),(5,cP 10010)],[(0,.cst (.tup [(.fn 117 [(.ptr 10004 0 [])])]))],[(2,.cst .nils),(3,TI),(4,TI),(5,cP 5),(6,cP 6)]],bxs:=[(10010,.var [.ty .str,TI]),(6,.var [TI]),(10004,.var [.ty .bool]),(5,.var [.cst (.row 10013036 .whole)]),(10013036,.row tI false)] }),((.pan ⟨36,.int .i64 (60)⟩),{ env:=[],stk:=[[(0,.ty .str),(4,cP 10004),(5,cP 10010)],[(0,.cst (.tup [(.fn 117 [(.ptr 10004 0 [])])]))],[(2,.cst .nils),(3,TI),(4,TI),(5,cP 5),(6,cP 6)]],bxs:=[(10004,.var [.ty .bool]),(10010,.var [.ty .str,TI]),(5,.var [.cst (.row 10013036 .whole)]),(6,.var [TI]),(10013036,.row tI false)] })]
def f70_l4x (t18:Int) (k0t0:ByteArray) (k2t3:Int) (k2t4:Int) (b10010g0:ByteArray) (b6g0:Int) (b10004g0:Bool):Nat→Int→Int→Int→(List Int)→Option (outDen f70_l4x_outs)
 | 0,_,_,_,_=>none
 | k + 1,t5,t19,b10010g1,r10013036 =>
 bif (decide (t19 < t18)) then
 (f118 b10010g0 b10010g1).bind fun y2 =>
 bif (!(decide (y2.2.2.1 = (0:Int)))) then
 some (.inr ((),((k0t0,()),(),(k2t3,k2t4,()),()),((b10004g0,()),(b10010g0,b10010g1,()),(),(b6g0,()),r10013036,())))
 else
 bif (decide (t5 < y2.1)) then
 bif (!(decide (y2.1 < (24:Int)))) then
 some (.inr ((),((k0t0,()),(),(k2t3,k2t4,()),()),((b10004g0,()),(b10010g0,y2.2.1,()),(),(b6g0,()),r10013036,())))
 else
 bif (decide (r10013036.length + ([y2.1]:List Int).length≤appLim)) then f70_l4x t18 k0t0 k2t3 k2t4 b10010g0 b6g0 b10004g0 k y2.1 (IntKind.wrap .i64 (t19 + 1)) y2.2.1 (r10013036++([y2.1]:List Int)) else none
 else
 some (.inr ((),((k0t0,()),(),(k2t3,k2t4,()),()),((b10004g0,()),(b10010g0,y2.2.1,()),(),(b6g0,()),r10013036,())))
 else
 some (.inl ((),((k0t0,()),(),(k2t3,k2t4,()),()),((b10010g0,b10010g1,()),(b6g0,()),(b10004g0,()),(),r10013036,())))
def f70_l4x_n (n:Nat) (x:f70_l4x_head.den):=f70_l4x x.1.2.1 x.2.1.1.1 x.2.1.2.2.1.1 x.2.1.2.2.1.2.1 x.2.2.1.1 x.2.2.2.2.1.1 x.2.2.2.2.2.1.1 n x.1.1 x.1.2.2.1 x.2.2.1.2.1 x.2.2.2.2.2.2.1
def f70_l4x_spec:LSpec:={ thaws:=[.cell 5 0 10013036 tI],head:=f70_l4x_head,outs:=f70_l4x_outs,fn:=fun x=>f70_l4x_n ((x.1.2.1 - x.1.2.2.1).toNat + 1) x }
def f27 (a0:ByteArray):Option ((List Int) × Int × Int × Unit) :=
 (f118 a0 0).bind fun y1 =>
 bif (!(decide (y1.2.2.1 = (0:Int)))) then
 some ([],(0:Int),(60:Int),())
 else
 bif (decide (y1.1 ≥ (0:Int))) then
 bif (!(decide (y1.1≤(3:Int)))) then
 some ([],(0:Int),(60:Int),())
 else
 (f70_l4x y1.1 a0 (0:Int) (0:Int) a0 (0:Int) false ((y1.1 - (0:Int)).toNat + 1) (-1:Int) (0:Int) y1.2.1 []).bind fun o3 =>
 Sum.elim (fun o4 =>
 let u6:ByteArray:=o4.2.1.1.1
 let u9:ByteArray:=o4.2.2.1.1
 let u10:Int:=o4.2.2.1.2.1
 let u12:Bool:=o4.2.2.2.2.1.1
 let u13:(List Int):=o4.2.2.2.2.2.2.1
 (f118 u9 u10).bind fun y14 =>
 bif (!(decide (y14.2.2.1 = (0:Int)))) then
 bif u12 then
 some ([],(0:Int),(60:Int),())
 else
 some ([],(0:Int),(60:Int),())
 else
 bif (decide (y14.1 ≥ (0:Int))) then
 let v15:Bool:=(!(decide (y14.1 < (1099511627776:Int))))
 bif v15 then
 bif u12 then
 some ([],(0:Int),(60:Int),())
 else
 some ([],(0:Int),(60:Int),())
 else
 bif (decide (y14.2.1 = (u6.size:Int))) then
 some (u13,y14.1,(0:Int),())
 else
 some ([],(0:Int),(60:Int),())
 else
 bif u12 then
 some ([],(0:Int),(60:Int),())
 else
 some ([],(0:Int),(60:Int),())) (fun o5 =>
 let u19:Bool:=o5.2.2.1.1
 bif u19 then
 some ([],(0:Int),(60:Int),())
 else
 some ([],(0:Int),(60:Int),())) o3
 else
 some ([],(0:Int),(60:Int),())
def f27_spec:PSpec:={ args:=[.str],res:=[(.sl tI),tI,tI],fn:=fun x=>f27 x.1 }
noncomputable def f27_code:Code:=Tryz.f27.body.getD .skip
noncomputable def f27_code_70:Code:=Tryz.f70.body.getD .skip
noncomputable def f27_env:Env0:={ C:=cfg,P:=[(118,f118_spec)],L:=[(⟨10,10013000,70,4⟩,f70_l4x_spec)],F:=[(27,Tryz.f27),(58,Tryz.f58),(60,Tryz.f60),(61,Tryz.f61),(70,Tryz.f70),(117,Tryz.f117)],I:=[],tot:=[(70,[])] }
theorem f70_l4x_ok:LoopOK f27_env 10 70 10013000 (loopAt f27_code_70 4) f70_l4x_spec :=
 loopOK_of (by kernel_rfl) f70_l4x_n (fun x o h=>⟨_,h⟩) (fun x=>by kernel_rfl) (fun n x=>by kernel_rfl)
theorem f27_run (x:tysDen (f27_spec).args):runF f27_env 27 Tryz.f27 f27_code (f27_spec).args (f27_spec).res x = f27_spec.fn x:=by kernel_rfl
theorem f27_enter:Enterable Tryz.prog 27:=enter_fun Tryz.func27 (by kernel_rfl)
theorem f27_envOK:EnvOK Tryz.prog f27_env:=envOK_of cds (by kernel_rfl) cfg_ok ⟨⟨f118_pure,f118_enter⟩,trivial⟩ trivial ⟨⟨Tryz.func27,by kernel_rfl⟩,⟨Tryz.func58,by kernel_rfl⟩,⟨Tryz.func60,by kernel_rfl⟩,⟨Tryz.func61,by kernel_rfl⟩,⟨Tryz.func70,by kernel_rfl⟩,⟨Tryz.func117,by kernel_rfl⟩,trivial⟩ ⟨⟨Tryz.f70,f27_code_70,rfl,rfl,f70_l4x_ok⟩,trivial⟩ trivial trivial
theorem f27_pure:PureOK Tryz.prog cfg 27 f27_spec:=pure_of_run f27_envOK (fn:=Tryz.f27) (c:=f27_code) rfl rfl f27_spec (fun x _ h=>(f27_run x).trans h)
def f56_l4_head:Ann:={ env:=[(0,.ty (.sl tN)),(1,.ty (.sl tN)),(12,TI),(13,TI)] }
def f56_l4_outs:List (Ex × Ann):=[((.exit 0),{ env:=[] }),(.ret,{ env:=[(4,.ty .bool)] })]
def f56_l4 (t0:(List En)) (t1:(List En)) (t12:Int):Nat→Int→Option (outDen f56_l4_outs)
 | 0,_=>none
 | k + 1,t13 =>
 bif (decide (t13 < t12)) then
 bif (inR t13 t0.length) then
 bif (inR t13 t1.length) then
 let v2:Bool:=(!(decide ((at_ tN t0 t13).1 = (at_ tN t1 t13).1) && (decide ((at_ tN t0 t13).2.1 = (at_ tN t1 t13).2.1) && true)))
 bif v2 then
 some (.inr ((false,()),(),()))
 else
 f56_l4 t0 t1 t12 k (IntKind.wrap .i64 (t13 + 1))
 else none
 else none
 else
 some (.inl ((),(),()))
def f56_l4_n (n:Nat) (x:f56_l4_head.den):=f56_l4 x.1.1 x.1.2.1 x.1.2.2.1 n x.1.2.2.2.1
def f56_l4_spec:LSpec:={ head:=f56_l4_head,outs:=f56_l4_outs,fn:=fun x=>f56_l4_n ((x.1.2.2.1 - x.1.2.2.2.1).toNat + 1) x }
def f56 (a0:(List En)) (a1:(List En)):Option (Bool × Unit) :=
 let v1:Bool:=(decide ((a0.length:Int) ≠ (a1.length:Int)))
 bif v1 then
 some (false,())
 else
 (f56_l4 a0 a1 (a0.length:Int) (((a0.length:Int) - (0:Int)).toNat + 1) (0:Int)).bind fun o3 =>
 Sum.elim (fun o4 =>
 some (true,())) (fun o5 =>
 let u6:Bool:=o5.1.1
 some (u6,())) o3
def f56_spec:PSpec:={ args:=[(.sl tN),(.sl tN)],res:=[.bool],fn:=fun x=>f56 x.1 x.2.1 }
noncomputable def f56_code:Code:=Tryz.f56.body.getD .skip
noncomputable def f56_env:Env0:={ C:=cfg,P:=[],L:=[(⟨12,0,56,4⟩,f56_l4_spec)],F:=[(56,Tryz.f56)] }
theorem f56_l4_ok:LoopOK f56_env 12 56 0 (loopAt f56_code 4) f56_l4_spec :=
 loopOK_of (by kernel_rfl) f56_l4_n (fun x o h=>⟨_,h⟩) (fun x=>by kernel_rfl) (fun n x=>by kernel_rfl)
theorem f56_run (x:tysDen (f56_spec).args):runF f56_env 56 Tryz.f56 f56_code (f56_spec).args (f56_spec).res x = f56_spec.fn x:=by kernel_rfl
theorem f56_enter:Enterable Tryz.prog 56:=enter_fun Tryz.func56 (by kernel_rfl)
theorem f56_envOK:EnvOK Tryz.prog f56_env:=envOK_of cds (by kernel_rfl) cfg_ok trivial trivial ⟨⟨Tryz.func56,by kernel_rfl⟩,trivial⟩ ⟨⟨Tryz.f56,f56_code,rfl,rfl,f56_l4_ok⟩,trivial⟩ trivial trivial
theorem f56_pure:PureOK Tryz.prog cfg 56 f56_spec:=pure_of_run f56_envOK (fn:=Tryz.f56) (c:=f56_code) rfl rfl f56_spec (fun x _ h=>(f56_run x).trans h)
def f22_l13_head:Ann:={ env:=[(0,.ty (.sl tN)),(2,cP 2),(4,cP 4),(5,.cst (.mp 30)),(35,.ty (.sl tN)),(36,TI),(37,TI),(58,.ty (.sl tE)),(59,TI),(60,TI)],bxs:=[(2,.var [.cst .nils,.cst .nils,.cst .nils]),(4,.var [.cst (.row 56 .whole),.cst .nils,.cst .nils]),(30,.map tI tE),(56,.row tV false)] }
def f22_l13_outs:List (Ex × Ann):=[((.exit 2),{ env:=[(0,.ty (.sl tN)),(2,cP 2),(4,cP 4),(5,.cst (.mp 30)),(35,.ty (.sl tN)),(36,TI),(37,TI)],bxs:=[(2,.var [.cst .nils,.cst .nils,.cst .nils]),(4,.var [.cst (.row 56 .whole),.cst .nils,.cst .nils]),(30,.map tI tE),(56,.row tV false)] })]
def f22_l13 (t0:(List En)) (t35:(List En)) (t36:Int) (t37:Int) (t58:(List Ed)) (t59:Int) (r56:(List Vx)):Nat→Int→(List (Int × Ed))→Option (outDen f22_l13_outs)
 | 0,_,_=>none
 | k + 1,t60,m30 =>
 bif (decide (t60 < t59)) then
 bif (inR t60 t58.length) then
 let v5:Int:=(at_ tE t58 t60).1
 f22_l13 t0 t35 t36 t37 t58 t59 r56 k (IntKind.wrap .i64 (t60 + 1)) (mapSet tI tE m30 v5 (at_ tE t58 t60))
 else none
 else
 some ((t0,t35,t36,t37,()),(),((),(),m30,r56,()))
def f22_l13_n (n:Nat) (x:f22_l13_head.den):=f22_l13 x.1.1 x.1.2.1 x.1.2.2.1 x.1.2.2.2.1 x.1.2.2.2.2.1 x.1.2.2.2.2.2.1 x.2.2.2.2.2.1 n x.1.2.2.2.2.2.2.1 x.2.2.2.2.1
def f22_l13_spec:LSpec:={ head:=f22_l13_head,outs:=f22_l13_outs,fn:=fun x=>f22_l13_n ((x.1.2.2.2.2.2.1 - x.1.2.2.2.2.2.2.1).toNat + 1) x }
def f22_l6_head:Ann:={ env:=[(0,.ty (.sl tN)),(2,cP 2),(4,cP 4),(5,.cst (.mp 30)),(35,.ty (.sl tN)),(36,TI),(37,TI)],bxs:=[(2,.var [.cst .nils,.cst .nils,.cst .nils]),(4,.var [.cst (.row 56 .whole),.cst .nils,.cst .nils]),(30,.map tI tE),(56,.row tV false)] }
def f22_l6_outs:List (Ex × Ann):=[((.exit 0),{ env:=[(0,.ty (.sl tN)),(2,cP 2),(4,cP 4),(5,.cst (.mp 30))],bxs:=[(2,.var [.cst .nils,.cst .nils,.cst .nils]),(4,.var [.cst (.row 56 .whole),.cst .nils,.cst .nils]),(30,.map tI tE),(56,.row tV false)] }),(.ret,{ env:=[(2,cP 2),(3,TI)],bxs:=[(2,.var [.cst .nils,.cst .nils,.cst .nils])] })]
def f22_l6:Nat→(List En)→(List En)→Int→Int→(List (Int × Ed))→(List Vx)→Option (outDen f22_l6_outs)
 | 0,_,_,_,_,_,_=>none
 | k + 1,t0,t35,t36,t37,m30,r56 =>
 bif (decide (t37 < t36)) then
 bif (inR t37 t35.length) then
 let v3:ByteArray:=(at_ tN t35 t37).2.1
 (f25 v3).bind fun y4 =>
 bif (decide (y4.2.2.1 ≠ (0:Int))) then
 some (.inr ((y4.2.2.1,()),(),((),())))
 else
 bif (decide (r56.length + ([y4.1]:List Vx).length≤appLim)) then
 (f22_l13 t0 t35 t36 t37 y4.2.1 (y4.2.1.length:Int) (r56++([y4.1]:List Vx)) (((y4.2.1.length:Int) - (0:Int)).toNat + 1) (0:Int) m30).bind fun o6 =>
 let u7:(List En):=o6.1.1
 let u8:(List En):=o6.1.2.1
 let u9:Int:=o6.1.2.2.1
 let u10:Int:=o6.1.2.2.2.1
 let u11:(List (Int × Ed)):=o6.2.2.2.2.1
 let u12:(List Vx):=o6.2.2.2.2.2.1
 f22_l6 k u7 u8 u9 (IntKind.wrap .i64 (u10 + 1)) u11 u12
 else none
 else none
 else
 some (.inl ((t0,()),(),((),(),m30,r56,())))
def f22_l6_n (n:Nat) (x:f22_l6_head.den):=f22_l6 n x.1.1 x.1.2.1 x.1.2.2.1 x.1.2.2.2.1 x.2.2.2.2.1 x.2.2.2.2.2.1
def f22_l6_spec:LSpec:={ thaws:=[.cell 4 0 56 tV],head:=f22_l6_head,outs:=f22_l6_outs,fn:=fun x=>f22_l6_n ((x.1.2.2.1 - x.1.2.2.2.1).toNat + 1) x }
def f22_l19_head:Ann:={ env:=[(0,.ty (.sl tN)),(2,cP 2),(4,cP 4),(5,.cst (.mp 30)),(70,TI)],bxs:=[(2,.var [.cst .nils,.cst .nils,.cst .nils]),(4,.var [.cst (.row 56 .whole),.cst (.row 84 .whole),.cst .nils]),(30,.map tI tE),(56,.row tV false),(84,.row tE false)] }
def f22_l19_outs:List (Ex × Ann):=[((.exit 4),{ env:=[(0,.ty (.sl tN)),(2,cP 2),(4,cP 4)],bxs:=[(2,.var [.cst .nils,.cst .nils,.cst .nils]),(4,.var [.cst (.row 56 .whole),.cst (.row 84 .whole),.cst .nils]),(56,.row tV false),(84,.row tE false)] })]
def f22_l19 (t0:(List En)) (m30:(List (Int × Ed))) (r56:(List Vx)):Nat→Int→(List Ed)→Option (outDen f22_l19_outs)
 | 0,_,_=>none
 | k + 1,t70,r84 =>
 bif (decide (t70 < (40:Int))) then
 let v19:Bool:=(mapHas tI tE m30 t70)
 bif v19 then
 bif (decide (r84.length + ([(mapGet tI tE m30 t70)]:List Ed).length≤appLim)) then f22_l19 t0 m30 r56 k (IntKind.wrap .i64 (t70 + 1)) (r84++([(mapGet tI tE m30 t70)]:List Ed)) else none
 else
 f22_l19 t0 m30 r56 k (IntKind.wrap .i64 (t70 + 1)) r84
 else
 some ((t0,()),(),((),(),r56,r84,()))
def f22_l19_n (n:Nat) (x:f22_l19_head.den):=f22_l19 x.1.1 x.2.2.2.2.1 x.2.2.2.2.2.1 n x.1.2.1 x.2.2.2.2.2.2.1
def f22_l19_spec:LSpec:={ thaws:=[.cell 4 1 84 tE],head:=f22_l19_head,outs:=f22_l19_outs,fn:=fun x=>f22_l19_n (((40:Int) - x.1.2.1).toNat + 1) x }
def f22 (a0:(List En)):Option (Gr × Int × Unit) :=
 bif (decide ((a0.length:Int) = (0:Int))) then
 some (([],([],([],()))),(60:Int),())
 else
 let v1:Bool:=(decide ((a0.length:Int) > (25:Int)))
 bif v1 then
 some (([],([],([],()))),(60:Int),())
 else
 let v2:Int:=(IntKind.wrap .i64 ((a0.length:Int) - (1:Int)))
 bif (cutOk a0.length none (some v2)) then
 (f22_l6 ((((a0.take (Int.toNat v2)).length:Int) - (0:Int)).toNat + 1) a0 (a0.take (Int.toNat v2)) ((a0.take (Int.toNat v2)).length:Int) (0:Int) ([]:List (Int × Ed)) []).bind fun o13 =>
 Sum.elim (fun o14 =>
 let u16:(List En):=o14.1.1
 let u17:(List (Int × Ed)):=o14.2.2.2.2.1
 let u18:(List Vx):=o14.2.2.2.2.2.1
 (f22_l19 u16 u17 u18 (((40:Int) - (0:Int)).toNat + 1) (0:Int) []).bind fun o20 =>
 let u21:(List En):=o20.1.1
 let u22:(List Vx):=o20.2.2.2.2.1
 let u23:(List Ed):=o20.2.2.2.2.2.1
 let v24:Int:=(IntKind.wrap .i64 ((u21.length:Int) - (1:Int)))
 bif (inR v24 u21.length) then
 let v25:ByteArray:=(at_ tN u21 v24).2.1
 (f27 v25).bind fun y26 =>
 bif (decide (y26.2.2.1 ≠ (0:Int))) then
 some (([],([],([],()))),y26.2.2.1,())
 else
 (f13 (u22,(u23,(y26.1,())))).bind fun y27 =>
 bif (decide (y27.2.1 ≠ (0:Int))) then
 some (([],([],([],()))),(60:Int),())
 else
 (f56 y27.1 u21).bind fun y28 =>
 bif (!y28.1) then
 some (([],([],([],()))),(60:Int),())
 else
 some ((u22,(u23,(y26.1,()))),(0:Int),())
 else none) (fun o15 =>
 let u29:Int:=o15.1.1
 some (([],([],([],()))),u29,())) o13
 else none
def f22_spec:PSpec:={ args:=[(.sl tN)],res:=[tG,tI],fn:=fun x=>f22 x.1 }
noncomputable def f22_code:Code:=Tryz.f22.body.getD .skip
noncomputable def f22_env:Env0:={ C:=cfg,P:=[(13,f13_spec),(25,f25_spec),(27,f27_spec),(56,f56_spec)],L:=[(⟨12,0,22,13⟩,f22_l13_spec),(⟨12,0,22,6⟩,f22_l6_spec),(⟨12,0,22,19⟩,f22_l19_spec)],F:=[(22,Tryz.f22)] }
theorem f22_l13_ok:LoopOK f22_env 12 22 0 (loopAt f22_code 13) f22_l13_spec :=
 loopOK_of (by kernel_rfl) f22_l13_n (fun x o h=>⟨_,h⟩) (fun x=>by kernel_rfl) (fun n x=>by kernel_rfl)
theorem f22_l6_ok:LoopOK f22_env 12 22 0 (loopAt f22_code 6) f22_l6_spec :=
 loopOK_of (by kernel_rfl) f22_l6_n (fun x o h=>⟨_,h⟩) (fun x=>by kernel_rfl) (fun n x=>by kernel_rfl)
theorem f22_l19_ok:LoopOK f22_env 12 22 0 (loopAt f22_code 19) f22_l19_spec :=
 loopOK_of (by kernel_rfl) f22_l19_n (fun x o h=>⟨_,h⟩) (fun x=>by kernel_rfl) (fun n x=>by kernel_rfl)
theorem f22_run (x:tysDen (f22_spec).args):runF f22_env 22 Tryz.f22 f22_code (f22_spec).args (f22_spec).res x = f22_spec.fn x:=by kernel_rfl
theorem f22_enter:Enterable Tryz.prog 22:=enter_fun Tryz.func22 (by kernel_rfl)
theorem f22_envOK:EnvOK Tryz.prog f22_env:=envOK_of cds (by kernel_rfl) cfg_ok ⟨⟨f13_pure,f13_enter⟩,⟨f25_pure,f25_enter⟩,⟨f27_pure,f27_enter⟩,⟨f56_pure,f56_enter⟩,trivial⟩ trivial ⟨⟨Tryz.func22,by kernel_rfl⟩,trivial⟩ ⟨⟨Tryz.f22,f22_code,rfl,rfl,f22_l13_ok⟩,⟨Tryz.f22,f22_code,rfl,rfl,f22_l6_ok⟩,⟨Tryz.f22,f22_code,rfl,rfl,f22_l19_ok⟩,trivial⟩ trivial trivial
theorem f22_pure:PureOK Tryz.prog cfg 22 f22_spec:=pure_of_run f22_envOK (fn:=Tryz.f22) (c:=f22_code) rfl rfl f22_spec (fun x _ h=>(f22_run x).trans h)
def f29_l4_head:Ann:={ env:=[(0,.ty (.sl tE)),(1,.ty (.sl tE)),(5,TI)] }
def f29_l4_outs:List (Ex × Ann):=[((.exit 0),{ env:=[] }),(.ret,{ env:=[(4,.ty .bool)] })]
def f29_l4 (t0:(List Ed)) (t1:(List Ed)):Nat→Int→Option (outDen f29_l4_outs)
 | 0,_=>none
 | k + 1,t5 =>
 bif (decide (t5 < (t0.length:Int))) then
 bif (inR t5 t0.length) then
 bif (inR t5 t1.length) then
 let v2:Bool:=(!(decide ((at_ tE t0 t5).1 = (at_ tE t1 t5).1) && (decide ((at_ tE t0 t5).2.1 = (at_ tE t1 t5).2.1) && (decide ((at_ tE t0 t5).2.2.1 = (at_ tE t1 t5).2.2.1) && (decide ((at_ tE t0 t5).2.2.2.1 = (at_ tE t1 t5).2.2.2.1) && (decide ((at_ tE t0 t5).2.2.2.2.1 = (at_ tE t1 t5).2.2.2.2.1) && (decide ((at_ tE t0 t5).2.2.2.2.2.1 = (at_ tE t1 t5).2.2.2.2.2.1) && true)))))))
 bif v2 then
 some (.inr ((false,()),(),()))
 else
 f29_l4 t0 t1 k (IntKind.wrap .i64 (t5 + 1))
 else none
 else none
 else
 some (.inl ((),(),()))
def f29_l4_n (n:Nat) (x:f29_l4_head.den):=f29_l4 x.1.1 x.1.2.1 n x.1.2.2.1
def f29_l4_spec:LSpec:={ head:=f29_l4_head,outs:=f29_l4_outs,fn:=fun x=>f29_l4_n (((x.1.1.length:Int) - x.1.2.2.1).toNat + 1) x }
def f29 (a0:(List Ed)) (a1:(List Ed)):Option (Bool × Unit) :=
 let v1:Bool:=(decide ((a0.length:Int) ≠ (a1.length:Int)))
 bif v1 then
 some (false,())
 else
 (f29_l4 a0 a1 (((a0.length:Int) - (0:Int)).toNat + 1) (0:Int)).bind fun o3 =>
 Sum.elim (fun o4 =>
 some (true,())) (fun o5 =>
 let u6:Bool:=o5.1.1
 some (u6,())) o3
def f29_spec:PSpec:={ args:=[(.sl tE),(.sl tE)],res:=[.bool],fn:=fun x=>f29 x.1 x.2.1 }
noncomputable def f29_code:Code:=Tryz.f29.body.getD .skip
noncomputable def f29_env:Env0:={ C:=cfg,P:=[],L:=[(⟨12,0,29,4⟩,f29_l4_spec)],F:=[(29,Tryz.f29)] }
theorem f29_l4_ok:LoopOK f29_env 12 29 0 (loopAt f29_code 4) f29_l4_spec :=
 loopOK_of (by kernel_rfl) f29_l4_n (fun x o h=>⟨_,h⟩) (fun x=>by kernel_rfl) (fun n x=>by kernel_rfl)
theorem f29_run (x:tysDen (f29_spec).args):runF f29_env 29 Tryz.f29 f29_code (f29_spec).args (f29_spec).res x = f29_spec.fn x:=by kernel_rfl
theorem f29_enter:Enterable Tryz.prog 29:=enter_fun Tryz.func29 (by kernel_rfl)
theorem f29_envOK:EnvOK Tryz.prog f29_env:=envOK_of cds (by kernel_rfl) cfg_ok trivial trivial ⟨⟨Tryz.func29,by kernel_rfl⟩,trivial⟩ ⟨⟨Tryz.f29,f29_code,rfl,rfl,f29_l4_ok⟩,trivial⟩ trivial trivial
theorem f29_pure:PureOK Tryz.prog cfg 29 f29_spec:=pure_of_run f29_envOK (fn:=Tryz.f29) (c:=f29_code) rfl rfl f29_spec (fun x _ h=>(f29_run x).trans h)
def f30_l4_head:Ann:={ env:=[(0,.ty (.sl tI)),(1,.ty (.sl tI)),(5,TI)] }
def f30_l4_outs:List (Ex × Ann):=[((.exit 0),{ env:=[] }),(.ret,{ env:=[(4,.ty .bool)] })]
def f30_l4 (t0:(List Int)) (t1:(List Int)):Nat→Int→Option (outDen f30_l4_outs)
 | 0,_=>none
 | k + 1,t5 =>
 bif (decide (t5 < (t0.length:Int))) then
 bif (inR t5 t0.length) then
 bif (inR t5 t1.length) then
 let v2:Bool:=(decide ((at_ tI t0 t5) ≠ (at_ tI t1 t5)))
 bif v2 then
 some (.inr ((false,()),(),()))
 else
 f30_l4 t0 t1 k (IntKind.wrap .i64 (t5 + 1))
 else none
 else none
 else
 some (.inl ((),(),()))
def f30_l4_n (n:Nat) (x:f30_l4_head.den):=f30_l4 x.1.1 x.1.2.1 n x.1.2.2.1
def f30_l4_spec:LSpec:={ head:=f30_l4_head,outs:=f30_l4_outs,fn:=fun x=>f30_l4_n (((x.1.1.length:Int) - x.1.2.2.1).toNat + 1) x }
def f30 (a0:(List Int)) (a1:(List Int)):Option (Bool × Unit) :=
 let v1:Bool:=(decide ((a0.length:Int) ≠ (a1.length:Int)))
 bif v1 then
 some (false,())
 else
 (f30_l4 a0 a1 (((a0.length:Int) - (0:Int)).toNat + 1) (0:Int)).bind fun o3 =>
 Sum.elim (fun o4 =>
 some (true,())) (fun o5 =>
 let u6:Bool:=o5.1.1
 some (u6,())) o3
def f30_spec:PSpec:={ args:=[(.sl tI),(.sl tI)],res:=[.bool],fn:=fun x=>f30 x.1 x.2.1 }
noncomputable def f30_code:Code:=Tryz.f30.body.getD .skip
noncomputable def f30_env:Env0:={ C:=cfg,P:=[],L:=[(⟨12,0,30,4⟩,f30_l4_spec)],F:=[(30,Tryz.f30)] }
theorem f30_l4_ok:LoopOK f30_env 12 30 0 (loopAt f30_code 4) f30_l4_spec :=
 loopOK_of (by kernel_rfl) f30_l4_n (fun x o h=>⟨_,h⟩) (fun x=>by kernel_rfl) (fun n x=>by kernel_rfl)
theorem f30_run (x:tysDen (f30_spec).args):runF f30_env 30 Tryz.f30 f30_code (f30_spec).args (f30_spec).res x = f30_spec.fn x:=by kernel_rfl
theorem f30_enter:Enterable Tryz.prog 30:=enter_fun Tryz.func30 (by kernel_rfl)
theorem f30_envOK:EnvOK Tryz.prog f30_env:=envOK_of cds (by kernel_rfl) cfg_ok trivial trivial ⟨⟨Tryz.func30,by kernel_rfl⟩,trivial⟩ ⟨⟨Tryz.f30,f30_code,rfl,rfl,f30_l4_ok⟩,trivial⟩ trivial trivial
theorem f30_pure:PureOK Tryz.prog cfg 30 f30_spec:=pure_of_run f30_envOK (fn:=Tryz.f30) (c:=f30_code) rfl rfl f30_spec (fun x _ h=>(f30_run x).trans h)
def f24_l4_head:Ann:={ env:=[(2,cP 2),(3,cP 3),(5,TI)],bxs:=[(2,.var [.ty (.sl tV),.ty (.sl tE),.ty (.sl tI)]),(3,.var [.ty (.sl tV),.ty (.sl tE),.ty (.sl tI)])] }
def f24_l4_outs:List (Ex × Ann):=[((.exit 0),{ env:=[] }),(.ret,{ env:=[(4,.ty .bool)] })]
def f24_l4 (b2g0:(List Vx)) (b2g1:(List Ed)) (b2g2:(List Int)) (b3g0:(List Vx)) (b3g1:(List Ed)) (b3g2:(List Int)):Nat→Int→Option (outDen f24_l4_outs)
 | 0,_=>none
 | k + 1,t5 =>
 bif (decide (t5 < (b2g0.length:Int))) then
 bif (inR t5 b2g0.length) then
 bif (inR t5 b3g0.length) then
 let v4:Bool:=(!(decide ((at_ tV b2g0 t5).1 = (at_ tV b3g0 t5).1) && (decide ((at_ tV b2g0 t5).2.1 = (at_ tV b3g0 t5).2.1) && true)))
 bif v4 then
 some (.inr ((false,()),(),()))
 else
 f24_l4 b2g0 b2g1 b2g2 b3g0 b3g1 b3g2 k (IntKind.wrap .i64 (t5 + 1))
 else none
 else none
 else
 some (.inl ((),(),()))
def f24_l4_n (n:Nat) (x:f24_l4_head.den):=f24_l4 x.2.2.1.1 x.2.2.1.2.1 x.2.2.1.2.2.1 x.2.2.2.1.1 x.2.2.2.1.2.1 x.2.2.2.1.2.2.1 n x.1.1
def f24_l4_spec:LSpec:={ head:=f24_l4_head,outs:=f24_l4_outs,fn:=fun x=>f24_l4_n (((x.2.2.1.1.length:Int) - x.1.1).toNat + 1) x }
def f24 (a0:Gr) (a1:Gr):Option (Bool × Unit) :=
 let v1:Bool:=(decide ((a0.1.length:Int) ≠ (a1.1.length:Int)))
 bif v1 then
 some (false,())
 else
 (f29 a0.2.1 a1.2.1).bind fun y2 =>
 bif (!y2.1) then
 some (false,())
 else
 (f30 a0.2.2.1 a1.2.2.1).bind fun y3 =>
 bif (!y3.1) then
 some (false,())
 else
 (f24_l4 a0.1 a0.2.1 a0.2.2.1 a1.1 a1.2.1 a1.2.2.1 (((a0.1.length:Int) - (0:Int)).toNat + 1) (0:Int)).bind fun o5 =>
 Sum.elim (fun o6 =>
 some (true,())) (fun o7 =>
 let u8:Bool:=o7.1.1
 some (u8,())) o5
def f24_spec:PSpec:={ args:=[tG,tG],res:=[.bool],fn:=fun x=>f24 x.1 x.2.1 }
noncomputable def f24_code:Code:=Tryz.f24.body.getD .skip
noncomputable def f24_env:Env0:={ C:=cfg,P:=[(29,f29_spec),(30,f30_spec)],L:=[(⟨12,0,24,4⟩,f24_l4_spec)],F:=[(24,Tryz.f24)] }
theorem f24_l4_ok:LoopOK f24_env 12 24 0 (loopAt f24_code 4) f24_l4_spec :=
 loopOK_of (by kernel_rfl) f24_l4_n (fun x o h=>⟨_,h⟩) (fun x=>by kernel_rfl) (fun n x=>by kernel_rfl)
theorem f24_run (x:tysDen (f24_spec).args):runF f24_env 24 Tryz.f24 f24_code (f24_spec).args (f24_spec).res x = f24_spec.fn x:=by kernel_rfl
theorem f24_enter:Enterable Tryz.prog 24:=enter_fun Tryz.func24 (by kernel_rfl)
theorem f24_envOK:EnvOK Tryz.prog f24_env:=envOK_of cds (by kernel_rfl) cfg_ok ⟨⟨f29_pure,f29_enter⟩,⟨f30_pure,f30_enter⟩,trivial⟩ trivial ⟨⟨Tryz.func24,by kernel_rfl⟩,trivial⟩ ⟨⟨Tryz.f24,f24_code,rfl,rfl,f24_l4_ok⟩,trivial⟩ trivial trivial
theorem f24_pure:PureOK Tryz.prog cfg 24 f24_spec:=pure_of_run f24_envOK (fn:=Tryz.f24) (c:=f24_code) rfl rfl f24_spec (fun x _ h=>(f24_run x).trans h)
def f77_l3_head:Ann:={ env:=[(3,TI),(6,.ty (.sl tM)),(7,TI),(8,TI)] }
def f77_l3_outs:List (Ex × Ann):=[((.exit 0),{ env:=[] }),(.ret,{ env:=[(2,.ty .bool)] })]
def f77_l3 (t6:(List Nm)) (t7:Int):Nat→Int→Int→Option (outDen f77_l3_outs)
 | 0,_,_=>none
 | k + 1,t3,t8 =>
 bif (decide (t8 < t7)) then
 bif (inR t8 t6.length) then
 let v1:Int:=(at_ tM t6 t8).1
 bif (decide (v1≤t3)) then
 some (.inr ((false,()),(),()))
 else
 let v2:Int:=(at_ tM t6 t8).1
 bif (decide (v2 ≥ (24:Int))) then
 some (.inr ((false,()),(),()))
 else
 let v3:(List Int):=(at_ tM t6 t8).2.1
 let v4:Bool:=(decide ((v3.length:Int) > (64:Int)))
 bif v4 then
 some (.inr ((false,()),(),()))
 else
 let v5:Int:=(at_ tM t6 t8).1
 f77_l3 t6 t7 k v5 (IntKind.wrap .i64 (t8 + 1))
 else none
 else
 some (.inl ((),(),()))
def f77_l3_n (n:Nat) (x:f77_l3_head.den):=f77_l3 x.1.2.1 x.1.2.2.1 n x.1.1 x.1.2.2.2.1
def f77_l3_spec:LSpec:={ head:=f77_l3_head,outs:=f77_l3_outs,fn:=fun x=>f77_l3_n ((x.1.2.2.1 - x.1.2.2.2.1).toNat + 1) x }
def f77 (a0:(List Nm)):Option (Bool × Unit) :=
 (f77_l3 a0 (a0.length:Int) (((a0.length:Int) - (0:Int)).toNat + 1) (-1:Int) (0:Int)).bind fun o6 =>
 Sum.elim (fun o7 =>
 some (true,())) (fun o8 =>
 let u9:Bool:=o8.1.1
 some (u9,())) o6
def f77_spec:PSpec:={ args:=[(.sl tM)],res:=[.bool],fn:=fun x=>f77 x.1 }
noncomputable def f77_code:Code:=Tryz.f77.body.getD .skip
noncomputable def f77_env:Env0:={ C:=cfg,P:=[],L:=[(⟨12,0,77,3⟩,f77_l3_spec)],F:=[(77,Tryz.f77)] }
theorem f77_l3_ok:LoopOK f77_env 12 77 0 (loopAt f77_code 3) f77_l3_spec :=
 loopOK_of (by kernel_rfl) f77_l3_n (fun x o h=>⟨_,h⟩) (fun x=>by kernel_rfl) (fun n x=>by kernel_rfl)
theorem f77_run (x:tysDen (f77_spec).args):runF f77_env 77 Tryz.f77 f77_code (f77_spec).args (f77_spec).res x = f77_spec.fn x:=by kernel_rfl
theorem f77_enter:Enterable Tryz.prog 77:=enter_fun Tryz.func77 (by kernel_rfl)
theorem f77_envOK:EnvOK Tryz.prog f77_env:=envOK_of cds (by kernel_rfl) cfg_ok trivial trivial ⟨⟨Tryz.func77,by kernel_rfl⟩,trivial⟩ ⟨⟨Tryz.f77,f77_code,rfl,rfl,f77_l3_ok⟩,trivial⟩ trivial trivial
theorem f77_pure:PureOK Tryz.prog cfg 77 f77_spec:=pure_of_run f77_envOK (fn:=Tryz.f77) (c:=f77_code) rfl rfl f77_spec (fun x _ h=>(f77_run x).trans h)
def f78 (a0:(List Int)):Option ((List Int) × Unit) :=
 bif decide (a0.length≤appLim) then some (a0,()) else none
def f78_spec:PSpec:={ args:=[(.sl tI)],res:=[(.sl tI)],fn:=fun x=>f78 x.1 }
noncomputable def f78_code:Code:=Tryz.f78.body.getD .skip
noncomputable def f78_env:Env0:={ C:=cfg,P:=[],L:=[],F:=[(78,Tryz.f78)] }
theorem f78_run0 (x:tysDen []):runV f78_env 78 Tryz.f78 f78_code (.nils :: tysAV [] x) [(.sl tI)] = f78_spec.fn ([],x):=by kernel_rfl
theorem f78_run1 (l:(List Int)) (x:tysDen []):runV f78_env 78 Tryz.f78 f78_code (.nn tI l :: tysAV [] x) [(.sl tI)] = f78_spec.fn (l,x):=by kernel_rfl
theorem f78_enter:Enterable Tryz.prog 78:=enter_fun Tryz.func78 (by kernel_rfl)
theorem f78_envOK:EnvOK Tryz.prog f78_env:=envOK_of cds (by kernel_rfl) cfg_ok trivial trivial ⟨⟨Tryz.func78,by kernel_rfl⟩,trivial⟩ trivial
theorem f78_pure:PureOK Tryz.prog cfg 78 f78_spec:=pure_nil f78_envOK (fn:=Tryz.f78) (c:=f78_code) rfl rfl tI [] [(.sl tI)] f78_spec.fn (fun x y h=>(f78_run0 x).trans h) (fun l x y h=>(f78_run1 l x).trans h)
def f126_l2_head:Ann:={ env:=[(0,.ty (.sl tI)),(1,TI),(7,TI),(8,TI)] }
def f126_l2_outs:List (Ex × Ann):=[((.exit 0),{ env:=[] }),(.ret,{ env:=[(4,TI)] })]
def f126_l2 (t0:(List Int)) (t1:Int) (t7:Int):Nat→Int→Option (outDen f126_l2_outs)
 | 0,_=>none
 | k + 1,t8 =>
 bif (decide (t8 < t7)) then
 bif (inR t8 t0.length) then
 bif (decide (t1 = (at_ tI t0 t8))) then
 some (.inr ((t8,()),(),()))
 else
 f126_l2 t0 t1 t7 k (IntKind.wrap .i64 (t8 + 1))
 else none
 else
 some (.inl ((),(),()))
def f126_l2_n (n:Nat) (x:f126_l2_head.den):=f126_l2 x.1.1 x.1.2.1 x.1.2.2.1 n x.1.2.2.2.1
def f126_l2_spec:LSpec:={ head:=f126_l2_head,outs:=f126_l2_outs,fn:=fun x=>f126_l2_n ((x.1.2.2.1 - x.1.2.2.2.1).toNat + 1) x }
def f126 (a0:(List Int)) (a1:Int):Option (Int × Unit) :=
 (f126_l2 a0 a1 (a0.length:Int) (((a0.length:Int) - (0:Int)).toNat + 1) (0:Int)).bind fun o1 =>
 Sum.elim (fun o2 =>
 some ((-1:Int),())) (fun o3 =>
 let u4:Int:=o3.1.1
 some (u4,())) o1
def f126_spec:PSpec:={ args:=[(.sl tI),tI],res:=[tI],fn:=fun x=>f126 x.1 x.2.1 }
noncomputable def f126_code:Code:=Tryz.f126.body.getD .skip
noncomputable def f126_env:Env0:={ C:=cfg,P:=[],L:=[(⟨12,0,126,2⟩,f126_l2_spec)],F:=[(126,Tryz.f126)] }
theorem f126_l2_ok:LoopOK f126_env 12 126 0 (loopAt f126_code 2) f126_l2_spec :=
 loopOK_of (by kernel_rfl) f126_l2_n (fun x o h=>⟨_,h⟩) (fun x=>by kernel_rfl) (fun n x=>by kernel_rfl)
theorem f126_run (x:tysDen (f126_spec).args):runF f126_env 126 Tryz.f126 f126_code (f126_spec).args (f126_spec).res x = f126_spec.fn x:=by kernel_rfl
theorem f126_enter:Enterable Tryz.prog 126:=enter_fun Tryz.func126 (by kernel_rfl)
theorem f126_envOK:EnvOK Tryz.prog f126_env:=envOK_of cds (by kernel_rfl) cfg_ok trivial trivial ⟨⟨Tryz.func126,by kernel_rfl⟩,trivial⟩ ⟨⟨Tryz.f126,f126_code,rfl,rfl,f126_l2_ok⟩,trivial⟩ trivial trivial
theorem f126_pure:PureOK Tryz.prog cfg 126 f126_spec:=pure_of_run f126_envOK (fn:=Tryz.f126) (c:=f126_code) rfl rfl f126_spec (fun x _ h=>(f126_run x).trans h)
def f80 (a0:(List Int)) (a1:Int):Option (Bool × Unit) :=
 (f126 a0 a1).bind fun y1 =>
 some ((decide (y1.1 ≥ (0:Int))),())
def f80_spec:PSpec:={ args:=[(.sl tI),tI],res:=[.bool],fn:=fun x=>f80 x.1 x.2.1 }
noncomputable def f80_code:Code:=Tryz.f80.body.getD .skip
noncomputable def f80_env:Env0:={ C:=cfg,P:=[(126,f126_spec)],L:=[],F:=[(80,Tryz.f80)] }
theorem f80_run (x:tysDen (f80_spec).args):runF f80_env 80 Tryz.f80 f80_code (f80_spec).args (f80_spec).res x = f80_spec.fn x:=by kernel_rfl
theorem f80_enter:Enterable Tryz.prog 80:=enter_fun Tryz.func80 (by kernel_rfl)
theorem f80_envOK:EnvOK Tryz.prog f80_env:=envOK_of cds (by kernel_rfl) cfg_ok ⟨⟨f126_pure,f126_enter⟩,trivial⟩ trivial ⟨⟨Tryz.func80,by kernel_rfl⟩,trivial⟩ trivial trivial trivial
theorem f80_pure:PureOK Tryz.prog cfg 80 f80_spec:=pure_of_run f80_envOK (fn:=Tryz.f80) (c:=f80_code) rfl rfl f80_spec (fun x _ h=>(f80_run x).trans h)
def f34_l7_head:Ann:={ env:=[(6,cP 6),(10,cP 10),(11,.cst (.row 39 .whole)),(43,.ty (.sl tM)),(44,TI),(45,TI)],bxs:=[(6,.var [TI,TI,.cst .nils,.cst .nils,.cst .nils]),(10,.var [TI,TI,.ty (.sl tI),.ty (.sl tE),.cst (.row 62 .whole)]),(39,.row tI false),(62,.row tM false)] }
def f34_l7_outs:List (Ex × Ann):=[((.exit 0),{ env:=[(6,cP 6),(10,cP 10)],bxs:=[(6,.var [TI,TI,.cst .nils,.cst .nils,.cst .nils]),(10,.var [TI,TI,.ty (.sl tI),.ty (.sl tE),.cst (.row 62 .whole)]),(62,.row tM false)] })]
def f34_l7 (t43:(List Nm)) (t44:Int) (b6g0:Int) (b6g1:Int) (b10g0:Int) (b10g1:Int) (b10g2:(List Int)) (b10g3:(List Ed)) (r39:(List Int)):Nat→Int→(List Nm)→Option (outDen f34_l7_outs)
 | 0,_,_=>none
 | k + 1,t45,r62 =>
 bif (decide (t45 < t44)) then
 bif (inR t45 t43.length) then
 let v6:Int:=(at_ tM t43 t45).1
 (f80 r39 v6).bind fun y7 =>
 bif y7.1 then
 let v8:Int:=(at_ tM t43 t45).1
 let v9:(List Int):=(at_ tM t43 t45).2.1
 (f78 v9).bind fun y10 =>
 bif (decide (r62.length + ([(v8,(y10.1,()))]:List Nm).length≤appLim)) then f34_l7 t43 t44 b6g0 b6g1 b10g0 b10g1 b10g2 b10g3 r39 k (IntKind.wrap .i64 (t45 + 1)) (r62++([(v8,(y10.1,()))]:List Nm)) else none
 else
 f34_l7 t43 t44 b6g0 b6g1 b10g0 b10g1 b10g2 b10g3 r39 k (IntKind.wrap .i64 (t45 + 1)) r62
 else none
 else
 some ((),(),((b6g0,b6g1,()),(b10g0,b10g1,b10g2,b10g3,()),r62,()))
def f34_l7_n (n:Nat) (x:f34_l7_head.den):=f34_l7 x.1.1 x.1.2.1 x.2.2.1.1 x.2.2.1.2.1 x.2.2.2.1.1 x.2.2.2.1.2.1 x.2.2.2.1.2.2.1 x.2.2.2.1.2.2.2.1 x.2.2.2.2.1 n x.1.2.2.1 x.2.2.2.2.2.1
def f34_l7_spec:LSpec:={ thaws:=[.cell 10 4 62 tM],head:=f34_l7_head,outs:=f34_l7_outs,fn:=fun x=>f34_l7_n ((x.1.2.1 - x.1.2.2.1).toNat + 1) x }
def f34 (a0:Gr) (a1:(List Nm)) (a2:Int):Option ((Vx × ((List Int) × ((List Ed) × ((List Nm) × Unit)))) × Int × Unit) :=
 (f53 a0 a2).bind fun y1 =>
 bif (!y1.2.1) then
 some (((0,(0,())),([],([],([],())))),(60:Int),())
 else
 (f77 a1).bind fun y2 =>
 bif (!y2.1) then
 some (((0,(0,())),([],([],([],())))),(60:Int),())
 else
 (f78 a0.2.2.1).bind fun y3 =>
 (f79 a0 a2).bind fun y4 =>
 (f31 a2 y4.1).bind fun y5 =>
 bif (decide (y5.length + ([a2]:List Int).length≤appLim)) then
 (f34_l7 a1 (a1.length:Int) 0 0 y1.1.1 y1.1.2.1 y3.1 y4.1 (y5++([a2]:List Int)) (((a1.length:Int) - (0:Int)).toNat + 1) (0:Int) []).bind fun o11 =>
 let u14:Int:=o11.2.2.2.1.1
 let u15:Int:=o11.2.2.2.1.2.1
 let u16:(List Int):=o11.2.2.2.1.2.2.1
 let u17:(List Ed):=o11.2.2.2.1.2.2.2.1
 let u18:(List Nm):=o11.2.2.2.2.1
 some (((u14,(u15,())),(u16,(u17,(u18,())))),(0:Int),())
 else none
def f34_spec:PSpec:={ args:=[tG,(.sl tM),tI],res:=[(.pair tV (.pair (.sl tI) (.pair (.sl tE) (.pair (.sl tM) .unit)))),tI],fn:=fun x=>f34 x.1 x.2.1 x.2.2.1 }
noncomputable def f34_code:Code:=Tryz.f34.body.getD .skip
noncomputable def f34_env:Env0:={ C:=cfg,P:=[(53,f53_spec),(77,f77_spec),(78,f78_spec),(79,f79_spec),(80,f80_spec)],L:=[(⟨12,0,34,7⟩,f34_l7_spec)],F:=[(34,Tryz.f34)],R:=[(31,f31_spec)] }
theorem f34_l7_ok:LoopOK f34_env 12 34 0 (loopAt f34_code 7) f34_l7_spec :=
 loopOK_of (by kernel_rfl) f34_l7_n (fun x o h=>⟨_,h⟩) (fun x=>by kernel_rfl) (fun n x=>by kernel_rfl)
theorem f34_run (x:tysDen (f34_spec).args):runF f34_env 34 Tryz.f34 f34_code (f34_spec).args (f34_spec).res x = f34_spec.fn x:=by kernel_rfl
theorem f34_enter:Enterable Tryz.prog 34:=enter_fun Tryz.func34 (by kernel_rfl)
theorem f34_envOK:EnvOK Tryz.prog f34_env:=envOK_of cds (by kernel_rfl) cfg_ok ⟨⟨f53_pure,f53_enter⟩,⟨f77_pure,f77_enter⟩,⟨f78_pure,f78_enter⟩,⟨f79_pure,f79_enter⟩,⟨f80_pure,f80_enter⟩,trivial⟩ trivial ⟨⟨Tryz.func34,by kernel_rfl⟩,trivial⟩ ⟨⟨Tryz.f34,f34_code,rfl,rfl,f34_l7_ok⟩,trivial⟩ ⟨⟨f31_fresh,f31_enter⟩,trivial⟩ trivial
theorem f34_pure:PureOK Tryz.prog cfg 34 f34_spec:=pure_of_run f34_envOK (fn:=Tryz.f34) (c:=f34_code) rfl rfl f34_spec (fun x _ h=>(f34_run x).trans h)
def f45 (a0:Int) (a1:Int):Option (Int × Unit) :=
 bif (decide (a0 < (0:Int))) then
 let v1:Int:=(IntKind.wrap .i64 (0 - (IntKind.wrap .i64 (a0 + 1))))
 bif (decide (a1 ≠ 0)) then some ((Int.tmod v1 a1),()) else none
 else
 bif (decide (a1 ≠ 0)) then some ((Int.tmod a0 a1),()) else none
def f45_spec:PSpec:={ args:=[tI,tI],res:=[tI],fn:=fun x=>f45 x.1 x.2.1 }
noncomputable def f45_code:Code:=Tryz.f45.body.getD .skip
noncomputable def f45_env:Env0:={ C:=cfg,P:=[],L:=[],F:=[(45,Tryz.f45)] }
theorem f45_run (x:tysDen (f45_spec).args):runF f45_env 45 Tryz.f45 f45_code (f45_spec).args (f45_spec).res x = f45_spec.fn x:=by kernel_rfl
theorem f45_enter:Enterable Tryz.prog 45:=enter_fun Tryz.func45 (by kernel_rfl)
theorem f45_envOK:EnvOK Tryz.prog f45_env:=envOK_of cds (by kernel_rfl) cfg_ok trivial trivial ⟨⟨Tryz.func45,by kernel_rfl⟩,trivial⟩ trivial trivial trivial
theorem f45_pure:PureOK Tryz.prog cfg 45 f45_spec:=pure_of_run f45_envOK (fn:=Tryz.f45) (c:=f45_code) rfl rfl f45_spec (fun x _ h=>(f45_run x).trans h)
def f12_l6_head:Ann:={ env:=[(0,TI),(1,.ty (.sl (.arr 5 tI))),(2,.ty .bool),(6,cP 6),(7,cP 7),(8,TI),(9,TI)],bxs:=[(6,.var [.cst .nils,.cst .nils,.cst .nils]),(7,.var [.cst (.row 54 .whole),.cst .nils,.cst .nils]),(54,.row tV false)] }
def f12_l6_outs:List (Ex × Ann):=[((.exit 0),{ env:=[(0,TI),(1,.ty (.sl (.arr 5 tI))),(6,cP 6),(7,cP 7),(8,TI)],bxs:=[(6,.var [.cst .nils,.cst .nils,.cst .nils]),(7,.var [.cst (.row 54 .whole),.cst .nils,.cst .nils]),(54,.row tV false)] })]
def f12_l6 (t0:Int) (t1:(List (List Int))) (t2:Bool) (t8:Int):Nat→Int→(List Vx)→Option (outDen f12_l6_outs)
 | 0,_,_=>none
 | k + 1,t9,r54 =>
 bif (decide (t9 < t8)) then
 bif (!t2) then
 let v3:Int:=(IntKind.wrap .i64 (Int.tdiv t0 (8:Int)))
 (f45 v3 (2:Int)).bind fun y4 =>
 bif (decide (y4.1 = (1:Int))) then
 let v5:Int:=(IntKind.wrap .i64 (Int.tdiv t9 (2:Int)))
 let v6:Int:=(IntKind.wrap .i64 (Int.tdiv t0 (16:Int)))
 let v7:Int:=(IntKind.wrap .i64 (Int.tdiv t0 (64:Int)))
 (f45 v7 (3:Int)).bind fun y8 =>
 let v9:Int:=(IntKind.wrap .i64 (t9 * (IntKind.wrap .i64 ((1:Int) + y8.1))))
 (f45 (IntKind.wrap .i64 (v6 + v9)) (4:Int)).bind fun y10 =>
 bif (decide (r54.length + ([((IntKind.wrap .i64 (t9 + v5)),(y10.1,()))]:List Vx).length≤appLim)) then f12_l6 t0 t1 t2 t8 k (IntKind.wrap .i64 (t9 + 1)) (r54++([((IntKind.wrap .i64 (t9 + v5)),(y10.1,()))]:List Vx)) else none
 else
 let v11:Int:=(IntKind.wrap .i64 (Int.tdiv t0 (16:Int)))
 let v12:Int:=(IntKind.wrap .i64 (Int.tdiv t0 (64:Int)))
 (f45 v12 (3:Int)).bind fun y13 =>
 let v14:Int:=(IntKind.wrap .i64 (t9 * (IntKind.wrap .i64 ((1:Int) + y13.1))))
 (f45 (IntKind.wrap .i64 (v11 + v14)) (4:Int)).bind fun y15 =>
 bif (decide (r54.length + ([(t9,(y15.1,()))]:List Vx).length≤appLim)) then f12_l6 t0 t1 t2 t8 k (IntKind.wrap .i64 (t9 + 1)) (r54++([(t9,(y15.1,()))]:List Vx)) else none
 else
 let v16:Int:=(IntKind.wrap .i64 (Int.tdiv t0 (16:Int)))
 let v17:Int:=(IntKind.wrap .i64 (Int.tdiv t0 (64:Int)))
 (f45 v17 (3:Int)).bind fun y18 =>
 let v19:Int:=(IntKind.wrap .i64 (t9 * (IntKind.wrap .i64 ((1:Int) + y18.1))))
 (f45 (IntKind.wrap .i64 (v16 + v19)) (4:Int)).bind fun y20 =>
 bif (decide (r54.length + ([(t9,(y20.1,()))]:List Vx).length≤appLim)) then f12_l6 t0 t1 t2 t8 k (IntKind.wrap .i64 (t9 + 1)) (r54++([(t9,(y20.1,()))]:List Vx)) else none
 else
 some ((t0,t1,t8,()),(),((),(),r54,()))
def f12_l6_n (n:Nat) (x:f12_l6_head.den):=f12_l6 x.1.1 x.1.2.1 x.1.2.2.1 x.1.2.2.2.1 n x.1.2.2.2.2.1 x.2.2.2.2.1
def f12_l6_spec:LSpec:={ thaws:=[.cell 7 0 54 tV],head:=f12_l6_head,outs:=f12_l6_outs,fn:=fun x=>f12_l6_n ((x.1.2.2.2.1 - x.1.2.2.2.2.1).toNat + 1) x }
def f12_l13_head:Ann:={ env:=[(0,TI),(1,.ty (.sl (.arr 5 tI))),(6,cP 6),(7,cP 7),(8,TI),(11,TI)],bxs:=[(6,.var [.cst .nils,.cst .nils,.cst .nils]),(7,.var [.cst (.row 54 .whole),.cst (.row 135 .whole),.cst .nils]),(54,.row tV false),(135,.row tE false)] }
def f12_l13_outs:List (Ex × Ann):=[((.exit 2),{ env:=[(0,TI),(6,cP 6),(7,cP 7),(8,TI)],bxs:=[(6,.var [.cst .nils,.cst .nils,.cst .nils]),(7,.var [.cst (.row 54 .whole),.cst (.row 135 .whole),.cst .nils]),(54,.row tV false),(135,.row tE false)] })]
def f12_l13 (t0:Int) (t1:(List (List Int))) (t8:Int) (r54:(List Vx)):Nat→Int→(List Ed)→Option (outDen f12_l13_outs)
 | 0,_,_=>none
 | k + 1,t11,r135 =>
 bif (decide (t11 < (t1.length:Int))) then
 bif (decide (t11 < (20:Int))) then
 let v26:Int:=(IntKind.wrap .i64 (Int.tdiv t0 (4:Int)))
 (f45 v26 (20:Int)).bind fun y27 =>
 bif (inR t11 t1.length) then
 bif (inR (0:Int) 5) then
 let v28:Int:=(at_ tI (at_ (.arr 5 tI) t1 t11) (0:Int))
 (f45 v28 t8).bind fun y29 =>
 bif (inR y29.1 r54.length) then
 let v30:Int:=(at_ tV r54 y29.1).1
 bif (inR t11 t1.length) then
 bif (inR (1:Int) 5) then
 let v31:Int:=(at_ tI (at_ (.arr 5 tI) t1 t11) (1:Int))
 (f45 v31 t8).bind fun y32 =>
 bif (inR y32.1 r54.length) then
 let v33:Int:=(at_ tV r54 y32.1).1
 bif (inR t11 t1.length) then
 bif (inR (2:Int) 5) then
 let v34:Int:=(at_ tI (at_ (.arr 5 tI) t1 t11) (2:Int))
 (f45 v34 (2:Int)).bind fun y35 =>
 bif (inR t11 t1.length) then
 bif (inR (3:Int) 5) then
 let v36:Int:=(at_ tI (at_ (.arr 5 tI) t1 t11) (3:Int))
 (f45 v36 (12:Int)).bind fun y37 =>
 bif (inR t11 t1.length) then
 bif (inR (4:Int) 5) then
 let v38:Int:=(at_ tI (at_ (.arr 5 tI) t1 t11) (4:Int))
 (f45 v38 (6:Int)).bind fun y39 =>
 bif (inR t11 t1.length) then
 bif (inR (4:Int) 5) then
 let v40:Int:=(at_ tI (at_ (.arr 5 tI) t1 t11) (4:Int))
 (f45 v40 (11:Int)).bind fun y41 =>
 bif (decide (y41.1 = (10:Int))) then
 bif (inR t11 t1.length) then
 bif (inR (3:Int) 5) then
 let v42:Int:=(at_ tI (at_ (.arr 5 tI) t1 t11) (3:Int))
 (f45 v42 (2001:Int)).bind fun y43 =>
 let v44:Int:=(IntKind.wrap .i64 (y43.1 - (1000:Int)))
 bif (decide (r135.length + ([((IntKind.wrap .i64 (t11 + y27.1)),(v30,(v33,((decide (y35.1 = (1:Int))),(v44,(y39.1,()))))))]:List Ed).length≤appLim)) then f12_l13 t0 t1 t8 r54 k (IntKind.wrap .i64 (t11 + 1)) (r135++([((IntKind.wrap .i64 (t11 + y27.1)),(v30,(v33,((decide (y35.1 = (1:Int))),(v44,(y39.1,()))))))]:List Ed)) else none
 else none
 else none
 else
 bif (decide (r135.length + ([((IntKind.wrap .i64 (t11 + y27.1)),(v30,(v33,((decide (y35.1 = (1:Int))),((IntKind.wrap .i64 (y37.1 - (3:Int))),(y39.1,()))))))]:List Ed).length≤appLim)) then f12_l13 t0 t1 t8 r54 k (IntKind.wrap .i64 (t11 + 1)) (r135++([((IntKind.wrap .i64 (t11 + y27.1)),(v30,(v33,((decide (y35.1 = (1:Int))),((IntKind.wrap .i64 (y37.1 - (3:Int))),(y39.1,()))))))]:List Ed)) else none
 else none
 else none
 else none
 else none
 else none
 else none
 else none
 else none
 else none
 else none
 else none
 else none
 else none
 else none
 else
 some ((t0,t8,()),(),((),(),r54,r135,()))
 else
 some ((t0,t8,()),(),((),(),r54,r135,()))
def f12_l13_n (n:Nat) (x:f12_l13_head.den):=f12_l13 x.1.1 x.1.2.1 x.1.2.2.1 x.2.2.2.2.1 n x.1.2.2.2.1 x.2.2.2.2.2.1
def f12_l13_spec:LSpec:={ thaws:=[.cell 7 1 135 tE],head:=f12_l13_head,outs:=f12_l13_outs,fn:=fun x=>f12_l13_n (((x.1.2.1.length:Int) - x.1.2.2.2.1).toNat + 1) x }
def f12_l20_head:Ann:={ env:=[(0,TI),(6,cP 6),(7,cP 7),(8,TI),(13,TI)],bxs:=[(6,.var [.cst .nils,.cst .nils,.cst .nils]),(7,.var [.cst (.row 54 .whole),.cst (.row 135 .whole),.cst (.row 158 .whole)]),(54,.row tV false),(135,.row tE false),(158,.row tI false)] }
def f12_l20_outs:List (Ex × Ann):=[((.exit 4),{ env:=[(6,cP 6),(7,cP 7)],bxs:=[(6,.var [.cst .nils,.cst .nils,.cst .nils]),(7,.var [.cst (.row 54 .whole),.cst (.row 135 .whole),.cst (.row 158 .whole)]),(54,.row tV false),(135,.row tE false),(158,.row tI false)] })]
def f12_l20 (t0:Int) (t8:Int) (r54:(List Vx)) (r135:(List Ed)):Nat→Int→(List Int)→Option (outDen f12_l20_outs)
 | 0,_,_=>none
 | k + 1,t13,r158 =>
 let v50:Int:=(IntKind.wrap .i64 (Int.tdiv t0 (32:Int)))
 (f45 v50 (4:Int)).bind fun y51 =>
 bif (decide (t13 < y51.1)) then
 bif (decide (t13 < t8)) then
 bif (inR t13 r54.length) then
 let v52:Int:=(at_ tV r54 t13).1
 bif (decide (r158.length + ([v52]:List Int).length≤appLim)) then f12_l20 t0 t8 r54 r135 k (IntKind.wrap .i64 (t13 + 1)) (r158++([v52]:List Int)) else none
 else none
 else
 some ((),(),((),(),r54,r135,r158,()))
 else
 some ((),(),((),(),r54,r135,r158,()))
def f12_l20_n (n:Nat) (x:f12_l20_head.den):=f12_l20 x.1.1 x.1.2.1 x.2.2.2.2.1 x.2.2.2.2.2.1 n x.1.2.2.1 x.2.2.2.2.2.2.1
def f12_l20_spec:LSpec:={ thaws:=[.cell 7 2 158 tI],head:=f12_l20_head,outs:=f12_l20_outs,fn:=fun x=>f12_l20_n ((x.1.2.1 - x.1.2.2.1).toNat + 1) x }
def f12 (a0:Int) (a1:(List (List Int))) (a2:Bool):Option (Gr × Unit) :=
 (f45 a0 (8:Int)).bind fun y1 =>
 bif a2 then
 let v2:Int:=(IntKind.wrap .i64 ((IntKind.wrap .i64 ((1:Int) + y1.1)) + (10:Int)))
 (f12_l6 a0 a1 a2 v2 ((v2 - (0:Int)).toNat + 1) (0:Int) []).bind fun o21 =>
 let u22:Int:=o21.1.1
 let u23:(List (List Int)):=o21.1.2.1
 let u24:Int:=o21.1.2.2.1
 let u25:(List Vx):=o21.2.2.2.2.1
 (f12_l13 u22 u23 u24 u25 (((u23.length:Int) - (0:Int)).toNat + 1) (0:Int) []).bind fun o45 =>
 let u46:Int:=o45.1.1
 let u47:Int:=o45.1.2.1
 let u48:(List Vx):=o45.2.2.2.2.1
 let u49:(List Ed):=o45.2.2.2.2.2.1
 (f12_l20 u46 u47 u48 u49 ((u47 - (0:Int)).toNat + 1) (0:Int) []).bind fun o53 =>
 let u54:(List Vx):=o53.2.2.2.2.1
 let u55:(List Ed):=o53.2.2.2.2.2.1
 let u56:(List Int):=o53.2.2.2.2.2.2.1
 some ((u54,(u55,(u56,()))),())
 else
 (f12_l6 a0 a1 a2 (IntKind.wrap .i64 ((1:Int) + y1.1)) (((IntKind.wrap .i64 ((1:Int) + y1.1)) - (0:Int)).toNat + 1) (0:Int) []).bind fun o75 =>
 let u76:Int:=o75.1.1
 let u77:(List (List Int)):=o75.1.2.1
 let u78:Int:=o75.1.2.2.1
 let u79:(List Vx):=o75.2.2.2.2.1
 (f12_l13 u76 u77 u78 u79 (((u77.length:Int) - (0:Int)).toNat + 1) (0:Int) []).bind fun o99 =>
 let u100:Int:=o99.1.1
 let u101:Int:=o99.1.2.1
 let u102:(List Vx):=o99.2.2.2.2.1
 let u103:(List Ed):=o99.2.2.2.2.2.1
 (f12_l20 u100 u101 u102 u103 ((u101 - (0:Int)).toNat + 1) (0:Int) []).bind fun o107 =>
 let u108:(List Vx):=o107.2.2.2.2.1
 let u109:(List Ed):=o107.2.2.2.2.2.1
 let u110:(List Int):=o107.2.2.2.2.2.2.1
 some ((u108,(u109,(u110,()))),())
def f12_spec:PSpec:={ args:=[tI,(.sl (.arr 5 tI)),.bool],res:=[tG],fn:=fun x=>f12 x.1 x.2.1 x.2.2.1 }
noncomputable def f12_code:Code:=Tryz.f12.body.getD .skip
noncomputable def f12_env:Env0:={ C:=cfg,P:=[(45,f45_spec)],L:=[(⟨12,0,12,6⟩,f12_l6_spec),(⟨12,0,12,13⟩,f12_l13_spec),(⟨12,0,12,20⟩,f12_l20_spec)],F:=[(12,Tryz.f12)] }
theorem f12_l6_ok:LoopOK f12_env 12 12 0 (loopAt f12_code 6) f12_l6_spec :=
 loopOK_of (by kernel_rfl) f12_l6_n (fun x o h=>⟨_,h⟩) (fun x=>by kernel_rfl) (fun n x=>by kernel_rfl)
theorem f12_l13_ok:LoopOK f12_env 12 12 0 (loopAt f12_code 13) f12_l13_spec :=
 loopOK_of (by kernel_rfl) f12_l13_n (fun x o h=>⟨_,h⟩) (fun x=>by kernel_rfl) (fun n x=>by kernel_rfl)
theorem f12_l20_ok:LoopOK f12_env 12 12 0 (loopAt f12_code 20) f12_l20_spec :=
 loopOK_of (by kernel_rfl) f12_l20_n (fun x o h=>⟨_,h⟩) (fun x=>by kernel_rfl) (fun n x=>by kernel_rfl)
theorem f12_run (x:tysDen (f12_spec).args):runF f12_env 12 Tryz.f12 f12_code (f12_spec).args (f12_spec).res x = f12_spec.fn x:=by kernel_rfl
theorem f12_enter:Enterable Tryz.prog 12:=enter_fun Tryz.func12 (by kernel_rfl)
theorem f12_envOK:EnvOK Tryz.prog f12_env:=envOK_of cds (by kernel_rfl) cfg_ok ⟨⟨f45_pure,f45_enter⟩,trivial⟩ trivial ⟨⟨Tryz.func12,by kernel_rfl⟩,trivial⟩ ⟨⟨Tryz.f12,f12_code,rfl,rfl,f12_l6_ok⟩,⟨Tryz.f12,f12_code,rfl,rfl,f12_l13_ok⟩,⟨Tryz.f12,f12_code,rfl,rfl,f12_l20_ok⟩,trivial⟩ trivial trivial
theorem f12_pure:PureOK Tryz.prog cfg 12 f12_spec:=pure_of_run f12_envOK (fn:=Tryz.f12) (c:=f12_code) rfl rfl f12_spec (fun x _ h=>(f12_run x).trans h)
def f55_l2_head:Ann:={ env:=[(1,TI),(2,cP 2),(5,TI)],bxs:=[(2,.var [.ty (.sl tV),.ty (.sl tE),.ty (.sl tI)])] }
def f55_l2_outs:List (Ex × Ann):=[((.exit 0),{ env:=[] }),(.ret,{ env:=[(4,TI)] })]
def f55_l2 (t1:Int) (b2g0:(List Vx)) (b2g1:(List Ed)) (b2g2:(List Int)):Nat→Int→Option (outDen f55_l2_outs)
 | 0,_=>none
 | k + 1,t5 =>
 bif (decide (t5 < (b2g0.length:Int))) then
 bif (inR t5 b2g0.length) then
 let v1:Int:=(at_ tV b2g0 t5).1
 bif (decide (v1 = t1)) then
 some (.inr ((t5,()),(),()))
 else
 f55_l2 t1 b2g0 b2g1 b2g2 k (IntKind.wrap .i64 (t5 + 1))
 else none
 else
 some (.inl ((),(),()))
def f55_l2_n (n:Nat) (x:f55_l2_head.den):=f55_l2 x.1.1 x.2.2.1.1 x.2.2.1.2.1 x.2.2.1.2.2.1 n x.1.2.1
def f55_l2_spec:LSpec:={ head:=f55_l2_head,outs:=f55_l2_outs,fn:=fun x=>f55_l2_n (((x.2.2.1.1.length:Int) - x.1.2.1).toNat + 1) x }
def f55 (a0:Gr) (a1:Int):Option (Int × Unit) :=
 (f55_l2 a1 a0.1 a0.2.1 a0.2.2.1 (((a0.1.length:Int) - (0:Int)).toNat + 1) (0:Int)).bind fun o2 =>
 Sum.elim (fun o3 =>
 some ((-1:Int),())) (fun o4 =>
 let u5:Int:=o4.1.1
 some (u5,())) o2
def f55_spec:PSpec:={ args:=[tG,tI],res:=[tI],fn:=fun x=>f55 x.1 x.2.1 }
noncomputable def f55_code:Code:=Tryz.f55.body.getD .skip
noncomputable def f55_env:Env0:={ C:=cfg,P:=[],L:=[(⟨12,0,55,2⟩,f55_l2_spec)],F:=[(55,Tryz.f55)] }
theorem f55_l2_ok:LoopOK f55_env 12 55 0 (loopAt f55_code 2) f55_l2_spec :=
 loopOK_of (by kernel_rfl) f55_l2_n (fun x o h=>⟨_,h⟩) (fun x=>by kernel_rfl) (fun n x=>by kernel_rfl)
theorem f55_run (x:tysDen (f55_spec).args):runF f55_env 55 Tryz.f55 f55_code (f55_spec).args (f55_spec).res x = f55_spec.fn x:=by kernel_rfl
theorem f55_enter:Enterable Tryz.prog 55:=enter_fun Tryz.func55 (by kernel_rfl)
theorem f55_envOK:EnvOK Tryz.prog f55_env:=envOK_of cds (by kernel_rfl) cfg_ok trivial trivial ⟨⟨Tryz.func55,by kernel_rfl⟩,trivial⟩ ⟨⟨Tryz.f55,f55_code,rfl,rfl,f55_l2_ok⟩,trivial⟩ trivial trivial
theorem f55_pure:PureOK Tryz.prog cfg 55 f55_spec:=pure_of_run f55_envOK (fn:=Tryz.f55) (c:=f55_code) rfl rfl f55_spec (fun x _ h=>(f55_run x).trans h)
def f171 (a0:Int) (a1:Int) (a2:Int):Option (Bool × Unit) :=
 bif (decide (a0 ≥ a1)) then
 some ((decide (a0≤a2)),())
 else
 some (false,())
def f171_spec:PSpec:={ args:=[tI,tI,tI],res:=[.bool],fn:=fun x=>f171 x.1 x.2.1 x.2.2.1 }
noncomputable def f171_code:Code:=Tryz.f171.body.getD .skip
noncomputable def f171_env:Env0:={ C:=cfg,P:=[],L:=[],F:=[(171,Tryz.f171)] }
theorem f171_run (x:tysDen (f171_spec).args):runF f171_env 171 Tryz.f171 f171_code (f171_spec).args (f171_spec).res x = f171_spec.fn x:=by kernel_rfl
theorem f171_enter:Enterable Tryz.prog 171:=enter_fun Tryz.func171 (by kernel_rfl)
theorem f171_envOK:EnvOK Tryz.prog f171_env:=envOK_of cds (by kernel_rfl) cfg_ok trivial trivial ⟨⟨Tryz.func171,by kernel_rfl⟩,trivial⟩ trivial trivial trivial
theorem f171_pure:PureOK Tryz.prog cfg 171 f171_spec:=pure_of_run f171_envOK (fn:=Tryz.f171) (c:=f171_code) rfl rfl f171_spec (fun x _ h=>(f171_run x).trans h)
def f111 (a0:Vx):Option (Bool × Unit) :=
 (f171 a0.1 (0:Int) (23:Int)).bind fun y1 =>
 bif y1.1 then
 (f171 a0.2.1 (0:Int) (3:Int)).bind fun y2 =>
 some (y2.1,())
 else
 some (false,())
def f111_spec:PSpec:={ args:=[tV],res:=[.bool],fn:=fun x=>f111 x.1 }
noncomputable def f111_code:Code:=Tryz.f111.body.getD .skip
noncomputable def f111_env:Env0:={ C:=cfg,P:=[(171,f171_spec)],L:=[],F:=[(111,Tryz.f111)] }
theorem f111_run (x:tysDen (f111_spec).args):runF f111_env 111 Tryz.f111 f111_code (f111_spec).args (f111_spec).res x = f111_spec.fn x:=by kernel_rfl
theorem f111_enter:Enterable Tryz.prog 111:=enter_fun Tryz.func111 (by kernel_rfl)
theorem f111_envOK:EnvOK Tryz.prog f111_env:=envOK_of cds (by kernel_rfl) cfg_ok ⟨⟨f171_pure,f171_enter⟩,trivial⟩ trivial ⟨⟨Tryz.func111,by kernel_rfl⟩,trivial⟩ trivial trivial trivial
theorem f111_pure:PureOK Tryz.prog cfg 111 f111_spec:=pure_of_run f111_envOK (fn:=Tryz.f111) (c:=f111_code) rfl rfl f111_spec (fun x _ h=>(f111_run x).trans h)
def f112 (a0:Ed):Option (Bool × Unit) :=
 (f171 a0.1 (0:Int) (39:Int)).bind fun y1 =>
 bif y1.1 then
 (f171 a0.2.1 (0:Int) (23:Int)).bind fun y2 =>
 bif y2.1 then
 (f171 a0.2.2.1 (0:Int) (23:Int)).bind fun y3 =>
 bif y3.1 then
 (f171 a0.2.2.2.2.1 (-1000:Int) (1000:Int)).bind fun y4 =>
 bif y4.1 then
 (f171 a0.2.2.2.2.2.1 (0:Int) (1000:Int)).bind fun y5 =>
 some (y5.1,())
 else
 some (false,())
 else
 some (false,())
 else
 some (false,())
 else
 some (false,())
def f112_spec:PSpec:={ args:=[tE],res:=[.bool],fn:=fun x=>f112 x.1 }
noncomputable def f112_code:Code:=Tryz.f112.body.getD .skip
noncomputable def f112_env:Env0:={ C:=cfg,P:=[(171,f171_spec)],L:=[],F:=[(112,Tryz.f112)] }
theorem f112_run (x:tysDen (f112_spec).args):runF f112_env 112 Tryz.f112 f112_code (f112_spec).args (f112_spec).res x = f112_spec.fn x:=by kernel_rfl
theorem f112_enter:Enterable Tryz.prog 112:=enter_fun Tryz.func112 (by kernel_rfl)
theorem f112_envOK:EnvOK Tryz.prog f112_env:=envOK_of cds (by kernel_rfl) cfg_ok ⟨⟨f171_pure,f171_enter⟩,trivial⟩ trivial ⟨⟨Tryz.func112,by kernel_rfl⟩,trivial⟩ trivial trivial trivial
theorem f112_pure:PureOK Tryz.prog cfg 112 f112_spec:=pure_of_run f112_envOK (fn:=Tryz.f112) (c:=f112_code) rfl rfl f112_spec (fun x _ h=>(f112_run x).trans h)
def f48_l2_head:Ann:={ env:=[(1,cP 1),(3,TI)],bxs:=[(1,.var [.ty (.sl tV),.ty (.sl tE),.ty (.sl tI)])] }
def f48_l2_outs:List (Ex × Ann):=[((.exit 0),{ env:=[(1,cP 1)],bxs:=[(1,.var [.ty (.sl tV),.ty (.sl tE),.ty (.sl tI)])] }),(.ret,{ env:=[(2,.ty .bool)] })]
def f48_l2 (b1g0:(List Vx)) (b1g1:(List Ed)) (b1g2:(List Int)):Nat→Int→Option (outDen f48_l2_outs)
 | 0,_=>none
 | k + 1,t3 =>
 bif (decide (t3 < (b1g0.length:Int))) then
 bif (inR t3 b1g0.length) then
 (f111 (at_ tV b1g0 t3)).bind fun y1 =>
 bif (!y1.1) then
 some (.inr ((false,()),(),()))
 else
 bif (decide (t3 > (0:Int))) then
 bif (inR t3 b1g0.length) then
 let v2:Int:=(at_ tV b1g0 t3).1
 bif (inR (IntKind.wrap .i64 (t3 - (1:Int))) b1g0.length) then
 let v3:Int:=(at_ tV b1g0 (IntKind.wrap .i64 (t3 - (1:Int)))).1
 bif (decide (v2≤v3)) then
 some (.inr ((false,()),(),()))
 else
 f48_l2 b1g0 b1g1 b1g2 k (IntKind.wrap .i64 (t3 + 1))
 else none
 else none
 else
 f48_l2 b1g0 b1g1 b1g2 k (IntKind.wrap .i64 (t3 + 1))
 else none
 else
 some (.inl ((),(),((b1g0,b1g1,b1g2,()),())))
def f48_l2_n (n:Nat) (x:f48_l2_head.den):=f48_l2 x.2.2.1.1 x.2.2.1.2.1 x.2.2.1.2.2.1 n x.1.1
def f48_l2_spec:LSpec:={ head:=f48_l2_head,outs:=f48_l2_outs,fn:=fun x=>f48_l2_n (((x.2.2.1.1.length:Int) - x.1.1).toNat + 1) x }
def f48_l7_head:Ann:={ env:=[(1,cP 1),(4,TI)],bxs:=[(1,.var [.ty (.sl tV),.ty (.sl tE),.ty (.sl tI)])] }
def f48_l7_outs:List (Ex × Ann):=[((.exit 2),{ env:=[(1,cP 1)],bxs:=[(1,.var [.ty (.sl tV),.ty (.sl tE),.ty (.sl tI)])] }),(.ret,{ env:=[(2,.ty .bool)] })]
def f48_l7 (b1g0:(List Vx)) (b1g1:(List Ed)) (b1g2:(List Int)):Nat→Int→Option (outDen f48_l7_outs)
 | 0,_=>none
 | k + 1,t4 =>
 bif (decide (t4 < (b1g1.length:Int))) then
 bif (inR t4 b1g1.length) then
 (f112 (at_ tE b1g1 t4)).bind fun y10 =>
 bif (!y10.1) then
 some (.inr ((false,()),(),()))
 else
 bif (decide (t4 > (0:Int))) then
 let v11:Int:=(at_ tE b1g1 t4).1
 bif (inR (IntKind.wrap .i64 (t4 - (1:Int))) b1g1.length) then
 let v12:Int:=(at_ tE b1g1 (IntKind.wrap .i64 (t4 - (1:Int)))).1
 bif (decide (v11≤v12)) then
 some (.inr ((false,()),(),()))
 else
 let v13:Int:=(at_ tE b1g1 t4).2.1
 (f55 (b1g0,(b1g1,(b1g2,()))) v13).bind fun y14 =>
 bif (decide (y14.1 < (0:Int))) then
 some (.inr ((false,()),(),()))
 else
 let v15:Int:=(at_ tE b1g1 t4).2.2.1
 (f55 (b1g0,(b1g1,(b1g2,()))) v15).bind fun y16 =>
 bif (decide (y16.1 < (0:Int))) then
 some (.inr ((false,()),(),()))
 else
 f48_l7 b1g0 b1g1 b1g2 k (IntKind.wrap .i64 (t4 + 1))
 else none
 else
 let v17:Int:=(at_ tE b1g1 t4).2.1
 (f55 (b1g0,(b1g1,(b1g2,()))) v17).bind fun y18 =>
 bif (decide (y18.1 < (0:Int))) then
 some (.inr ((false,()),(),()))
 else
 let v19:Int:=(at_ tE b1g1 t4).2.2.1
 (f55 (b1g0,(b1g1,(b1g2,()))) v19).bind fun y20 =>
 bif (decide (y20.1 < (0:Int))) then
 some (.inr ((false,()),(),()))
 else
 f48_l7 b1g0 b1g1 b1g2 k (IntKind.wrap .i64 (t4 + 1))
 else none
 else
 some (.inl ((),(),((b1g0,b1g1,b1g2,()),())))
def f48_l7_n (n:Nat) (x:f48_l7_head.den):=f48_l7 x.2.2.1.1 x.2.2.1.2.1 x.2.2.1.2.2.1 n x.1.1
def f48_l7_spec:LSpec:={ head:=f48_l7_head,outs:=f48_l7_outs,fn:=fun x=>f48_l7_n (((x.2.2.1.2.1.length:Int) - x.1.1).toNat + 1) x }
def f48_l13_head:Ann:={ env:=[(1,cP 1),(6,TI)],bxs:=[(1,.var [.ty (.sl tV),.ty (.sl tE),.ty (.sl tI)])] }
def f48_l13_outs:List (Ex × Ann):=[((.exit 4),{ env:=[(1,cP 1)],bxs:=[(1,.var [.ty (.sl tV),.ty (.sl tE),.ty (.sl tI)])] }),(.ret,{ env:=[(2,.ty .bool)] })]
def f48_l13 (b1g0:(List Vx)) (b1g1:(List Ed)) (b1g2:(List Int)):Nat→Int→Option (outDen f48_l13_outs)
 | 0,_=>none
 | k + 1,t6 =>
 bif (decide (t6 < (b1g2.length:Int))) then
 bif (inR t6 b1g2.length) then
 (f55 (b1g0,(b1g1,(b1g2,()))) (at_ tI b1g2 t6)).bind fun y27 =>
 bif (decide (y27.1 < (0:Int))) then
 some (.inr ((false,()),(),()))
 else
 bif (decide (t6 > (0:Int))) then
 bif (inR t6 b1g2.length) then
 bif (inR (IntKind.wrap .i64 (t6 - (1:Int))) b1g2.length) then
 let v28:Int:=(at_ tI b1g2 (IntKind.wrap .i64 (t6 - (1:Int))))
 let v29:Bool:=(decide ((at_ tI b1g2 t6)≤v28))
 bif v29 then
 some (.inr ((false,()),(),()))
 else
 f48_l13 b1g0 b1g1 b1g2 k (IntKind.wrap .i64 (t6 + 1))
 else none
 else none
 else
 f48_l13 b1g0 b1g1 b1g2 k (IntKind.wrap .i64 (t6 + 1))
 else none
 else
 some (.inl ((),(),((b1g0,b1g1,b1g2,()),())))
def f48_l13_n (n:Nat) (x:f48_l13_head.den):=f48_l13 x.2.2.1.1 x.2.2.1.2.1 x.2.2.1.2.2.1 n x.1.1
def f48_l13_spec:LSpec:={ head:=f48_l13_head,outs:=f48_l13_outs,fn:=fun x=>f48_l13_n (((x.2.2.1.2.2.1.length:Int) - x.1.1).toNat + 1) x }
def f48 (a0:Gr):Option (Bool × Unit) :=
 (f48_l2 a0.1 a0.2.1 a0.2.2.1 (((a0.1.length:Int) - (0:Int)).toNat + 1) (0:Int)).bind fun o4 =>
 Sum.elim (fun o5 =>
 let u7:(List Vx):=o5.2.2.1.1
 let u8:(List Ed):=o5.2.2.1.2.1
 let u9:(List Int):=o5.2.2.1.2.2.1
 (f48_l7 u7 u8 u9 (((u8.length:Int) - (0:Int)).toNat + 1) (0:Int)).bind fun o21 =>
 Sum.elim (fun o22 =>
 let u24:(List Vx):=o22.2.2.1.1
 let u25:(List Ed):=o22.2.2.1.2.1
 let u26:(List Int):=o22.2.2.1.2.2.1
 (f48_l13 u24 u25 u26 (((u26.length:Int) - (0:Int)).toNat + 1) (0:Int)).bind fun o30 =>
 Sum.elim (fun o31 =>
 let u35:(List Int):=o31.2.2.1.2.2.1
 let v36:Bool:=(decide ((u35.length:Int)≤(3:Int)))
 some (v36,())) (fun o32 =>
 let u37:Bool:=o32.1.1
 some (u37,())) o30) (fun o23 =>
 let u38:Bool:=o23.1.1
 some (u38,())) o21) (fun o6 =>
 let u39:Bool:=o6.1.1
 some (u39,())) o4
def f48_spec:PSpec:={ args:=[tG],res:=[.bool],fn:=fun x=>f48 x.1 }
noncomputable def f48_code:Code:=Tryz.f48.body.getD .skip
noncomputable def f48_env:Env0:={ C:=cfg,P:=[(55,f55_spec),(111,f111_spec),(112,f112_spec)],L:=[(⟨12,0,48,2⟩,f48_l2_spec),(⟨12,0,48,7⟩,f48_l7_spec),(⟨12,0,48,13⟩,f48_l13_spec)],F:=[(48,Tryz.f48)] }
theorem f48_l2_ok:LoopOK f48_env 12 48 0 (loopAt f48_code 2) f48_l2_spec :=
 loopOK_of (by kernel_rfl) f48_l2_n (fun x o h=>⟨_,h⟩) (fun x=>by kernel_rfl) (fun n x=>by kernel_rfl)
theorem f48_l7_ok:LoopOK f48_env 12 48 0 (loopAt f48_code 7) f48_l7_spec :=
 loopOK_of (by kernel_rfl) f48_l7_n (fun x o h=>⟨_,h⟩) (fun x=>by kernel_rfl) (fun n x=>by kernel_rfl)
theorem f48_l13_ok:LoopOK f48_env 12 48 0 (loopAt f48_code 13) f48_l13_spec :=
 loopOK_of (by kernel_rfl) f48_l13_n (fun x o h=>⟨_,h⟩) (fun x=>by kernel_rfl) (fun n x=>by kernel_rfl)
theorem f48_run (x:tysDen (f48_spec).args):runF f48_env 48 Tryz.f48 f48_code (f48_spec).args (f48_spec).res x = f48_spec.fn x:=by kernel_rfl
theorem f48_enter:Enterable Tryz.prog 48:=enter_fun Tryz.func48 (by kernel_rfl)
theorem f48_envOK:EnvOK Tryz.prog f48_env:=envOK_of cds (by kernel_rfl) cfg_ok ⟨⟨f55_pure,f55_enter⟩,⟨f111_pure,f111_enter⟩,⟨f112_pure,f112_enter⟩,trivial⟩ trivial ⟨⟨Tryz.func48,by kernel_rfl⟩,trivial⟩ ⟨⟨Tryz.f48,f48_code,rfl,rfl,f48_l2_ok⟩,⟨Tryz.f48,f48_code,rfl,rfl,f48_l7_ok⟩,⟨Tryz.f48,f48_code,rfl,rfl,f48_l13_ok⟩,trivial⟩ trivial trivial
theorem f48_pure:PureOK Tryz.prog cfg 48 f48_spec:=pure_of_run f48_envOK (fn:=Tryz.f48) (c:=f48_code) rfl rfl f48_spec (fun x _ h=>(f48_run x).trans h)
end Go.V.G
namespace Go.V.G
open Go.Proofs
def f206 (a0:Int):Option (Int × Unit) :=
 bif (decide (a0 < (0:Int))) then
 let v1:Int:=(IntKind.wrap .u64 (IntKind.wrap .i64 (0 - a0)))
 let v2:Int:=(IntKind.wrap .u64 ((IntKind.wrap .u64 (v1 * (2:Int))) - (1:Int)))
 some (v2,())
 else
 let v3:Int:=(IntKind.wrap .u64 ((IntKind.wrap .u64 a0) * (2:Int)))
 some (v3,())
def f172_l5_outs:List (Ex × Ann):=[((.exit 0),{ env:=[(4,.ty (.int .u64)),(5,.cst (.row 22 .whole))],bxs:=[(22,.row (.int .u8) false)] })]
def f172_l5:Nat→Int→(List Int)→Option (outDen f172_l5_outs)
 | 0,_,_=>none
 | k + 1,t4,r22 =>
 bif (decide (t4 ≥ (128:Int))) then
 let v4:Int:=(IntKind.wrap .u64 ((Int.tmod t4 (128:Int)) + (128:Int)))
 bif (decide (r22.length + ([(IntKind.wrap .u8 v4)]:List Int).length≤appLim)) then
 let v5:Int:=(IntKind.wrap .u64 (Int.tdiv t4 (128:Int)))
 f172_l5 k v5 (r22++([(IntKind.wrap .u8 v4)]:List Int))
 else none
 else
 some ((t4,()),(),(r22,()))
def f172 (a0:Int):Option (ByteArray × Int × Unit) :=
 let v1:Bool:=(decide (a0 < (-4611686018427387903:Int)))
 bif v1 then
 some ((⟨#[]⟩:ByteArray),(10:Int),())
 else
 let v2:Bool:=(decide (a0 > (4611686018427387903:Int)))
 bif v2 then
 some ((⟨#[]⟩:ByteArray),(10:Int),())
 else
 (f206 a0).bind fun y3 =>
 (f172_l5 (y3.1.toNat + 1) y3.1 []).bind fun o6 =>
 let u7:Int:=o6.1.1
 let u8:(List Int):=o6.2.2.1
 bif (decide (u8.length + ([(IntKind.wrap .u8 u7)]:List Int).length≤appLim)) then
 let v9:ByteArray:=(ofBytes (u8++([(IntKind.wrap .u8 u7)]:List Int)))
 some (v9,(0:Int),())
 else none
def f113_l3_outs:List (Ex × Ann):=[((.exit 0),{ env:=[(3,.ty .str)] })]
def f113_l3 (t0:(List Int)):Nat→ByteArray→Int→Option (outDen f113_l3_outs)
 | 0,_,_=>none
 | k + 1,t3,t4 =>
 bif (decide (t4 < (t0.length:Int))) then
 bif (inR t4 t0.length) then
 (f172 (at_ tI t0 t4)).bind fun y1 =>
 bif (decide (y1.2.1 = (0:Int))) then
 bif (catOk t3 y1.1) then f113_l3 t0 k (t3++y1.1) (IntKind.wrap .i64 (t4 + 1)) else none
 else
 f113_l3 t0 k t3 (IntKind.wrap .i64 (t4 + 1))
 else none
 else
 some ((t3,()),(),())
def f113 (a0:(List Int)):Option (ByteArray × Unit) :=
 (f113_l3 a0 (((a0.length:Int) - (0:Int)).toNat + 1) (⟨#[]⟩:ByteArray) (0:Int)).bind fun o2 =>
 let u3:ByteArray:=o2.1.1
 some (u3,())
def f49_l3_outs:List (Ex × Ann):=[((.exit 0),{ env:=[(5,.cst (.row 54 .whole))],bxs:=[(54,.row tI true)] })]
def f49_l3 (t1:(List Ed)):Nat→Int→(List Int)→Option (outDen f49_l3_outs)
 | 0,_,_=>none
 | k + 1,t6,r54 =>
 bif (decide (t6 < (t1.length:Int))) then
 bif (inR t6 t1.length) then
 let v1:Bool:=(at_ tE t1 t6).2.2.2.1
 bif v1 then
 bif (inR t6 t1.length) then
 let v2:Int:=(at_ tE t1 t6).1
 bif (inR t6 t1.length) then
 let v3:Int:=(at_ tE t1 t6).2.1
 bif (inR t6 t1.length) then
 let v4:Int:=(at_ tE t1 t6).2.2.1
 bif (inR t6 t1.length) then
 let v5:Int:=(at_ tE t1 t6).2.2.2.2.1
 bif (inR t6 t1.length) then
 let v6:Int:=(at_ tE t1 t6).2.2.2.2.2.1
 bif (decide (r54.length + ([v2,v3,v4,(1:Int),v5,v6]:List Int).length≤appLim)) then f49_l3 t1 k (IntKind.wrap .i64 (t6 + 1)) (r54++([v2,v3,v4,(1:Int),v5,v6]:List Int)) else none
 else none
 else none
 else none
 else none
 else none
 else
 bif (inR t6 t1.length) then
 let v7:Int:=(at_ tE t1 t6).1
 bif (inR t6 t1.length) then
 let v8:Int:=(at_ tE t1 t6).2.1
 bif (inR t6 t1.length) then
 let v9:Int:=(at_ tE t1 t6).2.2.1
 bif (inR t6 t1.length) then
 let v10:Int:=(at_ tE t1 t6).2.2.2.2.1
 bif (inR t6 t1.length) then
 let v11:Int:=(at_ tE t1 t6).2.2.2.2.2.1
 bif (decide (r54.length + ([v7,v8,v9,(0:Int),v10,v11]:List Int).length≤appLim)) then f49_l3 t1 k (IntKind.wrap .i64 (t6 + 1)) (r54++([v7,v8,v9,(0:Int),v10,v11]:List Int)) else none
 else none
 else none
 else none
 else none
 else none
 else none
 else
 some ((),(),(r54,()))
def f49 (a0:Vx) (a1:(List Ed)):Option (ByteArray × Unit) :=
 (f49_l3 a1 (((a1.length:Int) - (0:Int)).toNat + 1) (0:Int) ([a0.1,a0.2.1,(a1.length:Int)]:List Int)).bind fun o12 =>
 let u13:(List Int):=o12.2.2.1
 (f113 u13).bind fun y14 =>
 some (y14.1,())
def f50_l3_head:Ann:={ env:=[(1,TI),(2,cP 2),(5,.cst (.row 39 .whole)),(6,TI)],bxs:=[(2,.var [.ty (.sl tV),.ty (.sl tE),.ty (.sl tI)]),(39,.row tE false)] }
def f50_l3_outs:List (Ex × Ann):=[((.exit 0),{ env:=[(5,.cst (.row 39 .whole))],bxs:=[(39,.row tE false)] })]
def f50_l3 (t1:Int) (b2g0:(List Vx)) (b2g1:(List Ed)) (b2g2:(List Int)):Nat→Int→(List Ed)→Option (outDen f50_l3_outs)
 | 0,_,_=>none
 | k + 1,t6,r39 =>
 bif (decide (t6 < (b2g1.length:Int))) then
 bif (inR t6 b2g1.length) then
 let v1:Int:=(at_ tE b2g1 t6).2.1
 bif (decide (v1 = t1)) then
 bif (inR t6 b2g1.length) then bif (decide (r39.length + ([(at_ tE b2g1 t6)]:List Ed).length≤appLim)) then f50_l3 t1 b2g0 b2g1 b2g2 k (IntKind.wrap .i64 (t6 + 1)) (r39++([(at_ tE b2g1 t6)]:List Ed)) else none else none
 else
 bif (inR t6 b2g1.length) then
 let v2:Int:=(at_ tE b2g1 t6).2.2.1
 bif (decide (v2 = t1)) then
 bif (inR t6 b2g1.length) then bif (decide (r39.length + ([(at_ tE b2g1 t6)]:List Ed).length≤appLim)) then f50_l3 t1 b2g0 b2g1 b2g2 k (IntKind.wrap .i64 (t6 + 1)) (r39++([(at_ tE b2g1 t6)]:List Ed)) else none else none
 else
 f50_l3 t1 b2g0 b2g1 b2g2 k (IntKind.wrap .i64 (t6 + 1)) r39
 else none
 else none
 else
 some ((),(),(r39,()))
def f50_l3_n (n:Nat) (x:f50_l3_head.den):=f50_l3 x.1.1 x.2.2.1.1 x.2.2.1.2.1 x.2.2.1.2.2.1 n x.1.2.1 x.2.2.2.1
def f50_l3_spec:LSpec:={ thaws:=[.slot 5 39 tE],head:=f50_l3_head,outs:=f50_l3_outs,fn:=fun x=>f50_l3_n (((x.2.2.1.2.1.length:Int) - x.1.2.1).toNat + 1) x }
def f50 (a0:Gr) (a1:Int):Option ((List Ed) × Unit) :=
 (f50_l3 a1 a0.1 a0.2.1 a0.2.2.1 (((a0.2.1.length:Int) - (0:Int)).toNat + 1) (0:Int) []).bind fun o3 =>
 let u4:(List Ed):=o3.2.2.1
 some (u4,())
def f50_spec:PSpec:={ args:=[tG,tI],res:=[(.sl tE)],fn:=fun x=>f50 x.1 x.2.1 }
noncomputable def f50_code:Code:=Tryz.f50.body.getD .skip
noncomputable def f50_env:Env0:={ C:=cfg,P:=[],L:=[(⟨12,0,50,3⟩,f50_l3_spec)],F:=[(50,Tryz.f50)] }
theorem f50_l3_ok:LoopOK f50_env 12 50 0 (loopAt f50_code 3) f50_l3_spec :=
 loopOK_of (by kernel_rfl) f50_l3_n (fun x o h=>⟨_,h⟩) (fun x=>by kernel_rfl) (fun n x=>by kernel_rfl)
theorem f50_run (x:tysDen (f50_spec).args):runF f50_env 50 Tryz.f50 f50_code (f50_spec).args (f50_spec).res x = f50_spec.fn x:=by kernel_rfl
theorem f50_enter:Enterable Tryz.prog 50:=enter_fun Tryz.func50 (by kernel_rfl)
theorem f50_envOK:EnvOK Tryz.prog f50_env:=envOK_of cds (by kernel_rfl) cfg_ok trivial trivial ⟨⟨Tryz.func50,by kernel_rfl⟩,trivial⟩ ⟨⟨Tryz.f50,f50_code,rfl,rfl,f50_l3_ok⟩,trivial⟩ trivial trivial
theorem f50_pure:PureOK Tryz.prog cfg 50 f50_spec:=pure_of_run f50_envOK (fn:=Tryz.f50) (c:=f50_code) rfl rfl f50_spec (fun x _ h=>(f50_run x).trans h)
def f51_l3_outs:List (Ex × Ann):=[((.exit 0),{ env:=[(1,cP 1),(3,TI)],bxs:=[(1,.var [.ty (.sl tV),.ty (.sl tE),.ty (.sl tI)])] })]
def f51_l3 (b1g0:(List Vx)) (b1g1:(List Ed)) (b1g2:(List Int)):Nat→Int→Int→Option (outDen f51_l3_outs)
 | 0,_,_=>none
 | k + 1,t3,t4 =>
 bif (decide (t4 < (b1g1.length:Int))) then
 bif (inR t4 b1g1.length) then
 let v1:Int:=(at_ tE b1g1 t4).1
 bif (decide (0≤v1)) then
 let v2:Int:=(IntKind.wrap .i64 (t3 + (shlV .i64 (1:Int) v1)))
 f51_l3 b1g0 b1g1 b1g2 k v2 (IntKind.wrap .i64 (t4 + 1))
 else none
 else none
 else
 some ((t3,()),(),((b1g0,b1g1,b1g2,()),()))
def f51 (a0:Gr):Option (ByteArray × Unit) :=
 (f51_l3 a0.1 a0.2.1 a0.2.2.1 (((a0.2.1.length:Int) - (0:Int)).toNat + 1) (0:Int) (0:Int)).bind fun o3 =>
 let u4:Int:=o3.1.1
 let u7:(List Int):=o3.2.2.1.2.2.1
 bif (decide (([(u7.length:Int)]:List Int).length + u7.length≤appLim)) then
 bif (decide ((([(u7.length:Int)]:List Int)++u7).length + ([u4]:List Int).length≤appLim)) then
 (f113 ((([(u7.length:Int)]:List Int)++u7)++([u4]:List Int))).bind fun y8 =>
 some (y8.1,())
 else none
 else none
def f14_l6_outs:List (Ex × Ann):=[((.exit 0),{ env:=[(1,cP 1),(5,.cst (.row 38 .whole))],bxs:=[(1,.var [.ty (.sl tV),.ty (.sl tE),.ty (.sl tI)]),(38,.row tN false)] })]
def f14_l6 (b1g0:(List Vx)) (b1g1:(List Ed)) (b1g2:(List Int)):Nat→Int→(List En)→Option (outDen f14_l6_outs)
 | 0,_,_=>none
 | k + 1,t6,r38 =>
 bif (decide (t6 < (b1g0.length:Int))) then
 bif (inR t6 b1g0.length) then
 let v2:Int:=(at_ tV b1g0 t6).1
 bif (inR t6 b1g0.length) then
 (f50 (b1g0,(b1g1,(b1g2,()))) v2).bind fun y3 =>
 (f49 (at_ tV b1g0 t6) y3.1).bind fun y4 =>
 bif (decide (r38.length + ([(v2,(y4.1,()))]:List En).length≤appLim)) then f14_l6 b1g0 b1g1 b1g2 k (IntKind.wrap .i64 (t6 + 1)) (r38++([(v2,(y4.1,()))]:List En)) else none
 else none
 else none
 else
 some ((),(),((b1g0,b1g1,b1g2,()),r38,()))
def f14 (a0:Gr):Option ((List En) × Int × Unit) :=
 (f48 a0).bind fun y1 =>
 bif (!y1.1) then
 some ([],(60:Int),())
 else
 (f14_l6 a0.1 a0.2.1 a0.2.2.1 (((a0.1.length:Int) - (0:Int)).toNat + 1) (0:Int) []).bind fun o5 =>
 let u6:(List Vx):=o5.2.2.1.1
 let u7:(List Ed):=o5.2.2.1.2.1
 let u8:(List Int):=o5.2.2.1.2.2.1
 let u9:(List En):=o5.2.2.2.1
 (f51 (u6,(u7,(u8,())))).bind fun y10 =>
 bif (decide (u9.length + ([((63:Int),(y10.1,()))]:List En).length≤appLim)) then some ((u9++([((63:Int),(y10.1,()))]:List En)),(0:Int),()) else none
def f138_l3_outs:List (Ex × Ann):=[((.exit 0),{ env:=[(0,.ty .str),(3,.cst (.row 17 .whole))],bxs:=[(17,.row (.int .u8) false)] })]
def f138_l3 (t0:ByteArray):Nat→Int→(List Int)→Option (outDen f138_l3_outs)
 | 0,_,_=>none
 | k + 1,t4,r17 =>
 bif (decide (t4 < (t0.size:Int))) then
 bif (inR t4 t0.size) then bif (decide (r17.length + ([(byteAt t0 t4)]:List Int).length≤appLim)) then f138_l3 t0 k (IntKind.wrap .i64 (t4 + 1)) (r17++([(byteAt t0 t4)]:List Int)) else none else none
 else
 some ((t0,()),(),(r17,()))
def f138_l7_outs:List (Ex × Ann):=[((.exit 2),{ env:=[(0,.ty .str),(3,.cst (.row 17 .whole))],bxs:=[(17,.row (.int .u8) false)] })]
def f138_l7 (t0:ByteArray):Nat→(List Int)→Option (outDen f138_l7_outs)
 | 0,_=>none
 | k + 1,r17 =>
 let v4:Bool:=(decide ((Int.tmod (r17.length:Int) (64:Int)) ≠ (56:Int)))
 bif v4 then
 bif (decide (r17.length + ([(0:Int)]:List Int).length≤appLim)) then f138_l7 t0 k (r17++([(0:Int)]:List Int)) else none
 else
 some ((t0,()),(),(r17,()))
def f138_l10_outs:List (Ex × Ann):=[((.exit 4),{ env:=[(3,.cst (.row 17 .whole))],bxs:=[(17,.row (.int .u8) false)] })]
def f138_l10 (t0:ByteArray):Nat→Int→(List Int)→Option (outDen f138_l10_outs)
 | 0,_,_=>none
 | k + 1,t5,r17 =>
 bif (decide (t5 ≥ (0:Int))) then
 let v8:Int:=(IntKind.wrap .i64 ((8:Int) * (t0.size:Int)))
 bif (decide (0≤(IntKind.wrap .i64 ((8:Int) * t5)))) then
 let v9:Int:=(shrV .i64 v8 (IntKind.wrap .i64 ((8:Int) * t5)))
 bif (decide (r17.length + ([(IntKind.wrap .u8 v9)]:List Int).length≤appLim)) then f138_l10 t0 k (IntKind.wrap .i64 (t5 - (1:Int))) (r17++([(IntKind.wrap .u8 v9)]:List Int)) else none
 else none
 else
 some ((),(),(r17,()))
def f138 (a0:ByteArray):Option ((List Int) × Unit) :=
 (f138_l3 a0 (((a0.size:Int) - (0:Int)).toNat + 1) (0:Int) []).bind fun o1 =>
 let u2:ByteArray:=o1.1.1
 let u3:(List Int):=o1.2.2.1
 bif (decide (u3.length + ([(128:Int)]:List Int).length≤appLim)) then
 (f138_l7 u2 ((64:Nat)) (u3++([(128:Int)]:List Int))).bind fun o5 =>
 let u6:ByteArray:=o5.1.1
 let u7:(List Int):=o5.2.2.1
 (f138_l10 u6 (((7:Int) + 1).toNat + 1) (7:Int) u7).bind fun o10 =>
 let u11:(List Int):=o10.2.2.1
 some (u11,())
 else none
def f192 (a0:Int) (a1:Int):Option (Int × Unit) :=
 bif (decide (0≤a1)) then
 bif (decide (0≤(IntKind.wrap .i64 ((32:Int) - a1)))) then
 let v1:Int:=(shlV .u32 a0 (IntKind.wrap .i64 ((32:Int) - a1)))
 some ((orV .u32 (shrV .u32 a0 a1) v1),())
 else none
 else none
def f193 :Option ((List Int) × Unit) :=
 some (([(1116352408:Int),(1899447441:Int),(3049323471:Int),(3921009573:Int),(961987163:Int),(1508970993:Int),(2453635748:Int),(2870763221:Int),(3624381080:Int),(310598401:Int),(607225278:Int),(1426881987:Int),(1925078388:Int),(2162078206:Int),(2614888103:Int),(3248222580:Int),(3835390401:Int),(4022224774:Int),(264347078:Int),(604807628:Int),(770255983:Int),(1249150122:Int),(1555081692:Int),(1996064986:Int),(2554220882:Int),(2821834349:Int),(2952996808:Int),(3210313671:Int),(3336571891:Int),(3584528711:Int),(113926993:Int),(338241895:Int),(666307205:Int),(773529912:Int),(1294757372:Int),(1396182291:Int),(1695183700:Int),(1986661051:Int),(2177026350:Int),(2456956037:Int),(2730485921:Int),(2820302411:Int),(3259730800:Int),(3345764771:Int),(3516065817:Int),(3600352804:Int),(4094571909:Int),(275423344:Int),(430227734:Int),(506948616:Int),(659060556:Int),(883997877:Int),(958139571:Int),(1322822218:Int),(1537002063:Int),(1747873779:Int),(1955562222:Int),(2024104815:Int),(2227730452:Int),(2361852424:Int),(2428436474:Int),(2756734187:Int),(3204031479:Int),(3329325298:Int)]:List Int),())
def f139_l3_outs:List (Ex × Ann):=[((.exit 0),{ env:=[(0,.ty (.sl (.int .u32))),(5,.cst (.row 58 .whole))],bxs:=[(58,.row (.int .u32) false)] })]
def f139_l3 (t0:(List Int)) (t1:(List Int)):Nat→Int→(List Int)→Option (outDen f139_l3_outs)
 | 0,_,_=>none
 | k + 1,t6,r58 =>
 bif (decide (t6 < (16:Int))) then
 bif (inR (IntKind.wrap .i64 ((4:Int) * t6)) t1.length) then
 let v1:Int:=(at_ (.int .u8) t1 (IntKind.wrap .i64 ((4:Int) * t6)))
 let v2:Int:=(shlV .u32 (IntKind.wrap .u32 v1) (24:Int))
 let v3:Int:=(IntKind.wrap .i64 ((IntKind.wrap .i64 ((4:Int) * t6)) + 1))
 bif (inR v3 t1.length) then
 let v4:Int:=(IntKind.wrap .u32 (at_ (.int .u8) t1 v3))
 let v5:Int:=(IntKind.wrap .i64 ((IntKind.wrap .i64 ((4:Int) * t6)) + (2:Int)))
 bif (inR v5 t1.length) then
 let v6:Int:=(IntKind.wrap .u32 (at_ (.int .u8) t1 v5))
 let v7:Int:=(orV .u32 (orV .u32 v2 (shlV .u32 v4 (16:Int))) (shlV .u32 v6 (8:Int)))
 let v8:Int:=(IntKind.wrap .i64 ((IntKind.wrap .i64 ((4:Int) * t6)) + (3:Int)))
 bif (inR v8 t1.length) then
 let v9:Int:=(IntKind.wrap .u32 (at_ (.int .u8) t1 v8))
 bif (decide (r58.length + ([(orV .u32 v7 v9)]:List Int).length≤appLim)) then f139_l3 t0 t1 k (IntKind.wrap .i64 (t6 + 1)) (r58++([(orV .u32 v7 v9)]:List Int)) else none
 else none
 else none
 else none
 else none
 else
 some ((t0,()),(),(r58,()))
def f139_l7_outs:List (Ex × Ann):=[((.exit 2),{ env:=[(0,.ty (.sl (.int .u32))),(5,.cst (.row 58 .whole))],bxs:=[(58,.row (.int .u32) false)] })]
def f139_l7 (t0:(List Int)):Nat→Int→(List Int)→Option (outDen f139_l7_outs)
 | 0,_,_=>none
 | k + 1,t7,r58 =>
 bif (decide (t7 < (64:Int))) then
 bif (inR (IntKind.wrap .i64 (t7 - (15:Int))) r58.length) then
 let v13:Int:=(at_ (.int .u32) r58 (IntKind.wrap .i64 (t7 - (15:Int))))
 (f192 v13 (7:Int)).bind fun y14 =>
 bif (inR (IntKind.wrap .i64 (t7 - (15:Int))) r58.length) then
 let v15:Int:=(at_ (.int .u32) r58 (IntKind.wrap .i64 (t7 - (15:Int))))
 (f192 v15 (18:Int)).bind fun y16 =>
 bif (inR (IntKind.wrap .i64 (t7 - (15:Int))) r58.length) then
 let v17:Int:=(at_ (.int .u32) r58 (IntKind.wrap .i64 (t7 - (15:Int))))
 let v18:Int:=(xorV .u32 (xorV .u32 y14.1 y16.1) (shrV .u32 v17 (3:Int)))
 bif (inR (IntKind.wrap .i64 (t7 - (2:Int))) r58.length) then
 let v19:Int:=(at_ (.int .u32) r58 (IntKind.wrap .i64 (t7 - (2:Int))))
 (f192 v19 (17:Int)).bind fun y20 =>
 bif (inR (IntKind.wrap .i64 (t7 - (2:Int))) r58.length) then
 let v21:Int:=(at_ (.int .u32) r58 (IntKind.wrap .i64 (t7 - (2:Int))))
 (f192 v21 (19:Int)).bind fun y22 =>
 bif (inR (IntKind.wrap .i64 (t7 - (2:Int))) r58.length) then
 let v23:Int:=(at_ (.int .u32) r58 (IntKind.wrap .i64 (t7 - (2:Int))))
 let v24:Int:=(xorV .u32 (xorV .u32 y20.1 y22.1) (shrV .u32 v23 (10:Int)))
 bif (inR (IntKind.wrap .i64 (t7 - (16:Int))) r58.length) then
 let v25:Int:=(at_ (.int .u32) r58 (IntKind.wrap .i64 (t7 - (16:Int))))
 bif (inR (IntKind.wrap .i64 (t7 - (7:Int))) r58.length) then
 let v26:Int:=(at_ (.int .u32) r58 (IntKind.wrap .i64 (t7 - (7:Int))))
 let v27:Int:=(IntKind.wrap .u32 ((IntKind.wrap .u32 (v25 + v18)) + v26))
 bif (decide (r58.length + ([(IntKind.wrap .u32 (v27 + v24))]:List Int).length≤appLim)) then f139_l7 t0 k (IntKind.wrap .i64 (t7 + 1)) (r58++([(IntKind.wrap .u32 (v27 + v24))]:List Int)) else none
 else none
 else none
 else none
 else none
 else none
 else none
 else none
 else none
 else
 some ((t0,()),(),(r58,()))
def f139_l16_outs:List (Ex × Ann):=[((.exit 4),{ env:=[(0,.ty (.sl (.int .u32))),(11,.ty (.sl (.int .u32)))] })]
def f139_l16 (t0:(List Int)) (t10:(List Int)) (r58:(List Int)):Nat→(List Int)→Int→Option (outDen f139_l16_outs)
 | 0,_,_=>none
 | k + 1,t11,t12 =>
 bif (decide (t12 < (64:Int))) then
 bif (inR (0:Int) t11.length) then
 bif (inR (4:Int) t11.length) then
 bif (inR (7:Int) t11.length) then
 (f192 (at_ (.int .u32) t11 (4:Int)) (6:Int)).bind fun y32 =>
 (f192 (at_ (.int .u32) t11 (4:Int)) (11:Int)).bind fun y33 =>
 (f192 (at_ (.int .u32) t11 (4:Int)) (25:Int)).bind fun y34 =>
 let v35:Int:=(xorV .u32 (xorV .u32 y32.1 y33.1) y34.1)
 let v36:Int:=(IntKind.wrap .u32 ((at_ (.int .u32) t11 (7:Int)) + v35))
 bif (inR (5:Int) t11.length) then
 let v37:Int:=(andV .u32 (at_ (.int .u32) t11 (4:Int)) (at_ (.int .u32) t11 (5:Int)))
 let v38:Int:=(xorV .u32 (if IntKind.signed .u32 then -1 else IntKind.max .u32) (at_ (.int .u32) t11 (4:Int)))
 bif (inR (6:Int) t11.length) then
 let v39:Int:=(andV .u32 v38 (at_ (.int .u32) t11 (6:Int)))
 let v40:Int:=(IntKind.wrap .u32 (v36 + (xorV .u32 v37 v39)))
 bif (inR t12 t10.length) then
 let v41:Int:=(IntKind.wrap .u32 (v40 + (at_ (.int .u32) t10 t12)))
 bif (inR t12 r58.length) then
 let v42:Int:=(IntKind.wrap .u32 (v41 + (at_ (.int .u32) r58 t12)))
 (f192 (at_ (.int .u32) t11 (0:Int)) (2:Int)).bind fun y43 =>
 (f192 (at_ (.int .u32) t11 (0:Int)) (13:Int)).bind fun y44 =>
 (f192 (at_ (.int .u32) t11 (0:Int)) (22:Int)).bind fun y45 =>
 let v46:Int:=(xorV .u32 (xorV .u32 y43.1 y44.1) y45.1)
 bif (inR (1:Int) t11.length) then
 let v47:Int:=(andV .u32 (at_ (.int .u32) t11 (0:Int)) (at_ (.int .u32) t11 (1:Int)))
 bif (inR (2:Int) t11.length) then
 let v48:Int:=(andV .u32 (at_ (.int .u32) t11 (0:Int)) (at_ (.int .u32) t11 (2:Int)))
 bif (inR (1:Int) t11.length) then
 bif (inR (2:Int) t11.length) then
 let v49:Int:=(andV .u32 (at_ (.int .u32) t11 (1:Int)) (at_ (.int .u32) t11 (2:Int)))
 let v50:Int:=(IntKind.wrap .u32 (v46 + (xorV .u32 (xorV .u32 v47 v48) v49)))
 bif (inR (1:Int) t11.length) then
 bif (inR (2:Int) t11.length) then
 bif (inR (3:Int) t11.length) then
 let v51:Int:=(IntKind.wrap .u32 ((at_ (.int .u32) t11 (3:Int)) + v42))
 bif (inR (5:Int) t11.length) then bif (inR (6:Int) t11.length) then f139_l16 t0 t10 r58 k ([(IntKind.wrap .u32 (v42 + v50)),(at_ (.int .u32) t11 (0:Int)),(at_ (.int .u32) t11 (1:Int)),(at_ (.int .u32) t11 (2:Int)),v51,(at_ (.int .u32) t11 (4:Int)),(at_ (.int .u32) t11 (5:Int)),(at_ (.int .u32) t11 (6:Int))]:List Int) (IntKind.wrap .i64 (t12 + 1)) else none else none
 else none
 else none
 else none
 else none
 else none
 else none
 else none
 else none
 else none
 else none
 else none
 else none
 else none
 else none
 else
 some ((t0,t11,()),(),())
def f139_l25_outs:List (Ex × Ann):=[((.exit 6),{ env:=[(17,.cst (.row 236 .whole))],bxs:=[(236,.row (.int .u32) false)] })]
def f139_l25 (t0:(List Int)) (t11:(List Int)):Nat→Int→(List Int)→Option (outDen f139_l25_outs)
 | 0,_,_=>none
 | k + 1,t18,r236 =>
 bif (decide (t18 < (8:Int))) then
 bif (inR t18 t0.length) then
 bif (inR t18 t11.length) then
 let v55:Int:=(IntKind.wrap .u32 ((at_ (.int .u32) t0 t18) + (at_ (.int .u32) t11 t18)))
 bif (decide (r236.length + ([v55]:List Int).length≤appLim)) then f139_l25 t0 t11 k (IntKind.wrap .i64 (t18 + 1)) (r236++([v55]:List Int)) else none
 else none
 else none
 else
 some ((),(),(r236,()))
def f139 (a0:(List Int)) (a1:(List Int)):Option ((List Int) × Unit) :=
 (f139_l3 a0 a1 (((16:Int) - (0:Int)).toNat + 1) (0:Int) []).bind fun o10 =>
 let u11:(List Int):=o10.1.1
 let u12:(List Int):=o10.2.2.1
 (f139_l7 u11 (((64:Int) - (16:Int)).toNat + 1) (16:Int) u12).bind fun o28 =>
 let u29:(List Int):=o28.1.1
 let u30:(List Int):=o28.2.2.1
 (f193 ).bind fun y31 =>
 bif (decide (u29.length≤appLim)) then
 (f139_l16 u29 y31.1 u30 (((64:Int) - (0:Int)).toNat + 1) u29 (0:Int)).bind fun o52 =>
 let u53:(List Int):=o52.1.1
 let u54:(List Int):=o52.1.2.1
 (f139_l25 u53 u54 (((8:Int) - (0:Int)).toNat + 1) (0:Int) []).bind fun o56 =>
 let u57:(List Int):=o56.2.2.1
 some (u57,())
 else none
def f89_l4_outs:List (Ex × Ann):=[((.exit 0),{ env:=[(3,.ty (.sl (.int .u32)))] })]
def f89_l4 (t4:(List Int)):Nat→(List Int)→Int→Option (outDen f89_l4_outs)
 | 0,_,_=>none
 | k + 1,t3,t5 =>
 bif (decide (t5 < (t4.length:Int))) then
 bif (cutOk t4.length (some t5) (some (IntKind.wrap .i64 (t5 + (64:Int))))) then
 let v2:(List Int):=((t4.take (Int.toNat (IntKind.wrap .i64 (t5 + (64:Int))))).drop (Int.toNat t5))
 (f139 t3 v2).bind fun y3 =>
 f89_l4 t4 k y3.1 (IntKind.wrap .i64 (t5 + (64:Int)))
 else none
 else
 some ((t3,()),(),())
def f89_l9_outs:List (Ex × Ann):=[((.exit 2),{ env:=[(6,.cst (.row 53 .whole))],bxs:=[(53,.row (.int .u8) false)] })]
def f89_l9 (t3:(List Int)):Nat→Int→(List Int)→Option (outDen f89_l9_outs)
 | 0,_,_=>none
 | k + 1,t7,r53 =>
 bif (decide (t7 < (8:Int))) then
 bif (inR t7 t3.length) then
 let v6:Int:=(shrV .u32 (at_ (.int .u32) t3 t7) (24:Int))
 bif (inR t7 t3.length) then
 let v7:Int:=(shrV .u32 (at_ (.int .u32) t3 t7) (16:Int))
 bif (inR t7 t3.length) then
 let v8:Int:=(shrV .u32 (at_ (.int .u32) t3 t7) (8:Int))
 bif (inR t7 t3.length) then
 let v9:Int:=(IntKind.wrap .u8 (at_ (.int .u32) t3 t7))
 bif (decide (r53.length + ([(IntKind.wrap .u8 v6),(IntKind.wrap .u8 v7),(IntKind.wrap .u8 v8),v9]:List Int).length≤appLim)) then f89_l9 t3 k (IntKind.wrap .i64 (t7 + 1)) (r53++([(IntKind.wrap .u8 v6),(IntKind.wrap .u8 v7),(IntKind.wrap .u8 v8),v9]:List Int)) else none
 else none
 else none
 else none
 else none
 else
 some ((),(),(r53,()))
def f89 (a0:ByteArray):Option (ByteArray × Unit) :=
 (f138 a0).bind fun y1 =>
 (f89_l4 y1.1 (((y1.1.length:Int) - (0:Int)).toNat + 1) ([(1779033703:Int),(3144134277:Int),(1013904242:Int),(2773480762:Int),(1359893119:Int),(2600822924:Int),(528734635:Int),(1541459225:Int)]:List Int) (0:Int)).bind fun o4 =>
 let u5:(List Int):=o4.1.1
 (f89_l9 u5 (((8:Int) - (0:Int)).toNat + 1) (0:Int) []).bind fun o10 =>
 let u11:(List Int):=o10.2.2.1
 some ((ofBytes u11),())
def f141 :Option (ByteArray × Unit) :=
 bif (decide (0≤(32:Int)) && decide ((32:Int)≤(32:Int)) && decide ((32:Int)≤(appLim:Int))) then
 let v1:ByteArray:=(ofBytes (List.replicate (Int.toNat (32:Int)) (0:Int)))
 some (v1,())
 else none
def f17_l4_outs:List (Ex × Ann):=[((.exit 0),{ env:=[] }),(.ret,{ env:=[(4,.ty .bool)] })]
def f17_l4 (t0:(List En)) (t1:(List En)):Nat→Int→Option (outDen f17_l4_outs)
 | 0,_=>none
 | k + 1,t5 =>
 bif (decide (t5 < (t0.length:Int))) then
 bif (inR t5 t0.length) then
 bif (inR t5 t1.length) then
 let v2:Bool:=(!(decide ((at_ tN t0 t5).1 = (at_ tN t1 t5).1) && (decide ((at_ tN t0 t5).2.1 = (at_ tN t1 t5).2.1) && true)))
 bif v2 then
 some (.inr ((false,()),(),()))
 else
 f17_l4 t0 t1 k (IntKind.wrap .i64 (t5 + 1))
 else none
 else none
 else
 some (.inl ((),(),()))
def f17 (a0:(List En)) (a1:(List En)):Option (Bool × Unit) :=
 let v1:Bool:=(decide ((a0.length:Int) ≠ (a1.length:Int)))
 bif v1 then
 some (false,())
 else
 (f17_l4 a0 a1 (((a0.length:Int) - (0:Int)).toNat + 1) (0:Int)).bind fun o3 =>
 Sum.elim (fun o4 =>
 some (true,())) (fun o5 =>
 let u6:Bool:=o5.1.1
 some (u6,())) o3
def f18 (a0:Int) (a1:Int):Option (Int × Unit) :=
 bif (decide (a0 < (0:Int))) then
 let v1:Int:=(IntKind.wrap .i64 (0 - (IntKind.wrap .i64 (a0 + 1))))
 bif (decide (a1 ≠ 0)) then some ((Int.tmod v1 a1),()) else none
 else
 bif (decide (a1 ≠ 0)) then some ((Int.tmod a0 a1),()) else none
def f18_spec:PSpec:={ args:=[tI,tI],res:=[tI],fn:=fun x=>f18 x.1 x.2.1 }
noncomputable def f18_code:Code:=Tryz.f18.body.getD .skip
noncomputable def f18_env:Env0:={ C:=cfg,P:=[],L:=[],F:=[(18,Tryz.f18)] }
theorem f18_run (x:tysDen (f18_spec).args):runF f18_env 18 Tryz.f18 f18_code (f18_spec).args (f18_spec).res x = f18_spec.fn x:=by kernel_rfl
theorem f18_enter:Enterable Tryz.prog 18:=enter_fun Tryz.func18 (by kernel_rfl)
theorem f18_envOK:EnvOK Tryz.prog f18_env:=envOK_of cds (by kernel_rfl) cfg_ok trivial trivial ⟨⟨Tryz.func18,by kernel_rfl⟩,trivial⟩ trivial trivial trivial
theorem f18_pure:PureOK Tryz.prog cfg 18 f18_spec:=pure_of_run f18_envOK (fn:=Tryz.f18) (c:=f18_code) rfl rfl f18_spec (fun x _ h=>(f18_run x).trans h)
def f20 (a0:Gr) (a1:Int):Option (ByteArray × Int × Unit) :=
 (f48 a0).bind fun y1 =>
 (f55 a0 a1).bind fun y2 =>
 bif (!y1.1) then
 some ((⟨#[]⟩:ByteArray),(60:Int),())
 else
 bif (decide (y2.1 < (0:Int))) then
 some ((⟨#[]⟩:ByteArray),(60:Int),())
 else
 bif (inR y2.1 a0.1.length) then
 (f50 a0 a1).bind fun y3 =>
 (f49 (at_ tV a0.1 y2.1) y3.1).bind fun y4 =>
 some (y4.1,(0:Int),())
 else none
def f21 (a0:(List En)) (a1:Int) (a2:Int):Option ((List En) × Unit) :=
 bif (decide (a0.length≤appLim)) then
 bif (decide ((a0.length:Int) = (0:Int))) then
 some (a0,())
 else
 (f18 a1 (a0.length:Int)).bind fun y1 =>
 bif (inR y1.1 a0.length) then
 let v2:ByteArray:=(at_ tN a0 y1.1).2.1
 (f18 a1 (5:Int)).bind fun y3 =>
 bif (decide (y3.1 = (4:Int))) then
 bif (cutOk a0.length none (some y1.1) && decide (y1.1 = y1.1)) then bif (cutOk a0.length (some (IntKind.wrap .i64 (y1.1 + 1))) none) then bif (decide (((a0.drop 0).take (cutLen a0.length none (some y1.1))).length + ((a0.drop (Int.toNat (IntKind.wrap .i64 (y1.1 + 1)))).take (cutLen a0.length (some (IntKind.wrap .i64 (y1.1 + 1))) none)).length≤appLim)) then some ((((a0.drop 0).take (cutLen a0.length none (some y1.1)))++((a0.drop (Int.toNat (IntKind.wrap .i64 (y1.1 + 1)))).take (cutLen a0.length (some (IntKind.wrap .i64 (y1.1 + 1))) none))),()) else none else none else none
 else
 let v4:Bool:=(decide (((toBytes v2).length:Int) = (0:Int)))
 bif v4 then
 bif (cutOk a0.length none (some y1.1) && decide (y1.1 = y1.1)) then bif (cutOk a0.length (some (IntKind.wrap .i64 (y1.1 + 1))) none) then bif (decide (((a0.drop 0).take (cutLen a0.length none (some y1.1))).length + ((a0.drop (Int.toNat (IntKind.wrap .i64 (y1.1 + 1)))).take (cutLen a0.length (some (IntKind.wrap .i64 (y1.1 + 1))) none)).length≤appLim)) then some ((((a0.drop 0).take (cutLen a0.length none (some y1.1)))++((a0.drop (Int.toNat (IntKind.wrap .i64 (y1.1 + 1)))).take (cutLen a0.length (some (IntKind.wrap .i64 (y1.1 + 1))) none))),()) else none else none else none
 else
 let v5:Int:=(IntKind.wrap .i64 (Int.tdiv a1 (7:Int)))
 (f18 v5 ((toBytes v2).length:Int)).bind fun y6 =>
 bif (inR y6.1 (toBytes v2).length) then
 let v7:ByteArray:=(ofBytes ((toBytes v2).set (Int.toNat y6.1) a2))
 bif (inR y1.1 a0.length) then some ((a0.set (Int.toNat y1.1) ((at_ tN a0 y1.1).1,(v7,()))),()) else none
 else none
 else none
 else none
def f122_l5_outs:List (Ex × Ann):=[((.exit 0),{ env:=[] }),(.ret,{ env:=[(4,TI),(5,TI),(6,TI)] })]
def f122_l5 (t0:ByteArray) (t1:Int):Nat→Int→Int→Option (outDen f122_l5_outs)
 | 0,_,_=>none
 | k + 1,t7,t8 =>
 bif (decide (t8 < (9:Int))) then
 let v1:Bool:=(decide ((IntKind.wrap .i64 (t1 + t8)) < (t0.size:Int)))
 bif v1 then
 bif (inR (IntKind.wrap .i64 (t1 + t8)) t0.size) then
 let v2:Int:=(byteAt t0 (IntKind.wrap .i64 (t1 + t8)))
 let v3:Int:=(Int.tmod (IntKind.wrap .u64 v2) (128:Int))
 bif (decide (0≤(IntKind.wrap .i64 ((7:Int) * t8)))) then
 let v4:Int:=(shlV .u64 v3 (IntKind.wrap .i64 ((7:Int) * t8)))
 let v5:Bool:=(decide ((IntKind.wrap .u64 v2) ≥ (128:Int)))
 bif v5 then
 f122_l5 t0 t1 k (IntKind.wrap .u64 (t7 + v4)) (IntKind.wrap .i64 (t8 + 1))
 else
 let v6:Int:=(IntKind.wrap .u64 (Int.tdiv (IntKind.wrap .u64 (t7 + v4)) (2:Int)))
 let v7:Int:=(Int.tmod (IntKind.wrap .u64 (t7 + v4)) (2:Int))
 bif (decide (v7 = (1:Int))) then
 let v8:Int:=(IntKind.wrap .i64 (0 - (IntKind.wrap .i64 v6)))
 (f172 (IntKind.wrap .i64 (v8 - (1:Int)))).bind fun y9 =>
 bif (decide (y9.2.1 ≠ (0:Int))) then
 some (.inr (((0:Int),(0:Int),(10:Int),()),(),()))
 else
 let v10:Int:=(IntKind.wrap .i64 ((IntKind.wrap .i64 (t1 + t8)) + 1))
 bif (cutOk t0.size (some t1) (some v10)) then
 let v11:Bool:=(!(decide (y9.1 = (cutS t0 (some t1) (some v10)))))
 bif v11 then
 some (.inr (((0:Int),(0:Int),(10:Int),()),(),()))
 else
 let v12:Int:=(IntKind.wrap .i64 ((IntKind.wrap .i64 (t1 + t8)) + 1))
 some (.inr (((IntKind.wrap .i64 (v8 - (1:Int))),v12,(0:Int),()),(),()))
 else none
 else
 (f172 (IntKind.wrap .i64 v6)).bind fun y13 =>
 bif (decide (y13.2.1 ≠ (0:Int))) then
 some (.inr (((0:Int),(0:Int),(10:Int),()),(),()))
 else
 let v14:Int:=(IntKind.wrap .i64 ((IntKind.wrap .i64 (t1 + t8)) + 1))
 bif (cutOk t0.size (some t1) (some v14)) then
 let v15:Bool:=(!(decide (y13.1 = (cutS t0 (some t1) (some v14)))))
 bif v15 then
 some (.inr (((0:Int),(0:Int),(10:Int),()),(),()))
 else
 let v16:Int:=(IntKind.wrap .i64 ((IntKind.wrap .i64 (t1 + t8)) + 1))
 some (.inr (((IntKind.wrap .i64 v6),v16,(0:Int),()),(),()))
 else none
 else none
 else none
 else
 some (.inl ((),(),()))
 else
 some (.inl ((),(),()))
def f122 (a0:ByteArray) (a1:Int):Option (Int × Int × Int × Unit) :=
 bif (decide (a1 < (0:Int))) then
 some ((0:Int),(0:Int),(2:Int),())
 else
 bif (decide (a1 > (a0.size:Int))) then
 some ((0:Int),(0:Int),(2:Int),())
 else
 (f122_l5 a0 a1 (((9:Int) - (0:Int)).toNat + 1) (0:Int) (0:Int)).bind fun o17 =>
 Sum.elim (fun o18 =>
 some ((0:Int),(0:Int),(10:Int),())) (fun o19 =>
 let u20:Int:=o19.1.1
 let u21:Int:=o19.1.2.1
 let u22:Int:=o19.1.2.2.1
 some (u20,u21,u22,())) o17
def f68_l3_outs:List (Ex × Ann):=[((.exit 0),{ env:=[(6,.cst (.row 33 .whole))],bxs:=[(33,.row tI false)] }),(.ret,{ env:=[(4,.cst .nils),(5,.ty .bool)] })]
def f68_l3 (t0:ByteArray) (t1:Int):Nat→Int→(List Int)→Option (outDen f68_l3_outs)
 | 0,_,_=>none
 | k + 1,t7,r33 =>
 bif (decide (t7 < (t0.size:Int))) then
 (f122 t0 t7).bind fun y1 =>
 bif (decide (y1.2.2.1 ≠ (0:Int))) then
 some (.inr ((false,()),(),()))
 else
 bif (decide ((r33.length:Int) = t1)) then
 some (.inr ((false,()),(),()))
 else
 bif (decide (r33.length + ([y1.1]:List Int).length≤appLim)) then f68_l3 t0 t1 k y1.2.1 (r33++([y1.1]:List Int)) else none
 else
 some (.inl ((),(),(r33,())))
def f68 (a0:ByteArray) (a1:Int):Option ((List Int) × Bool × Unit) :=
 (f68_l3 a0 a1 (((a0.size:Int) - (0:Int)).toNat + 1) (0:Int) []).bind fun o2 =>
 Sum.elim (fun o3 =>
 let u5:(List Int):=o3.2.2.1
 some (u5,true,())) (fun o4 =>
 let u6:Bool:=o4.1.1
 some ([],u6,())) o2
def f69_l7_outs:List (Ex × Ann):=[((.exit 2),{ env:=[(1,.ty (.sl tE)),(2,cP 2),(4,cP 4),(5,cP 5),(6,TI),(7,.ty .bool)],bxs:=[(2,.var [TI,TI]),(4,.var [.cst .nils,.cst .nils,.cst .nils]),(5,.var [.cst (.row 54 .whole),.cst (.row 11 .whole),.cst .nils]),(54,.row tV false),(11,.row tE false)] })]
def f69_l7 (t1:(List Ed)) (t6:Int) (b2g0:Int) (b2g1:Int) (r54:(List Vx)) (r11:(List Ed)):Nat→Bool→Int→Option (outDen f69_l7_outs)
 | 0,_,_=>none
 | k + 1,t7,t8 =>
 bif (decide (t8 < (t1.length:Int))) then
 bif t7 then
 f69_l7 t1 t6 b2g0 b2g1 r54 r11 k true (IntKind.wrap .i64 (t8 + 1))
 else
 bif (inR t8 t1.length) then
 let v1:Int:=(at_ tE t1 t8).2.1
 bif (decide (v1 = t6)) then
 f69_l7 t1 t6 b2g0 b2g1 r54 r11 k true (IntKind.wrap .i64 (t8 + 1))
 else
 bif (inR t8 t1.length) then
 let v2:Int:=(at_ tE t1 t8).2.2.1
 f69_l7 t1 t6 b2g0 b2g1 r54 r11 k (decide (v2 = t6)) (IntKind.wrap .i64 (t8 + 1))
 else none
 else none
 else
 some ((t1,t6,t7,()),(),((b2g0,b2g1,()),(),(),r54,r11,()))
def f69_l3_outs:List (Ex × Ann):=[((.exit 0),{ env:=[(4,cP 4),(5,cP 5)],bxs:=[(4,.var [.cst .nils,.cst .nils,.cst .nils]),(5,.var [.cst (.row 54 .whole),.cst (.row 11 .whole),.cst .nils]),(54,.row tV false),(11,.row tE false)] })]
def f69_l3:Nat→(List Ed)→Int→Int→Int→(List Vx)→(List Ed)→Option (outDen f69_l3_outs)
 | 0,_,_,_,_,_,_=>none
 | k + 1,t1,t6,b2g0,b2g1,r54,r11 =>
 bif (decide (t6 < (24:Int))) then
 (f69_l7 t1 t6 b2g0 b2g1 r54 r11 (((t1.length:Int) - (0:Int)).toNat + 1) (decide (t6 = b2g0)) (0:Int)).bind fun o3 =>
 let u4:(List Ed):=o3.1.1
 let u5:Int:=o3.1.2.1
 let u6:Bool:=o3.1.2.2.1
 let u7:Int:=o3.2.2.1.1
 let u8:Int:=o3.2.2.1.2.1
 let u9:(List Vx):=o3.2.2.2.2.2.1
 let u10:(List Ed):=o3.2.2.2.2.2.2.1
 bif (decide (u5 = u7)) then
 bif (decide (u9.length + ([(u7,(u8,()))]:List Vx).length≤appLim)) then f69_l3 k u4 (IntKind.wrap .i64 (u5 + 1)) u7 u8 (u9++([(u7,(u8,()))]:List Vx)) u10 else none
 else
 bif u6 then
 bif (decide (u9.length + ([(u5,(0,()))]:List Vx).length≤appLim)) then f69_l3 k u4 (IntKind.wrap .i64 (u5 + 1)) u7 u8 (u9++([(u5,(0,()))]:List Vx)) u10 else none
 else
 f69_l3 k u4 (IntKind.wrap .i64 (u5 + 1)) u7 u8 u9 u10
 else
 some ((),(),((),(),r54,r11,()))
def f69 (a0:Vx) (a1:(List Ed)):Option (Gr × Unit) :=
 bif (decide (a1.length≤appLim)) then
 (f69_l3 (((24:Int) - (0:Int)).toNat + 1) a1 (0:Int) a0.1 a0.2.1 [] a1).bind fun o11 =>
 let u12:(List Vx):=o11.2.2.2.2.1
 let u13:(List Ed):=o11.2.2.2.2.2.1
 some ((u12,(u13,([],()))),())
 else none
def f26_l9_outs:List (Ex × Ann):=[((.exit 0),{ env:=[(2,cP 2),(7,cP 7),(8,.cst (.row 122 .whole))],bxs:=[(2,.var [TI,TI]),(7,.var [TI,TI]),(122,.row tE false)] }),(.ret,{ env:=[(2,cP 2),(3,.cst .nils),(4,TI)],bxs:=[(2,.var [TI,TI])] })]
def f26_l9 (t5:(List Int)) (b2g0:Int) (b2g1:Int) (b7g0:Int) (b7g1:Int):Nat→Int→(List Ed)→Option (outDen f26_l9_outs)
 | 0,_,_=>none
 | k + 1,t9,r122 =>
 bif (decide (t9 < (t5.length:Int))) then
 bif (inR t9 t5.length) then
 bif (inR (IntKind.wrap .i64 (t9 + 1)) t5.length) then
 let v7:Int:=(at_ tI t5 (IntKind.wrap .i64 (t9 + 1)))
 bif (inR (IntKind.wrap .i64 (t9 + (2:Int))) t5.length) then
 let v8:Int:=(at_ tI t5 (IntKind.wrap .i64 (t9 + (2:Int))))
 bif (inR (IntKind.wrap .i64 (t9 + (3:Int))) t5.length) then
 let v9:Int:=(at_ tI t5 (IntKind.wrap .i64 (t9 + (3:Int))))
 bif (inR (IntKind.wrap .i64 (t9 + (4:Int))) t5.length) then
 let v10:Int:=(at_ tI t5 (IntKind.wrap .i64 (t9 + (4:Int))))
 bif (inR (IntKind.wrap .i64 (t9 + (5:Int))) t5.length) then
 let v11:Int:=(at_ tI t5 (IntKind.wrap .i64 (t9 + (5:Int))))
 bif (decide (v7 ≠ b7g0)) then
 bif (decide (v8 ≠ b7g0)) then
 some (.inr (((60:Int),()),(),((0,0,()),())))
 else
 bif (inR (IntKind.wrap .i64 (t9 + (3:Int))) t5.length) then
 let v12:Int:=(at_ tI t5 (IntKind.wrap .i64 (t9 + (3:Int))))
 bif (decide (v12 ≠ (0:Int))) then
 bif (inR (IntKind.wrap .i64 (t9 + (3:Int))) t5.length) then
 let v13:Int:=(at_ tI t5 (IntKind.wrap .i64 (t9 + (3:Int))))
 bif (decide (v13 ≠ (1:Int))) then
 some (.inr (((60:Int),()),(),((0,0,()),())))
 else
 bif (decide (r122.length + ([((at_ tI t5 t9),(v7,(v8,((decide (v9 = (1:Int))),(v10,(v11,()))))))]:List Ed).length≤appLim)) then f26_l9 t5 b2g0 b2g1 b7g0 b7g1 k (IntKind.wrap .i64 (t9 + (6:Int))) (r122++([((at_ tI t5 t9),(v7,(v8,((decide (v9 = (1:Int))),(v10,(v11,()))))))]:List Ed)) else none
 else none
 else
 bif (decide (r122.length + ([((at_ tI t5 t9),(v7,(v8,((decide (v9 = (1:Int))),(v10,(v11,()))))))]:List Ed).length≤appLim)) then f26_l9 t5 b2g0 b2g1 b7g0 b7g1 k (IntKind.wrap .i64 (t9 + (6:Int))) (r122++([((at_ tI t5 t9),(v7,(v8,((decide (v9 = (1:Int))),(v10,(v11,()))))))]:List Ed)) else none
 else none
 else
 bif (inR (IntKind.wrap .i64 (t9 + (3:Int))) t5.length) then
 let v14:Int:=(at_ tI t5 (IntKind.wrap .i64 (t9 + (3:Int))))
 bif (decide (v14 ≠ (0:Int))) then
 bif (inR (IntKind.wrap .i64 (t9 + (3:Int))) t5.length) then
 let v15:Int:=(at_ tI t5 (IntKind.wrap .i64 (t9 + (3:Int))))
 bif (decide (v15 ≠ (1:Int))) then
 some (.inr (((60:Int),()),(),((0,0,()),())))
 else
 bif (decide (r122.length + ([((at_ tI t5 t9),(v7,(v8,((decide (v9 = (1:Int))),(v10,(v11,()))))))]:List Ed).length≤appLim)) then f26_l9 t5 b2g0 b2g1 b7g0 b7g1 k (IntKind.wrap .i64 (t9 + (6:Int))) (r122++([((at_ tI t5 t9),(v7,(v8,((decide (v9 = (1:Int))),(v10,(v11,()))))))]:List Ed)) else none
 else none
 else
 bif (decide (r122.length + ([((at_ tI t5 t9),(v7,(v8,((decide (v9 = (1:Int))),(v10,(v11,()))))))]:List Ed).length≤appLim)) then f26_l9 t5 b2g0 b2g1 b7g0 b7g1 k (IntKind.wrap .i64 (t9 + (6:Int))) (r122++([((at_ tI t5 t9),(v7,(v8,((decide (v9 = (1:Int))),(v10,(v11,()))))))]:List Ed)) else none
 else none
 else none
 else none
 else none
 else none
 else none
 else none
 else
 some (.inl ((),(),((b2g0,b2g1,()),(b7g0,b7g1,()),r122,())))
def f26 (a0:ByteArray):Option (Vx × (List Ed) × Int × Unit) :=
 (f68 a0 (243:Int)).bind fun y1 =>
 bif (!y1.2.1) then
 some ((0,(0,())),[],(60:Int),())
 else
 let v2:Bool:=(decide ((y1.1.length:Int) < (3:Int)))
 bif v2 then
 some ((0,(0,())),[],(60:Int),())
 else
 bif (inR (0:Int) y1.1.length) then
 bif (inR (1:Int) y1.1.length) then
 bif (inR (2:Int) y1.1.length) then
 let v3:Bool:=(decide ((at_ tI y1.1 (2:Int)) < (0:Int)))
 bif v3 then
 some ((0,(0,())),[],(60:Int),())
 else
 bif (inR (2:Int) y1.1.length) then
 let v4:Bool:=(decide ((at_ tI y1.1 (2:Int)) > (40:Int)))
 bif v4 then
 some ((0,(0,())),[],(60:Int),())
 else
 bif (inR (2:Int) y1.1.length) then
 let v5:Int:=(IntKind.wrap .i64 ((6:Int) * (at_ tI y1.1 (2:Int))))
 let v6:Bool:=(decide ((y1.1.length:Int) ≠ (IntKind.wrap .i64 ((3:Int) + v5))))
 bif v6 then
 some ((0,(0,())),[],(60:Int),())
 else
 (f26_l9 y1.1 0 0 (at_ tI y1.1 (0:Int)) (at_ tI y1.1 (1:Int)) (((y1.1.length:Int) - (3:Int)).toNat + 1) (3:Int) []).bind fun o16 =>
 Sum.elim (fun o17 =>
 let u21:Int:=o17.2.2.2.1.1
 let u22:Int:=o17.2.2.2.1.2.1
 let u23:(List Ed):=o17.2.2.2.2.1
 (f69 (u21,(u22,())) u23).bind fun y24 =>
 (f48 y24.1).bind fun y25 =>
 bif (!y25.1) then
 some ((0,(0,())),[],(60:Int),())
 else
 bif (decide (u21 < (0:Int))) then
 some ((0,(0,())),[],(60:Int),())
 else
 bif (decide (u21 ≥ (24:Int))) then
 some ((0,(0,())),[],(60:Int),())
 else
 some ((u21,(u22,())),u23,(0:Int),())) (fun o18 =>
 let u26:Int:=o18.1.1
 let u27:Int:=o18.2.2.1.1
 let u28:Int:=o18.2.2.1.2.1
 some ((u27,(u28,())),[],u26,())) o16
 else none
 else none
 else none
 else none
 else none
def f28_l9_outs:List (Ex × Ann):=[((.exit 0),{ env:=[(5,.ty (.sl tI)),(7,TI),(8,.cst (.row 69 .whole))],bxs:=[(69,.row tI true)] }),(.ret,{ env:=[(2,.cst .nils),(3,TI),(4,TI)] })]
def f28_l9 (t5:(List Int)) (t7:Int) (r69:(List Int)):Nat→Int→Option (outDen f28_l9_outs)
 | 0,_=>none
 | k + 1,t9 =>
 bif (decide (t9 < (r69.length:Int))) then
 bif (inR t9 r69.length) then
 bif (inR (IntKind.wrap .i64 (t9 - (1:Int))) r69.length) then
 let v15:Int:=(at_ tI r69 (IntKind.wrap .i64 (t9 - (1:Int))))
 let v16:Bool:=(decide ((at_ tI r69 t9)≤v15))
 bif v16 then
 some (.inr (((0:Int),(60:Int),()),(),()))
 else
 f28_l9 t5 t7 r69 k (IntKind.wrap .i64 (t9 + 1))
 else none
 else none
 else
 some (.inl ((t5,t7,()),(),(r69,())))
def f28 (a0:ByteArray):Option ((List Int) × Int × Int × Unit) :=
 (f68 a0 (5:Int)).bind fun y1 =>
 bif (!y1.2.1) then
 some ([],(0:Int),(60:Int),())
 else
 let v2:Bool:=(decide ((y1.1.length:Int) < (2:Int)))
 bif v2 then
 some ([],(0:Int),(60:Int),())
 else
 bif (inR (0:Int) y1.1.length) then
 let v3:Int:=(IntKind.wrap .i64 ((y1.1.length:Int) - (2:Int)))
 let v4:Bool:=(decide ((at_ tI y1.1 (0:Int)) ≠ v3))
 bif v4 then
 some ([],(0:Int),(60:Int),())
 else
 let v5:Int:=(IntKind.wrap .i64 ((y1.1.length:Int) - (1:Int)))
 bif (inR v5 y1.1.length) then
 let v6:Bool:=(decide ((at_ tI y1.1 v5) < (0:Int)))
 bif v6 then
 some ([],(0:Int),(60:Int),())
 else
 let v7:Int:=(IntKind.wrap .i64 ((y1.1.length:Int) - (1:Int)))
 bif (inR v7 y1.1.length) then
 let v8:Bool:=(decide ((at_ tI y1.1 v7) ≥ (1099511627776:Int)))
 bif v8 then
 some ([],(0:Int),(60:Int),())
 else
 let v9:Bool:=(decide ((y1.1.length:Int) > (2:Int)))
 bif v9 then
 bif (inR (1:Int) y1.1.length) then
 let v10:Bool:=(decide ((at_ tI y1.1 (1:Int)) < (0:Int)))
 bif v10 then
 some ([],(0:Int),(60:Int),())
 else
 let v11:Int:=(IntKind.wrap .i64 ((y1.1.length:Int) - (2:Int)))
 bif (inR v11 y1.1.length) then
 let v12:Bool:=(decide ((at_ tI y1.1 v11) ≥ (24:Int)))
 bif v12 then
 some ([],(0:Int),(60:Int),())
 else
 let v13:Int:=(IntKind.wrap .i64 ((y1.1.length:Int) - (1:Int)))
 bif (cutOk y1.1.length (some (1:Int)) (some v13)) then
 let v14:(List Int):=((y1.1.take (Int.toNat v13)).drop (Int.toNat (1:Int)))
 bif (decide (v14.length≤appLim)) then
 (f28_l9 y1.1 (y1.1.length:Int) v14 (((v14.length:Int) - (1:Int)).toNat + 1) (1:Int)).bind fun o17 =>
 Sum.elim (fun o18 =>
 let u20:(List Int):=o18.1.1
 let u21:Int:=o18.1.2.1
 let u22:(List Int):=o18.2.2.1
 bif (inR (IntKind.wrap .i64 (u21 - (1:Int))) u20.length) then
 let v23:Int:=(at_ tI u20 (IntKind.wrap .i64 (u21 - (1:Int))))
 some (u22,v23,(0:Int),())
 else none) (fun o19 =>
 let u24:Int:=o19.1.1
 let u25:Int:=o19.1.2.1
 some ([],u24,u25,())) o17
 else none
 else none
 else none
 else none
 else
 let v26:Int:=(IntKind.wrap .i64 ((y1.1.length:Int) - (1:Int)))
 bif (cutOk y1.1.length (some (1:Int)) (some v26)) then
 let v27:(List Int):=((y1.1.take (Int.toNat v26)).drop (Int.toNat (1:Int)))
 bif (decide (v27.length≤appLim)) then
 (f28_l9 y1.1 (y1.1.length:Int) v27 (((v27.length:Int) - (1:Int)).toNat + 1) (1:Int)).bind fun o30 =>
 Sum.elim (fun o31 =>
 let u33:(List Int):=o31.1.1
 let u34:Int:=o31.1.2.1
 let u35:(List Int):=o31.2.2.1
 bif (inR (IntKind.wrap .i64 (u34 - (1:Int))) u33.length) then
 let v36:Int:=(at_ tI u33 (IntKind.wrap .i64 (u34 - (1:Int))))
 some (u35,v36,(0:Int),())
 else none) (fun o32 =>
 let u37:Int:=o32.1.1
 let u38:Int:=o32.1.2.1
 some ([],u37,u38,())) o30
 else none
 else none
 else none
 else none
 else none
def f57_l2_head:Ann:={ env:=[(1,TI),(2,cP 2),(5,TI)],bxs:=[(2,.var [.ty (.sl tV),.ty (.sl tE),.ty (.sl tI)])] }
def f57_l2_outs:List (Ex × Ann):=[((.exit 0),{ env:=[] }),(.ret,{ env:=[(4,TI)] })]
def f57_l2 (t1:Int) (b2g0:(List Vx)) (b2g1:(List Ed)) (b2g2:(List Int)):Nat→Int→Option (outDen f57_l2_outs)
 | 0,_=>none
 | k + 1,t5 =>
 bif (decide (t5 < (b2g1.length:Int))) then
 bif (inR t5 b2g1.length) then
 let v1:Int:=(at_ tE b2g1 t5).1
 bif (decide (v1 = t1)) then
 some (.inr ((t5,()),(),()))
 else
 f57_l2 t1 b2g0 b2g1 b2g2 k (IntKind.wrap .i64 (t5 + 1))
 else none
 else
 some (.inl ((),(),()))
def f57_l2_n (n:Nat) (x:f57_l2_head.den):=f57_l2 x.1.1 x.2.2.1.1 x.2.2.1.2.1 x.2.2.1.2.2.1 n x.1.2.1
def f57_l2_spec:LSpec:={ head:=f57_l2_head,outs:=f57_l2_outs,fn:=fun x=>f57_l2_n (((x.2.2.1.2.1.length:Int) - x.1.2.1).toNat + 1) x }
def f57 (a0:Gr) (a1:Int):Option (Int × Unit) :=
 (f57_l2 a1 a0.1 a0.2.1 a0.2.2.1 (((a0.2.1.length:Int) - (0:Int)).toNat + 1) (0:Int)).bind fun o2 =>
 Sum.elim (fun o3 =>
 some ((-1:Int),())) (fun o4 =>
 let u5:Int:=o4.1.1
 some (u5,())) o2
def f57_spec:PSpec:={ args:=[tG,tI],res:=[tI],fn:=fun x=>f57 x.1 x.2.1 }
noncomputable def f57_code:Code:=Tryz.f57.body.getD .skip
noncomputable def f57_env:Env0:={ C:=cfg,P:=[],L:=[(⟨12,0,57,2⟩,f57_l2_spec)],F:=[(57,Tryz.f57)] }
theorem f57_l2_ok:LoopOK f57_env 12 57 0 (loopAt f57_code 2) f57_l2_spec :=
 loopOK_of (by kernel_rfl) f57_l2_n (fun x o h=>⟨_,h⟩) (fun x=>by kernel_rfl) (fun n x=>by kernel_rfl)
theorem f57_run (x:tysDen (f57_spec).args):runF f57_env 57 Tryz.f57 f57_code (f57_spec).args (f57_spec).res x = f57_spec.fn x:=by kernel_rfl
theorem f57_enter:Enterable Tryz.prog 57:=enter_fun Tryz.func57 (by kernel_rfl)
theorem f57_envOK:EnvOK Tryz.prog f57_env:=envOK_of cds (by kernel_rfl) cfg_ok trivial trivial ⟨⟨Tryz.func57,by kernel_rfl⟩,trivial⟩ ⟨⟨Tryz.f57,f57_code,rfl,rfl,f57_l2_ok⟩,trivial⟩ trivial trivial
theorem f57_pure:PureOK Tryz.prog cfg 57 f57_spec:=pure_of_run f57_envOK (fn:=Tryz.f57) (c:=f57_code) rfl rfl f57_spec (fun x _ h=>(f57_run x).trans h)
def f23_l17_outs:List (Ex × Ann):=[((.exit 4),{ env:=[(0,.ty (.sl tN)),(2,cP 2),(4,cP 4),(5,TI),(6,TI),(8,.ty (.sl tE)),(10,TI),(11,TI)],bxs:=[(2,.var [.cst .nils,.cst .nils,.cst .nils]),(4,.var [.cst (.row 51 .whole),.cst (.row 103 .whole),.cst .nils]),(51,.row tV false),(103,.row tE false)] })]
def f23_l17 (t0:(List En)) (t5:Int) (t6:Int) (t8:(List Ed)) (t10:Int) (r51:(List Vx)) (r103:(List Ed)):Nat→Int→Option (outDen f23_l17_outs)
 | 0,_=>none
 | k + 1,t11 =>
 bif (decide (t11 < (r103.length:Int))) then
 bif (inR t11 r103.length) then
 let v6:Int:=(at_ tE r103 t11).1
 bif (inR t10 t8.length) then
 let v7:Int:=(at_ tE t8 t10).1
 bif (decide (v6 < v7)) then
 f23_l17 t0 t5 t6 t8 t10 r51 r103 k (IntKind.wrap .i64 (t11 + 1))
 else
 some ((t0,t5,t6,t8,t10,t11,()),(),((),(),r51,r103,()))
 else none
 else none
 else
 some ((t0,t5,t6,t8,t10,t11,()),(),((),(),r51,r103,()))
def f23_l13_outs:List (Ex × Ann):=[((.exit 2),{ env:=[(0,.ty (.sl tN)),(2,cP 2),(4,cP 4),(5,TI),(6,TI)],bxs:=[(2,.var [.cst .nils,.cst .nils,.cst .nils]),(4,.var [.cst (.row 51 .whole),.cst (.row 103 .whole),.cst .nils]),(51,.row tV false),(103,.row tE false)] })]
def f23_l13:Nat→(List En)→Int→Int→(List Ed)→Int→(List Vx)→(List Ed)→Option (outDen f23_l13_outs)
 | 0,_,_,_,_,_,_,_=>none
 | k + 1,t0,t5,t6,t8,t10,r51,r103 =>
 bif (decide (t10 < (t8.length:Int))) then
 bif (inR t10 t8.length) then
 let v4:Int:=(at_ tE t8 t10).1
 (f57 (r51,(r103,([],()))) v4).bind fun y5 =>
 bif (decide (y5.1 ≥ (0:Int))) then
 f23_l13 k t0 t5 t6 t8 (IntKind.wrap .i64 (t10 + 1)) r51 r103
 else
 (f23_l17 t0 t5 t6 t8 t10 r51 r103 (((r103.length:Int) - (0:Int)).toNat + 1) (0:Int)).bind fun o8 =>
 let u9:(List En):=o8.1.1
 let u10:Int:=o8.1.2.1
 let u11:Int:=o8.1.2.2.1
 let u12:(List Ed):=o8.1.2.2.2.1
 let u13:Int:=o8.1.2.2.2.2.1
 let u14:Int:=o8.1.2.2.2.2.2.1
 let u15:(List Vx):=o8.2.2.2.2.1
 let u16:(List Ed):=o8.2.2.2.2.2.1
 bif (cutOk u16.length none (some u14) && decide (u14 = u14)) then bif (inR u13 u12.length) then bif (cutOk u16.length (some u14) none) then bif (decide (([(at_ tE u12 u13)]:List Ed).length + ((u16.drop (Int.toNat u14)).take (cutLen u16.length (some u14) none)).length≤appLim)) then bif (decide (((u16.drop 0).take (cutLen u16.length none (some u14))).length + (([(at_ tE u12 u13)]:List Ed)++((u16.drop (Int.toNat u14)).take (cutLen u16.length (some u14) none))).length≤appLim)) then f23_l13 k u9 u10 u11 u12 (IntKind.wrap .i64 (u13 + 1)) u15 (((u16.drop 0).take (cutLen u16.length none (some u14)))++(([(at_ tE u12 u13)]:List Ed)++((u16.drop (Int.toNat u14)).take (cutLen u16.length (some u14) none)))) else none else none else none else none else none
 else none
 else
 some ((t0,t5,t6,()),(),((),(),r51,r103,()))
def f23_l6_outs:List (Ex × Ann):=[((.exit 0),{ env:=[(0,.ty (.sl tN)),(2,cP 2),(4,cP 4),(5,TI)],bxs:=[(2,.var [.cst .nils,.cst .nils,.cst .nils]),(4,.var [.cst (.row 51 .whole),.cst (.row 103 .whole),.cst .nils]),(51,.row tV false),(103,.row tE false)] }),(.ret,{ env:=[(2,cP 2),(3,TI)],bxs:=[(2,.var [.cst .nils,.cst .nils,.cst .nils])] })]
def f23_l6:Nat→(List En)→Int→Int→(List Vx)→(List Ed)→Option (outDen f23_l6_outs)
 | 0,_,_,_,_,_=>none
 | k + 1,t0,t5,t6,r51,r103 =>
 bif (decide (t6 < t5)) then
 bif (inR t6 t0.length) then
 let v2:ByteArray:=(at_ tN t0 t6).2.1
 (f26 v2).bind fun y3 =>
 bif (decide (y3.2.2.1 ≠ (0:Int))) then
 some (.inr ((y3.2.2.1,()),(),((),())))
 else
 bif (decide (r51.length + ([y3.1]:List Vx).length≤appLim)) then
 (f23_l13 (((y3.2.1.length:Int) - (0:Int)).toNat + 1) t0 t5 t6 y3.2.1 (0:Int) (r51++([y3.1]:List Vx)) r103).bind fun o17 =>
 let u18:(List En):=o17.1.1
 let u19:Int:=o17.1.2.1
 let u20:Int:=o17.1.2.2.1
 let u21:(List Vx):=o17.2.2.2.2.1
 let u22:(List Ed):=o17.2.2.2.2.2.1
 f23_l6 k u18 u19 (IntKind.wrap .i64 (u20 + 1)) u21 u22
 else none
 else none
 else
 some (.inl ((t0,t5,()),(),((),(),r51,r103,())))
def f23 (a0:(List En)):Option (Gr × Int × Unit) :=
 let v1:Int:=(IntKind.wrap .i64 ((a0.length:Int) - (1:Int)))
 bif (decide (v1 < (0:Int))) then
 some (([],([],([],()))),(60:Int),())
 else
 bif (decide (v1 > (24:Int))) then
 some (([],([],([],()))),(60:Int),())
 else
 (f23_l6 ((v1 - (0:Int)).toNat + 1) a0 v1 (0:Int) [] []).bind fun o23 =>
 Sum.elim (fun o24 =>
 let u26:(List En):=o24.1.1
 let u27:Int:=o24.1.2.1
 let u28:(List Vx):=o24.2.2.2.2.1
 let u29:(List Ed):=o24.2.2.2.2.2.1
 bif (inR u27 u26.length) then
 let v30:ByteArray:=(at_ tN u26 u27).2.1
 (f28 v30).bind fun y31 =>
 bif (decide (y31.2.2.1 ≠ (0:Int))) then
 some (([],([],([],()))),y31.2.2.1,())
 else
 (f14 (u28,(u29,(y31.1,())))).bind fun y32 =>
 bif (decide (y32.2.1 ≠ (0:Int))) then
 some (([],([],([],()))),(60:Int),())
 else
 (f17 y32.1 u26).bind fun y33 =>
 bif (!y33.1) then
 some (([],([],([],()))),(60:Int),())
 else
 some ((u28,(u29,(y31.1,()))),(0:Int),())
 else none) (fun o25 =>
 let u34:Int:=o25.1.1
 some (([],([],([],()))),u34,())) o23
def f76 (a0:Int) (a1:Int):Option (Int × Unit) :=
 bif (decide (a0 < (0:Int))) then
 let v1:Int:=(IntKind.wrap .i64 (0 - (IntKind.wrap .i64 (a0 + 1))))
 bif (decide (a1 ≠ 0)) then some ((Int.tmod v1 a1),()) else none
 else
 bif (decide (a1 ≠ 0)) then some ((Int.tmod a0 a1),()) else none
def f76_spec:PSpec:={ args:=[tI,tI],res:=[tI],fn:=fun x=>f76 x.1 x.2.1 }
noncomputable def f76_code:Code:=Tryz.f76.body.getD .skip
noncomputable def f76_env:Env0:={ C:=cfg,P:=[],L:=[],F:=[(76,Tryz.f76)] }
theorem f76_run (x:tysDen (f76_spec).args):runF f76_env 76 Tryz.f76 f76_code (f76_spec).args (f76_spec).res x = f76_spec.fn x:=by kernel_rfl
theorem f76_enter:Enterable Tryz.prog 76:=enter_fun Tryz.func76 (by kernel_rfl)
theorem f76_envOK:EnvOK Tryz.prog f76_env:=envOK_of cds (by kernel_rfl) cfg_ok trivial trivial ⟨⟨Tryz.func76,by kernel_rfl⟩,trivial⟩ trivial trivial trivial
theorem f76_pure:PureOK Tryz.prog cfg 76 f76_spec:=pure_of_run f76_envOK (fn:=Tryz.f76) (c:=f76_code) rfl rfl f76_spec (fun x _ h=>(f76_run x).trans h)
def f33_l6_head:Ann:={ env:=[(0,.ty (.sl (.arr 6 tI))),(3,.cst (.row 45 .whole)),(4,TI),(5,TI)],bxs:=[(45,.row tM false)] }
def f33_l6_outs:List (Ex × Ann):=[((.exit 2),{ env:=[(0,.ty (.sl (.arr 6 tI))),(3,.cst (.row 45 .whole)),(4,TI)],bxs:=[(45,.row tM false)] })]
def f33_l6 (t0:(List (List Int))) (t4:Int) (r45:(List Nm)):Nat→Int→Option (outDen f33_l6_outs)
 | 0,_=>none
 | k + 1,t5 =>
 bif (decide (t5 < (t0.length:Int))) then
 bif (decide (t5 < (30:Int))) then
 bif (inR t5 t0.length) then
 bif (inR (0:Int) 6) then
 let v1:Int:=(at_ tI (at_ (.arr 6 tI) t0 t5) (0:Int))
 (f76 v1 (24:Int)).bind fun y2 =>
 bif (decide (y2.1 = t4)) then
 bif (inR t5 t0.length) then
 bif (inR t5 t0.length) then
 bif (inR (5:Int) 6) then
 let v3:Int:=(at_ tI (at_ (.arr 6 tI) t0 t5) (5:Int))
 (f76 v3 (5:Int)).bind fun y4 =>
 bif (cutOk 6 (some (1:Int)) (some (IntKind.wrap .i64 ((1:Int) + y4.1)))) then
 let v5:(List Int):=(((at_ (.arr 6 tI) t0 t5).take (Int.toNat (IntKind.wrap .i64 ((1:Int) + y4.1)))).drop (Int.toNat (1:Int)))
 bif (decide (v5.length≤appLim)) then bif (decide (r45.length + ([(t4,(v5,()))]:List Nm).length≤appLim)) then some ((t0,t4,()),(),((r45++([(t4,(v5,()))]:List Nm)),())) else none else none
 else none
 else none
 else none
 else none
 else
 f33_l6 t0 t4 r45 k (IntKind.wrap .i64 (t5 + 1))
 else none
 else none
 else
 some ((t0,t4,()),(),(r45,()))
 else
 some ((t0,t4,()),(),(r45,()))
def f33_l6_n (n:Nat) (x:f33_l6_head.den):=f33_l6 x.1.1 x.1.2.1 x.2.2.1 n x.1.2.2.1
def f33_l6_spec:LSpec:={ head:=f33_l6_head,outs:=f33_l6_outs,fn:=fun x=>f33_l6_n (((x.1.1.length:Int) - x.1.2.2.1).toNat + 1) x }
def f33_l3_head:Ann:={ env:=[(0,.ty (.sl (.arr 6 tI))),(3,.cst (.row 45 .whole)),(4,TI)],bxs:=[(45,.row tM false)] }
def f33_l3_outs:List (Ex × Ann):=[((.exit 0),{ env:=[(3,.cst (.row 45 .whole))],bxs:=[(45,.row tM false)] })]
def f33_l3:Nat→(List (List Int))→Int→(List Nm)→Option (outDen f33_l3_outs)
 | 0,_,_,_=>none
 | k + 1,t0,t4,r45 =>
 bif (decide (t4 < (24:Int))) then
 (f33_l6 t0 t4 r45 (((t0.length:Int) - (0:Int)).toNat + 1) (0:Int)).bind fun o6 =>
 let u7:(List (List Int)):=o6.1.1
 let u8:Int:=o6.1.2.1
 let u9:(List Nm):=o6.2.2.1
 f33_l3 k u7 (IntKind.wrap .i64 (u8 + 1)) u9
 else
 some ((),(),(r45,()))
def f33_l3_n (n:Nat) (x:f33_l3_head.den):=f33_l3 n x.1.1 x.1.2.1 x.2.2.1
def f33_l3_spec:LSpec:={ thaws:=[.slot 3 45 tM],head:=f33_l3_head,outs:=f33_l3_outs,fn:=fun x=>f33_l3_n (((24:Int) - x.1.2.1).toNat + 1) x }
def f33 (a0:(List (List Int))):Option ((List Nm) × Unit) :=
 (f33_l3 (((24:Int) - (0:Int)).toNat + 1) a0 (0:Int) []).bind fun o10 =>
 let u11:(List Nm):=o10.2.2.1
 some (u11,())
def f33_spec:PSpec:={ args:=[(.sl (.arr 6 tI))],res:=[(.sl tM)],fn:=fun x=>f33 x.1 }
noncomputable def f33_code:Code:=Tryz.f33.body.getD .skip
noncomputable def f33_env:Env0:={ C:=cfg,P:=[(76,f76_spec)],L:=[(⟨12,0,33,6⟩,f33_l6_spec),(⟨12,0,33,3⟩,f33_l3_spec)],F:=[(33,Tryz.f33)] }
theorem f33_l6_ok:LoopOK f33_env 12 33 0 (loopAt f33_code 6) f33_l6_spec :=
 loopOK_of (by kernel_rfl) f33_l6_n (fun x o h=>⟨_,h⟩) (fun x=>by kernel_rfl) (fun n x=>by kernel_rfl)
theorem f33_l3_ok:LoopOK f33_env 12 33 0 (loopAt f33_code 3) f33_l3_spec :=
 loopOK_of (by kernel_rfl) f33_l3_n (fun x o h=>⟨_,h⟩) (fun x=>by kernel_rfl) (fun n x=>by kernel_rfl)
theorem f33_run (x:tysDen (f33_spec).args):runF f33_env 33 Tryz.f33 f33_code (f33_spec).args (f33_spec).res x = f33_spec.fn x:=by kernel_rfl
theorem f33_enter:Enterable Tryz.prog 33:=enter_fun Tryz.func33 (by kernel_rfl)
theorem f33_envOK:EnvOK Tryz.prog f33_env:=envOK_of cds (by kernel_rfl) cfg_ok ⟨⟨f76_pure,f76_enter⟩,trivial⟩ trivial ⟨⟨Tryz.func33,by kernel_rfl⟩,trivial⟩ ⟨⟨Tryz.f33,f33_code,rfl,rfl,f33_l6_ok⟩,⟨Tryz.f33,f33_code,rfl,rfl,f33_l3_ok⟩,trivial⟩ trivial trivial
theorem f33_pure:PureOK Tryz.prog cfg 33 f33_spec:=pure_of_run f33_envOK (fn:=Tryz.f33) (c:=f33_code) rfl rfl f33_spec (fun x _ h=>(f33_run x).trans h)
end Go.V.G
namespace Go.V.G
open Go.Proofs
def f82_l4_head:Ann:={ env:=[(0,.ty (.sl tM)),(1,.ty (.sl tM)),(5,TI)] }
def f82_l4_outs:List (Ex × Ann):=[((.exit 0),{ env:=[] }),(.ret,{ env:=[(4,.ty .bool)] })]
def f82_l4 (t0:(List Nm)) (t1:(List Nm)):Nat→Int→Option (outDen f82_l4_outs)
 | 0,_=>none
 | k + 1,t5 =>
 bif (decide (t5 < (t0.length:Int))) then
 bif (inR t5 t0.length) then
 let v2:(List Int):=(at_ tM t0 t5).2.1
 bif (inR t5 t1.length) then
 let v3:(List Int):=(at_ tM t1 t5).2.1
 (f30 v2 v3).bind fun y4 =>
 bif (inR t5 t0.length) then
 let v5:Int:=(at_ tM t0 t5).1
 bif (inR t5 t1.length) then
 let v6:Int:=(at_ tM t1 t5).1
 bif (decide (v5 ≠ v6)) then
 some (.inr ((false,()),(),()))
 else
 bif (!y4.1) then
 some (.inr ((false,()),(),()))
 else
 f82_l4 t0 t1 k (IntKind.wrap .i64 (t5 + 1))
 else none
 else none
 else none
 else none
 else
 some (.inl ((),(),()))
def f82_l4_n (n:Nat) (x:f82_l4_head.den):=f82_l4 x.1.1 x.1.2.1 n x.1.2.2.1
def f82_l4_spec:LSpec:={ head:=f82_l4_head,outs:=f82_l4_outs,fn:=fun x=>f82_l4_n (((x.1.1.length:Int) - x.1.2.2.1).toNat + 1) x }
def f82 (a0:(List Nm)) (a1:(List Nm)):Option (Bool × Unit) :=
 let v1:Bool:=(decide ((a0.length:Int) ≠ (a1.length:Int)))
 bif v1 then
 some (false,())
 else
 (f82_l4 a0 a1 (((a0.length:Int) - (0:Int)).toNat + 1) (0:Int)).bind fun o7 =>
 Sum.elim (fun o8 =>
 some (true,())) (fun o9 =>
 let u10:Bool:=o9.1.1
 some (u10,())) o7
def f82_spec:PSpec:={ args:=[(.sl tM),(.sl tM)],res:=[.bool],fn:=fun x=>f82 x.1 x.2.1 }
noncomputable def f82_code:Code:=Tryz.f82.body.getD .skip
noncomputable def f82_env:Env0:={ C:=cfg,P:=[(30,f30_spec)],L:=[(⟨12,0,82,4⟩,f82_l4_spec)],F:=[(82,Tryz.f82)] }
theorem f82_l4_ok:LoopOK f82_env 12 82 0 (loopAt f82_code 4) f82_l4_spec :=
 loopOK_of (by kernel_rfl) f82_l4_n (fun x o h=>⟨_,h⟩) (fun x=>by kernel_rfl) (fun n x=>by kernel_rfl)
theorem f82_run (x:tysDen (f82_spec).args):runF f82_env 82 Tryz.f82 f82_code (f82_spec).args (f82_spec).res x = f82_spec.fn x:=by kernel_rfl
theorem f82_enter:Enterable Tryz.prog 82:=enter_fun Tryz.func82 (by kernel_rfl)
theorem f82_envOK:EnvOK Tryz.prog f82_env:=envOK_of cds (by kernel_rfl) cfg_ok ⟨⟨f30_pure,f30_enter⟩,trivial⟩ trivial ⟨⟨Tryz.func82,by kernel_rfl⟩,trivial⟩ ⟨⟨Tryz.f82,f82_code,rfl,rfl,f82_l4_ok⟩,trivial⟩ trivial trivial
theorem f82_pure:PureOK Tryz.prog cfg 82 f82_spec:=pure_of_run f82_envOK (fn:=Tryz.f82) (c:=f82_code) rfl rfl f82_spec (fun x _ h=>(f82_run x).trans h)
def f36 (a0:(Vx × ((List Int) × ((List Ed) × ((List Nm) × Unit))))) (a1:(Vx × ((List Int) × ((List Ed) × ((List Nm) × Unit))))):Option (Bool × Unit) :=
 (f30 a0.2.1 a1.2.1).bind fun y1 =>
 (f29 a0.2.2.1 a1.2.2.1).bind fun y2 =>
 let v3:Bool:=(decide (a0.1.1 = a1.1.1) && (decide (a0.1.2.1 = a1.1.2.1) && true))
 bif v3 then
 bif y1.1 then
 bif y2.1 then
 (f82 a0.2.2.2.1 a1.2.2.2.1).bind fun y4 =>
 some (y4.1,())
 else
 some (false,())
 else
 some (false,())
 else
 some (false,())
def f36_spec:PSpec:={ args:=[(.pair tV (.pair (.sl tI) (.pair (.sl tE) (.pair (.sl tM) .unit)))),(.pair tV (.pair (.sl tI) (.pair (.sl tE) (.pair (.sl tM) .unit))))],res:=[.bool],fn:=fun x=>f36 x.1 x.2.1 }
noncomputable def f36_code:Code:=Tryz.f36.body.getD .skip
noncomputable def f36_env:Env0:={ C:=cfg,P:=[(29,f29_spec),(30,f30_spec),(82,f82_spec)],L:=[],F:=[(36,Tryz.f36)] }
theorem f36_run (x:tysDen (f36_spec).args):runF f36_env 36 Tryz.f36 f36_code (f36_spec).args (f36_spec).res x = f36_spec.fn x:=by kernel_rfl
theorem f36_enter:Enterable Tryz.prog 36:=enter_fun Tryz.func36 (by kernel_rfl)
theorem f36_envOK:EnvOK Tryz.prog f36_env:=envOK_of cds (by kernel_rfl) cfg_ok ⟨⟨f29_pure,f29_enter⟩,⟨f30_pure,f30_enter⟩,⟨f82_pure,f82_enter⟩,trivial⟩ trivial ⟨⟨Tryz.func36,by kernel_rfl⟩,trivial⟩ trivial trivial trivial
theorem f36_pure:PureOK Tryz.prog cfg 36 f36_spec:=pure_of_run f36_envOK (fn:=Tryz.f36) (c:=f36_code) rfl rfl f36_spec (fun x _ h=>(f36_run x).trans h)
def f91 (a0:Gr) (a1:Int):Option (Int × Unit) :=
 bif (decide (a1 < (0:Int))) then
 some ((-1:Int),())
 else
 let v1:Int:=(IntKind.wrap .i64 (Int.tdiv a1 (2:Int)))
 (f57 a0 v1).bind fun y2 =>
 bif (decide (y2.1 < (0:Int))) then
 some ((-1:Int),())
 else
 let v3:Bool:=(decide ((Int.tmod a1 (2:Int)) = (0:Int)))
 bif v3 then
 bif (inR y2.1 a0.2.1.length) then
 let v4:Int:=(at_ tE a0.2.1 y2.1).2.1
 some (v4,())
 else none
 else
 bif (inR y2.1 a0.2.1.length) then
 let v5:Int:=(at_ tE a0.2.1 y2.1).2.2.1
 some (v5,())
 else none
def f91_spec:PSpec:={ args:=[tG,tI],res:=[tI],fn:=fun x=>f91 x.1 x.2.1 }
noncomputable def f91_code:Code:=Tryz.f91.body.getD .skip
noncomputable def f91_env:Env0:={ C:=cfg,P:=[(57,f57_spec)],L:=[],F:=[(91,Tryz.f91)] }
theorem f91_run (x:tysDen (f91_spec).args):runF f91_env 91 Tryz.f91 f91_code (f91_spec).args (f91_spec).res x = f91_spec.fn x:=by kernel_rfl
theorem f91_enter:Enterable Tryz.prog 91:=enter_fun Tryz.func91 (by kernel_rfl)
theorem f91_envOK:EnvOK Tryz.prog f91_env:=envOK_of cds (by kernel_rfl) cfg_ok ⟨⟨f57_pure,f57_enter⟩,trivial⟩ trivial ⟨⟨Tryz.func91,by kernel_rfl⟩,trivial⟩ trivial trivial trivial
theorem f91_pure:PureOK Tryz.prog cfg 91 f91_spec:=pure_of_run f91_envOK (fn:=Tryz.f91) (c:=f91_code) rfl rfl f91_spec (fun x _ h=>(f91_run x).trans h)
end Go.V.G
namespace Go.V.G
open Go.Proofs
theorem wrapS {x:Int} (h1:-9223372036854775808≤x) (h2:x≤9223372036854775807):IntKind.wrap .i64 x = x:=by
 unfold IntKind.wrap
 simp only [IntKind.signed,IntKind.bits,Bool.true_and,decide_eq_true_eq,show (2:Int) ^ 64 = 18446744073709551616 from rfl,show (2:Int) ^ (64 - 1) = 9223372036854775808 from rfl]
 split <;> omega
theorem inR_of {i:Int} {n:Nat} (h1:0≤i) (h2:i < n):inR i n = true:=by
 unfold inR
 simp [h1,h2]
theorem dec_t {p:Prop} [Decidable p] (h:p):decide p = true:=dT h
theorem dec_f {p:Prop} [Decidable p] (h:¬ p):decide p = false:=dF h
theorem at_append {T:Ty} {l m:List T.den} {i:Int} (h:i.toNat < l.length):at_ T (l++m) i = at_ T l i:=by
 unfold at_
 rw [List.getD_eq_getElem?_getD,List.getD_eq_getElem?_getD,List.getElem?_append_left h]
theorem orV_comm (k:IntKind) (x y:Int):orV k x y = orV k y x:=by
 unfold orV
 rw [BitVec.or_comm]
theorem wrap_u32 (x:Int):IntKind.wrap .u32 x = x % 4294967296:=by
 unfold IntKind.wrap
 simp only [IntKind.signed,IntKind.bits]
 simp
theorem xor_zero_or (x y:Int):xorV .u32 0 (orV .u32 x y) = orV .u32 x y:=by
 unfold xorV orV
 simp only [wrap_u32,IntKind.bits]
 have hb:∀ b:BitVec 32,(BitVec.ofInt 32 0 ^^^ BitVec.ofInt 32 ((b.toNat:Int) % 4294967296)).toNat = b.toNat:=by
  intro b
  have h1:BitVec.ofInt 32 0 = 0#32:=rfl
  have hlt:=b.isLt
  have h2:((b.toNat:Int) % 4294967296) = b.toNat:=by omega
  rw [h1,BitVec.zero_xor,h2,BitVec.ofInt_natCast,BitVec.ofNat_toNat,BitVec.setWidth_eq]
 exact congrArg (fun n:Nat=>(n:Int) % 4294967296) (hb (BitVec.ofInt 32 x ||| BitVec.ofInt 32 y))
def rotr (x:Int) (n m:Int):Int:=orV .u32 (shrV .u32 x n) (shlV .u32 x m)
theorem mixed2 (x:Int):(f235 x [7,18] = some (xorV .u32 (rotr x 7 25) (rotr x 18 14),()))∧(f235 x [17,19] = some (xorV .u32 (rotr x 17 15) (rotr x 19 13),())):=by
 constructor
 ·have h:f235 x [7,18] = some (xorV .u32 (xorV .u32 0 (orV .u32 (shlV .u32 x 25) (shrV .u32 x 7))) (orV .u32 (shlV .u32 x 14) (shrV .u32 x 18)),()):=by kernel_rfl
  rw [h,xor_zero_or,orV_comm,orV_comm .u32 (shlV .u32 x 14)]
  rfl
 ·have h:f235 x [17,19] = some (xorV .u32 (xorV .u32 0 (orV .u32 (shlV .u32 x 15) (shrV .u32 x 17))) (orV .u32 (shlV .u32 x 13) (shrV .u32 x 19)),()):=by kernel_rfl
  rw [h,xor_zero_or,orV_comm,orV_comm .u32 (shlV .u32 x 13)]
  rfl
theorem mixed3 (x:Int):(f235 x [6,11,25] = some (xorV .u32 (xorV .u32 (rotr x 6 26) (rotr x 11 21)) (rotr x 25 7),()))∧(f235 x [2,13,22] = some (xorV .u32 (xorV .u32 (rotr x 2 30) (rotr x 13 19)) (rotr x 22 10),())):=by
 constructor
 ·have h:f235 x [6,11,25] = some (xorV .u32 (xorV .u32 (xorV .u32 0 (orV .u32 (shlV .u32 x 26) (shrV .u32 x 6))) (orV .u32 (shlV .u32 x 21) (shrV .u32 x 11))) (orV .u32 (shlV .u32 x 7) (shrV .u32 x 25)),()):=by kernel_rfl
  rw [h,xor_zero_or,orV_comm,orV_comm .u32 (shlV .u32 x 21),orV_comm .u32 (shlV .u32 x 7)]
  rfl
 ·have h:f235 x [2,13,22] = some (xorV .u32 (xorV .u32 (xorV .u32 0 (orV .u32 (shlV .u32 x 30) (shrV .u32 x 2))) (orV .u32 (shlV .u32 x 19) (shrV .u32 x 13))) (orV .u32 (shlV .u32 x 10) (shrV .u32 x 22)),()):=by kernel_rfl
  rw [h,xor_zero_or,orV_comm,orV_comm .u32 (shlV .u32 x 19),orV_comm .u32 (shlV .u32 x 10)]
  rfl
theorem rot_eq (x:Int):f192 x 7 = some (rotr x 7 25,())∧f192 x 18 = some (rotr x 18 14,())∧f192 x 17 = some (rotr x 17 15,())∧f192 x 19 = some (rotr x 19 13,()) ∧
  f192 x 6 = some (rotr x 6 26,())∧f192 x 11 = some (rotr x 11 21,())∧f192 x 25 = some (rotr x 25 7,())∧f192 x 2 = some (rotr x 2 30,())∧f192 x 13 = some (rotr x 13 19,())∧f192 x 22 = some (rotr x 22 10,()):=by
 refine ⟨?_,?_,?_,?_,?_,?_,?_,?_,?_,?_⟩ <;> kernel_rfl
theorem bindE {α β:Type} {o:Option α} {a:α} {f:α→Option β} {r:Option β} (h:o = some a) (h2:f a = r):o.bind f = r:=by rw [h]; exact h2
theorem rep_succ (n:Nat) (h:n < 64):List.replicate (64 - n) (0:Int) = 0 :: List.replicate (64 - (n + 1)) 0:=by
 have:64 - n = (64 - (n + 1)) + 1:=by omega
 rw [this,List.replicate_succ]
theorem set_mid (r s:List Int) (x y:Int) (n:Nat) (h:r.length = n):(r++y :: s).set n x = (r++[x])++s:=by
 subst h
 induction r with
 | nil=>rfl
 | cons a r ih=>simp
theorem sched1 (c h:List Int) (hc:c.length = 64):∀ (m n:Nat) (r:List Int),n + m = 16→r.length = n →
  ∃ r':List Int,r'.length = 16∧f234_l2 c (m + 1) n (r++List.replicate (64 - n) 0) = some ((),(),((r'++List.replicate 48 0,()),()))∧f139_l3 h c (m + 1) n r = some ((h,()),(),(r',()))
 | 0,n,r,hn,hr=>by
  have:n = 16:=by omega
  subst this
  refine ⟨r,hr,?_,?_⟩
  ·rfl
  ·rfl
 | m + 1,n,r,hn,hr=>by
  have hn':n < 16:=by omega
  have e0:IntKind.wrap .i64 ((4:Int) * (n:Int)) = 4 * n:=wrapS (by omega) (by omega)
  have e1:IntKind.wrap .i64 ((4:Int) * (n:Int) + 1) = 4 * n + 1:=wrapS (by omega) (by omega)
  have e2:IntKind.wrap .i64 ((4:Int) * (n:Int) + 2) = 4 * n + 2:=wrapS (by omega) (by omega)
  have e3:IntKind.wrap .i64 ((4:Int) * (n:Int) + 3) = 4 * n + 3:=wrapS (by omega) (by omega)
  have e4:IntKind.wrap .i64 ((n:Int) + 1) = ((n + 1:Nat):Int):=by rw [wrapS (by omega) (by omega)]; omega
  have i0:inR ((4:Int) * n) 64 = true:=inR_of (by omega) (by omega)
  have i1:inR ((4:Int) * n + 1) 64 = true:=inR_of (by omega) (by omega)
  have i2:inR ((4:Int) * n + 2) 64 = true:=inR_of (by omega) (by omega)
  have i3:inR ((4:Int) * n + 3) 64 = true:=inR_of (by omega) (by omega)
  have i4:inR (n:Int) 64 = true:=inR_of (by omega) (by omega)
  obtain ⟨r',k1,k2,k3⟩:=sched1 c h hc m (n + 1) (r++[_]) (by omega) (by simp [hr])
  refine ⟨r',k1,?_,?_⟩
  ·rw [f234_l2]
   simp only [dec_t (show (n:Int) < 16 by omega),cond_true,e0,e1,e2,e3,e4,hc,i0,i1,i2,i3,i4,Int.toNat_natCast]
   rw [rep_succ n (by omega),set_mid _ _ _ _ n hr]
   exact k2
  ·rw [f139_l3]
   have l:(r.length + 1≤appLim):=by rw [hr]; unfold appLim; omega
   simp only [dec_t (show (n:Int) < 16 by omega),cond_true,e0,e1,e2,e3,e4,hc,i0,i1,i2,i3,List.length_singleton,dec_t l]
   exact k3
theorem at_tail {l:List Int} {i:Int} {z:List Int} (h:i.toNat < l.length):at_ (.int .u32) (l++z) i = at_ (.int .u32) l i:=at_append (T:=.int .u32) h
theorem sched2 (h:List Int):∀ (m n:Nat) (r:List Int),n + m = 64→16≤n→r.length = n →
  ∃ r':List Int,r'.length = 64∧f234_l7 (m + 1) n (r++List.replicate (64 - n) 0) = some ((),(),((r',()),()))∧f139_l7 h (m + 1) n r = some ((h,()),(),(r',()))
 | 0,n,r,hn,h16,hr=>by
  have:n = 64:=by omega
  subst this
  refine ⟨r,hr,?_,?_⟩
  ·have:r++List.replicate (64 - 64) (0:Int) = r:=by simp
   rw [this]
   rfl
  ·rfl
 | m + 1,n,r,hn,h16,hr=>by
  have hn':n < 64:=by omega
  have e1:IntKind.wrap .i64 ((n:Int) - 15) = n - 15:=wrapS (by omega) (by omega)
  have e2:IntKind.wrap .i64 ((n:Int) - 2) = n - 2:=wrapS (by omega) (by omega)
  have e3:IntKind.wrap .i64 ((n:Int) - 16) = n - 16:=wrapS (by omega) (by omega)
  have e5:IntKind.wrap .i64 ((n:Int) - 7) = n - 7:=wrapS (by omega) (by omega)
  have e4:IntKind.wrap .i64 ((n:Int) + 1) = ((n + 1:Nat):Int):=by rw [wrapS (by omega) (by omega)]; rfl
  have i1:inR ((n:Int) - 15) 64 = true:=inR_of (by omega) (by omega)
  have i2:inR ((n:Int) - 2) 64 = true:=inR_of (by omega) (by omega)
  have i3:inR ((n:Int) - 16) 64 = true:=inR_of (by omega) (by omega)
  have i5:inR ((n:Int) - 7) 64 = true:=inR_of (by omega) (by omega)
  have i4:inR (n:Int) 64 = true:=inR_of (by omega) (by omega)
  have j1:inR ((n:Int) - 15) n = true:=inR_of (by omega) (by omega)
  have j2:inR ((n:Int) - 2) n = true:=inR_of (by omega) (by omega)
  have j3:inR ((n:Int) - 16) n = true:=inR_of (by omega) (by omega)
  have j5:inR ((n:Int) - 7) n = true:=inR_of (by omega) (by omega)
  have a1:at_ (.int .u32) (r++List.replicate (64 - n) 0) ((n:Int) - 15) = at_ (.int .u32) r ((n:Int) - 15):=at_tail (by omega)
  have a2:at_ (.int .u32) (r++List.replicate (64 - n) 0) ((n:Int) - 2) = at_ (.int .u32) r ((n:Int) - 2):=at_tail (by omega)
  have a3:at_ (.int .u32) (r++List.replicate (64 - n) 0) ((n:Int) - 16) = at_ (.int .u32) r ((n:Int) - 16):=at_tail (by omega)
  have a5:at_ (.int .u32) (r++List.replicate (64 - n) 0) ((n:Int) - 7) = at_ (.int .u32) r ((n:Int) - 7):=at_tail (by omega)
  obtain ⟨r',k1,k2,k3⟩:=sched2 h m (n + 1) (r++[_]) (by omega) (by omega) (by simp [hr])
  refine ⟨r',k1,?_,?_⟩
  ·rw [f234_l7]
   simp only [dec_t (show (n:Int) < 64 by omega),cond_true,e1,e2,e3,e4,e5,i1,i2,i3,i4,i5,a1,a2,a3,a5,(mixed2 _).1,(mixed2 _).2,Option.bind_some,Int.toNat_natCast]
   rw [rep_succ n (by omega),set_mid _ _ _ _ n hr]
   exact k2
  ·rw [f139_l7]
   have l:(r.length + 1≤appLim):=by rw [hr]; unfold appLim; omega
   simp only [dec_t (show (n:Int) < 64 by omega),cond_true,e1,e2,e3,e4,e5,hr,j1,j2,j3,j5,(rot_eq _).1,(rot_eq _).2.1,(rot_eq _).2.2.1,(rot_eq _).2.2.2.1,Option.bind_some,List.length_singleton]
   rw [hr] at l
   simp only [dec_t l,cond_true]
   exact k3
theorem eight {l:List Int} (h:l.length = 8):∃ a b c d e f g i,l = [a,b,c,d,e,f,g,i]:=by
 match l,h with
 | [a,b,c,d,e,f,g,i],_=>exact ⟨a,b,c,d,e,f,g,i,rfl⟩
theorem rounds (h K b3 w:List Int) (hK:K.length = 64) (hw:w.length = 64):∀ (m n:Nat) (v:List Int),n + m = 64→v.length = 8 →
  ∃ v':List Int,v'.length = 8∧f222_l3 K b3 w (m + 1) n v = some ((),((),()),((b3,()),(v',()),()))∧f139_l16 h K w (m + 1) v n = some ((h,v',()),(),())
 | 0,n,v,hn,hv=>by
  have:n = 64:=by omega
  subst this
  exact ⟨v,hv,rfl,rfl⟩
 | m + 1,n,v,hn,hv=>by
  have hn':n < 64:=by omega
  obtain ⟨a,b,c,d,e,f,g,i,rfl⟩:=eight hv
  have e4:IntKind.wrap .i64 ((n:Int) + 1) = ((n + 1:Nat):Int):=by rw [wrapS (by omega) (by omega)]; rfl
  have i4:inR (n:Int) 64 = true:=inR_of (by omega) (by omega)
  obtain ⟨v',k1,k2,k3⟩:=rounds h K b3 w hK hw m (n + 1) [_,a,b,c,_,e,f,g] (by omega) rfl
  refine ⟨v',k1,?_,?_⟩
  ·rw [f222_l3]
   simp only [dec_t (show (n:Int) < 64 by omega),cond_true,i4,(mixed3 _).1,(mixed3 _).2,Option.bind_some,e4]
   exact k2
  ·rw [f139_l16]
   simp only [dec_t (show (n:Int) < 64 by omega),cond_true,hK,hw,i4,(rot_eq _).2.2.2.2.1,(rot_eq _).2.2.2.2.2.1,(rot_eq _).2.2.2.2.2.2.1,(rot_eq _).2.2.2.2.2.2.2.1,(rot_eq _).2.2.2.2.2.2.2.2.1,(rot_eq _).2.2.2.2.2.2.2.2.2,Option.bind_some,e4]
   exact k3
theorem added (h v:List Int) (hh:h.length = 8) (hv:v.length = 8):∃ r:List Int,r.length = 8∧f222_l12 v 9 0 h = some ((),((),()),((r,()),()))∧f139_l25 h v 9 0 [] = some ((),(),(r,())):=by
 obtain ⟨a,b,c,d,e,f,g,i,rfl⟩:=eight hh
 obtain ⟨a',b',c',d',e',f',g',i',rfl⟩:=eight hv
 exact ⟨[IntKind.wrap .u32 (a + a'),IntKind.wrap .u32 (b + b'),IntKind.wrap .u32 (c + c'),IntKind.wrap .u32 (d + d'),IntKind.wrap .u32 (e + e'),IntKind.wrap .u32 (f + f'),IntKind.wrap .u32 (g + g'),IntKind.wrap .u32 (i + i')],rfl,by kernel_rfl,by kernel_rfl⟩
theorem block_eq (h c:List Int) (hh:h.length = 8) (hc:c.length = 64):∃ r:List Int,r.length = 8∧f222 c h = some ((),((r,()),()))∧f139 h c = some (r,()):=by
 obtain ⟨w1,a1,a2,a3⟩:=sched1 c h hc 16 0 [] rfl rfl
 obtain ⟨w2,b1,b2,b3⟩:=sched2 h 48 16 w1 rfl (Nat.le_refl _) a1
 obtain ⟨v,c1,c2,c3⟩:=rounds h roundTable h w2 (by kernel_rfl) b1 64 0 h rfl hh
 obtain ⟨r,d1,d2,d3⟩:=added h v hh c1
 refine ⟨r,d1,?_,?_⟩
 ·have e82:f234 c = some (w2,()):=by
   unfold f234
   exact bindE a2 (bindE b2 rfl)
  unfold f222
  exact bindE e82 (bindE c2 (bindE d2 rfl))
 ·unfold f139
  have e87:f193 = some (roundTable,()):=by kernel_rfl
  have l:h.length≤appLim:=by rw [hh]; unfold appLim; omega
  refine bindE a3 (bindE b3 (bindE e87 ?_))
  show (bif decide (h.length≤appLim) then _ else none) = _
  rw [dec_t l]
  exact bindE c3 (bindE d3 rfl)
theorem blocks_eq (b:List Int) (hb:b.length≤appLim):∀ (m k n:Nat) (h:List Int),n + 64 * m = b.length→m < k→h.length = 8 →
  ∃ r:List Int,r.length = 8∧f233_l1x b 64 k n h = some ((),((),(),()),((),(r,()),()))∧f89_l4 b k h n = some ((r,()),(),())
 | 0,0,n,h,_,hk,_=>by omega
 | 0,k + 1,n,h,hn,_,hh=>by
  refine ⟨h,hh,?_,?_⟩
  ·rw [f233_l1x]; rw [dec_f (by omega)]; rfl
  ·rw [f89_l4]; rw [dec_f (by omega)]; rfl
 | m + 1,0,n,h,_,hk,_=>by omega
 | m + 1,k + 1,n,h,hn,hk,hh=>by
  have hlim:b.length≤1073741824:=hb
  have e4:IntKind.wrap .i64 ((n:Int) + 64) = ((n + 64:Nat):Int):=by rw [wrapS (by omega) (by omega)]; rfl
  have hc:((b.take (n + 64)).drop n).length = 64:=by rw [List.length_drop,List.length_take]; omega
  obtain ⟨h',q1,q2,q3⟩:=block_eq h _ hh hc
  obtain ⟨r,k1,k2,k3⟩:=blocks_eq b hb m k (n + 64) h' (by omega) (by omega) q1
  have dl:((b.drop n).length:Int) = ((b.length - n:Nat):Int):=by rw [List.length_drop]
  refine ⟨r,k1,?_,?_⟩
  ·rw [f233_l1x]
   have c1:cutOk b.length (some (n:Int)) none = true:=by unfold cutOk; simp; omega
   have c2:cutOk b.length (some (n:Int)) (some ((n + 64:Nat):Int)) = true:=by unfold cutOk; simp only [Bool.and_eq_true,decide_eq_true_eq]; omega
   have c3:(if ((b.length - n:Nat):Int) < 64 then ((b.length - n:Nat):Int) else 64) = 64:=by split <;> omega
   simp only [dec_t (show (n:Int) < b.length by omega),cond_true,c1,Int.toNat_natCast,dl,c3,e4,c2,decide_true,Bool.and_self,q2,Option.bind_some]
   exact k2
  ·rw [f89_l4]
   have c2:cutOk b.length (some (n:Int)) (some ((n + 64:Nat):Int)) = true:=by unfold cutOk; simp only [Bool.and_eq_true,decide_eq_true_eq]; omega
   simp only [dec_t (show (n:Int) < b.length by omega),cond_true,Int.toNat_natCast,e4,c2,q3,Option.bind_some]
   exact k3
theorem out_eq (h:List Int) (hh:h.length = 8):∃ r:List Int,r.length = 32∧f223 h = some (ofBytes r,())∧f89_l9 h 9 0 [] = some ((),(),(r,())):=by
 obtain ⟨a,b,c,d,e,f,g,i,rfl⟩:=eight hh
 have hx:∃ r:List Int,f89_l9 [a,b,c,d,e,f,g,i] 9 0 [] = some ((),(),(r,()))∧r.length = 32∧f223 [a,b,c,d,e,f,g,i] = some (ofBytes r,()):=by
  refine ⟨[IntKind.wrap .u8 (shrV .u32 a 24),IntKind.wrap .u8 (shrV .u32 a 16),IntKind.wrap .u8 (shrV .u32 a 8),IntKind.wrap .u8 a,IntKind.wrap .u8 (shrV .u32 b 24),IntKind.wrap .u8 (shrV .u32 b 16),IntKind.wrap .u8 (shrV .u32 b 8),IntKind.wrap .u8 b,
   IntKind.wrap .u8 (shrV .u32 c 24),IntKind.wrap .u8 (shrV .u32 c 16),IntKind.wrap .u8 (shrV .u32 c 8),IntKind.wrap .u8 c,IntKind.wrap .u8 (shrV .u32 d 24),IntKind.wrap .u8 (shrV .u32 d 16),IntKind.wrap .u8 (shrV .u32 d 8),IntKind.wrap .u8 d,
   IntKind.wrap .u8 (shrV .u32 e 24),IntKind.wrap .u8 (shrV .u32 e 16),IntKind.wrap .u8 (shrV .u32 e 8),IntKind.wrap .u8 e,IntKind.wrap .u8 (shrV .u32 f 24),IntKind.wrap .u8 (shrV .u32 f 16),IntKind.wrap .u8 (shrV .u32 f 8),IntKind.wrap .u8 f,
   IntKind.wrap .u8 (shrV .u32 g 24),IntKind.wrap .u8 (shrV .u32 g 16),IntKind.wrap .u8 (shrV .u32 g 8),IntKind.wrap .u8 g,IntKind.wrap .u8 (shrV .u32 i 24),IntKind.wrap .u8 (shrV .u32 i 16),IntKind.wrap .u8 (shrV .u32 i 8),IntKind.wrap .u8 i],by kernel_rfl,rfl,?_⟩
  have h0:∀ y:Int,shrV .u32 y 0 = y:=fun y=>by simp [shrV,IntKind.bits]
  have hz:f223 [a,b,c,d,e,f,g,i] = some (ofBytes [IntKind.wrap .u8 (shrV .u32 a 24),IntKind.wrap .u8 (shrV .u32 a 16),IntKind.wrap .u8 (shrV .u32 a 8),IntKind.wrap .u8 (shrV .u32 a 0),IntKind.wrap .u8 (shrV .u32 b 24),IntKind.wrap .u8 (shrV .u32 b 16),IntKind.wrap .u8 (shrV .u32 b 8),IntKind.wrap .u8 (shrV .u32 b 0),
   IntKind.wrap .u8 (shrV .u32 c 24),IntKind.wrap .u8 (shrV .u32 c 16),IntKind.wrap .u8 (shrV .u32 c 8),IntKind.wrap .u8 (shrV .u32 c 0),IntKind.wrap .u8 (shrV .u32 d 24),IntKind.wrap .u8 (shrV .u32 d 16),IntKind.wrap .u8 (shrV .u32 d 8),IntKind.wrap .u8 (shrV .u32 d 0),
   IntKind.wrap .u8 (shrV .u32 e 24),IntKind.wrap .u8 (shrV .u32 e 16),IntKind.wrap .u8 (shrV .u32 e 8),IntKind.wrap .u8 (shrV .u32 e 0),IntKind.wrap .u8 (shrV .u32 f 24),IntKind.wrap .u8 (shrV .u32 f 16),IntKind.wrap .u8 (shrV .u32 f 8),IntKind.wrap .u8 (shrV .u32 f 0),
   IntKind.wrap .u8 (shrV .u32 g 24),IntKind.wrap .u8 (shrV .u32 g 16),IntKind.wrap .u8 (shrV .u32 g 8),IntKind.wrap .u8 (shrV .u32 g 0),IntKind.wrap .u8 (shrV .u32 i 24),IntKind.wrap .u8 (shrV .u32 i 16),IntKind.wrap .u8 (shrV .u32 i 8),IntKind.wrap .u8 (shrV .u32 i 0)],()):=by kernel_rfl
  rw [hz]
  simp only [h0]
 obtain ⟨r,h1,h2,h3⟩:=hx
 exact ⟨r,h2,h3,h1⟩
theorem toBytes_length (s:ByteArray):(toBytes s).length = s.size:=by
 unfold toBytes
 rw [List.length_map]
 exact Array.length_toList
theorem byteAt_eq (s:ByteArray) (n:Nat) (h:n < s.size):(toBytes s)[n]? = some (byteAt s n):=by
 have hl:n < s.data.toList.length:=by rw [Array.length_toList]; exact h
 unfold toBytes byteAt
 rw [List.getElem?_map,List.getElem?_eq_getElem hl,Option.map_some,Int.toNat_natCast,List.getD_eq_getElem?_getD,List.getElem?_eq_getElem hl]
 rfl
theorem copy_eq (s:ByteArray) (hs:s.size≤1000000):∀ (m n:Nat),n + m = s.size→f138_l3 s (m + 1) n ((toBytes s).take n) = some ((s,()),(),(toBytes s,()))
 | 0,n,hn=>by
  rw [f138_l3,dec_f (by omega)]
  have:(toBytes s).take n = toBytes s:=List.take_of_length_le (by rw [toBytes_length]; omega)
  rw [this]
  rfl
 | m + 1,n,hn=>by
  have e4:IntKind.wrap .i64 ((n:Int) + 1) = ((n + 1:Nat):Int):=by rw [wrapS (by omega) (by omega)]; rfl
  have hn2:n < (toBytes s).length:=by rw [toBytes_length]; omega
  have e5:(toBytes s).take n++[byteAt s n] = (toBytes s).take (n + 1):=by
   have h1:=byteAt_eq s n (by omega)
   rw [List.getElem?_eq_getElem hn2] at h1
   rw [List.take_succ_eq_append_getElem hn2,Option.some.inj h1]
  have l:((toBytes s).take n).length + 1≤appLim:=by rw [List.length_take]; unfold appLim; omega
  rw [f138_l3]
  simp only [dec_t (show (n:Int) < s.size by omega),cond_true,inR_of (show (0:Int)≤n by omega) (show (n:Int) < s.size by omega),List.length_singleton,dec_t l,e4,e5]
  exact copy_eq s hs m (n + 1) (by omega)
theorem tmod64 (r:List Int):Int.tmod (r.length:Int) 64 = ((r.length % 64:Nat):Int):=rfl
theorem pad1 (s:ByteArray) (b3:List Int):∀ (k:Nat) (r:List Int),(120 - r.length % 64) % 64 < k→r.length + (120 - r.length % 64) % 64≤appLim →
  ∃ r':List Int,r'.length = r.length + (120 - r.length % 64) % 64∧f191_l3 s b3 k r = some ((s,()),(),((b3,()),r',()))∧f138_l7 s k r = some ((s,()),(),(r',()))
 | 0,r,hk,_=>by omega
 | k + 1,r,hk,hl=>by
  have ht:=tmod64 r
  by_cases h56:r.length % 64 = 56
  ·have hn:¬ Int.tmod (r.length:Int) 64 ≠ 56:=by omega
   refine ⟨r,by omega,?_,?_⟩
   ·rw [f191_l3,dec_f hn]; rfl
   ·rw [f138_l7,dec_f hn]; rfl
  ·have h1:Int.tmod (r.length:Int) 64 ≠ 56:=by omega
   have l:r.length + 1≤appLim:=by omega
   have hlen:(r++[(0:Int)]).length = r.length + 1:=by simp
   obtain ⟨r',q1,q2,q3⟩:=pad1 s b3 k (r++[0]) (by rw [hlen]; omega) (by rw [hlen]; omega)
   refine ⟨r',by rw [q1,hlen]; omega,?_,?_⟩
   ·rw [f191_l3]
    simp only [dec_t h1,cond_true,List.length_singleton,dec_t l]
    exact q2
   ·rw [f138_l7]
    simp only [dec_t h1,cond_true,List.length_singleton,dec_t l]
    exact q3
theorem pad2 (s:ByteArray) (b3:List Int):∀ (m:Nat) (r:List Int),m≤8→r.length + m≤appLim →
  ∃ r':List Int,r'.length = r.length + m∧f191_l6 s b3 (m + 1) ((m:Int) - 1) r = some ((),(),((b3,()),r',()))∧f138_l10 s (m + 1) ((m:Int) - 1) r = some ((),(),(r',()))
 | 0,r,_,_=>⟨r,rfl,rfl,rfl⟩
 | m + 1,r,hm,hl=>by
  have e0:((m + 1:Nat):Int) - 1 = m:=by omega
  have e1:IntKind.wrap .i64 ((8:Int) * (m:Int)) = 8 * m:=wrapS (by omega) (by omega)
  have e2:IntKind.wrap .i64 ((m:Int) - 1) = m - 1:=wrapS (by omega) (by omega)
  have l:r.length + 1≤appLim:=by omega
  obtain ⟨r',q1,q2,q3⟩:=pad2 s b3 m (r++[IntKind.wrap .u8 (shrV .i64 (IntKind.wrap .i64 ((8:Int) * (s.size:Int))) (8 * (m:Int)))]) (by omega) (by rw [List.length_append,List.length_singleton]; omega)
  refine ⟨r',by rw [q1,List.length_append,List.length_singleton]; omega,?_,?_⟩
  ·rw [f191_l6,e0]
   simp only [dec_t (show (m:Int) ≥ 0 by omega),cond_true,e1,dec_t (show (0:Int)≤8 * m by omega),List.length_singleton,dec_t l,e2]
   exact q2
  ·rw [f138_l10,e0]
   simp only [dec_t (show (m:Int) ≥ 0 by omega),cond_true,e1,dec_t (show (0:Int)≤8 * m by omega),List.length_singleton,dec_t l,e2]
   exact q3
theorem sha_eq (s:ByteArray) (hs:s.size≤1000000):∃ r:List Int,r.length = 32∧f191 s = some (ofBytes r,())∧f89 s = some (ofBytes r,()):=by
 have hb:=toBytes_length s
 obtain ⟨h0,hh0⟩:∃ h0:List Int,h0 = [(1779033703:Int),(3144134277:Int),(1013904242:Int),(2773480762:Int),(1359893119:Int),(2600822924:Int),(528734635:Int),(1541459225:Int)]:=⟨_,rfl⟩
 have l1:(toBytes s).length + 1≤appLim:=by rw [hb]; unfold appLim; omega
 have hl1:(toBytes s++[(128:Int)]).length = s.size + 1:=by rw [List.length_append,hb]; rfl
 obtain ⟨r1,a1,a2,a3⟩:=pad1 s h0 64 (toBytes s++[128]) (by omega) (by rw [hl1]; unfold appLim; omega)
 rw [hl1] at a1
 obtain ⟨r2,b1,b2,b3⟩:=pad2 s h0 8 r1 (Nat.le_refl _) (by rw [a1]; unfold appLim; omega)
 have hm:∃ m,0 + 64 * m = r2.length:=⟨r2.length / 64,by rw [b1,a1]; omega⟩
 obtain ⟨m,hm⟩:=hm
 obtain ⟨h,c1,c2,c3⟩:=blocks_eq r2 (by rw [b1,a1]; unfold appLim; omega) m (r2.length + 1) 0 h0 hm (by omega) (by rw [hh0]; rfl)
 obtain ⟨r,d1,d2,d3⟩:=out_eq h c1
 have ec:(((r2.length:Int) - 0).toNat + 1) = r2.length + 1:=by omega
 refine ⟨r,d1,?_,?_⟩
 ·unfold f191
  simp only [List.length_singleton]
  rw [dec_t l1,cond_true,← hh0]
  refine bindE a2 (bindE b2 ?_)
  show (f233_l1x r2 64 (((r2.length:Int) - 0).toNat + 1) 0 h0).bind _ = _
  rw [ec]
  refine bindE c2 ?_
  exact bindE d2 rfl
 ·have e71:f138 s = some (r2,()):=by
   unfold f138
   have k1:f138_l3 s (((s.size:Int) - 0).toNat + 1) 0 [] = some ((s,()),(),(toBytes s,())):=by
    have:((s.size:Int) - 0).toNat + 1 = s.size + 1:=by omega
    rw [this]
    exact copy_eq s hs s.size 0 (by omega)
   refine bindE k1 ?_
   show (bif decide ((toBytes s).length + 1≤appLim) then _ else none) = _
   rw [dec_t l1,cond_true]
   exact bindE a3 (bindE b3 rfl)
  unfold f89
  refine bindE e71 ?_
  show (f89_l4 r2 (((r2.length:Int) - 0).toNat + 1) _ 0).bind _ = _
  rw [ec,← hh0]
  refine bindE c3 ?_
  exact bindE d3 rfl
end Go.V.G
namespace Go.V.G
open Go.Proofs
abbrev Ent:=Int × (ByteArray × Unit)
theorem ofBytes_size (r:List Int):(ofBytes r).size = r.length:=by
 unfold ofBytes
 show (List.toArray _).size = _
 rw [List.size_toArray,List.length_map]
def sha (s:ByteArray):ByteArray :=
 match f191 s with
 | some y=>y.1
 | none=>⟨#[]⟩
theorem sha_spec (s:ByteArray) (hs:s.size≤1000000):f191 s = some (sha s,())∧f89 s = some (sha s,())∧(sha s).size = 32:=by
 obtain ⟨r,h1,h2,h3⟩:=sha_eq s hs
 have e:sha s = ofBytes r:=by unfold sha; rw [h2]
 rw [e]
 exact ⟨h2,h3,by rw [ofBytes_size,h1]⟩
def zeroD:ByteArray:=ofBytes (List.replicate 32 0)
theorem zero_eq:f135 = some (zeroD,())∧f141 = some (zeroD,()):=by constructor <;> kernel_rfl
theorem zero_size:zeroD.size = 32:=by kernel_rfl
def emp:ByteArray:=⟨#[]⟩
structure Valid (l:List Ent):Prop where
 key:∀ e∈l,0≤e.1∧e.1 < 64
 val:∀ e∈l,e.2.1.size ≠ 0∧e.2.1.size≤65536
 asc:l.Pairwise (fun a b=>a.1 < b.1)
theorem asc_len:∀ (l:List Ent) (lo:Int),(∀ e∈l,lo≤e.1∧e.1 < 64)→l.Pairwise (fun a b=>a.1 < b.1)→lo≤64→(l.length:Int)≤64 - lo
 | [],lo,_,_,h=>by simp; omega
 | e :: l,lo,hk,ha,hlo=>by
  have h0:=hk e (by simp)
  rw [List.pairwise_cons] at ha
  have:=asc_len l (e.1 + 1) (fun x hx=>⟨by have:=ha.1 x hx; omega,(hk x (by simp [hx])).2⟩) ha.2 (by omega)
  simp only [List.length_cons]
  omega
theorem Valid.len {l:List Ent} (h:Valid l):l.length≤64:=by
 have:=asc_len l 0 h.key h.asc (by omega)
 omega
def atK:List Ent→Int→ByteArray
 | [],_=>emp
 | e :: l,k=>if e.1 = k then e.2.1 else atK l k
theorem at_get {T:Ty} {l:List T.den} {n:Nat} {x:T.den} (h:l[n]? = some x):at_ T l (n:Int) = x:=by
 unfold at_
 rw [Int.toNat_natCast,List.getD_eq_getElem?_getD,h]
 rfl
abbrev TE:Ty:=.pair tI (.pair .str .unit)
def kb (k:Int):ByteArray:=ofBytes [2 * k]
theorem key_enc:∀ n:Nat,n < 64→f168 n = some (kb n,0,())∧f172 n = some (kb n,0,()):=by
 have h:(List.range 64).all (fun n=>(match f168 n with | some (s,e,_)=>decide (s = kb n) && decide (e = 0) | none=>false) && (match f172 n with | some (s,e,_)=>decide (s = kb n) && decide (e = 0) | none=>false)) = true:=by kernel_rfl
 intro n hn
 have:=List.all_eq_true.1 h n (List.mem_range.2 hn)
 simp only [Bool.and_eq_true] at this
 constructor
 ·have h1:=this.1
  split at h1
  ·rename_i s e u heq
   simp only [Bool.and_eq_true,decide_eq_true_eq] at h1
   rw [heq,h1.1,h1.2]
  ·cases h1
 ·have h1:=this.2
  split at h1
  ·rename_i s e u heq
   simp only [Bool.and_eq_true,decide_eq_true_eq] at h1
   rw [heq,h1.1,h1.2]
  ·cases h1
def leafS (k:Int) (v:ByteArray):ByteArray:=((⟨#[8]⟩:ByteArray)++kb k)++v
def leafD (k:Int) (v:ByteArray):ByteArray:=if v = emp then zeroD else sha (leafS k v)
def joinS (a b:ByteArray):ByteArray:=((⟨#[9]⟩:ByteArray)++a)++b
def joinD (a b:ByteArray):ByteArray:=if a = zeroD∧b = zeroD then zeroD else sha (joinS a b)
theorem kb_size (k:Int):(kb k).size = 1:=by unfold kb; rw [ofBytes_size]; rfl
theorem leafS_size (k:Int) (v:ByteArray):(leafS k v).size = v.size + 2:=by
 unfold leafS
 rw [ByteArray.size_append,ByteArray.size_append,kb_size]
 show 1 + 1 + v.size = _
 omega
theorem joinS_size (a b:ByteArray):(joinS a b).size = a.size + b.size + 1:=by
 unfold joinS
 rw [ByteArray.size_append,ByteArray.size_append]
 show 1 + a.size + b.size = _
 omega
theorem catOk_of {x y:ByteArray} (h:x.size + y.size≤2000000):catOk x y = true:=by
 unfold catOk
 exact dT (by omega)
theorem f66_eq (k:Nat) (hk:k < 64) (v:ByteArray) (hv:v.size≤65536):f136 k v = some (leafD k v,()):=by
 unfold f136 leafD
 by_cases he:v = emp
 ·rw [if_pos he]
  have:decide (v = (⟨#[]⟩:ByteArray)) = true:=dT he
  rw [this,cond_true]
  exact bindE zero_eq.1 rfl
 ·rw [if_neg he]
  have:decide (v = (⟨#[]⟩:ByteArray)) = false:=dF he
  rw [this,cond_false]
  refine bindE (key_enc k hk).1 ?_
  show (bif catOk (⟨#[8]⟩:ByteArray) (kb k) then (bif catOk ((⟨#[8]⟩:ByteArray)++kb k) v then _ else none) else none) = _
  rw [catOk_of (by rw [kb_size]; decide),catOk_of (by rw [ByteArray.size_append,kb_size]; show 1 + 1 + v.size≤_; omega),cond_true,cond_true]
  exact bindE (sha_spec (leafS k v) (by rw [leafS_size]; omega)).1 rfl
theorem f67_eq (a b:ByteArray) (ha:a.size≤100) (hb:b.size≤100):f137 a b = some (joinD a b,()):=by
 have c1:catOk (⟨#[9]⟩:ByteArray) a = true:=catOk_of (by show 1 + a.size≤_; omega)
 have c2:catOk ((⟨#[9]⟩:ByteArray)++a) b = true:=catOk_of (by rw [ByteArray.size_append]; show 1 + a.size + b.size≤_; omega)
 have hs:=(sha_spec (joinS a b) (by rw [joinS_size]; omega)).1
 unfold f137 joinD
 refine bindE zero_eq.1 ?_
 show (bif decide (a = zeroD) then _ else _) = _
 by_cases h1:a = zeroD
 ·rw [dec_t h1,cond_true]
  refine bindE zero_eq.1 ?_
  show (bif decide (b = zeroD) then _ else _) = _
  by_cases h2:b = zeroD
  ·rw [dec_t h2,cond_true,if_pos ⟨h1,h2⟩]
   exact bindE zero_eq.1 rfl
  ·rw [dec_f h2,cond_false,if_neg (fun h=>h2 h.2),c1,c2,cond_true,cond_true]
   exact bindE hs rfl
 ·rw [dec_f h1,cond_false,if_neg (fun h=>h1 h.1),c1,c2,cond_true,cond_true]
  exact bindE hs rfl
theorem leafD_size (k:Int) (v:ByteArray) (hv:v.size≤65536):(leafD k v).size = 32:=by
 unfold leafD
 split
 ·exact zero_size
 ·exact (sha_spec _ (by rw [leafS_size]; omega)).2.2
theorem joinD_size (a b:ByteArray) (ha:a.size≤100) (hb:b.size≤100):(joinD a b).size = 32:=by
 unfold joinD
 split
 ·exact zero_size
 ·exact (sha_spec _ (by rw [joinS_size]; omega)).2.2
def D (l:List Ent):Nat→Int→ByteArray
 | 0,low=>leafD low (atK l low)
 | h + 1,low=>joinD (D l h low) (D l h (low + 2 ^ h))
theorem atK_size {l:List Ent} (hv:∀ e∈l,e.2.1.size≤65536) (k:Int):(atK l k).size≤65536:=by
 induction l with
 | nil=>show (0:Nat)≤_; omega
 | cons e l ih =>
  unfold atK
  split
  ·exact hv e (by simp)
  ·exact ih (fun x hx=>hv x (by simp [hx]))
theorem D_size {l:List Ent} (hv:∀ e∈l,e.2.1.size≤65536):∀ (h:Nat) (low:Int),(D l h low).size = 32
 | 0,low=>leafD_size _ _ (atK_size hv low)
 | h + 1,low=>joinD_size _ _ (by rw [D_size hv h low]; omega) (by rw [D_size hv h _]; omega)
end Go.V.G
namespace Go.V.G
open Go.Proofs
theorem drop_get {α:Type} {l rest:List α} {n:Nat} {e:α} (h:l.drop n = e :: rest):n < l.length∧l[n]? = some e∧l.drop (n + 1) = rest:=by
 have hlt:n < l.length:=by
  have:=congrArg List.length h
  rw [List.length_drop,List.length_cons] at this
  omega
 refine ⟨hlt,?_,by rw [← List.drop_drop,h]; rfl⟩
 have:=congrArg (fun x=>x[0]?) h
 simpa using this
theorem next64 (n:Nat) (h:n≤1000000):IntKind.wrap .i64 ((n:Int) + 1) = ((n + 1:Nat):Int):=by rw [wrapS (by omega) (by omega)]; rfl
theorem keysOf (l:List Ent) (b:Bool) (hl:l.length≤1000000):∀ (rest:List Ent) (n m:Nat) (acc:List Int),l.drop n = rest→n≤l.length→rest.length < m→acc.length + rest.length≤1000000 →
  f132_l3_b5000 l l.length l b m n acc = some ((),((l,b,()),()),(acc++rest.map (·.1),()))
 | [],n,0,_,_,_,hm,_=>by simp at hm
 | [],n,m + 1,acc,hd,hn,_,_=>by
  have:l.length≤n:=List.drop_eq_nil_iff.1 hd
  rw [f132_l3_b5000,dec_f (by omega),List.map_nil,List.append_nil]
  rfl
 | e :: rest,n,0,_,_,_,hm,_=>by simp at hm
 | e :: rest,n,m + 1,acc,hd,hn,hm,ha=>by
  obtain ⟨hlt,hg,hd'⟩:=drop_get hd
  have he:at_ TE l (n:Int) = e:=at_get (T:=TE) hg
  have hi:inR (n:Int) l.length = true:=inR_of (by omega) (by omega)
  simp only [List.length_cons] at hm ha
  have h42:f133 e = some (e.1,()):=rfl
  rw [f132_l3_b5000]
  simp only [dec_t (show (n:Int) < l.length by omega),cond_true,hi,he,h42,Option.bind_some,List.length_singleton,dec_t (show acc.length + 1≤appLim by unfold appLim; omega),next64 n (by omega)]
  rw [keysOf l b hl rest (n + 1) m (acc++[e.1]) hd' hlt (by omega) (by simp; omega)]
  rw [List.append_assoc]
  rfl
theorem ascKeys (ks:List Int) (hl:ks.length≤1000000) (hr:∀ k∈ks,0≤k∧k < 64) (ha:ks.Pairwise (· < ·)):∀ (rest:List Int) (n m:Nat),ks.drop n = rest→n≤ks.length→rest.length < m →
  f131_l2 ks ks ks.length m n = some (.inl ((),(),()))
 | [],n,0,_,_,hm=>by simp at hm
 | [],n,m + 1,hd,hn,_=>by
  have:ks.length≤n:=List.drop_eq_nil_iff.1 hd
  rw [f131_l2,dec_f (by omega)]
  rfl
 | k :: rest,n,0,_,_,hm=>by simp at hm
 | k :: rest,n,m + 1,hd,hn,hm=>by
  obtain ⟨hlt,hg,hd'⟩:=drop_get hd
  have hk:at_ tI ks (n:Int) = k:=at_get (T:=.int .i64) hg
  have hmem:k∈ks:=List.mem_of_getElem? hg
  have hkr:=hr k hmem
  have hi:inR (n:Int) ks.length = true:=inR_of (by omega) (by omega)
  simp only [List.length_cons] at hm
  have ih:=ascKeys ks hl hr ha rest (n + 1) m hd' hlt (by omega)
  rw [f131_l2]
  simp only [dec_t (show (n:Int) < ks.length by omega),cond_true,hi,hk,dec_f (show ¬ k < 0 by omega),dec_f (show ¬ k ≥ 64 by omega),cond_false,next64 n (by omega)]
  cases n with
  | zero=>rw [dec_f (by omega)]; exact ih
  | succ n =>
   have hp:IntKind.wrap .i64 (((n + 1:Nat):Int) - 1) = (n:Int):=by rw [wrapS (by omega) (by omega)]; omega
   have hg2:ks[n]? = some ks[n]:=List.getElem?_eq_getElem (by omega)
   have hk2:at_ tI ks (n:Int) = ks[n]:=at_get (T:=.int .i64) hg2
   have hlt2:ks[n] < k:=by
    have:=List.pairwise_iff_getElem.1 ha n (n + 1) (by omega) hlt (by omega)
    rw [List.getElem?_eq_getElem hlt] at hg
    rw [Option.some.inj hg] at this
    exact this
   rw [dec_t (by omega)]
   simp only [cond_true,hp,inR_of (show (0:Int)≤n by omega) (show (n:Int) < ks.length by omega),hk2,dec_f (show ¬ k≤ks[n] by omega),cond_false]
   exact ih
theorem noneWrong (l:List Ent) (hl:l.length≤1000000) (hv:∀ e∈l,e.2.1.size ≠ 0∧e.2.1.size≤65536) (a b c:Bool):∀ (rest:List Ent) (n m:Nat),l.drop n = rest→n≤l.length→rest.length < m →
  f190_l2x l l.length a b c m n = some (.inl ((),((a,()),(b,c,()),()),()))
 | [],n,0,_,_,hm=>by simp at hm
 | [],n,m + 1,hd,hn,_=>by
  have:l.length≤n:=List.drop_eq_nil_iff.1 hd
  rw [f190_l2x,dec_f (by omega)]
  rfl
 | e :: rest,n,0,_,_,hm=>by simp at hm
 | e :: rest,n,m + 1,hd,hn,hm=>by
  obtain ⟨hlt,hg,hd'⟩:=drop_get hd
  have he:at_ TE l (n:Int) = e:=at_get (T:=TE) hg
  have hi:inR (n:Int) l.length = true:=inR_of (by omega) (by omega)
  have hve:=hv e (List.mem_of_getElem? hg)
  simp only [List.length_cons] at hm
  have h39:f130 e = some (false,()):=by
   unfold f130
   simp only [dec_f (show ¬ (e.2.1.size:Int) = 0 by omega),cond_false,dec_f (show ¬ (e.2.1.size:Int) > 65536 by omega)]
  rw [f190_l2x]
  simp only [dec_t (show (n:Int) < l.length by omega),cond_true,hi,he,h39,Option.bind_some,cond_false,next64 n (by omega)]
  exact noneWrong l hl hv a b c rest (n + 1) m hd' hlt (by omega)
theorem len0 {α:Type} (l:List α):((l.length:Int) - 0).toNat + 1 = l.length + 1:=by omega
theorem f15_valid {l:List Ent} (h:Valid l):f87 l = some (true,()):=by
 have hl:=h.len
 have hk:=keysOf l false (by omega) l 0 (l.length + 1) [] rfl (by omega) (by omega) (by simp; omega)
 have hasc:(l.map (·.1)).Pairwise (· < ·):=by rw [List.pairwise_map]; exact h.asc
 have h40:f131 (l.map (·.1)) = some (true,()):=by
  unfold f131
  rw [len0]
  exact bindE (ascKeys (l.map (·.1)) (by simp; omega) (fun k hk=>by obtain ⟨e,he,rfl⟩:=List.mem_map.1 hk; exact h.key e he) hasc _ 0 _ rfl (by omega) (by simp)) rfl
 unfold f87
 rw [len0]
 refine bindE hk ?_
 refine bindE h40 ?_
 show (f190_l2x l l.length false false true (((l.length:Int) - 0).toNat + 1) 0).bind _ = _
 rw [len0]
 exact bindE (noneWrong l (by omega) h.val false false true l 0 (l.length + 1) rfl (by omega) (by omega)) rfl
theorem at_set {l:List ByteArray} {n j:Nat} {x:ByteArray} (hn:n < l.length):at_ .str (l.set n x) (j:Int) = if n = j then x else at_ .str l (j:Int):=by
 unfold at_
 rw [Int.toNat_natCast,List.getD_eq_getElem?_getD,List.getElem?_set]
 by_cases h:n = j
 ·subst h; rw [if_pos rfl,if_pos rfl]; simp [hn]
 ·rw [if_neg h,if_neg h,List.getD_eq_getElem?_getD]
theorem zeros (l:List Ent) (s:ByteArray) (q:Int):∀ (m n:Nat) (b:List ByteArray),n + m = 64→b.length = 128→(∀ j,j < n→at_ .str b ((64 + j:Nat):Int) = zeroD) →
  ∃ b':List ByteArray,b'.length = 128∧(∀ j,j < 64→at_ .str b' ((64 + j:Nat):Int) = zeroD)∧f88_l3_b8000 l s q (m + 1) n b = some ((l,()),((s,q,()),()),((b',()),()))
 | 0,n,b,hn,hb,hz=>by
  have:n = 64:=by omega
  subst this
  exact ⟨b,hb,hz,rfl⟩
 | m + 1,n,b,hn,hb,hz=>by
  have e1:IntKind.wrap .i64 ((64:Int) + n) = ((64 + n:Nat):Int):=by rw [wrapS (by omega) (by omega)]; omega
  have i1:inR ((64 + n:Nat):Int) 128 = true:=inR_of (by omega) (by omega)
  obtain ⟨b',k1,k2,k3⟩:=zeros l s q m (n + 1) (b.set (64 + n) zeroD) (by omega) (by simp [hb]) (fun j hj=>by
   rw [at_set (by omega)]
   split
   ·rfl
   ·exact hz j (by omega))
  refine ⟨b',k1,k2,?_⟩
  rw [f88_l3_b8000]
  simp only [dec_t (show (n:Int) < 64 by omega),cond_true,zero_eq.1,Option.bind_some,e1,i1,next64 n (by omega),Int.toNat_natCast]
  exact k3
theorem atK_snoc (p:List Ent) (e:Ent) (j:Int) (hp:∀ x∈p,x.1 ≠ e.1):atK (p++[e]) j = if e.1 = j then e.2.1 else atK p j:=by
 induction p with
 | nil=>rfl
 | cons x p ih =>
  have hx:=hp x (by simp)
  have:=ih (fun y hy=>hp y (by simp [hy]))
  simp only [List.cons_append,atK]
  rw [this]
  by_cases h1:x.1 = j
  ·rw [if_pos h1,if_pos h1,if_neg (by omega)]
  ·rw [if_neg h1,if_neg h1]
theorem leaves {l:List Ent} (h:Valid l) (s:ByteArray) (q:Int):∀ (rest:List Ent) (n m:Nat) (b:List ByteArray),l.drop n = rest→n≤l.length→rest.length < m→b.length = 128 →
  (∀ j:Nat,j < 64→at_ .str b ((64 + j:Nat):Int) = leafD j (atK (l.take n) j)) →
  ∃ b':List ByteArray,b'.length = 128∧(∀ j:Nat,j < 64→at_ .str b' ((64 + j:Nat):Int) = leafD j (atK l j))∧f88_l8_b8000 l l.length s q m n b = some ((),((s,q,()),()),((b',()),()))
 | [],n,0,_,_,_,hm,_,_=>by simp at hm
 | [],n,m + 1,b,hd,hn,_,hb,hz=>by
  have hle:l.length≤n:=List.drop_eq_nil_iff.1 hd
  rw [List.take_of_length_le hle] at hz
  refine ⟨b,hb,hz,?_⟩
  rw [f88_l8_b8000,dec_f (by omega)]
  rfl
 | e :: rest,n,0,_,_,_,hm,_,_=>by simp at hm
 | e :: rest,n,m + 1,b,hd,hn,hm,hb,hz=>by
  obtain ⟨hlt,hg,hd'⟩:=drop_get hd
  have hl:=h.len
  have he:at_ TE l (n:Int) = e:=at_get (T:=TE) hg
  have hi:inR (n:Int) l.length = true:=inR_of (by omega) (by omega)
  have hmem:e∈l:=List.mem_of_getElem? hg
  have hkey:=h.key e hmem
  have hval:=h.val e hmem
  obtain ⟨k,hk⟩:∃ k:Nat,e.1 = (k:Int):=⟨e.1.toNat,by omega⟩
  have hk64:k < 64:=by omega
  have e1:IntKind.wrap .i64 ((64:Int) + e.1) = ((64 + k:Nat):Int):=by rw [hk,wrapS (by omega) (by omega)]; omega
  have i1:inR ((64 + k:Nat):Int) 128 = true:=inR_of (by omega) (by omega)
  have h66:=f66_eq k hk64 e.2.1 hval.2
  simp only [List.length_cons] at hm
  have htake:l.take (n + 1) = l.take n++[e]:=by
   rw [List.getElem?_eq_getElem hlt] at hg
   rw [List.take_succ_eq_append_getElem hlt,Option.some.inj hg]
  have hfresh:∀ x∈l.take n,x.1 ≠ e.1:=by
   intro x hx
   obtain ⟨i,hi2,hxi⟩:=List.mem_iff_getElem.1 hx
   rw [List.length_take] at hi2
   rw [List.getElem_take] at hxi
   have:=List.pairwise_iff_getElem.1 h.asc i n (by omega) hlt (by omega)
   rw [hxi] at this
   rw [List.getElem?_eq_getElem hlt] at hg
   rw [Option.some.inj hg] at this
   omega
  obtain ⟨b',k1,k2,k3⟩:=leaves h s q rest (n + 1) m (b.set (64 + k) (leafD k e.2.1)) hd' hlt (by omega) (by simp [hb]) (fun j hj=>by
   rw [at_set (by omega),htake,atK_snoc _ _ _ hfresh]
   by_cases hjk:k = j
   ·subst hjk
    rw [if_pos rfl,if_pos hk]
   ·rw [if_neg (by omega),if_neg (by omega)]
    exact hz j hj)
  refine ⟨b',k1,k2,?_⟩
  rw [f88_l8_b8000]
  simp only [dec_t (show (n:Int) < l.length by omega),cond_true,hi,he]
  rw [hk] at e1 ⊢
  simp only [h66,Option.bind_some,e1,i1,cond_true,next64 n (by omega),Int.toNat_natCast]
  exact k3
def hgt (i:Nat):Nat:=6 - Nat.log2 i
theorem hgt_facts:∀ i:Nat,i < 64→1≤i→hgt i = hgt (2 * i) + 1∧hgt (2 * i + 1) = hgt (2 * i):=by
 have h:(List.range 64).all (fun i=>Nat.beq i 0 || (Nat.beq (hgt i) (hgt (2 * i) + 1) && Nat.beq (hgt (2 * i + 1)) (hgt (2 * i)))) = true:=by kernel_rfl
 intro i hi h1
 have:=List.all_eq_true.1 h i (List.mem_range.2 hi)
 simp only [Bool.or_eq_true,Bool.and_eq_true] at this
 rcases this with h | h
 ·have:=Nat.eq_of_beq_eq_true h; omega
 ·exact ⟨Nat.eq_of_beq_eq_true h.1,Nat.eq_of_beq_eq_true h.2⟩
theorem hgt_leaf:∀ j:Nat,j < 64→hgt (64 + j) = 0:=by
 have h:(List.range 64).all (fun i=>Nat.beq (hgt (64 + i)) 0) = true:=by kernel_rfl
 intro i hi
 exact Nat.eq_of_beq_eq_true (List.all_eq_true.1 h i (List.mem_range.2 hi))
def Nd (l:List Ent) (i:Nat):ByteArray:=D l (hgt i) ((i:Int) * 2 ^ hgt i - 64)
theorem Nd_leaf (l:List Ent) (j:Nat) (hj:j < 64):Nd l (64 + j) = leafD j (atK l j):=by
 unfold Nd
 rw [hgt_leaf j hj]
 have:(((64 + j:Nat):Int) * 2 ^ 0 - 64) = j:=by simp; omega
 rw [this]
 rfl
theorem Nd_join (l:List Ent) (i:Nat) (h1:1≤i) (hi:i < 64):Nd l i = joinD (Nd l (2 * i)) (Nd l (2 * i + 1)):=by
 obtain ⟨e1,e2⟩:=hgt_facts i hi h1
 unfold Nd
 rw [e1,e2]
 have p:(2:Int) ^ (hgt (2 * i) + 1) = 2 ^ hgt (2 * i) * 2:=rfl
 have q1:((2 * i:Nat):Int) * 2 ^ hgt (2 * i) = (i:Int) * 2 ^ (hgt (2 * i) + 1):=by
  rw [p]
  have:((2 * i:Nat):Int) = (i:Int) * 2:=by omega
  rw [this,Int.mul_assoc,Int.mul_comm 2]
 have q2:((2 * i + 1:Nat):Int) * 2 ^ hgt (2 * i) = (i:Int) * 2 ^ (hgt (2 * i) + 1) + 2 ^ hgt (2 * i):=by
  have:((2 * i + 1:Nat):Int) = ((2 * i:Nat):Int) + 1:=by omega
  rw [this,Int.add_mul,q1,Int.one_mul]
 rw [q1,q2]
 show joinD _ _ = _
 congr 2
 omega
theorem Nd_size {l:List Ent} (hv:∀ e∈l,e.2.1.size≤65536) (i:Nat):(Nd l i).size = 32:=D_size hv _ _
theorem joins {l:List Ent} (hv:∀ e∈l,e.2.1.size≤65536) (s:ByteArray) (q:Int):∀ (i:Nat) (b:List ByteArray),i < 64→b.length = 128→(∀ j:Nat,i < j→j < 128→at_ .str b (j:Int) = Nd l j) →
  ∃ b':List ByteArray,b'.length = 128∧(∀ j:Nat,0 < j→j < 128→at_ .str b' (j:Int) = Nd l j)∧f88_l13_b8000 s q (i + 1) i b = some ((),((s,q,()),()),((b',()),()))
 | 0,b,_,hb,hz=>⟨b,hb,hz,rfl⟩
 | i + 1,b,hi,hb,hz=>by
  have e1:IntKind.wrap .i64 ((2:Int) * ((i + 1:Nat):Int)) = ((2 * (i + 1):Nat):Int):=by rw [wrapS (by omega) (by omega)]; omega
  have e2:IntKind.wrap .i64 (((2 * (i + 1):Nat):Int) + 1) = ((2 * (i + 1) + 1:Nat):Int):=next64 _ (by omega)
  have e3:IntKind.wrap .i64 (((i + 1:Nat):Int) - 1) = (i:Int):=by rw [wrapS (by omega) (by omega)]; omega
  have i1:inR ((2 * (i + 1):Nat):Int) 128 = true:=inR_of (by omega) (by omega)
  have i2:inR ((2 * (i + 1) + 1:Nat):Int) 128 = true:=inR_of (by omega) (by omega)
  have i3:inR ((i + 1:Nat):Int) 128 = true:=inR_of (by omega) (by omega)
  have a1:=hz (2 * (i + 1)) (by omega) (by omega)
  have a2:=hz (2 * (i + 1) + 1) (by omega) (by omega)
  have h67:=f67_eq (Nd l (2 * (i + 1))) (Nd l (2 * (i + 1) + 1)) (by rw [Nd_size hv]; omega) (by rw [Nd_size hv]; omega)
  rw [← Nd_join l (i + 1) (by omega) hi] at h67
  obtain ⟨b',k1,k2,k3⟩:=joins hv s q i (b.set (i + 1) (Nd l (i + 1))) (by omega) (by simp [hb]) (fun j hj hj2=>by
   rw [at_set (by omega)]
   split
   ·rename_i h; subst h; rfl
   ·exact hz j (by omega) hj2)
  refine ⟨b',k1,k2,?_⟩
  rw [f88_l13_b8000]
  simp only [dec_t (show ((i + 1:Nat):Int) > 0 by omega),cond_true,e1,e2,i1,i2,i3,a1,a2,h67,Option.bind_some,e3,Int.toNat_natCast]
  exact k3
theorem take0 (l:List Ent) (j:Int):atK (l.take 0) j = emp:=rfl
def rootD (l:List Ent):ByteArray:=D l 6 0
set_option maxRecDepth 100000 in
theorem f13_eq {l:List Ent} (h:Valid l):f39 l = some (rootD l,0,()):=by
 have hv:∀ e∈l,e.2.1.size≤65536:=fun e he=>(h.val e he).2
 obtain ⟨b1,a1,a2,a3⟩:=zeros l emp 0 64 0 (List.replicate 128 emp) rfl (by simp) (fun j hj=>by omega)
 obtain ⟨b2,c1,c2,c3⟩:=leaves h emp 0 l 0 (l.length + 1) b1 rfl (by omega) (by omega) a1 (fun j hj=>by rw [take0,a2 j hj]; unfold leafD; rw [if_pos rfl])
 obtain ⟨b3,d1,d2,d3⟩:=joins hv emp 0 63 b2 (by omega) c1 (fun j hj hj2=>by
  have:=c2 (j - 64) (by omega)
  have e:64 + (j - 64) = j:=by omega
  rw [e] at this
  rw [this,← Nd_leaf l (j - 64) (by omega),e])
 unfold f39
 refine bindE (f15_valid h) ?_
 simp only [Bool.not_true,cond_false]
 rw [show ((64:Int) - 0).toNat + 1 = 64 + 1 from rfl]
 refine bindE (show f88_l3_b8000 l ⟨#[]⟩ 0 (64 + 1) 0 (List.replicate 128 ⟨#[]⟩) = some ((l,()),((emp,0,()),()),((b1,()),())) from a3) ?_
 simp only
 rw [len0]
 refine bindE c3 ?_
 simp only
 rw [show (63:Int).toNat + 1 = 63 + 1 from rfl]
 refine bindE (show f88_l13_b8000 emp 0 (63 + 1) 63 b2 = some ((),((emp,0,()),()),((b3,()),())) from d3) ?_
 simp only
 have hr:at_ .str b3 (1:Int) = rootD l:=by
  have:=d2 1 (by omega) (by omega)
  rw [show ((1:Nat):Int) = 1 from rfl] at this
  rw [this]
  rfl
 show (bif inR (1:Int) 128 then some (at_ .str b3 1,(0:Int),()) else none) = _
 rw [hr]
 rfl
end Go.V.G
namespace Go.V.G
open Go.Proofs
def zig (n:Int):Nat:=if n < 0 then (-2 * n - 1).toNat else (2 * n).toNat
def zag (z:Nat):Int:=if z % 2 = 1 then -((z / 2:Nat):Int) - 1 else ((z / 2:Nat):Int)
theorem zag_zig (n:Int):zag (zig n) = n:=by
 unfold zag zig
 split <;> split <;> omega
theorem zig_zag (z:Nat):zig (zag z) = z:=by
 unfold zag zig
 split <;> split <;> omega
def grp (z:Nat):List Int:=if h:z < 128 then [(z:Int)] else ((z % 128 + 128:Nat):Int) :: grp (z / 128)
 termination_by z
 decreasing_by omega
theorem grp_lt {z:Nat} (h:z < 128):grp z = [(z:Int)]:=by rw [grp,dif_pos h]
theorem grp_ge {z:Nat} (h:¬ z < 128):grp z = ((z % 128 + 128:Nat):Int) :: grp (z / 128):=by rw [grp,dif_neg h]
def enc (n:Int):ByteArray:=ofBytes (grp (zig n))
def maxI:Int:=4611686018427387903
theorem wrap_u64 (n:Int) (h0:0≤n) (h1:n < 18446744073709551616):IntKind.wrap .u64 n = n:=by
 simp [IntKind.wrap,IntKind.bits,IntKind.signed]
 omega
theorem wrap_u8 (n:Int) (h0:0≤n) (h1:n < 256):IntKind.wrap .u8 n = n:=by
 simp [IntKind.wrap,IntKind.bits,IntKind.signed]
 omega
theorem wrap_i64 (n:Int) (h0:-9223372036854775808≤n) (h1:n < 9223372036854775808):IntKind.wrap .i64 n = n:=by
 simp [IntKind.wrap,IntKind.bits,IntKind.signed]
 omega
theorem and127 (z:Nat) (h:z < 2 ^ 64):andV .u64 (z:Int) 127 = ((z % 128:Nat):Int):=by
 unfold andV
 have e:(BitVec.ofInt IntKind.u64.bits (z:Int) &&& BitVec.ofInt IntKind.u64.bits 127).toNat = z % 128:=by
  have h127:(BitVec.ofInt 64 127).toNat = 127:=by decide
  show (BitVec.ofInt 64 (z:Int) &&& BitVec.ofInt 64 127).toNat = _
  rw [BitVec.toNat_and,h127,BitVec.ofInt_natCast,BitVec.toNat_ofNat,Nat.mod_eq_of_lt h]
  exact Nat.and_two_pow_sub_one_eq_mod z 7
 rw [e,wrap_u64 _ (by omega) (by omega)]
theorem or128 (z:Nat) (h:z < 128):orV .u8 (z:Int) 128 = ((z + 128:Nat):Int):=by
 unfold orV
 have e:(BitVec.ofInt IntKind.u8.bits (z:Int) ||| BitVec.ofInt IntKind.u8.bits 128).toNat = z + 128:=by
  show (BitVec.ofInt 8 (z:Int) ||| BitVec.ofInt 8 128).toNat = _
  have h128:(BitVec.ofInt 8 128).toNat = 128:=by decide
  rw [BitVec.toNat_or,h128,BitVec.ofInt_natCast,BitVec.toNat_ofNat,Nat.mod_eq_of_lt (by omega),Nat.or_comm]
  have:=Nat.two_pow_add_eq_or_of_lt (i:=7) (b:=z) (by omega) 1
  simpa [Nat.add_comm] using this.symm
 rw [e,wrap_u8 _ (by omega) (by omega)]
theorem shr7 (z:Nat):shrV .u64 (z:Int) 7 = ((z / 128:Nat):Int):=by
 unfold shrV
 rw [Int.fdiv_eq_ediv_of_nonneg _ (by decide)]
 rfl
theorem v5_eq (z:Nat) (h:z < 2 ^ 64):IntKind.wrap .u8 (andV .u64 (z:Int) 127) = ((z % 128:Nat):Int):=by
 rw [and127 z h,wrap_u8 _ (by omega) (by omega)]
theorem groups_eq (s:ByteArray) (q:Int):∀ (k z:Nat) (r:List Int),z < 128 ^ (k + 1)→z < 2 ^ 64→r.length + k≤1000 →
  ∃ o,f227_l0x s q (k + 1) (z:Int) r = some o∧o.2.2.2.2.1 = r++grp z:=by
 intro k
 induction k with
 | zero =>
  intro z r h h64 hr
  have hz:z < 128:=by simpa using h
  have e1:decide ((z:Int) < 128) = true:=by simp; omega
  have hl:∀ x:Int,decide (r.length + ([x]:List Int).length≤appLim) = true:=fun x=>by simp [appLim]; omega
  unfold f227_l0x
  simp only [e1,Bool.not_true,cond_false,cond_true,hl,v5_eq z h64]
  refine ⟨_,rfl,?_⟩
  rw [grp_lt hz,Nat.mod_eq_of_lt hz]
 | succ k ih =>
  intro z r h h64 hr
  have hl:∀ x:Int,decide (r.length + ([x]:List Int).length≤appLim) = true:=fun x=>by simp [appLim]; omega
  by_cases hz:z < 128
  ·have e1:decide ((z:Int) < 128) = true:=by simp; omega
   unfold f227_l0x
   simp only [e1,Bool.not_true,cond_false,cond_true,hl,v5_eq z h64]
   refine ⟨_,rfl,?_⟩
   rw [grp_lt hz,Nat.mod_eq_of_lt hz]
  ·have e1:decide ((z:Int) < 128) = false:=by simp; omega
   have hlt:z / 128 < 128 ^ (k + 1):=by
    rw [Nat.div_lt_iff_lt_mul (by decide),← Nat.pow_succ]
    exact h
   obtain ⟨o,h1,h2⟩:=ih (z / 128) (r++[((z % 128 + 128:Nat):Int)]) hlt (by omega) (by simp; omega)
   unfold f227_l0x
   simp only [e1,Bool.not_false,cond_false,cond_true,hl,v5_eq z h64,or128 (z % 128) (by omega),shr7]
   refine ⟨o,h1,?_⟩
   rw [h2,grp_ge hz]
   simp
theorem zig_lt {n:Int} (h1:-maxI≤n) (h2:n≤maxI):zig n < 2 ^ 63:=by
 unfold zig maxI at *
 split <;> omega
theorem word_eq {n:Int} (h1:-maxI≤n) (h2:n≤maxI):xorV .u64 (shlV .u64 (IntKind.wrap .u64 n) 1) (IntKind.wrap .u64 (shrV .i64 n 63)) = (zig n:Int):=by
 unfold maxI at *
 have hsh:∀ x:Int,shlV .u64 x 1 = IntKind.wrap .u64 (x * 2):=fun x=>rfl
 have hsr:shrV .i64 n 63 = n / 9223372036854775808:=by
  unfold shrV
  rw [Int.fdiv_eq_ediv_of_nonneg _ (by decide)]
  rfl
 rw [hsh,hsr]
 by_cases hn:n < 0
 ·have e1:n / 9223372036854775808 = -1:=by omega
  have e2:IntKind.wrap .u64 n = n + 18446744073709551616:=by simp [IntKind.wrap,IntKind.bits,IntKind.signed]; omega
  have e3:IntKind.wrap .u64 ((n + 18446744073709551616) * 2) = 2 * n + 18446744073709551616:=by simp [IntKind.wrap,IntKind.bits,IntKind.signed]; omega
  have e4:IntKind.wrap .u64 (-1) = 18446744073709551615:=by decide
  rw [e1,e2,e3,e4]
  obtain ⟨m,hm⟩:∃ m:Nat,2 * n + 18446744073709551616 = (m:Int):=⟨(2 * n + 18446744073709551616).toNat,by omega⟩
  rw [hm]
  have hm64:m < 2 ^ 64:=by omega
  unfold xorV
  have e:(BitVec.ofInt IntKind.u64.bits (m:Int) ^^^ BitVec.ofInt IntKind.u64.bits 18446744073709551615).toNat = 2 ^ 64 - 1 - m:=by
   show (BitVec.ofInt 64 (m:Int) ^^^ BitVec.ofInt 64 18446744073709551615).toNat = _
   have ha:BitVec.ofInt 64 18446744073709551615 = BitVec.allOnes 64:=by decide
   rw [ha,BitVec.xor_allOnes,BitVec.toNat_not,BitVec.ofInt_natCast,BitVec.toNat_ofNat,Nat.mod_eq_of_lt hm64]
  rw [e,wrap_u64 _ (by omega) (by omega)]
  unfold zig
  rw [if_pos hn]
  omega
 ·have e1:n / 9223372036854775808 = 0:=by omega
  have e2:IntKind.wrap .u64 n = n:=wrap_u64 n (by omega) (by omega)
  have e3:IntKind.wrap .u64 (n * 2) = n * 2:=wrap_u64 _ (by omega) (by omega)
  have e4:IntKind.wrap .u64 0 = 0:=by decide
  rw [e1,e2,e3,e4]
  obtain ⟨m,hm⟩:∃ m:Nat,n * 2 = (m:Int):=⟨(n * 2).toNat,by omega⟩
  rw [hm]
  have hm64:m < 2 ^ 64:=by omega
  unfold xorV
  have e:(BitVec.ofInt IntKind.u64.bits (m:Int) ^^^ BitVec.ofInt IntKind.u64.bits 0).toNat = m:=by
   show (BitVec.ofInt 64 (m:Int) ^^^ BitVec.ofInt 64 0).toNat = _
   have ha:BitVec.ofInt 64 0 = 0#64:=by decide
   rw [ha,BitVec.xor_zero,BitVec.ofInt_natCast,BitVec.toNat_ofNat,Nat.mod_eq_of_lt hm64]
  rw [e,wrap_u64 _ (by omega) (by omega)]
  unfold zig
  rw [if_neg hn]
  omega
theorem f168_eq {n:Int} (h1:-maxI≤n) (h2:n≤maxI):f168 n = some (enc n,0,()):=by
 have hz:=zig_lt h1 h2
 have e1:decide (n < -4611686018427387903) = false:=by unfold maxI at *; simp; omega
 have e2:decide (n > 4611686018427387903) = false:=by unfold maxI at *; simp; omega
 obtain ⟨o,h3,h4⟩:=groups_eq (⟨#[]⟩:ByteArray) 0 9 (zig n) [] (by omega) (by omega) (by simp)
 unfold f168
 simp only [e1,e2,cond_false,word_eq h1 h2]
 rw [h3,Option.bind_some,h4]
 rfl
def nbytes (s:ByteArray):List Nat:=s.data.toList.map (·.toNat)
theorem grp_byte:∀ (z:Nat),∀ x∈grp z,0≤x∧x < 256:=by
 intro z
 induction z using Nat.strongRecOn with
 | ind z ih =>
  intro x hx
  by_cases h:z < 128
  ·rw [grp_lt h,List.mem_singleton] at hx
   omega
  ·rw [grp_ge h,List.mem_cons] at hx
   rcases hx with rfl | hx
   ·omega
   ·exact ih (z / 128) (by omega) x hx
theorem nbytes_of (l:List Int) (h:∀ x∈l,0≤x∧x < 256):nbytes (ofBytes l) = l.map Int.toNat:=by
 unfold nbytes ofBytes
 simp only [List.map_map]
 apply List.map_congr_left
 intro x hx
 obtain ⟨h0,h1⟩:=h x hx
 simp
 omega
theorem nbytes_app (a b:ByteArray):nbytes (a++b) = nbytes a++nbytes b:=by
 unfold nbytes
 simp
theorem nbytes_len (s:ByteArray):(nbytes s).length = s.size:=by unfold nbytes; simp
theorem nbytes_inj {a b:ByteArray} (h:nbytes a = nbytes b):a = b:=by
 unfold nbytes at h
 have:a.data.toList = b.data.toList:=(List.map_inj_right (fun x y e=>UInt8.toNat_inj.1 e)).1 h
 obtain ⟨⟨a⟩⟩:=a
 obtain ⟨⟨b⟩⟩:=b
 simp only at this
 rw [this]
def grpN (z:Nat):List Nat:=if h:z < 128 then [z] else (z % 128 + 128) :: grpN (z / 128)
 termination_by z
 decreasing_by omega
theorem grpN_lt {z:Nat} (h:z < 128):grpN z = [z]:=by rw [grpN,dif_pos h]
theorem grpN_ge {z:Nat} (h:¬ z < 128):grpN z = (z % 128 + 128) :: grpN (z / 128):=by rw [grpN,dif_neg h]
theorem grp_toNat (z:Nat):(grp z).map Int.toNat = grpN z:=by
 induction z using Nat.strongRecOn with
 | ind z ih =>
  by_cases h:z < 128
  ·rw [grp_lt h,grpN_lt h]; rfl
  ·rw [grp_ge h,grpN_ge h,List.map_cons,ih (z / 128) (by omega)]; rfl
theorem nbytes_enc (n:Int):nbytes (enc n) = grpN (zig n):=by
 unfold enc
 rw [nbytes_of _ (grp_byte _),grp_toNat]
theorem grpN_len:∀ (m z:Nat),z < 128 ^ (m + 1)→(grpN z).length≤m + 1:=by
 intro m
 induction m with
 | zero=>intro z h; rw [grpN_lt (by simpa using h)]; simp
 | succ m ih =>
  intro z h
  by_cases hz:z < 128
  ·rw [grpN_lt hz]; simp
  ·rw [grpN_ge hz,List.length_cons]
   have:=ih (z / 128) (by rw [Nat.div_lt_iff_lt_mul (by decide),← Nat.pow_succ]; exact h)
   omega
theorem enc_size {n:Int} (h1:-maxI≤n) (h2:n≤maxI):(enc n).size≤9:=by
 rw [← nbytes_len,nbytes_enc]
 exact grpN_len 8 _ (by have:=zig_lt h1 h2; omega)
end Go.V.G
namespace Go.V.G
open Go.Proofs
def rd:Nat→List Nat→Option (List Nat)
 | 0,_=>none
 | _ + 1,[]=>none
 | k + 1,b :: bs=>if 128≤b then (rd k bs).map (b :: ·) else some [b]
def val:List Nat→Nat
 | []=>0
 | b :: p=>b % 128 + 128 * val p
def dec (bs:List Nat):Option (Int × Nat) :=
 match rd 9 bs with
 | some p=>if grpN (val p) = p∧-maxI≤zag (val p) then some (zag (val p),p.length) else none
 | none=>none
theorem rd_grpN:∀ (m z:Nat) (t:List Nat),z < 128 ^ (m + 1)→rd (m + 1) (grpN z++t) = some (grpN z):=by
 intro m
 induction m with
 | zero =>
  intro z t h
  have hz:z < 128:=by simpa using h
  rw [grpN_lt hz]
  simp only [List.cons_append,List.nil_append,rd]
  rw [if_neg (by omega)]
 | succ m ih =>
  intro z t h
  by_cases hz:z < 128
  ·rw [grpN_lt hz]
   simp only [List.cons_append,List.nil_append,rd]
   rw [if_neg (by omega)]
  ·rw [grpN_ge hz]
   simp only [List.cons_append]
   rw [rd,if_pos (by omega),ih (z / 128) t (by rw [Nat.div_lt_iff_lt_mul (by decide),← Nat.pow_succ]; exact h)]
   rfl
theorem val_grpN:∀ (z:Nat),val (grpN z) = z:=by
 intro z
 induction z using Nat.strongRecOn with
 | ind z ih =>
  by_cases h:z < 128
  ·rw [grpN_lt h]; simp only [val]; omega
  ·rw [grpN_ge h]; simp only [val]; rw [ih (z / 128) (by omega)]; omega
theorem dec_enc {n:Int} (h1:-maxI≤n) (h2:n≤maxI) (t:List Nat):dec (grpN (zig n)++t) = some (n,(grpN (zig n)).length):=by
 have hz:=zig_lt h1 h2
 unfold dec
 rw [rd_grpN 8 _ t (by omega)]
 simp only [val_grpN,zag_zig]
 rw [if_pos ⟨trivial,h1⟩]
theorem rd_spec:∀ {k:Nat} {bs p:List Nat},rd k bs = some p→p ≠ []∧p.length≤k∧∃ t,bs = p++t
 | 0,_,_,h=>nomatch h
 | _ + 1,[],_,h=>nomatch h
 | k + 1,b :: bs,p,h=>by
  simp only [rd] at h
  split at h
  ·obtain ⟨q,h1,rfl⟩:=Option.map_eq_some_iff.1 h
   obtain ⟨_,h3,t,h4⟩:=rd_spec h1
   exact ⟨by simp,by simp; omega,t,by rw [h4]; rfl⟩
  ·cases h
   exact ⟨by simp,by simp,bs,rfl⟩
theorem dec_some {bs:List Nat} {n:Int} {k:Nat} (h:dec bs = some (n,k)):-maxI≤n∧k = (grpN (zig n)).length∧∃ t,bs = grpN (zig n)++t:=by
 unfold dec at h
 split at h
 ·rename_i p hp
  split at h
  ·rename_i hc
   simp only [Option.some.injEq,Prod.mk.injEq] at h
   obtain ⟨rfl,rfl⟩:=h
   obtain ⟨_,_,t,ht⟩:=rd_spec hp
   exact ⟨hc.2,by rw [zig_zag,hc.1],t,by rw [zig_zag,hc.1]; exact ht⟩
  ·cases h
 ·cases h
theorem val_lt:∀ (p:List Nat),val p < 128 ^ p.length
 | []=>by simp [val]
 | b :: p=>by
  have:=val_lt p
  simp only [val,List.length_cons,Nat.pow_succ]
  omega
theorem dec_le {bs : List Nat} {n : Int} {k : Nat} (h : dec bs = some (n, k)) : n ≤ maxI := by
  unfold dec at h
  split at h
  · rename_i p hp
    split at h
    · simp only [Option.some.injEq, Prod.mk.injEq] at h
      obtain ⟨rfl, rfl⟩ := h
      have h1 := val_lt p
      have h2 := (rd_spec hp).2.1
      have h3 : 128 ^ p.length ≤ 128 ^ 9 := Nat.pow_le_pow_right (by decide) h2
      have h4 : val p < 2 ^ 63 := by have : (128 : Nat) ^ 9 = 2 ^ 63 := by decide
                                     omega
      unfold zag maxI
      split <;> omega
    · cases h
  · cases h
theorem canon:∀ {k:Nat} {bs p:List Nat},rd k bs = some p→(∀ b∈bs,b < 256)→(grpN (val p) = p ↔ (p.length = 1 ∨ p.getLast? ≠ some 0)):=by
 intro k
 induction k with
 | zero=>intro bs p h; cases h
 | succ k ih =>
  intro bs p h hb
  cases bs with
  | nil=>cases h
  | cons b bs =>
   simp only [rd] at h
   split at h
   ·rename_i h128
    obtain ⟨q,h1,rfl⟩:=Option.map_eq_some_iff.1 h
    have hq:=(rd_spec h1).1
    have hi:=ih h1 (fun x hx=>hb x (List.mem_cons_of_mem _ hx))
    have hb256:=hb b (List.mem_cons_self ..)
    have hlast:(b :: q).getLast? = q.getLast?:=by
     cases q with
     | nil=>exact (hq rfl).elim
     | cons c q=>simp [List.getLast?_cons_cons]
    have hlen:(b :: q).length ≠ 1:=by
     cases q with
     | nil=>exact (hq rfl).elim
     | cons c q=>simp
    rw [hlast]
    simp only [val]
    by_cases hv:val q = 0
    ·-- all is nothing
     have hne:grpN (b % 128 + 128 * val q) ≠ b :: q:=by
      rw [hv,grpN_lt (by omega)]
      intro e
      simp only [List.cons.injEq] at e
      exact hq e.2.symm
     have hz:q.getLast? = some 0:=by
      have aux:∀ l:List Nat,l ≠ []→val l = 0→(∀ x,l.getLast? = some x→x < 128)→l.getLast? = some 0:=by
       intro l
       induction l with
       | nil=>intro h; exact (h rfl).elim
       | cons c l ih2 =>
        intro _ hv hx
        cases l with
        | nil =>
         have:=hx c rfl
         simp only [val] at hv
         simp; omega
        | cons d l =>
         rw [List.getLast?_cons_cons] at hx ⊢
         simp only [val] at hv
         exact ih2 (by simp) (by simp only [val]; omega) hx
      refine aux q hq hv ?_
      have last:∀ {k:Nat} {bs p:List Nat},rd k bs = some p→∀ x,p.getLast? = some x→x < 128:=by
       intro k
       induction k with
       | zero=>intro bs p h; cases h
       | succ k ih3 =>
        intro bs p h x hx
        cases bs with
        | nil=>cases h
        | cons b bs =>
         simp only [rd] at h
         split at h
         ·obtain ⟨q,h1,rfl⟩:=Option.map_eq_some_iff.1 h
          refine ih3 h1 x ?_
          cases q with
          | nil=>exact ((rd_spec h1).1 rfl).elim
          | cons c q=>simpa [List.getLast?_cons_cons] using hx
         ·cases h
          simp at hx
          omega
      exact last h1
     exact ⟨fun e=>(hne e).elim,fun e=>(e.elim hlen (fun e=>e hz)).elim⟩
    ·have hge:¬ (b % 128 + 128 * val q) < 128:=by omega
     rw [grpN_ge hge]
     have e1:(b % 128 + 128 * val q) % 128 + 128 = b:=by omega
     have e2:(b % 128 + 128 * val q) / 128 = val q:=by omega
     rw [e1,e2,List.cons.injEq]
     simp only [true_and,hi]
     constructor
     ·rintro (h1' | h1')
      ·right
       match q,h1' with
       | [c],_ =>
        simp only [val] at hv
        simp
        intro hc
        subst hc
        simp at hv
      ·exact .inr h1'
     ·rintro (h1' | h1')
      ·exact (hlen h1').elim
      ·exact .inr h1'
   ·rename_i h128
    cases h
    have:val [b] = b:=by simp only [val]; omega
    rw [this,grpN_lt (by omega)]
    simp
end Go.V.G
namespace Go.V.G
open Go.Proofs
theorem and127b (b:Nat) (h:b < 256):IntKind.wrap .u64 (andV .u8 (b:Int) 127) = ((b % 128:Nat):Int):=by
 unfold andV
 have e:(BitVec.ofInt IntKind.u8.bits (b:Int) &&& BitVec.ofInt IntKind.u8.bits 127).toNat = b % 128:=by
  have h127:(BitVec.ofInt 8 127).toNat = 127:=by decide
  show (BitVec.ofInt 8 (b:Int) &&& BitVec.ofInt 8 127).toNat = _
  rw [BitVec.toNat_and,h127,BitVec.ofInt_natCast,BitVec.toNat_ofNat,Nat.mod_eq_of_lt (by omega)]
  exact Nat.and_two_pow_sub_one_eq_mod b 7
 rw [e,wrap_u8 _ (by omega) (by omega),wrap_u64 _ (by omega) (by omega)]
theorem and1 (z:Nat) (h:z < 2 ^ 64):andV .u64 (z:Int) 1 = ((z % 2:Nat):Int):=by
 unfold andV
 have e:(BitVec.ofInt IntKind.u64.bits (z:Int) &&& BitVec.ofInt IntKind.u64.bits 1).toNat = z % 2:=by
  have h1:(BitVec.ofInt 64 1).toNat = 1:=by decide
  show (BitVec.ofInt 64 (z:Int) &&& BitVec.ofInt 64 1).toNat = _
  rw [BitVec.toNat_and,h1,BitVec.ofInt_natCast,BitVec.toNat_ofNat,Nat.mod_eq_of_lt h]
  exact Nat.and_two_pow_sub_one_eq_mod z 1
 rw [e,wrap_u64 _ (by omega) (by omega)]
theorem pow_128 (i:Nat):(2:Nat) ^ (7 * i) = 128 ^ i:=by rw [Nat.pow_mul]
theorem pow_le {i:Nat} (h:i≤8):(128:Nat) ^ i≤72057594037927936:=by
 have:=Nat.pow_le_pow_right (n:=128) (by decide) h
 exact Nat.le_trans this (by decide)
theorem mul_lt (c i:Nat) (hc:c < 128) (hi:i≤8):c * 128 ^ i < 9223372036854775808:=by
 have h1:=pow_le hi
 have h2:c * 128 ^ i≤127 * 72057594037927936:=Nat.mul_le_mul (by omega) h1
 omega
theorem shl7 (c i:Nat) (hc:c < 128) (hi:i≤8):shlV .u64 (c:Int) ((7 * i:Nat):Int) = ((c * 128 ^ i:Nat):Int):=by
 unfold shlV
 have e1:min (((7 * i:Nat):Int).toNat) IntKind.u64.bits = 7 * i:=by
  show min (((7 * i:Nat):Int).toNat) 64 = 7 * i
  rw [Int.toNat_natCast]
  omega
 rw [e1]
 have e2:(c:Int) * 2 ^ (7 * i) = ((c * 128 ^ i:Nat):Int):=by
  rw [← pow_128]
  push_cast
  rfl
 rw [e2]
 have:=mul_lt c i hc hi
 exact wrap_u64 _ (by omega) (by omega)
theorem or_add (z c i:Nat) (hz:z < 128 ^ i) (hc:c < 128) (hi:i≤8):orV .u64 (z:Int) ((c * 128 ^ i:Nat):Int) = ((z + c * 128 ^ i:Nat):Int):=by
 unfold orV
 have hm:=mul_lt c i hc hi
 have hp:=pow_le hi
 have hsum:z + c * 128 ^ i < 9223372036854775808:=by
  have h1:z + c * 128 ^ i < 128 ^ i + c * 128 ^ i:=by omega
  have h2:128 ^ i + c * 128 ^ i = (c + 1) * 128 ^ i:=by rw [Nat.add_mul,Nat.one_mul,Nat.add_comm]
  have h3:(c + 1) * 128 ^ i≤128 * 72057594037927936:=Nat.mul_le_mul (by omega) hp
  omega
 have e:(BitVec.ofInt IntKind.u64.bits (z:Int) ||| BitVec.ofInt IntKind.u64.bits ((c * 128 ^ i:Nat):Int)).toNat = z + c * 128 ^ i:=by
  show (BitVec.ofInt 64 (z:Int) ||| BitVec.ofInt 64 ((c * 128 ^ i:Nat):Int)).toNat = _
  rw [BitVec.toNat_or,BitVec.ofInt_natCast,BitVec.ofInt_natCast,BitVec.toNat_ofNat,BitVec.toNat_ofNat,Nat.mod_eq_of_lt (by omega),Nat.mod_eq_of_lt (by omega),Nat.or_comm]
  have:=Nat.two_pow_add_eq_or_of_lt (i:=7 * i) (b:=z) (by rw [pow_128]; exact hz) c
  rw [pow_128,Nat.mul_comm] at this
  rw [← this,Nat.add_comm]
 rw [e,wrap_u64 _ (by omega) (by omega)]
theorem unzig (z:Nat) (h:z < 2 ^ 63):xorV .i64 (IntKind.wrap .i64 (shrV .u64 (z:Int) 1)) (IntKind.wrap .i64 (0 - IntKind.wrap .i64 (andV .u64 (z:Int) 1))) = zag z:=by
 have e1:shrV .u64 (z:Int) 1 = ((z / 2:Nat):Int):=by
  unfold shrV
  rw [Int.fdiv_eq_ediv_of_nonneg _ (by decide)]
  rfl
 rw [e1,and1 z (by omega),wrap_i64 _ (by omega) (by omega),wrap_i64 ((z % 2:Nat):Int) (by omega) (by omega)]
 have hm:z % 2 = 0 ∨ z % 2 = 1:=by omega
 have hb:(BitVec.ofInt 64 ((z / 2:Nat):Int)).toNat = z / 2:=by
  rw [BitVec.ofInt_natCast,BitVec.toNat_ofNat,Nat.mod_eq_of_lt (by omega)]
 rcases hm with hm | hm
 ·rw [hm]
  have e2:IntKind.wrap .i64 (0 - ((0:Nat):Int)) = 0:=by decide
  rw [e2]
  unfold xorV
  have e3:(BitVec.ofInt IntKind.i64.bits ((z / 2:Nat):Int) ^^^ BitVec.ofInt IntKind.i64.bits 0).toNat = z / 2:=by
   show (BitVec.ofInt 64 ((z / 2:Nat):Int) ^^^ BitVec.ofInt 64 0).toNat = _
   have ha:BitVec.ofInt 64 0 = 0#64:=by decide
   rw [ha,BitVec.xor_zero,hb]
  rw [e3,wrap_i64 _ (by omega) (by omega)]
  unfold zag
  rw [if_neg (by omega)]
 ·rw [hm]
  have e2:IntKind.wrap .i64 (0 - ((1:Nat):Int)) = -1:=by decide
  rw [e2]
  unfold xorV
  have e3:(BitVec.ofInt IntKind.i64.bits ((z / 2:Nat):Int) ^^^ BitVec.ofInt IntKind.i64.bits (-1)).toNat = 2 ^ 64 - 1 - z / 2:=by
   show (BitVec.ofInt 64 ((z / 2:Nat):Int) ^^^ BitVec.ofInt 64 (-1)).toNat = _
   have ha:BitVec.ofInt 64 (-1) = BitVec.allOnes 64:=by decide
   rw [ha,BitVec.xor_allOnes,BitVec.toNat_not,hb]
  rw [e3]
  have e4:IntKind.wrap .i64 ((2 ^ 64 - 1 - z / 2:Nat):Int) = -((z / 2:Nat):Int) - 1:=by
   simp [IntKind.wrap,IntKind.bits,IntKind.signed]
   omega
  rw [e4]
  unfold zag
  rw [if_pos hm]
theorem byteAt_nb (s:ByteArray) (i:Nat) (h:i < s.size):byteAt s (i:Int) = ((nbytes s)[i]'(by rw [nbytes_len]; exact h):Nat):=by
 unfold byteAt nbytes
 rw [Int.toNat_natCast,List.getElem_map,List.getD_eq_getElem?_getD,List.getElem?_eq_getElem (by simpa using h)]
 rfl
theorem nb_lt (s:ByteArray):∀ b∈nbytes s,b < 256:=by
 intro b hb
 obtain ⟨x,_,rfl⟩:=List.mem_map.1 hb
 exact x.toNat_lt
theorem int_loop (s:ByteArray) (hs:s.size≤1099511627776) (a:Nat) (ha:a≤s.size):∀ (j i z:Nat),i + j = 9→z < 128 ^ i →
  f118_l5 s (a:Int) (j + 1) (z:Int) (i:Int) = match rd j ((nbytes s).drop (a + i)) with
   | none=>some (.inl ((),(),()))
   | some p=>if (p.getLast? = some 0∧i + p.length ≠ 1) ∨ zag (z + 128 ^ i * val p) < -maxI then some (.inl ((),(),()))
     else some (.inr ((zag (z + 128 ^ i * val p),((a + i + p.length:Nat):Int),0,()),(),())):=by
 intro j
 induction j with
 | zero =>
  intro i z hi hz
  have:i = 9:=by omega
  subst this
  unfold f118_l5
  rfl
 | succ j ih =>
  intro i z hi hz
  have e0:decide ((i:Int) < 9) = true:=by simp; omega
  have e1:IntKind.wrap .i64 ((a:Int) + (i:Int)) = ((a + i:Nat):Int):=by rw [wrap_i64 _ (by omega) (by omega)]; omega
  unfold f118_l5
  simp only [e0,cond_true,e1]
  by_cases hsz:a + i < s.size
  ·have e2:decide (((a + i:Nat):Int) ≥ (s.size:Int)) = false:=by simp; omega
   have e3:inR ((a + i:Nat):Int) s.size = true:=by unfold inR; simp; omega
   have e4:IntKind.wrap .i64 (7 * (i:Int)) = ((7 * i:Nat):Int):=by rw [wrap_i64 _ (by omega) (by omega)]; omega
   have e5:decide (0≤((7 * i:Nat):Int)) = true:=by simp; omega
   obtain ⟨b,hb⟩:∃ b,(nbytes s)[a + i]'(by rw [nbytes_len]; exact hsz) = b:=⟨_,rfl⟩
   have hb256:b < 256:=by rw [← hb]; exact nb_lt s _ (List.getElem_mem _)
   have hdrop:(nbytes s).drop (a + i) = b :: (nbytes s).drop (a + (i + 1)):=by
    rw [List.drop_eq_getElem_cons (by rw [nbytes_len]; exact hsz),hb,Nat.add_assoc]
   simp only [e2,e3,e4,e5,cond_false,cond_true,byteAt_nb s _ hsz,hb,and127b b hb256,shl7 (b % 128) i (by omega) (by omega),or_add z (b % 128) i hz (by omega) (by omega)]
   rw [hdrop]
   have hz':z + b % 128 * 128 ^ i < 128 ^ (i + 1):=by
    have h1:z + b % 128 * 128 ^ i < (b % 128 + 1) * 128 ^ i:=by rw [Nat.add_mul]; omega
    have h2:(b % 128 + 1) * 128 ^ i≤128 * 128 ^ i:=Nat.mul_le_mul_right _ (by omega)
    rw [Nat.pow_succ,Nat.mul_comm (128 ^ i)]
    omega
   by_cases h128:128≤b
   ·have e6:decide ((b:Int) ≥ 128) = true:=by simp; omega
    have e7:IntKind.wrap .i64 ((i:Int) + 1) = ((i + 1:Nat):Int):=by rw [wrap_i64 _ (by omega) (by omega)]; omega
    simp only [e6,cond_true,e7,ih (i + 1) (z + b % 128 * 128 ^ i) (by omega) hz']
    rw [rd,if_pos h128]
    cases hr:rd j ((nbytes s).drop (a + (i + 1))) with
    | none=>rfl
    | some p =>
     have hp:=(rd_spec hr).1
     simp only [Option.map_some]
     have hv:z + b % 128 * 128 ^ i + 128 ^ (i + 1) * val p = z + 128 ^ i * val (b :: p):=by
      simp only [val]
      rw [Nat.pow_succ,Nat.mul_add,Nat.add_assoc,Nat.mul_comm (b % 128),Nat.mul_assoc]
     have hl:(b :: p).getLast? = p.getLast?:=by
      cases p with
      | nil=>exact (hp rfl).elim
      | cons c p=>simp [List.getLast?_cons_cons]
     have hlen:a + (i + 1) + p.length = a + i + (b :: p).length:=by simp; omega
     have hlen2:i + 1 + p.length = i + (b :: p).length:=by simp; omega
     rw [hv,hl,hlen,hlen2]
   ·have e6:decide ((b:Int) ≥ 128) = false:=by simp; omega
    have hlt63:z + b % 128 * 128 ^ i < 2 ^ 63:=by
     have h3:(128:Nat) ^ (i + 1)≤128 ^ 9:=Nat.pow_le_pow_right (by decide) (by omega)
     have h4:(128:Nat) ^ 9 = 2 ^ 63:=by decide
     omega
    have hv:z + b % 128 * 128 ^ i = z + 128 ^ i * val [b]:=by simp only [val]; rw [Nat.mul_zero,Nat.add_zero,Nat.mul_comm]
    have e8:IntKind.wrap .i64 (((a + i:Nat):Int) + 1) = ((a + i + 1:Nat):Int):=by rw [wrap_i64 _ (by omega) (by omega)]; omega
    simp only [e6,cond_false,unzig _ hlt63,e8]
    rw [rd,if_neg h128]
    simp only [List.getLast?_singleton,Option.some.injEq,List.length_singleton,← hv]
    generalize zag (z + b % 128 * 128 ^ i) = n
    by_cases hb0:b = 0
    ·subst hb0
     by_cases hi0:i = 0
     ·subst hi0
      by_cases hn:n < -4611686018427387903
      ·simp [hn,maxI]
      ·simp [hn,maxI]
     ·have hpos:0 < i:=by omega
      simp [hpos,hi0]
    ·have hbz:¬ ((b:Int) = 0):=by omega
     by_cases hn:n < -4611686018427387903
     ·simp [hn,maxI,hb0,hbz]
     ·simp [hn,maxI,hb0,hbz]
  ·have e2:decide (((a + i:Nat):Int) ≥ (s.size:Int)) = true:=by simp; omega
   have hdrop:(nbytes s).drop (a + i) = []:=List.drop_of_length_le (by rw [nbytes_len]; omega)
   simp only [e2,cond_true,hdrop]
   rfl
theorem f118_eq (s : ByteArray) (hs : s.size ≤ 1099511627776) (a : Nat) (ha : a ≤ s.size) :
    f118 s (a : Int) = match dec ((nbytes s).drop a) with
      | some (n, k) => some (n, ((a + k : Nat) : Int), 0, ())
      | none => some (0, 0, 10, ()) := by
  have e1 : decide ((a : Int) < 0) = false := by simp
  have e2 : decide ((a : Int) > (s.size : Int)) = false := by simp; omega
  have h := int_loop s hs a ha 9 0 0 rfl (by decide)
  unfold f118
  simp only [e1, e2, cond_false]
  have h' : f118_l5 s (a : Int) (((9 : Int) - (0 : Int)).toNat + 1) (0 : Int) (0 : Int) = _ := h
  rw [h']
  simp only [Nat.add_zero, Nat.zero_add, Nat.pow_zero, Nat.one_mul]
  unfold dec
  cases hr : rd 9 ((nbytes s).drop a) with
  | none => rfl
  | some p =>
    have hb : ∀ b ∈ (nbytes s).drop a, b < 256 := fun b hb => nb_lt s b (List.mem_of_mem_drop hb)
    have hc := canon hr hb
    simp only
    by_cases h1 : grpN (val p) = p
    · have h1' := hc.1 h1
      by_cases h2 : -maxI ≤ zag (val p)
      · rw [if_neg (by rintro (⟨h3, h4⟩ | h3); · exact h1'.elim h4 (fun h => h h3)
                       · omega), if_pos ⟨h1, h2⟩]
        rfl
      · rw [if_pos (.inr (by omega)), if_neg (fun h => h2 h.2)]
        rfl
    · have h3 : p.getLast? = some 0 ∧ p.length ≠ 1 := by
        refine Classical.byContradiction fun hn => h1 (hc.2 ?_)
        by_cases h4 : p.length = 1
        · exact .inl h4
        · exact .inr fun h5 => hn ⟨h5, h4⟩
      rw [if_pos (.inl h3), if_neg (fun h => h1 h.1)]
      rfl
end Go.V.G
namespace Go.V.G
open Go.Proofs
end Go.V.G
namespace Go.V.G
open Go.Proofs
theorem atN (T:Ty) (l:List T.den) (j:Nat) (h:j < l.length):at_ T l (j:Int) = l[j]:=by
 unfold at_
 rw [Int.toNat_natCast,List.getD_eq_getElem?_getD,List.getElem?_eq_getElem h]
 rfl
theorem inRN (j n:Nat):inR (j:Int) n = decide (j < n):=by
 unfold inR
 by_cases h:j < n <;> simp [h]
theorem wI (n:Nat) (h:n < 9223372036854775808):IntKind.wrap .i64 (n:Int) = (n:Int):=wrap_i64 _ (by omega) (by omega)
theorem wS (n:Nat) (h:n < 9223372036854775807):IntKind.wrap .i64 ((n:Int) + 1) = ((n + 1:Nat):Int):=by rw [wrap_i64 _ (by omega) (by omega)]; omega
def asc {α:Type} (f:α→Int):List α→Bool
 | []=>true
 | a :: l=>(match l with | []=>true | b :: _=>decide (f a < f b)) && asc f l
theorem asc_two {α:Type} (f:α→Int) (a b:α) (l:List α):asc f (a :: b :: l) = (decide (f a < f b) && asc f (b :: l)):=rfl
theorem asc_short {α:Type} (f:α→Int) {l:List α} (h:l.length≤1):asc f l = true:=by
 match l,h with
 | [],_=>rfl
 | [a],_=>rfl
theorem asc_pairwise {α:Type} (f:α→Int):∀ {l:List α},asc f l = true ↔ l.Pairwise (fun a b=>f a < f b)
 | []=>by simp [asc]
 | [a]=>by simp [asc]
 | a :: b :: l=>by
  rw [asc_two,Bool.and_eq_true,decide_eq_true_eq,asc_pairwise (l:=b :: l),List.pairwise_cons (a:=a)]
  constructor
  ·rintro ⟨h1,h2⟩
   refine ⟨fun c hc=>?_,h2⟩
   rcases List.mem_cons.1 hc with rfl | hc
   ·exact h1
   ·exact Int.lt_trans h1 ((List.pairwise_cons.1 h2).1 c hc)
  ·rintro ⟨h1,h2⟩
   exact ⟨h1 b (List.mem_cons_self ..),h2⟩
section
variable {α:Type} {R:Type}
theorem asc_loop (T:Ty) (f:T.den→Int) (F:Nat→Int→Option R) (yes no:R) (l:List T.den) (hl:l.length≤1099511627776)
  (hF:∀ k (j:Nat),1≤j→F (k + 1) (j:Int) = if h:j < l.length then (if f (l[j - 1]'(by omega)) ≥ f l[j] then some no else F k ((j + 1:Nat):Int)) else some yes) :
  ∀ (m k j:Nat),l.length - j≤m→m < k→1≤j→F k (j:Int) = some (if asc f (l.drop (j - 1)) then yes else no):=by
 intro m
 induction m with
 | zero =>
  intro k j h1 h2 h3
  obtain ⟨k,rfl⟩:∃ q,k = q + 1:=⟨k - 1,by omega⟩
  rw [hF k j h3,dif_neg (by omega)]
  have:asc f (l.drop (j - 1)) = true:=asc_short f (by rw [List.length_drop]; omega)
  rw [this]
  rfl
 | succ m ih =>
  intro k j h1 h2 h3
  obtain ⟨k,rfl⟩:∃ q,k = q + 1:=⟨k - 1,by omega⟩
  rw [hF k j h3]
  by_cases h:j < l.length
  ·rw [dif_pos h]
   have hd:l.drop (j - 1) = l[j - 1]'(by omega) :: l[j] :: l.drop (j + 1):=by
    rw [List.drop_eq_getElem_cons (by omega:j - 1 < l.length)]
    have:j - 1 + 1 = j:=by omega
    rw [this,List.drop_eq_getElem_cons h]
   have hd2:l.drop j = l[j] :: l.drop (j + 1):=List.drop_eq_getElem_cons h
   rw [hd,asc_two,← hd2]
   by_cases hc:f (l[j - 1]'(by omega)) ≥ f l[j]
   ·rw [if_pos hc]
    have:decide (f (l[j - 1]'(by omega)) < f l[j]) = false:=by simp; omega
    rw [this,Bool.false_and]
    rfl
   ·rw [if_neg hc,ih k (j + 1) (by omega) (by omega) (by omega),Nat.add_sub_cancel]
    have:decide (f (l[j - 1]'(by omega)) < f l[j]) = true:=by simp; omega
    rw [this,Bool.true_and]
  ·rw [dif_neg h]
   have:asc f (l.drop (j - 1)) = true:=asc_short f (by rw [List.length_drop]; omega)
   rw [this]
   rfl
end
theorem pred_wrap (j:Nat) (h1:1≤j) (h2:j < 9223372036854775807):IntKind.wrap .i64 ((j:Int) - 1) = ((j - 1:Nat):Int):=by
 rw [wrap_i64 _ (by omega) (by omega)]
 omega
abbrev kV (x:Vx):Int:=x.1
abbrev kE (x:Ed):Int:=x.1
abbrev kI (x:Int):Int:=x
theorem f98_eq (l:List Vx) (hl:l.length≤1099511627776):f98 l = some ((asc kV l,()),()):=by
 have h:=asc_loop tV (kV:Vx→Int) (fun k j=>f98_l2 l k j) (.inl ((),((),()),())) (.inr ((false,()),((),()),())) l hl (by
  intro k j hj
  show f98_l2 l (k + 1) (j:Int) = _
  conv=>lhs; unfold f98_l2
  by_cases h:j < l.length
  ·have e1:decide ((j:Int) < (l.length:Int)) = true:=by simp; omega
   rw [dif_pos h]
   simp only [e1,cond_true,pred_wrap j hj (by omega),inRN,wS j (by omega)]
   rw [dT (by omega:j - 1 < l.length),dT h]
   simp only [cond_true]
   rw [atN tV l (j - 1) (by omega),atN tV l j h]
   by_cases hc:kV (l[j - 1]'(by omega)) ≥ kV l[j]
   ·rw [if_pos hc,dT hc]; rfl
   ·rw [if_neg hc,dF hc]; rfl
  ·have e1:decide ((j:Int) < (l.length:Int)) = false:=by simp; omega
   rw [dif_neg h]
   simp only [e1,cond_false])
 have h2:=h (l.length - 1) (((l.length:Int) - (1:Int)).toNat + 1) 1 (by omega) (by omega) (by omega)
 unfold f98
 have h3:f98_l2 l (((l.length:Int) - (1:Int)).toNat + 1) (1:Int) = _:=h2
 rw [h3]
 simp only [Nat.sub_self,List.drop_zero,Option.bind_some]
 cases asc (kV:Vx→Int) l <;> rfl
theorem f100_eq (l:List Ed) (hl:l.length≤1099511627776):f100 l = some ((asc kE l,()),()):=by
 have h:=asc_loop tE (kE:Ed→Int) (fun k j=>f100_l2 l k j) (.inl ((),((),()),())) (.inr ((false,()),((),()),())) l hl (by
  intro k j hj
  show f100_l2 l (k + 1) (j:Int) = _
  conv=>lhs; unfold f100_l2
  by_cases h:j < l.length
  ·have e1:decide ((j:Int) < (l.length:Int)) = true:=by simp; omega
   rw [dif_pos h]
   simp only [e1,cond_true,pred_wrap j hj (by omega),inRN,wS j (by omega)]
   rw [dT (by omega:j - 1 < l.length),dT h]
   simp only [cond_true]
   rw [atN tE l (j - 1) (by omega),atN tE l j h]
   by_cases hc:kE (l[j - 1]'(by omega)) ≥ kE l[j]
   ·rw [if_pos hc,dT hc]; rfl
   ·rw [if_neg hc,dF hc]; rfl
  ·have e1:decide ((j:Int) < (l.length:Int)) = false:=by simp; omega
   rw [dif_neg h]
   simp only [e1,cond_false])
 have h2:=h (l.length - 1) (((l.length:Int) - (1:Int)).toNat + 1) 1 (by omega) (by omega) (by omega)
 unfold f100
 have h3:f100_l2 l (((l.length:Int) - (1:Int)).toNat + 1) (1:Int) = _:=h2
 rw [h3]
 simp only [Nat.sub_self,List.drop_zero,Option.bind_some]
 cases asc (kE:Ed→Int) l <;> rfl
theorem f161_eq (l:List Int) (hl:l.length≤1099511627776):f161 l = some ((asc kI l,()),()):=by
 have h:=asc_loop tI (kI:Int→Int) (fun k j=>f161_l2 l k j) (.inl ((),((),()),())) (.inr ((false,()),((),()),())) l hl (by
  intro k j hj
  show f161_l2 l (k + 1) (j:Int) = _
  conv=>lhs; unfold f161_l2
  by_cases h:j < l.length
  ·have e1:decide ((j:Int) < (l.length:Int)) = true:=by simp; omega
   rw [dif_pos h]
   simp only [e1,cond_true,pred_wrap j hj (by omega),inRN,wS j (by omega)]
   rw [dT (by omega:j - 1 < l.length),dT h]
   simp only [cond_true]
   rw [atN tI l (j - 1) (by omega),atN tI l j h]
   by_cases hc:kI (l[j - 1]'(by omega)) ≥ kI l[j]
   ·rw [if_pos hc,dT hc]; rfl
   ·rw [if_neg hc,dF hc]; rfl
  ·have e1:decide ((j:Int) < (l.length:Int)) = false:=by simp; omega
   rw [dif_neg h]
   simp only [e1,cond_false])
 have h2:=h (l.length - 1) (((l.length:Int) - (1:Int)).toNat + 1) 1 (by omega) (by omega) (by omega)
 unfold f161
 have h3:f161_l2 l (((l.length:Int) - (1:Int)).toNat + 1) (1:Int) = _:=h2
 rw [h3]
 simp only [Nat.sub_self,List.drop_zero,Option.bind_some]
 cases asc (kI:Int→Int) l <;> rfl
end Go.V.G
namespace Go.V.G
open Go.Proofs
section
variable {R:Type}
theorem find_loop (T:Ty) (ok:T.den→Bool) (F:Nat→Int→Option R) (yes:R) (no:Nat→R) (l:List T.den)
  (hF:∀ k (j:Nat),F (k + 1) (j:Int) = if h:j < l.length then (if ok l[j] = true then F k ((j + 1:Nat):Int) else some (no j)) else some yes) :
  ∀ (m k j:Nat),l.length - j≤m→m < k→((l.drop j).all ok = true∧F k (j:Int) = some yes) ∨ ((l.drop j).all ok = false∧∃ i,j≤i∧i < l.length∧F k (j:Int) = some (no i)):=by
 intro m
 induction m with
 | zero =>
  intro k j h1 h2
  obtain ⟨k,rfl⟩:∃ q,k = q + 1:=⟨k - 1,by omega⟩
  rw [hF k j,dif_neg (by omega),List.drop_of_length_le (by omega)]
  exact .inl ⟨rfl,rfl⟩
 | succ m ih =>
  intro k j h1 h2
  obtain ⟨k,rfl⟩:∃ q,k = q + 1:=⟨k - 1,by omega⟩
  rw [hF k j]
  by_cases h:j < l.length
  ·rw [dif_pos h,List.drop_eq_getElem_cons h,List.all_cons]
   cases hok:ok l[j] with
   | true =>
    simp only [if_true,Bool.true_and]
    rcases ih k (j + 1) (by omega) (by omega) with h3 | ⟨h3,i,h4,h5,h6⟩
    ·exact .inl h3
    ·exact .inr ⟨h3,i,by omega,h5,h6⟩
   | false =>
    simp only [Bool.false_eq_true,if_false,Bool.false_and]
    exact .inr ⟨trivial,j,Nat.le_refl _,h,rfl⟩
  ·rw [dif_neg h,List.drop_of_length_le (by omega)]
   exact .inl ⟨rfl,rfl⟩
end
def hasV (vs:List Vx) (id:Int):Bool:=vs.any fun v=>decide (v.1 = id)
theorem f199_eq (a b:Int):f199 a b = some (if a < b then -1 else if a = b then 0 else 1,()):=by
 unfold f199
 simp only [ne_eq,not_true_eq_false,decide_false,cond_false]
 by_cases h1:a < b
 ·rw [dT h1,if_pos h1]; rfl
 ·rw [dF h1,if_neg h1]
  by_cases h2:a > b
  ·have h3:¬ a = b:=by omega
   simp only [cond_false,dT h2,cond_true,if_neg h3]
  ·have h3:a = b:=by omega
   simp only [cond_false,dF h2,if_pos h3]
theorem search_loop (l:List Vx) (hl:l.length≤1099511627776) (id n:Int) (q1:Int) (q2 q3:Bool) (g0:List Vx) (g1:List Ed) (g2:List Int) (ha:l.Pairwise (fun a b=>a.1 < b.1)) :
  ∀ (m k lo hi:Nat),hi - lo≤m→m < k→lo≤hi→hi≤l.length→(∀ i (h:i < l.length),i < lo→l[i].1 < id)→(∀ i (h:i < l.length),hi≤i→id≤l[i].1) →
   ∃ p:Nat,p≤l.length∧(∀ i (h:i < l.length),i < p→l[i].1 < id)∧(∀ i (h:i < l.length),p≤i→id≤l[i].1) ∧
    f202_l3x l id n q1 q2 q3 g0 g1 g2 k (lo:Int) (hi:Int) = some ((l,id,n,(p:Int),()),((q1,q2,()),(q3,()),(),()),((g0,g1,g2,()),())):=by
 intro m
 induction m with
 | zero =>
  intro k lo hi h1 h2 h3 h4 h5 h6
  obtain ⟨k,rfl⟩:∃ q,k = q + 1:=⟨k - 1,by omega⟩
  have:lo = hi:=by omega
  subst this
  refine ⟨lo,h4,h5,h6,?_⟩
  unfold f202_l3x
  have e:decide ((lo:Int) < (lo:Int)) = false:=by simp
  simp only [e,cond_false]
  rfl
 | succ m ih =>
  intro k lo hi h1 h2 h3 h4 h5 h6
  obtain ⟨k,rfl⟩:∃ q,k = q + 1:=⟨k - 1,by omega⟩
  by_cases hlt:lo < hi
  ·have e1:decide ((lo:Int) < (hi:Int)) = true:=by simp; omega
   have w1:IntKind.wrap .i64 ((lo:Int) + (hi:Int)) = ((lo + hi:Nat):Int):=by rw [wrap_i64 _ (by omega) (by omega)]; omega
   have w2:IntKind.wrap .u64 ((lo + hi:Nat):Int) = ((lo + hi:Nat):Int):=wrap_u64 _ (by omega) (by omega)
   have w3:shrV .u64 ((lo + hi:Nat):Int) 1 = (((lo + hi) / 2:Nat):Int):=by
    unfold shrV
    rw [Int.fdiv_eq_ediv_of_nonneg _ (by decide)]
    rfl
   have w4:IntKind.wrap .i64 (((lo + hi) / 2:Nat):Int) = (((lo + hi) / 2:Nat):Int):=wI _ (by omega)
   have hmid:(lo + hi) / 2 < l.length:=by omega
   generalize hc:(lo + hi) / 2 = c at *
   have e2:inR (c:Int) l.length = true:=by rw [inRN,dT hmid]
   have w5:IntKind.wrap .i64 ((c:Int) + 1) = ((c + 1:Nat):Int):=wS c (by omega)
   have hp:=List.pairwise_iff_getElem.1 ha
   unfold f202_l3x
   simp only [e1,cond_true,w1,w2,w3,hc,w4,e2,w5,f199_eq,Option.bind_some]
   have hget:at_ tV l (c:Int) = l[c]:=atN tV l c hmid
   rw [hget]
   by_cases hl1:l[c].1 < id
   ·rw [if_pos hl1]
    have:decide ((-1:Int) < 0) = true:=by decide
    simp only [this,cond_true]
    refine ih k (c + 1) hi (by omega) (by omega) (by omega) h4 (fun i hi' hic=>?_) h6
    by_cases hic2:i = c
    ·subst hic2; exact hl1
    ·exact Int.lt_trans (hp i c hi' hmid (by omega)) hl1
   ·rw [if_neg hl1]
    have:decide ((if l[c].1 = id then (0:Int) else 1) < 0) = false:=by split <;> decide
    simp only [this,cond_false]
    refine ih k lo c (by omega) (by omega) (by omega) (by omega) h5 (fun i hi' hic=>?_)
    by_cases hic2:i = c
    ·subst hic2; omega
    ·have:=hp c i hmid hi' (by omega)
     omega
  ·have:lo = hi:=by omega
   subst this
   refine ⟨lo,h4,h5,h6,?_⟩
   unfold f202_l3x
   have e:decide ((lo:Int) < (lo:Int)) = false:=by simp
   simp only [e,cond_false]
   rfl
theorem f104_eq (vs:List Vx) (hl:vs.length≤1099511627776) (es:List Ed) (ds:List Int) (ha:asc kV vs = true) (id:Int):f104 id vs es ds = some ((hasV vs id,()),((vs,es,ds,()),())):=by
 have hp:=(asc_pairwise kV).1 ha
 obtain ⟨p,h1,h2,h3,h4⟩:=search_loop vs hl id (vs.length:Int) 0 false false vs es ds hp vs.length (((vs.length:Int) - (0:Int)).toNat + 1) 0 vs.length (by omega) (by omega) (by omega) (Nat.le_refl _) (fun i _ h=>by omega) (fun i h h'=>by omega)
 unfold f104
 have h4':f202_l3x vs id (vs.length:Int) (0:Int) false false vs es ds (((vs.length:Int) - (0:Int)).toNat + 1) (0:Int) (vs.length:Int) = _:=h4
 rw [h4']
 show (bif (decide ((p:Int) < (vs.length:Int))) then (bif (inR (p:Int) vs.length) then (f199 (at_ tV vs (p:Int)).1 id).bind fun y17=>some (((decide (y17.1 = (0:Int))),()),((vs,es,ds,()),())) else none) else some ((false,()),((vs,es,ds,()),()))) = _
 by_cases hlt:p < vs.length
 ·have e1:decide ((p:Int) < (vs.length:Int)) = true:=by simp; omega
  rw [e1,inRN,dT hlt,cond_true,cond_true,atN tV vs p hlt,f199_eq,Option.bind_some]
  have hge:=h3 p hlt (Nat.le_refl _)
  rw [if_neg (by omega)]
  by_cases he:vs[p].1 = id
  ·rw [if_pos he]
   have:hasV vs id = true:=List.any_eq_true.2 ⟨vs[p],List.getElem_mem _,by simp [he]⟩
   rw [this]
   rfl
  ·rw [if_neg he]
   have:hasV vs id = false:=by
    rw [← Bool.not_eq_true]
    intro h
    obtain ⟨v,hv,e⟩:=List.any_eq_true.1 h
    obtain ⟨i,hi,rfl⟩:=List.getElem_of_mem hv
    have e':vs[i].1 = id:=by simpa using e
    by_cases hip:i < p
    ·have:=h2 i hi hip; omega
    ·by_cases hip2:i = p
     ·subst hip2; exact he e'
     ·have:=List.pairwise_iff_getElem.1 hp p i hlt hi (by omega)
      simp only [kV] at this
      omega
   rw [this]
   rfl
 ·have e1:decide ((p:Int) < (vs.length:Int)) = false:=by simp; omega
  rw [e1,cond_false]
  have:hasV vs id = false:=by
   rw [← Bool.not_eq_true]
   intro h
   obtain ⟨v,hv,e⟩:=List.any_eq_true.1 h
   obtain ⟨i,hi,rfl⟩:=List.getElem_of_mem hv
   have e':vs[i].1 = id:=by simpa using e
   have:=h2 i hi (by omega)
   omega
  rw [this]
end Go.V.G
namespace Go.V.G
open Go.Proofs
def okV (v:Vx):Bool:=decide (0≤v.1) && decide (v.1≤23) && decide (0≤v.2.1) && decide (v.2.1≤3)
def okE (e:Ed):Bool:=decide (0≤e.1) && decide (e.1≤39) && decide (0≤e.2.1) && decide (e.2.1≤23) && decide (0≤e.2.2.1) && decide (e.2.2.1≤23) && decide (-1000≤e.2.2.2.2.1) && decide (e.2.2.2.2.1≤1000) && decide (0≤e.2.2.2.2.2.1) && decide (e.2.2.2.2.2.1≤1000)
def valid (g:Gr):Bool :=
 asc kV g.1 && asc kE g.2.1 && g.1.all okV && g.2.1.all (fun e=>okE e && hasV g.1 e.2.1 && hasV g.1 e.2.2.1) && decide (g.2.2.1.length≤3) && asc kI g.2.2.1 && g.2.2.1.all (hasV g.1)
theorem f105_eq (l:List Vx) (hl:l.length≤1099511627776):f105 l = some ((!l.all okV,()),()):=by
 have h:=find_loop tV okV (fun k j=>f115_l2_b7000 l (l.length:Int) false k j) (.inl ((),((false,()),(),()),())) (fun i=>.inr (((i:Int),()),((false,()),(),()),())) l (by
  intro k j
  show f115_l2_b7000 l (l.length:Int) false (k + 1) (j:Int) = _
  conv=>lhs; unfold f115_l2_b7000
  by_cases h:j < l.length
  ·have e1:decide ((j:Int) < (l.length:Int)) = true:=by simp; omega
   rw [dif_pos h]
   simp only [e1,cond_true,inRN,dT h,wS j (by omega)]
   rw [atN tV l j h]
   unfold okV
   by_cases h1:0≤l[j].1
   ·by_cases h2:l[j].1≤23
    ·by_cases h3:0≤l[j].2.1
     ·by_cases h4:l[j].2.1≤3
      ·simp [h1,h2,h3,h4]
      ·simp [h1,h2,h3,h4]
     ·simp [h1,h2,h3]
    ·simp [h1,h2]
   ·simp [h1]
  ·have e1:decide ((j:Int) < (l.length:Int)) = false:=by simp; omega
   rw [dif_neg h]
   simp only [e1,cond_false])
 have h2:=h l.length (((l.length:Int) - (0:Int)).toNat + 1) 0 (by omega) (by omega)
 rw [List.drop_zero] at h2
 unfold f105
 rcases h2 with ⟨h3,h4⟩ | ⟨h3,i,_,_,h4⟩
 ·have h5:f115_l2_b7000 l (l.length:Int) false (((l.length:Int) - (0:Int)).toNat + 1) (0:Int) = _:=h4
  rw [h5,h3]
  rfl
 ·have h5:f115_l2_b7000 l (l.length:Int) false (((l.length:Int) - (0:Int)).toNat + 1) (0:Int) = _:=h4
  rw [h5,h3]
  show some (((decide ((i:Int) ≥ 0)),()),()) = _
  simp
theorem f125_loop (vs:List Vx) (hl:vs.length≤1099511627776) (ha:asc kV vs = true) (es:List Ed) (ds:List Int) (hd:ds.length≤1099511627776) (k:Nat) (hk:ds.length < k) :
  (ds.all (hasV vs) = true∧f125_l2x ds (ds.length:Int) false false true k 0 vs es ds = some (.inl ((),((false,()),(false,true,()),(),()),((vs,es,ds,()),())))) ∨
  (ds.all (hasV vs) = false∧∃ i:Nat,f125_l2x ds (ds.length:Int) false false true k 0 vs es ds = some (.inr (((i:Int),()),((false,()),(false,true,()),(),()),((vs,es,ds,()),())))):=by
 have h:=find_loop tI (hasV vs) (fun k j=>f125_l2x ds (ds.length:Int) false false true k j vs es ds) (.inl ((),((false,()),(false,true,()),(),()),((vs,es,ds,()),()))) (fun i=>.inr (((i:Int),()),((false,()),(false,true,()),(),()),((vs,es,ds,()),()))) ds (by
  intro k j
  show f125_l2x ds (ds.length:Int) false false true (k + 1) (j:Int) vs es ds = _
  conv=>lhs; unfold f125_l2x
  by_cases h:j < ds.length
  ·have e1:decide ((j:Int) < (ds.length:Int)) = true:=by simp; omega
   rw [dif_pos h]
   simp only [e1,cond_true,inRN,dT h,wS j (by omega)]
   have hget:at_ tI ds (j:Int) = ds[j]:=atN tI ds j h
   rw [hget,f104_eq vs hl es ds ha,Option.bind_some]
   cases hh:hasV vs ds[j] with
   | true=>simp
   | false=>simp
  ·have e1:decide ((j:Int) < (ds.length:Int)) = false:=by simp; omega
   rw [dif_neg h]
   simp only [e1,cond_false])
 have h2:=h ds.length k 0 (by omega) hk
 rw [List.drop_zero] at h2
 rcases h2 with ⟨h3,h4⟩ | ⟨h3,i,_,_,h4⟩
 ·exact .inl ⟨h3,h4⟩
 ·exact .inr ⟨h3,i,h4⟩
theorem f108_eq (vs:List Vx) (hl:vs.length≤1099511627776) (ha:asc kV vs = true) (es:List Ed) (ds:List Int) (hd:ds.length≤1099511627776) :
  f108 vs es ds = some ((decide (ds.length≤3) && asc kI ds && ds.all (hasV vs),()),((vs,es,ds,()),())):=by
 unfold f108
 by_cases h3:ds.length≤3
 ·have e1:decide ((ds.length:Int)≤3) = true:=by simp; omega
  rw [dT h3]
  simp only [e1,cond_true,f161_eq ds hd,Option.bind_some,Bool.true_and]
  cases hasc:asc kI ds with
  | false=>rfl
  | true =>
   simp only [cond_true,Bool.true_and]
   rcases f125_loop vs hl ha es ds hd (((ds.length:Int) - (0:Int)).toNat + 1) (by omega) with ⟨h4,h5⟩ | ⟨h4,i,h5⟩
   ·rw [h5,h4]; rfl
   ·rw [h5,h4]
    show some ((!(decide ((i:Int) ≥ 0)),()),((vs,es,ds,()),())) = _
    simp
 ·have e1:decide ((ds.length:Int)≤3) = false:=by simp; omega
  rw [dF h3]
  simp only [e1,cond_false,Bool.false_and]
theorem f119_loop (vs:List Vx) (hl:vs.length≤1099511627776) (ha:asc kV vs = true) (es:List Ed) (ds:List Int) (he:es.length≤1099511627776) (k:Nat) (hk:es.length < k) :
  (es.all (fun e=>okE e && hasV vs e.2.1 && hasV vs e.2.2.1) = true∧f119_l2z es (es.length:Int) false false true k 0 vs es ds = some (.inl ((),((false,()),(false,true,()),()),((),(vs,es,ds,()),())))) ∨
  (es.all (fun e=>okE e && hasV vs e.2.1 && hasV vs e.2.2.1) = false∧∃ i:Nat,f119_l2z es (es.length:Int) false false true k 0 vs es ds = some (.inr (((i:Int),()),((false,()),(false,true,()),()),((),(vs,es,ds,()),())))):=by
 have h:=find_loop tE (fun e:Ed=>okE e && hasV vs e.2.1 && hasV vs e.2.2.1) (fun k j=>f119_l2z es (es.length:Int) false false true k j vs es ds) (.inl ((),((false,()),(false,true,()),()),((),(vs,es,ds,()),()))) (fun i=>.inr (((i:Int),()),((false,()),(false,true,()),()),((),(vs,es,ds,()),()))) es (by
  intro k j
  show f119_l2z es (es.length:Int) false false true (k + 1) (j:Int) vs es ds = _
  conv=>lhs; unfold f119_l2z
  by_cases h:j < es.length
  ·have e1:decide ((j:Int) < (es.length:Int)) = true:=by simp; omega
   rw [dif_pos h]
   simp only [e1,cond_true,inRN,dT h,wS j (by omega)]
   have hget:at_ tE es (j:Int) = es[j]:=atN tE es j h
   simp only [hget,f104_eq vs hl es ds ha,Option.bind_some]
   unfold okE
   by_cases h1:0≤es[j].1
   ·by_cases h2:es[j].1≤39
    ·by_cases h3:0≤es[j].2.1
     ·by_cases h4:es[j].2.1≤23
      ·by_cases h5:0≤es[j].2.2.1
       ·by_cases h6:es[j].2.2.1≤23
        ·by_cases h7:-1000≤es[j].2.2.2.2.1
         ·by_cases h8:es[j].2.2.2.2.1≤1000
          ·by_cases h9:0≤es[j].2.2.2.2.2.1
           ·by_cases h10:es[j].2.2.2.2.2.1≤1000
            ·cases hh:hasV vs es[j].2.1 with
             | false=>simp [h1,h2,h3,h4,h5,h6,h7,h8,h9,h10,hh]
             | true =>
              cases hh2:hasV vs es[j].2.2.1 with
              | false=>simp [h1,h2,h3,h4,h5,h6,h7,h8,h9,h10,hh,hh2]
              | true=>simp [h1,h2,h3,h4,h5,h6,h7,h8,h9,h10,hh,hh2]
            ·simp [h1,h2,h3,h4,h5,h6,h7,h8,h9,h10]
           ·simp [h1,h2,h3,h4,h5,h6,h7,h8,h9]
          ·simp [h1,h2,h3,h4,h5,h6,h7,h8]
         ·simp [h1,h2,h3,h4,h5,h6,h7]
        ·simp [h1,h2,h3,h4,h5,h6]
       ·simp [h1,h2,h3,h4,h5]
      ·simp [h1,h2,h3,h4]
     ·simp [h1,h2,h3]
    ·simp [h1,h2]
   ·simp [h1]
  ·have e1:decide ((j:Int) < (es.length:Int)) = false:=by simp; omega
   rw [dif_neg h]
   simp only [e1,cond_false])
 have h2:=h es.length k 0 (by omega) hk
 rw [List.drop_zero] at h2
 rcases h2 with ⟨h3,h4⟩ | ⟨h3,i,_,_,h4⟩
 ·exact .inl ⟨h3,h4⟩
 ·exact .inr ⟨h3,i,h4⟩
theorem f46_eq (g:Gr) (h1:g.1.length≤1099511627776) (h2:g.2.1.length≤1099511627776) (h3:g.2.2.1.length≤1099511627776):f46 g = some (valid g,()):=by
 obtain ⟨vs,es,ds,u⟩:=g
 simp only at h1 h2 h3
 unfold f46 valid
 simp only [f98_eq vs h1,Option.bind_some]
 cases ha:asc kV vs with
 | false=>rfl
 | true =>
  simp only [Bool.not_true,cond_false,f100_eq es h2,Option.bind_some,Bool.true_and]
  cases he:asc kE es with
  | false=>rfl
  | true =>
   simp only [Bool.not_true,cond_false,f105_eq vs h1,Option.bind_some,Bool.true_and]
   cases hv:vs.all okV with
   | false=>rfl
   | true =>
    simp only [Bool.not_true,Bool.not_false,cond_true,Bool.true_and]
    rcases f119_loop vs h1 ha es ds h2 (((es.length:Int) - (0:Int)).toNat + 1) (by omega) with ⟨h4,h5⟩ | ⟨h4,i,h5⟩
    ·rw [h5,h4]
     show ((f108 vs es ds).bind fun y33=>some (y33.1.1,())) = _
     rw [f108_eq vs h1 ha es ds h3]
     rfl
    ·rw [h5,h4]
     have e:decide ((i:Int) ≥ 0) = true:=by simp
     show (bif true then (bif (!(decide ((i:Int) ≥ 0))) then ((f108 vs es ds).bind fun y33=>some (y33.1.1,())) else some (false,())) else some (false,())) = some (false,())
     rw [e]
     rfl
end Go.V.G
namespace Go.V.G
open Go.Proofs
section
variable {R:Type}
theorem idx_loop (n:Nat) (ok:Nat→Bool) (F:Nat→Int→Option R) (yes no:R)
  (hF:∀ k (j:Nat),F (k + 1) (j:Int) = if j < n then (if ok j = true then F k ((j + 1:Nat):Int) else some no) else some yes) :
  ∀ (m k j:Nat),n - j≤m→m < k→((∀ i,j≤i→i < n→ok i = true)∧F k (j:Int) = some yes) ∨ ((∃ i,j≤i∧i < n∧ok i = false)∧F k (j:Int) = some no):=by
 intro m
 induction m with
 | zero =>
  intro k j h1 h2
  obtain ⟨k,rfl⟩:∃ q,k = q + 1:=⟨k - 1,by omega⟩
  rw [hF k j,if_neg (by omega)]
  exact .inl ⟨fun i h3 h4=>by omega,rfl⟩
 | succ m ih =>
  intro k j h1 h2
  obtain ⟨k,rfl⟩:∃ q,k = q + 1:=⟨k - 1,by omega⟩
  rw [hF k j]
  by_cases h:j < n
  ·rw [if_pos h]
   cases hok:ok j with
   | true =>
    simp only [if_true]
    rcases ih k (j + 1) (by omega) (by omega) with ⟨h3,h4⟩ | ⟨⟨i,h3,h4,h5⟩,h6⟩
    ·refine .inl ⟨fun i h5 h6=>?_,h4⟩
     by_cases hij:i = j
     ·rw [hij]; exact hok
     ·exact h3 i (by omega) h6
    ·exact .inr ⟨⟨i,by omega,h4,h5⟩,h6⟩
   | false =>
    simp only [Bool.false_eq_true,if_false]
    exact .inr ⟨⟨j,Nat.le_refl _,h,hok⟩,trivial⟩
  ·rw [if_neg h]
   exact .inl ⟨fun i h3 h4=>by omega,rfl⟩
end
theorem asc_adj {α:Type} (f:α→Int):∀ {l:List α},asc f l = true ↔ ∀ i (h:i + 1 < l.length),f (l[i]'(by omega)) < f l[i + 1]
 | []=>⟨fun _ i h=>by simp at h,fun _=>rfl⟩
 | [a]=>⟨fun _ i h=>by simp at h,fun _=>rfl⟩
 | a :: b :: l=>by
  rw [asc_two,Bool.and_eq_true,decide_eq_true_eq,asc_adj (l:=b :: l)]
  constructor
  ·rintro ⟨h1,h2⟩ i h
   cases i with
   | zero=>exact h1
   | succ i=>exact h2 i (by simp at h ⊢; omega)
  ·intro h
   exact ⟨h 0 (by simp),fun i hi=>h (i + 1) (by simp at hi ⊢; omega)⟩
def okAt {α:Type} (p:α→Bool) (f:α→Int) (l:List α) (j:Nat):Bool :=
 match l[j]? with
 | some x=>p x && (match j with
  | 0=>true
  | i + 1=>match l[i]? with
   | some y=>decide (f y < f x)
   | none=>true)
 | none=>true
theorem okAt_all {α:Type} (p:α→Bool) (f:α→Int) (l:List α):(∀ i,0≤i→i < l.length→okAt p f l i = true) ↔ (l.all p && asc f l) = true:=by
 rw [Bool.and_eq_true,List.all_eq_true,asc_adj]
 constructor
 ·intro h
  refine ⟨fun x hx=>?_,fun i hi=>?_⟩
  ·obtain ⟨i,hi,rfl⟩:=List.getElem_of_mem hx
   have:=h i (Nat.zero_le _) hi
   unfold okAt at this
   rw [List.getElem?_eq_getElem hi] at this
   simp only [Bool.and_eq_true] at this
   exact this.1
  ·have:=h (i + 1) (Nat.zero_le _) hi
   unfold okAt at this
   rw [List.getElem?_eq_getElem hi] at this
   simp only [List.getElem?_eq_getElem (show i < l.length by omega),Bool.and_eq_true,decide_eq_true_eq] at this
   exact this.2
 ·rintro ⟨h1,h2⟩ i _ hi
  unfold okAt
  rw [List.getElem?_eq_getElem hi]
  simp only [Bool.and_eq_true]
  refine ⟨h1 _ (List.getElem_mem _),?_⟩
  cases i with
  | zero=>rfl
  | succ i =>
   simp only [List.getElem?_eq_getElem (show i < l.length by omega),decide_eq_true_eq]
   exact h2 i hi
theorem f171_eq (a lo hi:Int):f171 a lo hi = some (decide (lo≤a) && decide (a≤hi),()):=by
 unfold f171
 by_cases h1:lo≤a
 ·have e:decide (a ≥ lo) = true:=by simp; omega
  rw [e]
  rfl
 ·have e:decide (a ≥ lo) = false:=by simp; omega
  rw [e]
  rfl
theorem f111_eq (v:Vx):f111 v = some (okV v,()):=by
 unfold f111 okV
 simp only [f171_eq,Option.bind_some]
 cases decide (0≤v.1) && decide (v.1≤23) <;> simp
theorem f112_eq (e:Ed):f112 e = some (okE e,()):=by
 have h:okE e = ((decide (0≤e.1) && decide (e.1≤39)) && ((decide (0≤e.2.1) && decide (e.2.1≤23)) && ((decide (0≤e.2.2.1) && decide (e.2.2.1≤23)) && ((decide (-1000≤e.2.2.2.2.1) && decide (e.2.2.2.2.1≤1000)) && (decide (0≤e.2.2.2.2.2.1) && decide (e.2.2.2.2.2.1≤1000)))))):=by
  unfold okE
  simp only [Bool.and_assoc]
 rw [h]
 unfold f112
 simp only [f171_eq,Option.bind_some]
 cases decide (0≤e.1) && decide (e.1≤39)
 ·rfl
 ·cases decide (0≤e.2.1) && decide (e.2.1≤23)
  ·rfl
  ·cases decide (0≤e.2.2.1) && decide (e.2.2.1≤23)
   ·rfl
   ·cases decide (-1000≤e.2.2.2.2.1) && decide (e.2.2.2.2.1≤1000) <;> rfl
theorem okAt_zero {α:Type} (p:α→Bool) (f:α→Int) (l:List α) (h:0 < l.length):okAt p f l 0 = p l[0]:=by
 unfold okAt
 rw [List.getElem?_eq_getElem h]
 simp
theorem okAt_succ {α:Type} (p:α→Bool) (f:α→Int) (l:List α) (i:Nat) (h:i + 1 < l.length):okAt p f l (i + 1) = (p l[i + 1] && decide (f (l[i]'(by omega)) < f l[i + 1])):=by
 unfold okAt
 rw [List.getElem?_eq_getElem h]
 simp only [List.getElem?_eq_getElem (show i < l.length by omega)]
theorem f55_neg (vs:List Vx) (hl:vs.length≤1099511627776) (es:List Ed) (ds:List Int) (u:Unit) (id:Int):∃ q:Int,f55 (vs,es,ds,u) id = some (q,())∧decide (q < 0) = !hasV vs id:=by
 have h:=find_loop tV (fun v:Vx=>!decide (v.1 = id)) (fun k j=>f55_l2 id vs es ds k j) (.inl ((),(),())) (fun i=>.inr (((i:Int),()),(),())) vs (by
  intro k j
  show f55_l2 id vs es ds (k + 1) (j:Int) = _
  conv=>lhs; unfold f55_l2
  by_cases h:j < vs.length
  ·have e1:decide ((j:Int) < (vs.length:Int)) = true:=by simp; omega
   rw [dif_pos h]
   simp only [e1,cond_true,inRN,dT h,wS j (by omega)]
   rw [atN tV vs j h]
   by_cases hc:vs[j].1 = id
   ·simp [hc]
   ·simp [hc]
  ·have e1:decide ((j:Int) < (vs.length:Int)) = false:=by simp; omega
   rw [dif_neg h]
   simp only [e1,cond_false])
 have h2:=h vs.length (((vs.length:Int) - (0:Int)).toNat + 1) 0 (by omega) (by omega)
 rw [List.drop_zero] at h2
 have hh:hasV vs id = !(vs.all fun v=>!decide (v.1 = id)):=by
  unfold hasV
  rw [List.any_eq_not_all_not]
 unfold f55
 rcases h2 with ⟨h3,h4⟩ | ⟨h3,i,_,_,h4⟩
 ·have h5:f55_l2 id vs es ds (((vs.length:Int) - (0:Int)).toNat + 1) (0:Int) = _:=h4
  refine ⟨-1,?_,by rw [hh,h3]; rfl⟩
  show (f55_l2 id vs es ds (((vs.length:Int) - (0:Int)).toNat + 1) (0:Int)).bind _ = _
  rw [h5]
  rfl
 ·have h5:f55_l2 id vs es ds (((vs.length:Int) - (0:Int)).toNat + 1) (0:Int) = _:=h4
  refine ⟨(i:Int),?_,by rw [hh,h3]; simp⟩
  show (f55_l2 id vs es ds (((vs.length:Int) - (0:Int)).toNat + 1) (0:Int)).bind _ = _
  rw [h5]
  rfl
theorem r48_2 (vs:List Vx) (hl:vs.length≤1099511627776) (es:List Ed) (ds:List Int) (k:Nat) (hk:vs.length < k) :
  ((vs.all okV && asc kV vs) = true∧f48_l2 vs es ds k 0 = some (.inl ((),(),((vs,es,ds,()),())))) ∨ ((vs.all okV && asc kV vs) = false∧f48_l2 vs es ds k 0 = some (.inr ((false,()),(),()))):=by
 have h:=idx_loop vs.length (okAt okV kV vs) (fun k j=>f48_l2 vs es ds k j) (.inl ((),(),((vs,es,ds,()),()))) (.inr ((false,()),(),())) (by
  intro k j
  show f48_l2 vs es ds (k + 1) (j:Int) = _
  conv=>lhs; unfold f48_l2
  by_cases h:j < vs.length
  ·have e1:decide ((j:Int) < (vs.length:Int)) = true:=by simp; omega
   have hget:∀ j (h:j < vs.length),at_ tV vs (j:Int) = vs[j]:=fun j h=>atN tV vs j h
   rw [if_pos h]
   simp only [e1,cond_true,inRN,dT h,wS j (by omega),hget j h,f111_eq,Option.bind_some]
   cases j with
   | zero =>
    rw [okAt_zero okV kV vs h]
    cases okV vs[0] <;> simp
   | succ i =>
    rw [okAt_succ okV kV vs i h]
    have e2:decide (((i + 1:Nat):Int) > 0) = true:=by simp <;> omega
    simp only [e2,pred_wrap (i + 1) (by omega) (by omega),Nat.add_sub_cancel,dT (show i < vs.length by omega),hget i (by omega),cond_true]
    have hin:inR (i:Int) vs.length = true:=by rw [inRN,dT (show i < vs.length by omega)]
    cases okV vs[i + 1] with
    | false=>simp
    | true =>
     by_cases hc:vs[i + 1].1≤vs[i].1
     ·have hd:decide (kV (vs[i]'(by omega)) < kV vs[i + 1]) = false:=by simp [kV]; omega
      rw [hin,dT hc,hd]
      rfl
     ·have hd:decide (kV (vs[i]'(by omega)) < kV vs[i + 1]) = true:=by simp [kV]; omega
      rw [hin,dF hc,hd]
      rfl
  ·have e1:decide ((j:Int) < (vs.length:Int)) = false:=by simp; omega
   rw [if_neg h]
   simp only [e1,cond_false])
 rcases h vs.length k 0 (by omega) hk with ⟨h1,h2⟩ | ⟨⟨i,h1,h2,h3⟩,h4⟩
 ·exact .inl ⟨(okAt_all okV kV vs).1 h1,h2⟩
 ·refine .inr ⟨?_,h4⟩
  rw [← Bool.not_eq_true]
  intro hh
  have:=(okAt_all okV kV vs).2 hh i h1 h2
  rw [h3] at this
  cases this
def okEv (vs:List Vx) (e:Ed):Bool:=okE e && hasV vs e.2.1 && hasV vs e.2.2.1
theorem r48_7 (vs:List Vx) (hl:vs.length≤1099511627776) (es:List Ed) (he:es.length≤1099511627776) (ds:List Int) (k:Nat) (hk:es.length < k) :
  ((es.all (okEv vs) && asc kE es) = true∧f48_l7 vs es ds k 0 = some (.inl ((),(),((vs,es,ds,()),())))) ∨ ((es.all (okEv vs) && asc kE es) = false∧f48_l7 vs es ds k 0 = some (.inr ((false,()),(),()))):=by
 have h:=idx_loop es.length (okAt (okEv vs) kE es) (fun k j=>f48_l7 vs es ds k j) (.inl ((),(),((vs,es,ds,()),()))) (.inr ((false,()),(),())) (by
  intro k j
  show f48_l7 vs es ds (k + 1) (j:Int) = _
  conv=>lhs; unfold f48_l7
  by_cases h:j < es.length
  ·have e1:decide ((j:Int) < (es.length:Int)) = true:=by simp; omega
   have hget:∀ j (h:j < es.length),at_ tE es (j:Int) = es[j]:=fun j h=>atN tE es j h
   rw [if_pos h]
   simp only [e1,cond_true,inRN,dT h,wS j (by omega),hget j h,f112_eq,Option.bind_some]
   obtain ⟨q1,g1,g2⟩:=f55_neg vs hl es ds () es[j].2.1
   obtain ⟨q2,g3,g4⟩:=f55_neg vs hl es ds () es[j].2.2.1
   simp only [g1,g3,Option.bind_some,g2,g4]
   cases j with
   | zero =>
    rw [okAt_zero (okEv vs) kE es h]
    unfold okEv
    cases okE es[0] <;> cases hasV vs es[0].2.1 <;> cases hasV vs es[0].2.2.1 <;> rfl
   | succ i =>
    rw [okAt_succ (okEv vs) kE es i h]
    have e2:decide (((i + 1:Nat):Int) > 0) = true:=by simp <;> omega
    have hin:inR (i:Int) es.length = true:=by rw [inRN,dT (show i < es.length by omega)]
    simp only [e2,pred_wrap (i + 1) (by omega) (by omega),Nat.add_sub_cancel,hin,hget i (by omega),cond_true]
    unfold okEv
    by_cases hc:es[i + 1].1≤es[i].1
    ·have hd:decide (kE (es[i]'(by omega)) < kE es[i + 1]) = false:=by simp [kE]; omega
     rw [dT hc,hd]
     cases okE es[i + 1] <;> cases hasV vs es[i + 1].2.1 <;> cases hasV vs es[i + 1].2.2.1 <;> rfl
    ·have hd:decide (kE (es[i]'(by omega)) < kE es[i + 1]) = true:=by simp [kE]; omega
     rw [dF hc,hd]
     cases okE es[i + 1] <;> cases hasV vs es[i + 1].2.1 <;> cases hasV vs es[i + 1].2.2.1 <;> rfl
  ·have e1:decide ((j:Int) < (es.length:Int)) = false:=by simp; omega
   rw [if_neg h]
   simp only [e1,cond_false])
 rcases h es.length k 0 (by omega) hk with ⟨h1,h2⟩ | ⟨⟨i,h1,h2,h3⟩,h4⟩
 ·exact .inl ⟨(okAt_all (okEv vs) kE es).1 h1,h2⟩
 ·refine .inr ⟨?_,h4⟩
  rw [← Bool.not_eq_true]
  intro hh
  have:=(okAt_all (okEv vs) kE es).2 hh i h1 h2
  rw [h3] at this
  cases this
theorem r48_13 (vs:List Vx) (hl:vs.length≤1099511627776) (es:List Ed) (ds:List Int) (hd:ds.length≤1099511627776) (k:Nat) (hk:ds.length < k) :
  ((ds.all (hasV vs) && asc kI ds) = true∧f48_l13 vs es ds k 0 = some (.inl ((),(),((vs,es,ds,()),())))) ∨ ((ds.all (hasV vs) && asc kI ds) = false∧f48_l13 vs es ds k 0 = some (.inr ((false,()),(),()))):=by
 have h:=idx_loop ds.length (okAt (hasV vs) kI ds) (fun k j=>f48_l13 vs es ds k j) (.inl ((),(),((vs,es,ds,()),()))) (.inr ((false,()),(),())) (by
  intro k j
  show f48_l13 vs es ds (k + 1) (j:Int) = _
  conv=>lhs; unfold f48_l13
  by_cases h:j < ds.length
  ·have e1:decide ((j:Int) < (ds.length:Int)) = true:=by simp; omega
   have hget:∀ j (h:j < ds.length),at_ tI ds (j:Int) = ds[j]:=fun j h=>atN tI ds j h
   rw [if_pos h]
   obtain ⟨q1,g1,g2⟩:=f55_neg vs hl es ds () ds[j]
   simp only [e1,cond_true,inRN,dT h,wS j (by omega),hget j h,g1,Option.bind_some,g2]
   cases j with
   | zero =>
    rw [okAt_zero (hasV vs) kI ds h]
    cases hasV vs ds[0] <;> rfl
   | succ i =>
    rw [okAt_succ (hasV vs) kI ds i h]
    have e2:decide (((i + 1:Nat):Int) > 0) = true:=by simp <;> omega
    have hin:inR (i:Int) ds.length = true:=by rw [inRN,dT (show i < ds.length by omega)]
    simp only [e2,pred_wrap (i + 1) (by omega) (by omega),Nat.add_sub_cancel,hin,hget i (by omega),cond_true]
    by_cases hc:ds[i + 1]≤ds[i]
    ·have hd:decide (kI (ds[i]'(by omega)) < kI ds[i + 1]) = false:=by simp [kI]; omega
     rw [dT hc,hd]
     cases hasV vs ds[i + 1] <;> rfl
    ·have hd:decide (kI (ds[i]'(by omega)) < kI ds[i + 1]) = true:=by simp [kI]; omega
     rw [dF hc,hd]
     cases hasV vs ds[i + 1] <;> rfl
  ·have e1:decide ((j:Int) < (ds.length:Int)) = false:=by simp; omega
   rw [if_neg h]
   simp only [e1,cond_false])
 rcases h ds.length k 0 (by omega) hk with ⟨h1,h2⟩ | ⟨⟨i,h1,h2,h3⟩,h4⟩
 ·exact .inl ⟨(okAt_all (hasV vs) kI ds).1 h1,h2⟩
 ·refine .inr ⟨?_,h4⟩
  rw [← Bool.not_eq_true]
  intro hh
  have:=(okAt_all (hasV vs) kI ds).2 hh i h1 h2
  rw [h3] at this
  cases this
theorem f48_eq (g:Gr) (h1:g.1.length≤1099511627776) (h2:g.2.1.length≤1099511627776) (h3:g.2.2.1.length≤1099511627776):f48 g = some (valid g,()):=by
 obtain ⟨vs,es,ds,u⟩:=g
 simp only at h1 h2 h3
 have hv:valid (vs,es,ds,u) = ((vs.all okV && asc kV vs) && ((es.all (okEv vs) && asc kE es) && ((ds.all (hasV vs) && asc kI ds) && decide (ds.length≤3)))):=by
  unfold valid okEv
  simp only
  cases asc kV vs <;> cases asc kE es <;> cases vs.all okV <;> cases es.all (fun e=>okE e && hasV vs e.2.1 && hasV vs e.2.2.1) <;> cases decide (ds.length≤3) <;> cases asc kI ds <;> cases ds.all (hasV vs) <;> rfl
 rw [hv]
 unfold f48
 simp only
 rcases r48_2 vs h1 es ds (((vs.length:Int) - (0:Int)).toNat + 1) (by omega) with ⟨a1,a2⟩ | ⟨a1,a2⟩
 ·rw [a1,a2]
  show (f48_l7 vs es ds (((es.length:Int) - (0:Int)).toNat + 1) (0:Int)).bind _ = _
  rcases r48_7 vs h1 es h2 ds (((es.length:Int) - (0:Int)).toNat + 1) (by omega) with ⟨b1,b2⟩ | ⟨b1,b2⟩
  ·rw [b1,b2]
   show (f48_l13 vs es ds (((ds.length:Int) - (0:Int)).toNat + 1) (0:Int)).bind _ = _
   rcases r48_13 vs h1 es ds h3 (((ds.length:Int) - (0:Int)).toNat + 1) (by omega) with ⟨c1,c2⟩ | ⟨c1,c2⟩
   ·rw [c1,c2]
    show some (decide ((ds.length:Int)≤3),()) = _
    have:decide ((ds.length:Int)≤3) = decide (ds.length≤3):=by
     by_cases h:ds.length≤3
     ·rw [dT h]; simp; omega
     ·rw [dF h]; simp; omega
    rw [this]
    simp
   ·rw [c1,c2]
    rfl
  ·rw [b1,b2]
   rfl
 ·rw [a1,a2]
  rfl
end Go.V.G
namespace Go.V.G
open Go.Proofs
def encs:List Int→ByteArray
 | []=>⟨#[]⟩
 | n :: l=>enc n++encs l
def smallI (n:Int):Prop:=-maxI≤n∧n≤maxI
theorem intsGo_eq:∀ (l:List Int),(∀ n∈l,smallI n)→intsGo l = some (encs l)
 | [],_=>rfl
 | n :: l,h=>by
  have hn:=h n (List.mem_cons_self ..)
  have hsz:=enc_size hn.1 hn.2
  simp only [intsGo,f168_eq hn.1 hn.2,Option.bind_some,dT (show (enc n).size≤100 by omega),cond_true,intsGo_eq l (fun m hm=>h m (List.mem_cons_of_mem _ hm))]
  rfl
theorem f110_eq (l:List Int) (h:∀ n∈l,smallI n) (hl:l.length≤1000):f110 l = some (encs l,()):=by
 unfold f110
 rw [dT hl,cond_true,intsGo_eq l h,Option.bind_some]
theorem nbytes_encs:∀ (l:List Int),nbytes (encs l) = l.flatMap fun n=>grpN (zig n)
 | []=>rfl
 | n :: l=>by
  simp only [encs,nbytes_app,nbytes_enc,nbytes_encs l,List.flatMap_cons]
theorem encs_app:∀ (a b:List Int),encs (a++b) = encs a++encs b
 | [],b=>by simp [encs]; rfl
 | n :: a,b=>by
  simp only [List.cons_append,encs,encs_app a b]
  exact nbytes_inj (by simp only [nbytes_app,List.append_assoc])
theorem encs_size:∀ (l:List Int),(∀ n∈l,smallI n)→(encs l).size≤9 * l.length
 | [],_=>by simp [encs]; rfl
 | n :: l,h=>by
  have hn:=h n (List.mem_cons_self ..)
  have h1:=enc_size hn.1 hn.2
  have h2:=encs_size l (fun m hm=>h m (List.mem_cons_of_mem _ hm))
  have h3:(enc n++encs l).size = (enc n).size + (encs l).size:=by simp
  simp only [encs,List.length_cons,h3]
  omega
def six (e:Ed):List Int:=[e.1,e.2.1,e.2.2.1,if e.2.2.2.1 = true then 1 else 0,e.2.2.2.2.1,e.2.2.2.2.2.1]
def pageN (v:Vx) (es:List Ed):List Int:=v.1 :: v.2.1 :: (es.length:Int) :: es.flatMap six
def atE (es:List Ed) (id:Int):List Ed:=es.filter fun e=>decide (e.2.1 = id) || decide (e.2.2.1 = id)
section
variable {R A:Type}
theorem fold_loop (T:Ty) (step:A→T.den→A) (F:Nat→Int→A→Option R) (fin:A→R) (I:Nat→A→Prop) (l:List T.den)
  (hF:∀ k (j:Nat) acc,I j acc→F (k + 1) (j:Int) acc = if h:j < l.length then F k ((j + 1:Nat):Int) (step acc l[j]) else some (fin acc))
  (hI:∀ j acc (h:j < l.length),I j acc→I (j + 1) (step acc l[j])) :
  ∀ (m k j:Nat) (acc:A),l.length - j≤m→m < k→I j acc→F k (j:Int) acc = some (fin ((l.drop j).foldl step acc)):=by
 intro m
 induction m with
 | zero =>
  intro k j acc h1 h2 h3
  obtain ⟨k,rfl⟩:∃ q,k = q + 1:=⟨k - 1,by omega⟩
  rw [hF k j acc h3,dif_neg (by omega),List.drop_of_length_le (by omega)]
  rfl
 | succ m ih =>
  intro k j acc h1 h2 h3
  obtain ⟨k,rfl⟩:∃ q,k = q + 1:=⟨k - 1,by omega⟩
  rw [hF k j acc h3]
  by_cases h:j < l.length
  ·rw [dif_pos h,ih k (j + 1) _ (by omega) (by omega) (hI j acc h h3),List.drop_eq_getElem_cons h]
   rfl
  ·rw [dif_neg h,List.drop_of_length_le (by omega)]
   rfl
end
def isAt (id:Int) (e:Ed):Bool:=decide (e.2.1 = id) || decide (e.2.2.1 = id)
theorem fold_filter (id:Int):∀ (l acc:List Ed),l.foldl (fun acc e=>if isAt id e = true then acc++[e] else acc) acc = acc++atE l id
 | [],acc=>by simp [atE]
 | e :: l,acc=>by
  have hf:atE (e :: l) id = if isAt id e = true then e :: atE l id else atE l id:=by
   unfold atE isAt
   rw [List.filter_cons]
  rw [List.foldl_cons,fold_filter id l,hf]
  split <;> simp
theorem f79_eq (g:Gr) (h:g.2.1.length≤1000000) (id:Int):f79 g id = some (atE g.2.1 id,()):=by
 obtain ⟨vs,es,ds,u⟩:=g
 simp only at h
 have hl:=fold_loop tE (fun (acc:List Ed) (e:Ed)=>if isAt id e = true then acc++[e] else acc) (fun k j acc=>f79_l2 id es (es.length:Int) k j acc) (fun r=>((),(),(r,()))) (fun j acc=>acc.length≤j) es (by
  intro k j acc hI
  show f79_l2 id es (es.length:Int) (k + 1) (j:Int) acc = _
  conv=>lhs; unfold f79_l2
  by_cases hj:j < es.length
  ·have e1:decide ((j:Int) < (es.length:Int)) = true:=by simp; omega
   have hget:at_ tE es (j:Int) = es[j]:=atN tE es j hj
   have hap:∀ e:Ed,decide (acc.length + ([e]:List Ed).length≤appLim) = true:=fun e=>by simp [appLim]; omega
   rw [dif_pos hj]
   simp only [e1,cond_true,inRN,dT hj,wS j (by omega),hget,hap]
   unfold isAt
   by_cases h1:es[j].2.1 = id
   ·simp [h1]
   ·by_cases h2:es[j].2.2.1 = id
    ·simp [h1,h2]
    ·simp [h1,h2]
  ·have e1:decide ((j:Int) < (es.length:Int)) = false:=by simp; omega
   rw [dif_neg hj]
   simp only [e1,cond_false]) (by
  intro j acc hj hI
  show (if isAt id es[j] = true then acc++[es[j]] else acc).length≤j + 1
  split
  ·simp; omega
  ·omega)
 have h2:=hl es.length (((es.length:Int) - (0:Int)).toNat + 1) 0 [] (by omega) (by omega) (by simp)
 rw [List.drop_zero,fold_filter] at h2
 unfold f79
 have h3:f79_l2 id es (es.length:Int) (((es.length:Int) - (0:Int)).toNat + 1) (0:Int) [] = _:=h2
 show ((f79_l2 id es (es.length:Int) (((es.length:Int) - (0:Int)).toNat + 1) (0:Int) []).bind fun o3=>some (o3.2.2.1,())) = _
 rw [h3,List.nil_append]
 rfl
theorem catOk_small (a b:ByteArray) (h:a.size + b.size≤1000000):catOk a b = true:=by
 unfold catOk
 simp
 omega
def smallE (e:Ed):Prop:=∀ n∈six e,smallI n
theorem okE_small {e:Ed} (h:okE e = true):smallE e:=by
 unfold okE at h
 simp only [Bool.and_eq_true,decide_eq_true_eq] at h
 intro n hn
 unfold six at hn
 simp only [List.mem_cons,List.not_mem_nil,or_false] at hn
 unfold smallI maxI
 rcases hn with rfl | rfl | rfl | rfl | rfl | rfl
 ·omega
 ·omega
 ·omega
 ·split <;> omega
 ·omega
 ·omega
theorem text_loop (es:List Ed) (hl:es.length≤1000) (he:∀ e∈es,smallE e) (s0:ByteArray) (hs:s0.size≤1000) (k:Nat) (hk:es.length < k) :
  f54_l4 es (es.length:Int) k s0 0 = some (((s0++encs (es.flatMap six),()),(),())):=by
 have hl:=fold_loop tE (fun (acc:ByteArray) (e:Ed)=>acc++encs (six e)) (fun k j acc=>f54_l4 es (es.length:Int) k acc j) (fun r=>((r,()),(),())) (fun j acc=>acc.size≤1000 + 54 * j) es (by
  intro k j acc hI
  show f54_l4 es (es.length:Int) (k + 1) acc (j:Int) = _
  conv=>lhs; unfold f54_l4
  by_cases hj:j < es.length
  ·have e1:decide ((j:Int) < (es.length:Int)) = true:=by simp; omega
   have hget:at_ tE es (j:Int) = es[j]:=atN tE es j hj
   have hsm:∀ n∈six es[j],smallI n:=he _ (List.getElem_mem hj)
   have hsz:=encs_size (six es[j]) hsm
   have hc:catOk acc (encs (six es[j])) = true:=catOk_small _ _ (by unfold six at hsz ⊢; simp at hsz ⊢; omega)
   rw [dif_pos hj]
   simp only [e1,cond_true,inRN,dT hj,wS j (by omega),hget]
   cases hb:es[j].2.2.2.1 with
   | true =>
    have h6:six es[j] = [es[j].1,es[j].2.1,es[j].2.2.1,1,es[j].2.2.2.2.1,es[j].2.2.2.2.2.1]:=by unfold six; rw [hb]; rfl
    rw [h6] at hsm hc ⊢
    simp only [cond_true,f110_eq _ hsm (by simp),Option.bind_some,hc]
   | false =>
    have h6:six es[j] = [es[j].1,es[j].2.1,es[j].2.2.1,0,es[j].2.2.2.2.1,es[j].2.2.2.2.2.1]:=by unfold six; rw [hb]; rfl
    rw [h6] at hsm hc ⊢
    simp only [cond_false,f110_eq _ hsm (by simp),Option.bind_some,hc,cond_true]
  ·have e1:decide ((j:Int) < (es.length:Int)) = false:=by simp; omega
   rw [dif_neg hj]
   simp only [e1,cond_false]) (by
  intro j acc hj hI
  have hsz:=encs_size (six es[j]) (he _ (List.getElem_mem hj))
  show (acc++encs (six es[j])).size≤_
  have h3:(acc++encs (six es[j])).size = acc.size + (encs (six es[j])).size:=by simp
  have h4:(six es[j]).length = 6:=rfl
  omega)
 have h2:=hl es.length k 0 s0 (by omega) hk (by omega)
 rw [List.drop_zero] at h2
 have hf:∀ (l:List Ed) (acc:ByteArray),l.foldl (fun acc e=>acc++encs (six e)) acc = acc++encs (l.flatMap six):=by
  intro l
  induction l with
  | nil=>intro acc; simp [encs]; exact nbytes_inj (by rw [nbytes_app]; simp [nbytes])
  | cons e l ih =>
   intro acc
   rw [List.foldl_cons,ih,List.flatMap_cons,encs_app]
   exact nbytes_inj (by simp only [nbytes_app,List.append_assoc])
 rw [hf] at h2
 exact h2
theorem atE_len (es:List Ed) (id:Int):(atE es id).length≤es.length:=List.length_filter_le _ _
theorem f54_eq (g:Gr) (v:Vx) (hl:g.2.1.length≤1000) (he:∀ e∈g.2.1,smallE e) (hv:smallI v.1∧smallI v.2.1):f54 g v = some (encs (pageN v (atE g.2.1 v.1)),()):=by
 have hlen:=atE_len g.2.1 v.1
 have hn:smallI ((atE g.2.1 v.1).length:Int):=by unfold smallI maxI; omega
 have hs3:∀ n∈[v.1,v.2.1,((atE g.2.1 v.1).length:Int)],smallI n:=by
  intro n hn'
  simp only [List.mem_cons,List.not_mem_nil,or_false] at hn'
  rcases hn' with rfl | rfl | rfl
  ·exact hv.1
  ·exact hv.2
  ·exact hn
 have hsz:=encs_size _ hs3
 have hloop:=text_loop (atE g.2.1 v.1) (by omega) (fun e h=>he e (List.mem_filter.1 h).1) (encs [v.1,v.2.1,((atE g.2.1 v.1).length:Int)]) (by simp at hsz ⊢; omega) ((((atE g.2.1 v.1).length:Int) - (0:Int)).toNat + 1) (by omega)
 unfold f54
 simp only [f79_eq g (by omega) v.1,Option.bind_some,f110_eq _ hs3 (by simp)]
 rw [hloop]
 show some (encs [v.1,v.2.1,((atE g.2.1 v.1).length:Int)]++encs ((atE g.2.1 v.1).flatMap six),()) = _
 rw [← encs_app]
 rfl
end Go.V.G
namespace Go.V.G
open Go.Proofs
theorem six_len (es:List Ed):(es.flatMap six).length = 6 * es.length:=by
 induction es with
 | nil=>rfl
 | cons e es ih=>rw [List.flatMap_cons,List.length_append,ih,List.length_cons]; show 6 + _ = _; omega
end Go.V.G
namespace Go.V.G
open Go.Proofs
def rowV (es:List Ed) (v:Vx):Int × (ByteArray × Unit):=(v.1,encs (pageN v (atE es v.1)),())
theorem fold_map {A B:Type} (f:A→B):∀ (l:List A) (acc:List B),l.foldl (fun acc e=>acc++[f e]) acc = acc++l.map f
 | [],acc=>by simp
 | e :: l,acc=>by rw [List.foldl_cons,fold_map f l,List.map_cons,List.append_assoc]; rfl
theorem appOk (n m:Nat) (h:n + m≤1000000):decide (n + m≤appLim) = true:=by
 unfold appLim
 simp
 omega
theorem rows_loop (vs:List Vx) (es:List Ed) (ds:List Int) (hn:vs.length≤1000) (hl:es.length≤1000) (he:∀ e∈es,smallE e) (hv:∀ v∈vs,smallI v.1∧smallI v.2.1) (z:Int) (k:Nat) (hk:vs.length < k) :
  f109_l1x vs (vs.length:Int) z vs es ds k 0 [] = some ((),((),(z,()),()),((),(vs,es,ds,()),(),vs.map (rowV es),())):=by
 have hl:=fold_loop tV (fun (acc:List En) (v:Vx)=>acc++[rowV es v]) (fun k j acc=>f109_l1x vs (vs.length:Int) z vs es ds k j acc) (fun r=>((),((),(z,()),()),((),(vs,es,ds,()),(),r,()))) (fun j acc=>acc.length≤j) vs (by
  intro k j acc hI
  show f109_l1x vs (vs.length:Int) z vs es ds (k + 1) (j:Int) acc = _
  conv=>lhs; unfold f109_l1x
  by_cases hj:j < vs.length
  ·have e1:decide ((j:Int) < (vs.length:Int)) = true:=by simp; omega
   have hget:at_ tV vs (j:Int) = vs[j]:=atN tV vs j hj
   rw [dif_pos hj]
   simp only [e1,cond_true,inRN,dT hj,wS j (by omega),hget,f54_eq (vs,es,ds,()) vs[j] hl he (hv _ (List.getElem_mem hj)),Option.bind_some]
   rw [appOk _ _ (by simp only [List.length_cons,List.length_nil]; omega)]
   rfl
  ·have e1:decide ((j:Int) < (vs.length:Int)) = false:=by simp; omega
   rw [dif_neg hj]
   simp only [e1,cond_false]) (by
  intro j acc hj hI
  show (acc++[rowV es vs[j]]).length≤_
  rw [List.length_append]
  show acc.length + 1≤j + 1
  omega)
 have h2:=hl vs.length k 0 [] (by omega) hk (Nat.le_refl _)
 rw [List.drop_zero,fold_map] at h2
 exact h2
end Go.V.G
namespace Go.V.G
open Go.Proofs
theorem shl1 (i:Nat) (h:i≤39):shlV .i64 1 (i:Int) = ((2 ^ i:Nat):Int):=by
 have:∀ i:Nat,i < 40→shlV .i64 1 (i:Int) = ((2 ^ i:Nat):Int):=by decide
 exact this i (by omega)
theorem pow40 (i:Nat) (h:i≤39):2 ^ i≤549755813888:=by
 have:=Nat.pow_le_pow_right (show 0 < 2 by omega) h
 simpa using this
theorem wrapN (n:Nat) (h:n < 2 ^ 41):IntKind.wrap .i64 (n:Int) = (n:Int):=wrap_i64 _ (by omega) (by omega)
theorem orN (s i:Nat) (h:i≤39) (hs:s < 2 ^ i):(BitVec.ofInt 64 (s:Int) ||| BitVec.ofInt 64 ((2 ^ i:Nat):Int)).toNat = s + 2 ^ i:=by
 have h2:=pow40 i h
 rw [BitVec.ofInt_natCast,BitVec.ofInt_natCast,BitVec.toNat_or,BitVec.toNat_ofNat,BitVec.toNat_ofNat]
 rw [Nat.mod_eq_of_lt (by omega),Nat.mod_eq_of_lt (by omega)]
 have h3:=Nat.two_pow_add_eq_or_of_lt hs 1
 rw [Nat.mul_one,Nat.or_comm] at h3
 rw [← h3]; omega
theorem or1 (s i:Nat) (h:i≤39) (hs:s < 2 ^ i):orV .i64 (s:Int) (shlV .i64 1 (i:Int)) = ((s + 2 ^ i:Nat):Int):=by
 have h2:=pow40 i h
 rw [shl1 i h]
 show IntKind.wrap .i64 (((BitVec.ofInt 64 (s:Int) ||| BitVec.ofInt 64 ((2 ^ i:Nat):Int)).toNat:Nat):Int) = _
 rw [orN s i h hs]
 exact wrapN _ (by omega)
def bitsE (es:List Ed):Nat:=(es.map fun e=>2 ^ e.1.toNat).sum
end Go.V.G
namespace Go.V.G
open Go.Proofs
theorem bits_take (es:List Ed) (j:Nat) (h:j < es.length):bitsE (es.take (j + 1)) = bitsE (es.take j) + 2 ^ (es[j]).1.toNat:=by
 unfold bitsE
 rw [List.take_succ_eq_append_getElem h,List.map_append,List.sum_append]
 simp
theorem bits_lt (es:List Ed) (ha:asc kE es = true) (hn:∀ e∈es,0≤e.1∧e.1≤39):∀ (j:Nat) (h:j < es.length),bitsE (es.take j) < 2 ^ (es[j]).1.toNat
 | 0,h=>by
  show 0 < _
  exact Nat.two_pow_pos _
 | j + 1,h=>by
  have h1:=bits_lt es ha hn j (by omega)
  have h2:(es[j]'(by omega)).1 < (es[j + 1]).1:=(asc_adj kE).1 ha j h
  have h3:=hn _ (List.getElem_mem (show j < es.length by omega))
  rw [bits_take es j (by omega)]
  have h4:2 ^ ((es[j]'(by omega)).1.toNat + 1)≤2 ^ (es[j + 1]).1.toNat:=Nat.pow_le_pow_right (by omega) (by omega)
  rw [Nat.pow_succ] at h4
  omega
theorem fold_bits:∀ (l:List Ed) (a:Nat),l.foldl (fun (acc:Int) (e:Ed)=>acc + ((2 ^ e.1.toNat:Nat):Int)) (a:Int) = ((a + bitsE l:Nat):Int)
 | [],a=>by simp [bitsE]
 | e :: l,a=>by
  rw [List.foldl_cons,show (a:Int) + ((2 ^ e.1.toNat:Nat):Int) = ((a + 2 ^ e.1.toNat:Nat):Int) by omega,fold_bits l]
  unfold bitsE
  rw [List.map_cons,List.sum_cons,Nat.add_assoc]
theorem set_loop (vs:List Vx) (es:List Ed) (ds:List Int) (hl:es.length≤1000) (ha:asc kE es = true) (hn:∀ e∈es,0≤e.1∧e.1≤39) (z:Int) (rows:List En) (k:Nat) (hk:es.length < k) :
  f109_l7x es (es.length:Int) z vs es ds rows k 0 0 = some (((bitsE es:Int),()),((),(z,()),()),((),(vs,es,ds,()),(),rows,())):=by
 have hl:=fold_loop tE (fun (acc:Int) (e:Ed)=>acc + ((2 ^ e.1.toNat:Nat):Int)) (fun k j acc=>f109_l7x es (es.length:Int) z vs es ds rows k acc j) (fun r=>((r,()),((),(z,()),()),((),(vs,es,ds,()),(),rows,()))) (fun j acc=>acc = ((bitsE (es.take j):Nat):Int)) es (by
  intro k j acc hI
  show f109_l7x es (es.length:Int) z vs es ds rows (k + 1) acc (j:Int) = _
  conv=>lhs; unfold f109_l7x
  by_cases hj:j < es.length
  ·have e1:decide ((j:Int) < (es.length:Int)) = true:=by simp; omega
   have hget:at_ tE es (j:Int) = es[j]:=atN tE es j hj
   have h0:=hn _ (List.getElem_mem hj)
   have h1:=bits_lt es ha hn j hj
   have h2:=or1 (bitsE (es.take j)) (es[j]).1.toNat (by omega) h1
   rw [show (((es[j]).1.toNat:Nat):Int) = (es[j]).1 by omega] at h2
   rw [dif_pos hj]
   simp only [e1,cond_true,inRN,dT hj,wS j (by omega),hget,dT h0.1]
   rw [hI,h2]
   congr 1
  ·have e1:decide ((j:Int) < (es.length:Int)) = false:=by simp; omega
   rw [dif_neg hj]
   simp only [e1,cond_false]) (by
  intro j acc hj hI
  show acc + ((2 ^ (es[j]).1.toNat:Nat):Int) = _
  rw [hI,bits_take es j hj]
  omega)
 have h2:=hl es.length k 0 0 (by omega) hk rfl
 have h3:=fold_bits es 0
 rw [List.drop_zero,show (0:Int) = ((0:Nat):Int) from rfl,h3,Nat.zero_add] at h2
 exact h2
end Go.V.G
namespace Go.V.G
open Go.Proofs
theorem asc_ge {α:Type} (f:α→Int) (l:List α) (ha:asc f l = true) (h0:∀ a∈l,0≤f a):∀ (j:Nat) (h:j < l.length),(j:Int)≤f l[j]
 | 0,h=>h0 _ (List.getElem_mem h)
 | j + 1,h=>by
  have h1:=asc_ge f l ha h0 j (by omega)
  have h2:=(asc_adj f).1 ha j h
  omega
theorem ascF_len {α:Type} (f:α→Int) (l:List α) (ha:asc f l = true) (m:Nat) (h0:∀ a∈l,0≤f a∧f a≤m):l.length≤m + 1:=by
 by_cases h:l.length≤m + 1
 ·exact h
 ·have h1:=asc_ge f l ha (fun a h=>(h0 a h).1) (m + 1) (by omega)
  have h2:=(h0 _ (List.getElem_mem (show m + 1 < l.length by omega))).2
  omega
structure Ok (vs:List Vx) (es:List Ed) (ds:List Int):Prop where
 av:asc kV vs = true
 ae:asc kE es = true
 ad:asc kI ds = true
 okv:∀ v∈vs,0≤v.1∧v.1≤23∧0≤v.2.1∧v.2.1≤3
 oke:∀ e∈es,okE e = true
 hs:∀ e∈es,hasV vs e.2.1 = true
 ht:∀ e∈es,hasV vs e.2.2.1 = true
 dl:ds.length≤3
 hd:∀ d∈ds,hasV vs d = true
theorem ok_of (vs:List Vx) (es:List Ed) (ds:List Int) (h:valid (vs,es,ds,()) = true):Ok vs es ds:=by
 unfold valid at h
 simp only [Bool.and_eq_true,List.all_eq_true,decide_eq_true_eq] at h
 obtain ⟨⟨⟨⟨⟨⟨h1,h2⟩,h3⟩,h4⟩,h5⟩,h6⟩,h7⟩:=h
 refine ⟨h1,h2,h6,fun v hv=>?_,fun e he=>(h4 e he).1.1,fun e he=>(h4 e he).1.2,fun e he=>(h4 e he).2,h5,h7⟩
 have:=h3 v hv
 unfold okV at this
 simp only [Bool.and_eq_true,decide_eq_true_eq] at this
 omega
theorem Ok.nv {vs es ds} (h:Ok vs es ds):vs.length≤24:=ascF_len kV vs h.av 23 fun v hv=>⟨(h.okv v hv).1,(h.okv v hv).2.1⟩
theorem Ok.eid {vs es ds} (h:Ok vs es ds):∀ e∈es,0≤e.1∧e.1≤39:=by
 intro e he
 have:=h.oke e he
 unfold okE at this
 simp only [Bool.and_eq_true,decide_eq_true_eq] at this
 omega
theorem Ok.ne {vs es ds} (h:Ok vs es ds):es.length≤40:=ascF_len kE es h.ae 39 h.eid
theorem Ok.did {vs es ds} (h:Ok vs es ds):∀ d∈ds,0≤d∧d≤23:=by
 intro d hd
 have:=h.hd d hd
 unfold hasV at this
 obtain ⟨v,hv,h1⟩:=List.any_eq_true.1 this
 have h2:=h.okv v hv
 simp at h1
 omega
end Go.V.G
