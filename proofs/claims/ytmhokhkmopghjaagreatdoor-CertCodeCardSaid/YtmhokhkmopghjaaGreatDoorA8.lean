/- Part of the proof. -/
import Derived.KernelRfl
import Derived.Test.YtmhokhkmopghjaaGreatDoorA7
set_option linter.all false
set_option linter.unusedVariables false
set_option linter.unusedSectionVars false
set_option linter.unusedSimpArgs false
namespace Go.V.G
open Go.Proofs
noncomputable section
def f57_l2xh:Ann:={ env:=[(0,.cst (.vsl 6 0 2 0 (zah 2 none none))),(1,.cst (.vsl 7 0 2 0 (zah 2 none none))),(9,.cst (.vsl 6 0 2 0 (zah 2 none none))),(10,YI),(11,YI)],stk:=[[(1,cP 1),(6,cP 6),(7,cP 7),(9,.ty (.sl yR)),(10,YI),(11,YI),(37,.ty (.arr 2 yI)),(38,.ty (.arr 2 yI)),(39,.ty .bool),(40,.ty .bool),(41,.cst (.vsl 6 0 2 0 (zah 2 none none))),(42,.cst (.vsl 7 0 2 0 (zah 2 none none)))]],bxs:=[(6,.var [.ty (.arr 2 yI)]),(7,.var [.ty (.arr 2 yI)]),(1,.var [.ty (.sl yR)])] }
def f57_l2xo:List (Ex × Ann):=[((.exit 0),{ env:=[(0,.cst (.vsl 6 0 2 0 (zah 2 none none))),(1,.cst (.vsl 7 0 2 0 (zah 2 none none)))],stk:=[[(1,cP 1),(6,cP 6),(7,cP 7),(9,.ty (.sl yR)),(10,YI),(11,YI),(37,.ty (.arr 2 yI)),(38,.ty (.arr 2 yI)),(39,.ty .bool),(40,.ty .bool),(41,.cst (.vsl 6 0 2 0 (zah 2 none none))),(42,.cst (.vsl 7 0 2 0 (zah 2 none none)))]],bxs:=[(6,.var [.ty (.arr 2 yI)]),(7,.var [.ty (.arr 2 yI)]),(1,.var [.ty (.sl yR)])] }),(.ret,{ env:=[(4,YI)],stk:=[[(1,cP 1),(6,cP 6),(7,cP 7),(9,.ty (.sl yR)),(10,YI),(11,YI),(37,.ty (.arr 2 yI)),(38,.ty (.arr 2 yI)),(39,.ty .bool),(40,.ty .bool),(41,.cst (.vsl 6 0 2 0 (zah 2 none none))),(42,.cst (.vsl 7 0 2 0 (zah 2 none none)))]],bxs:=[(1,.var [.ty (.sl yR)]),(6,.var [.ty (.arr 2 yI)]),(7,.var [.ty (.arr 2 yI)])] })]
def f57_l2x (t10:Int) (k0t9:(List Yr)) (k0t10:Int) (k0t11:Int) (k0t37:(List Int)) (k0t38:(List Int)) (k0t39:Bool) (k0t40:Bool) (b6g0:(List Int)) (b7g0:(List Int)) (b1g0:(List Yr)):Nat→Int→Option (outDen f57_l2xo)
 | 0,_=>none
 | k + 1,t11 =>
 bif (decide (t11 < t10)) then
 bif (inR t11 (zah 2 none none)) then
 let v7:Bool:=(decide (t11 ≥ (((zah 2 none none):Nat):Int)))
 bif v7 then
 some (.inr (((1:Int),()),((k0t9,k0t10,k0t11,k0t37,k0t38,k0t39,k0t40,()),()),((b1g0,()),(b6g0,()),(b7g0,()),())))
 else
 bif (inR t11 (zah 2 none none)) then
 (f84 (at_ yI b6g0 (0 + t11)) (at_ yI b7g0 (0 + t11))).bind fun y8 =>
 bif (decide (y8.1 ≠ (0:Int))) then
 some (.inr ((y8.1,()),((k0t9,k0t10,k0t11,k0t37,k0t38,k0t39,k0t40,()),()),((b1g0,()),(b6g0,()),(b7g0,()),())))
 else
 f57_l2x t10 k0t9 k0t10 k0t11 k0t37 k0t38 k0t39 k0t40 b6g0 b7g0 b1g0 k (IntKind.wrap .i64 (t11 + 1))
 else none
 else none
 else
 some (.inl ((),((k0t9,k0t10,k0t11,k0t37,k0t38,k0t39,k0t40,()),()),((b6g0,()),(b7g0,()),(b1g0,()),())))
def f57_l2x_n (n:Nat) (x:f57_l2xh.den):=f57_l2x x.1.1 x.2.1.1.1 x.2.1.1.2.1 x.2.1.1.2.2.1 x.2.1.1.2.2.2.1 x.2.1.1.2.2.2.2.1 x.2.1.1.2.2.2.2.2.1 x.2.1.1.2.2.2.2.2.2.1 x.2.2.1.1 x.2.2.2.1.1 x.2.2.2.2.1.1 n x.1.2.1
def f57_l2xs:LSpec:={ head:=f57_l2xh,outs:=f57_l2xo,fn:=fun x=>f57_l2x_n ((x.1.1 - x.1.2.1).toNat + 1) x }
def f19_l2h:Ann:={ env:=[(1,cP 1),(9,.ty (.sl yR)),(10,YI),(11,YI)],bxs:=[(1,.var [.ty (.sl yR)])] }
def f19_l2o:List (Ex × Ann):=[((.exit 0),{ env:=[] }),(.ret,{ env:=[(2,.ty .bool)] })]
def f19_l2:Nat→(List Yr)→Int→Int→(List Yr)→Option (outDen f19_l2o)
 | 0,_,_,_,_=>none
 | k + 1,t9,t10,t11,b1g0 =>
 bif (decide (t11 < t10)) then
 bif (inR t11 t9.length) then
 (f56 (at_ yR t9 t11)).bind fun y1 =>
 bif (!y1.1) then
 some (.inr ((false,()),(),()))
 else
 bif (decide (t11 > (0:Int))) then
 bif (inR (IntKind.wrap .i64 (t11 - (1:Int))) b1g0.length) then
 let v2:Int:=(at_ yR b1g0 (IntKind.wrap .i64 (t11 - (1:Int)))).1
 let v3:Int:=(at_ yR b1g0 (IntKind.wrap .i64 (t11 - (1:Int)))).2.1
 let v4:Int:=(at_ yR t9 t11).1
 let v5:Int:=(at_ yR t9 t11).2.1
 zbF (.val (.arr 2 yI) ([v2,v3]:List Int)) (.val (.arr 2 yI) ([v2,v3]:List Int)) (
 let v6:Bool:=(decide (([v2,v3]:List Int) = ([v4,v5]:List Int)))
 let w1:Option (outDen f19_l2o):=(
 bif v6 then
 some (.inr ((false,()),(),()))
 else
 (f57_l2x (((zah 2 none none):Nat):Int) t9 t10 t11 ([v2,v3]:List Int) ([v4,v5]:List Int) v6 false ([v2,v3]:List Int) ([v4,v5]:List Int) b1g0 (((((zah 2 none none):Nat):Int) - (0:Int)).toNat + 1) (0:Int)).bind fun o9 =>
 Sum.elim (fun o10 =>
 let u12:(List Yr):=o10.2.1.1.1
 let u13:Int:=o10.2.1.1.2.1
 let u14:Int:=o10.2.1.1.2.2.1
 let u18:Bool:=o10.2.1.1.2.2.2.2.2.2.1
 let u21:(List Yr):=o10.2.2.2.2.1.1
 let v22:Bool:=(decide ((((zah 2 none none):Nat):Int) < (((zah 2 none none):Nat):Int)))
 bif v22 then
 bif u18 then
 some (.inr ((false,()),(),()))
 else
 f19_l2 k u12 u13 (IntKind.wrap .i64 (u14 + 1)) u21
 else
 bif u18 then
 some (.inr ((false,()),(),()))
 else
 f19_l2 k u12 u13 (IntKind.wrap .i64 (u14 + 1)) u21) (fun o11 =>
 let u23:Int:=o11.1.1
 let u24:(List Yr):=o11.2.1.1.1
 let u25:Int:=o11.2.1.1.2.1
 let u26:Int:=o11.2.1.1.2.2.1
 let u30:Bool:=o11.2.1.1.2.2.2.2.2.2.1
 let u31:(List Yr):=o11.2.2.1.1
 bif u30 then
 some (.inr ((false,()),(),()))
 else
 bif (decide (u23 > (0:Int))) then
 some (.inr ((false,()),(),()))
 else
 f19_l2 k u24 u25 (IntKind.wrap .i64 (u26 + 1)) u31) o9)
 same w1 w1)
 else none
 else
 f19_l2 k t9 t10 (IntKind.wrap .i64 (t11 + 1)) b1g0
 else none
 else
 some (.inl ((),(),()))
def f19_l2_n (n:Nat) (x:f19_l2h.den):=f19_l2 n x.1.1 x.1.2.1 x.1.2.2.1 x.2.2.1.1
def f19_l2s:LSpec:={ head:=f19_l2h,outs:=f19_l2o,fn:=fun x=>f19_l2_n ((x.1.2.1 - x.1.2.2.1).toNat + 1) x }
def f19 (a0:((List Yr) × Unit)):Option (Bool × Unit) :=
 (f19_l2 (((a0.1.length:Int) - (0:Int)).toNat + 1) a0.1 (a0.1.length:Int) (0:Int) a0.1).bind fun o61 =>
 Sum.elim (fun o62 =>
 some (true,())) (fun o63 =>
 let u64:Bool:=o63.1.1
 some (u64,())) o61
def f19s:PSpec:={ args:=[(.pair (.sl yR) .unit)],res:=[.bool],fn:=fun x=>f19 x.1 }
noncomputable def f19c:Code:=Tryz.f28.body.getD .skip
noncomputable def f19_code_71:Code:=Tryz.f71.body.getD .skip
noncomputable def f19e:Env0:={ C:=cfgF,P:=[(70,f56s),(96,f84s)],L:=[(⟨11,43000,71,2⟩,f57_l2xs),(⟨12,0,28,2⟩,f19_l2s)],F:=[(28,Tryz.f28),(71,Tryz.f71)],I:=[],tot:=[(28,[9])],sym:=true }
theorem f57_l2xy:zan f19e 11 71 43000 (zao f19_code_71 2) f57_l2xs :=
 zae (by kernel_rfl) f57_l2x_n (fun x o h=>⟨_,h⟩) (fun x=>by kernel_rfl) (fun n x=>by kernel_rfl)
theorem f19_l2y:zan f19e 12 28 0 (zao f19c 2) f19_l2s :=
 zae (by kernel_rfl) f19_l2_n (fun x o h=>⟨_,h⟩) (fun x=>by kernel_rfl) (fun n x=>by kernel_rfl)
theorem f19r:zR f19e 28 Tryz.f28 f19c f19s:=by intro x; kernel_rfl
theorem f19n:zQ 28:=zN Tryz.func28
theorem f19k:zE f19e:=zO zaf ⟨⟨f56p,f56n⟩,⟨f84p,f84n⟩,trivial⟩ trivial ⟨zK Tryz.func28,zK Tryz.func71,trivial⟩ ⟨⟨Tryz.f71,f19_code_71,rfl,rfl,f57_l2xy⟩,⟨Tryz.f28,f19c,rfl,rfl,f19_l2y⟩,trivial⟩
theorem f19p:zU 28 f19s:=zP f19k Tryz.f28 f19c f19r
def f81_l2h:Ann:={ env:=[(0,.ty (.sl yI)),(3,YI)] }
def f81_l2o:List (Ex × Ann):=[((.exit 0),{ env:=[(0,.ty (.sl yI))] }),(.ret,{ env:=[(2,.ty .bool)] })]
def f81_l2 (t0:(List Int)):Nat→Int→Option (outDen f81_l2o)
 | 0,_=>none
 | k + 1,t3 =>
 bif (decide (t3 < (t0.length:Int))) then
 bif (inR t3 t0.length) then
 let v1:Bool:=(decide ((at_ yI t0 t3) < (-1152921504606846976:Int)))
 bif v1 then
 some (.inr ((false,()),(),()))
 else
 bif (inR t3 t0.length) then
 let v2:Bool:=(decide ((at_ yI t0 t3) > (1152921504606846976:Int)))
 bif v2 then
 some (.inr ((false,()),(),()))
 else
 f81_l2 t0 k (IntKind.wrap .i64 (t3 + 1))
 else none
 else none
 else
 some (.inl ((t0,()),(),()))
def f81_l2_n (n:Nat) (x:f81_l2h.den):=f81_l2 x.1.1 n x.1.2.1
def f81_l2s:LSpec:={ head:=f81_l2h,outs:=f81_l2o,fn:=fun x=>f81_l2_n (((x.1.1.length:Int) - x.1.2.1).toNat + 1) x }
def f81 (a0:(List Int)):Option (Bool × Unit) :=
 (f81_l2 a0 (((a0.length:Int) - (0:Int)).toNat + 1) (0:Int)).bind fun o3 =>
 Sum.elim (fun o4 =>
 let u6:(List Int):=o4.1.1
 let v7:Bool:=(decide ((u6.length:Int)≤(64:Int)))
 some (v7,())) (fun o5 =>
 let u8:Bool:=o5.1.1
 some (u8,())) o3
def f81s:PSpec:={ args:=[(.sl yI)],res:=[.bool],fn:=fun x=>f81 x.1 }
noncomputable def f81c:Code:=Tryz.f53.body.getD .skip
noncomputable def f81e:Env0:={ C:=cfgF,P:=[],L:=[(⟨12,0,53,2⟩,f81_l2s)],F:=[(53,Tryz.f53)] }
theorem f81_l2y:zan f81e 12 53 0 (zao f81c 2) f81_l2s :=
 zae (by kernel_rfl) f81_l2_n (fun x o h=>⟨_,h⟩) (fun x=>by kernel_rfl) (fun n x=>by kernel_rfl)
theorem f81r:zR f81e 53 Tryz.f53 f81c f81s:=by intro x; kernel_rfl
theorem f81n:zQ 53:=zN Tryz.func53
theorem f81k:zE f81e:=zO zaf trivial trivial ⟨zK Tryz.func53,trivial⟩ ⟨⟨Tryz.f53,f81c,rfl,rfl,f81_l2y⟩,trivial⟩
theorem f81p:zU 53 f81s:=zP f81k Tryz.f53 f81c f81r
def f26_l4h:Ann:={ env:=[(0,.ty (.sl yI)),(1,.ty (.sl yI)),(5,YI)] }
def f26_l4o:List (Ex × Ann):=[((.exit 0),{ env:=[] }),(.ret,{ env:=[(4,.ty .bool)] })]
def f26_l4 (t0:(List Int)) (t1:(List Int)):Nat→Int→Option (outDen f26_l4o)
 | 0,_=>none
 | k + 1,t5 =>
 bif (decide (t5 < (t0.length:Int))) then
 bif (inR t5 t0.length) then
 bif (inR t5 t1.length) then
 let v2:Bool:=(decide ((at_ yI t0 t5) ≠ (at_ yI t1 t5)))
 bif v2 then
 some (.inr ((false,()),(),()))
 else
 f26_l4 t0 t1 k (IntKind.wrap .i64 (t5 + 1))
 else none
 else none
 else
 some (.inl ((),(),()))
def f26_l4_n (n:Nat) (x:f26_l4h.den):=f26_l4 x.1.1 x.1.2.1 n x.1.2.2.1
def f26_l4s:LSpec:={ head:=f26_l4h,outs:=f26_l4o,fn:=fun x=>f26_l4_n (((x.1.1.length:Int) - x.1.2.2.1).toNat + 1) x }
def f26 (a0:(List Int)) (a1:(List Int)):Option (Bool × Unit) :=
 let v1:Bool:=(decide ((a0.length:Int) ≠ (a1.length:Int)))
 bif v1 then
 some (false,())
 else
 (f26_l4 a0 a1 (((a0.length:Int) - (0:Int)).toNat + 1) (0:Int)).bind fun o3 =>
 Sum.elim (fun o4 =>
 some (true,())) (fun o5 =>
 let u6:Bool:=o5.1.1
 some (u6,())) o3
def f26s:PSpec:={ args:=[(.sl yI),(.sl yI)],res:=[.bool],fn:=fun x=>f26 x.1 x.2.1 }
noncomputable def f26c:Code:=Tryz.f17.body.getD .skip
noncomputable def f26e:Env0:={ C:=cfgF,P:=[],L:=[(⟨12,0,17,4⟩,f26_l4s)],F:=[(17,Tryz.f17)] }
theorem f26_l4y:zan f26e 12 17 0 (zao f26c 4) f26_l4s :=
 zae (by kernel_rfl) f26_l4_n (fun x o h=>⟨_,h⟩) (fun x=>by kernel_rfl) (fun n x=>by kernel_rfl)
theorem f26r:zR f26e 17 Tryz.f17 f26c f26s:=by intro x; kernel_rfl
theorem f26n:zQ 17:=zN Tryz.func17
theorem f26k:zE f26e:=zO zaf trivial trivial ⟨zK Tryz.func17,trivial⟩ ⟨⟨Tryz.f17,f26c,rfl,rfl,f26_l4y⟩,trivial⟩
theorem f26p:zU 17 f26s:=zP f26k Tryz.f17 f26c f26r
def f40 (a0:Bool) (a1:(List Int)) (a2:Bool) (a3:(List Int)):Option (Bool × Unit) :=
 bif (decide (a0 = a2)) then
 (f26 a1 a3).bind fun y1 =>
 some (y1.1,())
 else
 some (false,())
def f40s:PSpec:={ args:=[.bool,(.sl yI),.bool,(.sl yI)],res:=[.bool],fn:=fun x=>f40 x.1 x.2.1 x.2.2.1 x.2.2.2.1 }
noncomputable def f40c:Code:=Tryz.f99.body.getD .skip
noncomputable def f40e:Env0:={ C:=cfgF,P:=[(17,f26s)],L:=[],F:=[(99,Tryz.f99)] }
theorem f40r:zR f40e 99 Tryz.f99 f40c f40s:=by intro x; kernel_rfl
theorem f40n:zQ 99:=zN Tryz.func99
theorem f40k:zE f40e:=zO zaf ⟨⟨f26p,f26n⟩,trivial⟩ trivial ⟨zK Tryz.func99,trivial⟩ trivial
theorem f40p:zU 99 f40s:=zP f40k Tryz.f99 f40c f40r
def f58 (a0:Yr):Option (Bool × Unit) :=
 bif (decide (a0.1 < (1:Int))) then
 some (false,())
 else
 bif (decide (a0.1 > (7:Int))) then
 some (false,())
 else
 bif (decide (a0.2.1 < (0:Int))) then
 some (false,())
 else
 bif (decide (a0.2.1 ≥ (24:Int))) then
 some (false,())
 else
 (f81 a0.2.2.2.1).bind fun y1 =>
 bif (!y1.1) then
 some (false,())
 else
 (f81 a0.2.2.2.2.2.1).bind fun y2 =>
 bif (!y2.1) then
 some (false,())
 else
 bif a0.2.2.1 then
 bif a0.2.2.2.2.1 then
 bif a0.2.2.1 then
 (f40 a0.2.2.1 a0.2.2.2.1 a0.2.2.2.2.1 a0.2.2.2.2.2.1).bind fun y3 =>
 some ((!y3.1),())
 else
 bif a0.2.2.2.2.1 then
 (f40 a0.2.2.1 a0.2.2.2.1 a0.2.2.2.2.1 a0.2.2.2.2.2.1).bind fun y4 =>
 some ((!y4.1),())
 else
 some (false,())
 else
 let v5:Bool:=(decide ((a0.2.2.2.2.2.1.length:Int) = (0:Int)))
 bif v5 then
 bif a0.2.2.1 then
 (f40 a0.2.2.1 a0.2.2.2.1 a0.2.2.2.2.1 a0.2.2.2.2.2.1).bind fun y6 =>
 some ((!y6.1),())
 else
 bif a0.2.2.2.2.1 then
 (f40 a0.2.2.1 a0.2.2.2.1 a0.2.2.2.2.1 a0.2.2.2.2.2.1).bind fun y7 =>
 some ((!y7.1),())
 else
 some (false,())
 else
 some (false,())
 else
 let v8:Bool:=(decide ((a0.2.2.2.1.length:Int) = (0:Int)))
 bif v8 then
 bif a0.2.2.2.2.1 then
 bif a0.2.2.1 then
 (f40 a0.2.2.1 a0.2.2.2.1 a0.2.2.2.2.1 a0.2.2.2.2.2.1).bind fun y9 =>
 some ((!y9.1),())
 else
 bif a0.2.2.2.2.1 then
 (f40 a0.2.2.1 a0.2.2.2.1 a0.2.2.2.2.1 a0.2.2.2.2.2.1).bind fun y10 =>
 some ((!y10.1),())
 else
 some (false,())
 else
 let v11:Bool:=(decide ((a0.2.2.2.2.2.1.length:Int) = (0:Int)))
 bif v11 then
 bif a0.2.2.1 then
 (f40 a0.2.2.1 a0.2.2.2.1 a0.2.2.2.2.1 a0.2.2.2.2.2.1).bind fun y12 =>
 some ((!y12.1),())
 else
 bif a0.2.2.2.2.1 then
 (f40 a0.2.2.1 a0.2.2.2.1 a0.2.2.2.2.1 a0.2.2.2.2.2.1).bind fun y13 =>
 some ((!y13.1),())
 else
 some (false,())
 else
 some (false,())
 else
 some (false,())
def f58s:PSpec:={ args:=[yR],res:=[.bool],fn:=fun x=>f58 x.1 }
noncomputable def f58c:Code:=Tryz.f82.body.getD .skip
noncomputable def f58e:Env0:={ C:=cfgF,P:=[(53,f81s),(99,f40s)],L:=[],F:=[(82,Tryz.f82)] }
theorem f58r:zR f58e 82 Tryz.f82 f58c f58s:=by intro x; kernel_rfl
theorem f58n:zQ 82:=zN Tryz.func82
theorem f58k:zE f58e:=zO zaf ⟨⟨f81p,f81n⟩,⟨f40p,f40n⟩,trivial⟩ trivial ⟨zK Tryz.func82,trivial⟩ trivial
theorem f58p:zU 82 f58s:=zP f58k Tryz.f82 f58c f58r
def f59 (a0:Yr) (a1:Yr):Option (Bool × Unit) :=
 bif (decide (a0.1 < a1.1)) then
 some (true,())
 else
 bif (decide (a0.1 = a1.1)) then
 some ((decide (a0.2.1 < a1.2.1)),())
 else
 some (false,())
def f59s:PSpec:={ args:=[yR,yR],res:=[.bool],fn:=fun x=>f59 x.1 x.2.1 }
noncomputable def f59c:Code:=Tryz.f83.body.getD .skip
noncomputable def f59e:Env0:={ C:=cfgF,P:=[],L:=[],F:=[(83,Tryz.f83)] }
theorem f59r:zR f59e 83 Tryz.f83 f59c f59s:=by intro x; kernel_rfl
theorem f59n:zQ 83:=zN Tryz.func83
theorem f59k:zE f59e:=zO zaf trivial trivial ⟨zK Tryz.func83,trivial⟩ trivial
theorem f59p:zU 83 f59s:=zP f59k Tryz.f83 f59c f59r
def f20_l2h:Ann:={ env:=[(1,cP 1),(3,YI)],bxs:=[(1,.var [.ty (.sl yR)])] }
def f20_l2o:List (Ex × Ann):=[((.exit 0),{ env:=[] }),(.ret,{ env:=[(2,.ty .bool)] })]
def f20_l2 (b1g0:(List Yr)):Nat→Int→Option (outDen f20_l2o)
 | 0,_=>none
 | k + 1,t3 =>
 bif (decide (t3 < (b1g0.length:Int))) then
 bif (inR t3 b1g0.length) then
 (f58 (at_ yR b1g0 t3)).bind fun y1 =>
 bif (!y1.1) then
 some (.inr ((false,()),(),()))
 else
 bif (decide (t3 > (0:Int))) then
 bif (inR (IntKind.wrap .i64 (t3 - (1:Int))) b1g0.length) then
 bif (inR t3 b1g0.length) then
 (f59 (at_ yR b1g0 (IntKind.wrap .i64 (t3 - (1:Int)))) (at_ yR b1g0 t3)).bind fun y2 =>
 bif (!y2.1) then
 some (.inr ((false,()),(),()))
 else
 f20_l2 b1g0 k (IntKind.wrap .i64 (t3 + 1))
 else none
 else none
 else
 f20_l2 b1g0 k (IntKind.wrap .i64 (t3 + 1))
 else none
 else
 some (.inl ((),(),()))
def f20_l2_n (n:Nat) (x:f20_l2h.den):=f20_l2 x.2.2.1.1 n x.1.1
def f20_l2s:LSpec:={ head:=f20_l2h,outs:=f20_l2o,fn:=fun x=>f20_l2_n (((x.2.2.1.1.length:Int) - x.1.1).toNat + 1) x }
def f20 (a0:((List Yr) × Unit)):Option (Bool × Unit) :=
 (f20_l2 a0.1 (((a0.1.length:Int) - (0:Int)).toNat + 1) (0:Int)).bind fun o3 =>
 Sum.elim (fun o4 =>
 some (true,())) (fun o5 =>
 let u6:Bool:=o5.1.1
 some (u6,())) o3
def f20s:PSpec:={ args:=[(.pair (.sl yR) .unit)],res:=[.bool],fn:=fun x=>f20 x.1 }
noncomputable def f20c:Code:=Tryz.f42.body.getD .skip
noncomputable def f20e:Env0:={ C:=cfgF,P:=[(82,f58s),(83,f59s)],L:=[(⟨12,0,42,2⟩,f20_l2s)],F:=[(42,Tryz.f42)] }
theorem f20_l2y:zan f20e 12 42 0 (zao f20c 2) f20_l2s :=
 zae (by kernel_rfl) f20_l2_n (fun x o h=>⟨_,h⟩) (fun x=>by kernel_rfl) (fun n x=>by kernel_rfl)
theorem f20r:zR f20e 42 Tryz.f42 f20c f20s:=by intro x; kernel_rfl
theorem f20n:zQ 42:=zN Tryz.func42
theorem f20k:zE f20e:=zO zaf ⟨⟨f58p,f58n⟩,⟨f59p,f59n⟩,trivial⟩ trivial ⟨zK Tryz.func42,trivial⟩ ⟨⟨Tryz.f42,f20c,rfl,rfl,f20_l2y⟩,trivial⟩
theorem f20p:zU 42 f20s:=zP f20k Tryz.f42 f20c f20r
def f600 (a0:Int):Option (Int × Unit) :=
 bif (decide (a0 < (0:Int))) then
 let v1:Int:=(IntKind.wrap .u64 (IntKind.wrap .i64 (0 - a0)))
 let v2:Int:=(IntKind.wrap .u64 ((IntKind.wrap .u64 (v1 * (2:Int))) - (1:Int)))
 some (v2,())
 else
 let v3:Int:=(IntKind.wrap .u64 ((IntKind.wrap .u64 a0) * (2:Int)))
 some (v3,())
def f600s:PSpec:={ args:=[yI],res:=[(.int .u64)],fn:=fun x=>f600 x.1 }
noncomputable def f600c:Code:=Tryz.f100.body.getD .skip
noncomputable def f600e:Env0:={ C:=cfgF,P:=[],L:=[],F:=[(100,Tryz.f100)] }
theorem f600r:zR f600e 100 Tryz.f100 f600c f600s:=by intro x; kernel_rfl
theorem f600n:zQ 100:=zN Tryz.func100
theorem f600k:zE f600e:=zO zaf trivial trivial ⟨zK Tryz.func100,trivial⟩ trivial
theorem f600p:zU 100 f600s:=zP f600k Tryz.f100 f600c f600r
def f584_l5h:Ann:={ env:=[(4,.ty (.int .u64)),(5,.cst (.row 22 .whole))],bxs:=[(22,.row (.int .u8) false)] }
def f584_l5o:List (Ex × Ann):=[((.exit 0),{ env:=[(4,.ty (.int .u64)),(5,.cst (.row 22 .whole))],bxs:=[(22,.row (.int .u8) false)] })]
def f584_l5:Nat→Int→(List Int)→Option (outDen f584_l5o)
 | 0,_,_=>none
 | k + 1,t4,r22 =>
 bif (decide (t4 ≥ (128:Int))) then
 let v4:Int:=(IntKind.wrap .u64 ((Int.tmod t4 (128:Int)) + (128:Int)))
 bif (decide (r22.length + ([(IntKind.wrap .u8 v4)]:List Int).length≤zac)) then
 let v5:Int:=(IntKind.wrap .u64 (Int.tdiv t4 (128:Int)))
 f584_l5 k v5 (r22++([(IntKind.wrap .u8 v4)]:List Int))
 else none
 else
 some ((t4,()),(),(r22,()))
def f584_l5_n (n:Nat) (x:f584_l5h.den):=f584_l5 n x.1.1 x.2.2.1
def f584_l5s:LSpec:={ thaws:=[.slot 5 22 (.int .u8)],head:=f584_l5h,outs:=f584_l5o,fn:=fun x=>f584_l5_n (x.1.1.toNat + 1) x }
def f584 (a0:Int):Option (ByteArray × Int × Unit) :=
 let v1:Bool:=(decide (a0 < (-4611686018427387903:Int)))
 bif v1 then
 some ((⟨#[]⟩:ByteArray),(10:Int),())
 else
 let v2:Bool:=(decide (a0 > (4611686018427387903:Int)))
 bif v2 then
 some ((⟨#[]⟩:ByteArray),(10:Int),())
 else
 (f600 a0).bind fun y3 =>
 (f584_l5 (y3.1.toNat + 1) y3.1 []).bind fun o6 =>
 let u7:Int:=o6.1.1
 let u8:(List Int):=o6.2.2.1
 bif (decide (u8.length + ([(IntKind.wrap .u8 u7)]:List Int).length≤zac)) then
 let v9:ByteArray:=(ofBytes (u8++([(IntKind.wrap .u8 u7)]:List Int)))
 some (v9,(0:Int),())
 else none
def f584s:PSpec:={ args:=[yI],res:=[.str,yI],fn:=fun x=>f584 x.1 }
noncomputable def f584c:Code:=Tryz.f84.body.getD .skip
noncomputable def f584e:Env0:={ C:=cfgF,P:=[(100,f600s)],L:=[(⟨12,0,84,5⟩,f584_l5s)],F:=[(84,Tryz.f84)] }
theorem f584_l5y:zan f584e 12 84 0 (zao f584c 5) f584_l5s :=
 zae (by kernel_rfl) f584_l5_n (fun x o h=>⟨_,h⟩) (fun x=>by kernel_rfl) (fun n x=>by kernel_rfl)
theorem f584r:zR f584e 84 Tryz.f84 f584c f584s:=by intro x; kernel_rfl
theorem f584n:zQ 84:=zN Tryz.func84
theorem f584k:zE f584e:=zO zaf ⟨⟨f600p,f600n⟩,trivial⟩ trivial ⟨zK Tryz.func84,trivial⟩ ⟨⟨Tryz.f84,f584c,rfl,rfl,f584_l5y⟩,trivial⟩
theorem f584p:zU 84 f584s:=zP f584k Tryz.f84 f584c f584r
def f543_l3h:Ann:={ env:=[(0,.ty (.sl yI)),(3,.ty .str),(4,YI)] }
def f543_l3o:List (Ex × Ann):=[((.exit 0),{ env:=[(3,.ty .str)] })]
def f543_l3 (t0:(List Int)):Nat→ByteArray→Int→Option (outDen f543_l3o)
 | 0,_,_=>none
 | k + 1,t3,t4 =>
 bif (decide (t4 < (t0.length:Int))) then
 bif (inR t4 t0.length) then
 (f584 (at_ yI t0 t4)).bind fun y1 =>
 bif (decide (y1.2.1 = (0:Int))) then
 bif (catOk t3 y1.1) then f543_l3 t0 k (t3++y1.1) (IntKind.wrap .i64 (t4 + 1)) else none
 else
 f543_l3 t0 k t3 (IntKind.wrap .i64 (t4 + 1))
 else none
 else
 some ((t3,()),(),())
def f543_l3_n (n:Nat) (x:f543_l3h.den):=f543_l3 x.1.1 n x.1.2.1 x.1.2.2.1
def f543_l3s:LSpec:={ head:=f543_l3h,outs:=f543_l3o,fn:=fun x=>f543_l3_n (((x.1.1.length:Int) - x.1.2.2.1).toNat + 1) x }
def f543 (a0:(List Int)):Option (ByteArray × Unit) :=
 (f543_l3 a0 (((a0.length:Int) - (0:Int)).toNat + 1) (⟨#[]⟩:ByteArray) (0:Int)).bind fun o2 =>
 let u3:ByteArray:=o2.1.1
 some (u3,())
def f543s:PSpec:={ args:=[(.sl yI)],res:=[.str],fn:=fun x=>f543 x.1 }
noncomputable def f543c:Code:=Tryz.f43.body.getD .skip
noncomputable def f543e:Env0:={ C:=cfgF,P:=[(84,f584s)],L:=[(⟨12,0,43,3⟩,f543_l3s)],F:=[(43,Tryz.f43)] }
theorem f543_l3y:zan f543e 12 43 0 (zao f543c 3) f543_l3s :=
 zae (by kernel_rfl) f543_l3_n (fun x o h=>⟨_,h⟩) (fun x=>by kernel_rfl) (fun n x=>by kernel_rfl)
theorem f543r:zR f543e 43 Tryz.f43 f543c f543s:=by intro x; kernel_rfl
theorem f543n:zQ 43:=zN Tryz.func43
theorem f543k:zE f543e:=zO zaf ⟨⟨f584p,f584n⟩,trivial⟩ trivial ⟨zK Tryz.func43,trivial⟩ ⟨⟨Tryz.f43,f543c,rfl,rfl,f543_l3y⟩,trivial⟩
theorem f543p:zU 43 f543s:=zP f543k Tryz.f43 f543c f543r
def f514 (a0:(List Int)):Option (ByteArray × Int × Unit) :=
 (f81 a0).bind fun y1 =>
 bif (!y1.1) then
 some ((⟨#[]⟩:ByteArray),(160:Int),())
 else
 (f543 ([(a0.length:Int)]:List Int)).bind fun y2 =>
 (f543 a0).bind fun y3 =>
 bif (catOk y2.1 y3.1) then some ((y2.1++y3.1),(0:Int),()) else none
def f514s:PSpec:={ args:=[(.sl yI)],res:=[.str,yI],fn:=fun x=>f514 x.1 }
noncomputable def f514c:Code:=Tryz.f14.body.getD .skip
noncomputable def f514e:Env0:={ C:=cfgF,P:=[(43,f543s),(53,f81s)],L:=[],F:=[(14,Tryz.f14)] }
theorem f514r:zR f514e 14 Tryz.f14 f514c f514s:=by intro x; kernel_rfl
theorem f514n:zQ 14:=zN Tryz.func14
theorem f514k:zE f514e:=zO zaf ⟨⟨f543p,f543n⟩,⟨f81p,f81n⟩,trivial⟩ trivial ⟨zK Tryz.func14,trivial⟩ trivial
theorem f514p:zU 14 f514s:=zP f514k Tryz.f14 f514c f514r
def f544 (a0:Bool) (a1:(List Int)):Option (ByteArray × Unit) :=
 bif (!a0) then
 (f543 ([(0:Int)]:List Int)).bind fun y1 =>
 some (y1.1,())
 else
 (f514 a1).bind fun y2 =>
 bif (decide (y2.2.1 ≠ (0:Int))) then
 some ((⟨#[]⟩:ByteArray),())
 else
 (f543 ([(1:Int)]:List Int)).bind fun y3 =>
 bif (catOk y3.1 y2.1) then some ((y3.1++y2.1),()) else none
def f544s:PSpec:={ args:=[.bool,(.sl yI)],res:=[.str],fn:=fun x=>f544 x.1 x.2.1 }
noncomputable def f544c:Code:=Tryz.f44.body.getD .skip
noncomputable def f544e:Env0:={ C:=cfgF,P:=[(14,f514s),(43,f543s)],L:=[],F:=[(44,Tryz.f44)] }
theorem f544r:zR f544e 44 Tryz.f44 f544c f544s:=by intro x; kernel_rfl
theorem f544n:zQ 44:=zN Tryz.func44
theorem f544k:zE f544e:=zO zaf ⟨⟨f514p,f514n⟩,⟨f543p,f543n⟩,trivial⟩ trivial ⟨zK Tryz.func44,trivial⟩ trivial
theorem f544p:zU 44 f544s:=zP f544k Tryz.f44 f544c f544r
def f508_l5h:Ann:={ env:=[(1,cP 1),(4,.ty .str),(5,YI)],bxs:=[(1,.var [.ty (.sl yR)])] }
def f508_l5o:List (Ex × Ann):=[((.exit 0),{ env:=[(4,.ty .str)] })]
def f508_l5 (b1g0:(List Yr)):Nat→ByteArray→Int→Option (outDen f508_l5o)
 | 0,_,_=>none
 | k + 1,t4,t5 =>
 bif (decide (t5 < (b1g0.length:Int))) then
 bif (inR t5 b1g0.length) then
 let v3:Int:=(at_ yR b1g0 t5).1
 let v4:Int:=(at_ yR b1g0 t5).2.1
 (f543 ([v3,v4]:List Int)).bind fun y5 =>
 bif (catOk t4 y5.1) then
 let v6:Bool:=(at_ yR b1g0 t5).2.2.1
 let v7:(List Int):=(at_ yR b1g0 t5).2.2.2.1
 (f544 v6 v7).bind fun y8 =>
 bif (catOk (t4++y5.1) y8.1) then
 let v9:Bool:=(at_ yR b1g0 t5).2.2.2.2.1
 let v10:(List Int):=(at_ yR b1g0 t5).2.2.2.2.2.1
 (f544 v9 v10).bind fun y11 =>
 bif (catOk ((t4++y5.1)++y8.1) y11.1) then f508_l5 b1g0 k (((t4++y5.1)++y8.1)++y11.1) (IntKind.wrap .i64 (t5 + 1)) else none
 else none
 else none
 else none
 else
 some ((t4,()),(),())
def f508_l5_n (n:Nat) (x:f508_l5h.den):=f508_l5 x.2.2.1.1 n x.1.1 x.1.2.1
def f508_l5s:LSpec:={ head:=f508_l5h,outs:=f508_l5o,fn:=fun x=>f508_l5_n (((x.2.2.1.1.length:Int) - x.1.2.1).toNat + 1) x }
def f508 (a0:((List Yr) × Unit)):Option (ByteArray × Int × Unit) :=
 (f20 a0).bind fun y1 =>
 bif (!y1.1) then
 some ((⟨#[]⟩:ByteArray),(160:Int),())
 else
 (f543 ([(a0.1.length:Int)]:List Int)).bind fun y2 =>
 (f508_l5 a0.1 (((a0.1.length:Int) - (0:Int)).toNat + 1) y2.1 (0:Int)).bind fun o12 =>
 let u13:ByteArray:=o12.1.1
 some (u13,(0:Int),())
def f508s:PSpec:={ args:=[(.pair (.sl yR) .unit)],res:=[.str,yI],fn:=fun x=>f508 x.1 }
noncomputable def f508c:Code:=Tryz.f8.body.getD .skip
noncomputable def f508e:Env0:={ C:=cfgF,P:=[(42,f20s),(43,f543s),(44,f544s)],L:=[(⟨12,0,8,5⟩,f508_l5s)],F:=[(8,Tryz.f8)] }
theorem f508_l5y:zan f508e 12 8 0 (zao f508c 5) f508_l5s :=
 zae (by kernel_rfl) f508_l5_n (fun x o h=>⟨_,h⟩) (fun x=>by kernel_rfl) (fun n x=>by kernel_rfl)
theorem f508r:zR f508e 8 Tryz.f8 f508c f508s:=by intro x; kernel_rfl
theorem f508n:zQ 8:=zN Tryz.func8
theorem f508k:zE f508e:=zO zaf ⟨⟨f20p,f20n⟩,⟨f543p,f543n⟩,⟨f544p,f544n⟩,trivial⟩ trivial ⟨zK Tryz.func8,trivial⟩ ⟨⟨Tryz.f8,f508c,rfl,rfl,f508_l5y⟩,trivial⟩
theorem f508p:zU 8 f508s:=zP f508k Tryz.f8 f508c f508r
end
end Go.V.G
namespace Go.V.G
open Go.Proofs
noncomputable section
def f68_l3wh:Ann:={ env:=[(0,cP 14),(3,.cst (.row 31031008012 .whole)),(5,YI),(6,YI)],stk:=[[(2,cP 31031002)],[(4,cP 4),(5,cP 5),(6,cP 6),(7,cP 14),(8,cP 8),(9,cP 9),(16,YI),(17,YI),(26,cP 4),(27,.cst (.row 34 .whole)),(28,.ty (.arr 2 yI)),(29,.ty (.pair .bool (.pair (.sl yI) .unit))),(30,cP 14)],[(0,.cst (.tup [(.fn 46 []),(.ptr 6 0 [])]))],[(0,.cst (.tup [(.fn 45 [(.ptr 6 0 []),(.ptr 4 0 []),(.ptr 5 0 [])])]))]],bxs:=[(14,.var [.ty .str,YI]),(31031008012,.row yI false),(31031002,.var [.ty .bool,.cst .nils]),(4,.var [.cst (.row 34 .whole)]),(5,.var [YI]),(6,.var [YI]),(8,.var [.ty (.arr 2 yI)]),(9,.var [.ty .bool,.ty (.sl yI)]),(34,.row yR false)] }
def f68_l3wo:List (Ex × Ann):=[((.exit 0),{ env:=[(3,.cst (.row 31031008012 .whole))],stk:=[[(2,cP 31031002)],[(4,cP 4),(5,cP 5),(6,cP 6),(7,cP 14),(8,cP 8),(9,cP 9),(16,YI),(17,YI),(26,cP 4),(27,.cst (.row 34 .whole)),(28,.ty (.arr 2 yI)),(29,.ty (.pair .bool (.pair (.sl yI) .unit))),(30,cP 14)],[(0,.cst (.tup [(.fn 46 []),(.ptr 6 0 [])]))],[(0,.cst (.tup [(.fn 45 [(.ptr 6 0 []),(.ptr 4 0 []),(.ptr 5 0 [])])]))]],bxs:=[(31031008012,.row yI false),(31031002,.var [.ty .bool,.cst .nils]),(4,.var [.cst (.row 34 .whole)]),(5,.var [YI]),(6,.var [YI]),(14,.var [.ty .str,YI]),(8,.var [.ty (.arr 2 yI)]),(9,.var [.ty .bool,.ty (.sl yI)]),(34,.row yR false)] }),((.pan ⟨135,.emp⟩),{ env:=[],stk:=[[(2,cP 31031002)],[(4,cP 4),(5,cP 5),(6,cP 6),(7,cP 14),(8,cP 8),(9,cP 9),(16,YI),(17,YI),(26,cP 4),(27,.cst (.row 34 .whole)),(28,.ty (.arr 2 yI)),(29,.ty (.pair .bool (.pair (.sl yI) .unit))),(30,cP 14)],[(0,.cst (.tup [(.fn 46 []),(.ptr 6 0 [])]))],[(0,.cst (.tup [(.fn 45 [(.ptr 6 0 []),(.ptr 4 0 []),(.ptr 5 0 [])])]))]],bxs:=[(31031002,.var [.ty .bool,.cst .nils]),(4,.var [.cst (.row 34 .whole)]),(5,.var [YI]),(6,.var [YI]),(14,.var [.ty .str,YI]),(8,.var [.ty (.arr 2 yI)]),(9,.var [.ty .bool,.ty (.sl yI)]),(34,.row yR false)] })]
def f68_l3w (t5:Int) (k1t16:Int) (k1t17:Int) (k1t28:(List Int)) (k1t29:(Bool × ((List Int) × Unit))) (b14g0:ByteArray) (b31031002g0:Bool) (b5g0:Int) (b6g0:Int) (b8g0:(List Int)) (b9g0:Bool) (b9g1:(List Int)) (r34:(List Yr)):Nat→Int→Int→(List Int)→Option (outDen f68_l3wo)
 | 0,_,_,_=>none
 | k + 1,t6,b14g1,r31031008012 =>
 bif (decide (t6 < t5)) then
 (f90 b14g0 b14g1).bind fun y8 =>
 bif (decide (y8.2.2.1 = (0:Int))) then
 let v9:Bool:=(decide (y8.1 ≥ (-1152921504606846976:Int)))
 bif v9 then
 let v10:Bool:=(decide (y8.1≤(1152921504606846976:Int)))
 bif (!v10) then
 some (.inr ((),((),(k1t16,k1t17,k1t28,k1t29,()),(),(),()),((b31031002g0,()),(),(b5g0,()),(b6g0,()),(b14g0,b14g1,()),(b8g0,()),(b9g0,b9g1,()),r34,())))
 else
 bif (decide (r31031008012.length + ([y8.1]:List Int).length≤zac)) then f68_l3w t5 k1t16 k1t17 k1t28 k1t29 b14g0 b31031002g0 b5g0 b6g0 b8g0 b9g0 b9g1 r34 k (IntKind.wrap .i64 (t6 + 1)) y8.2.1 (r31031008012++([y8.1]:List Int)) else none
 else
 some (.inr ((),((),(k1t16,k1t17,k1t28,k1t29,()),(),(),()),((b31031002g0,()),(),(b5g0,()),(b6g0,()),(b14g0,b14g1,()),(b8g0,()),(b9g0,b9g1,()),r34,())))
 else
 some (.inr ((),((),(k1t16,k1t17,k1t28,k1t29,()),(),(),()),((b31031002g0,()),(),(b5g0,()),(b6g0,()),(b14g0,b14g1,()),(b8g0,()),(b9g0,b9g1,()),r34,())))
 else
 some (.inl ((),((),(k1t16,k1t17,k1t28,k1t29,()),(),(),()),(r31031008012,(b31031002g0,()),(),(b5g0,()),(b6g0,()),(b14g0,b14g1,()),(b8g0,()),(b9g0,b9g1,()),r34,())))
def f68_l3w_n (n:Nat) (x:f68_l3wh.den):=f68_l3w x.1.1 x.2.1.2.1.1 x.2.1.2.1.2.1 x.2.1.2.1.2.2.1 x.2.1.2.1.2.2.2.1 x.2.2.1.1 x.2.2.2.2.1.1 x.2.2.2.2.2.2.1.1 x.2.2.2.2.2.2.2.1.1 x.2.2.2.2.2.2.2.2.1.1 x.2.2.2.2.2.2.2.2.2.1.1 x.2.2.2.2.2.2.2.2.2.1.2.1 x.2.2.2.2.2.2.2.2.2.2.1 n x.1.2.1 x.2.2.1.2.1 x.2.2.2.1
def f68_l3ws:LSpec:={ thaws:=[.slot 3 31031008012 yI],head:=f68_l3wh,outs:=f68_l3wo,fn:=fun x=>f68_l3w_n ((x.1.1 - x.1.2.1).toNat + 1) x }
def f68_l3yh:Ann:={ env:=[(0,cP 14),(3,.cst (.row 23031008012 .whole)),(5,YI),(6,YI)],stk:=[[(2,cP 23031002)],[(4,cP 4),(5,cP 5),(6,cP 6),(7,cP 14),(8,cP 8),(9,cP 9),(16,YI),(17,YI),(26,cP 4),(27,.cst (.row 34 .whole)),(28,.ty (.arr 2 yI)),(30,cP 14)],[(0,.cst (.tup [(.fn 46 []),(.ptr 6 0 [])]))],[(0,.cst (.tup [(.fn 45 [(.ptr 6 0 []),(.ptr 4 0 []),(.ptr 5 0 [])])]))]],bxs:=[(14,.var [.ty .str,YI]),(23031008012,.row yI false),(23031002,.var [.ty .bool,.cst .nils]),(4,.var [.cst (.row 34 .whole)]),(5,.var [YI]),(6,.var [YI]),(8,.var [.ty (.arr 2 yI)]),(9,.var [.ty .bool,.ty (.sl yI)]),(34,.row yR false)] }
def f68_l3yo:List (Ex × Ann):=[((.exit 0),{ env:=[(3,.cst (.row 23031008012 .whole))],stk:=[[(2,cP 23031002)],[(4,cP 4),(5,cP 5),(6,cP 6),(7,cP 14),(8,cP 8),(9,cP 9),(16,YI),(17,YI),(26,cP 4),(27,.cst (.row 34 .whole)),(28,.ty (.arr 2 yI)),(30,cP 14)],[(0,.cst (.tup [(.fn 46 []),(.ptr 6 0 [])]))],[(0,.cst (.tup [(.fn 45 [(.ptr 6 0 []),(.ptr 4 0 []),(.ptr 5 0 [])])]))]],bxs:=[(23031008012,.row yI false),(23031002,.var [.ty .bool,.cst .nils]),(4,.var [.cst (.row 34 .whole)]),(5,.var [YI]),(6,.var [YI]),(14,.var [.ty .str,YI]),(8,.var [.ty (.arr 2 yI)]),(9,.var [.ty .bool,.ty (.sl yI)]),(34,.row yR false)] }),((.pan ⟨135,.emp⟩),{ env:=[],stk:=[[(2,cP 23031002)],[(4,cP 4),(5,cP 5),(6,cP 6),(7,cP 14),(8,cP 8),(9,cP 9),(16,YI),(17,YI),(26,cP 4),(27,.cst (.row 34 .whole)),(28,.ty (.arr 2 yI)),(30,cP 14)],[(0,.cst (.tup [(.fn 46 []),(.ptr 6 0 [])]))],[(0,.cst (.tup [(.fn 45 [(.ptr 6 0 []),(.ptr 4 0 []),(.ptr 5 0 [])])]))]],bxs:=[(23031002,.var [.ty .bool,.cst .nils]),(4,.var [.cst (.row 34 .whole)]),(5,.var [YI]),(6,.var [YI]),(14,.var [.ty .str,YI]),(8,.var [.ty (.arr 2 yI)]),(9,.var [.ty .bool,.ty (.sl yI)]),(34,.row yR false)] })]
def f68_l3y (t5:Int) (k1t16:Int) (k1t17:Int) (k1t28:(List Int)) (b14g0:ByteArray) (b23031002g0:Bool) (b5g0:Int) (b6g0:Int) (b8g0:(List Int)) (b9g0:Bool) (b9g1:(List Int)) (r34:(List Yr)):Nat→Int→Int→(List Int)→Option (outDen f68_l3yo)
 | 0,_,_,_=>none
 | k + 1,t6,b14g1,r23031008012 =>
 bif (decide (t6 < t5)) then
 (f90 b14g0 b14g1).bind fun y45 =>
 bif (decide (y45.2.2.1 = (0:Int))) then
 let v46:Bool:=(decide (y45.1 ≥ (-1152921504606846976:Int)))
 bif v46 then
 let v47:Bool:=(decide (y45.1≤(1152921504606846976:Int)))
 bif (!v47) then
 some (.inr ((),((),(k1t16,k1t17,k1t28,()),(),(),()),((b23031002g0,()),(),(b5g0,()),(b6g0,()),(b14g0,b14g1,()),(b8g0,()),(b9g0,b9g1,()),r34,())))
 else
 bif (decide (r23031008012.length + ([y45.1]:List Int).length≤zac)) then f68_l3y t5 k1t16 k1t17 k1t28 b14g0 b23031002g0 b5g0 b6g0 b8g0 b9g0 b9g1 r34 k (IntKind.wrap .i64 (t6 + 1)) y45.2.1 (r23031008012++([y45.1]:List Int)) else none
 else
 some (.inr ((),((),(k1t16,k1t17,k1t28,()),(),(),()),((b23031002g0,()),(),(b5g0,()),(b6g0,()),(b14g0,b14g1,()),(b8g0,()),(b9g0,b9g1,()),r34,())))
 else
 some (.inr ((),((),(k1t16,k1t17,k1t28,()),(),(),()),((b23031002g0,()),(),(b5g0,()),(b6g0,()),(b14g0,b14g1,()),(b8g0,()),(b9g0,b9g1,()),r34,())))
 else
 some (.inl ((),((),(k1t16,k1t17,k1t28,()),(),(),()),(r23031008012,(b23031002g0,()),(),(b5g0,()),(b6g0,()),(b14g0,b14g1,()),(b8g0,()),(b9g0,b9g1,()),r34,())))
def f68_l3y_n (n:Nat) (x:f68_l3yh.den):=f68_l3y x.1.1 x.2.1.2.1.1 x.2.1.2.1.2.1 x.2.1.2.1.2.2.1 x.2.2.1.1 x.2.2.2.2.1.1 x.2.2.2.2.2.2.1.1 x.2.2.2.2.2.2.2.1.1 x.2.2.2.2.2.2.2.2.1.1 x.2.2.2.2.2.2.2.2.2.1.1 x.2.2.2.2.2.2.2.2.2.1.2.1 x.2.2.2.2.2.2.2.2.2.2.1 n x.1.2.1 x.2.2.1.2.1 x.2.2.2.1
def f68_l3ys:LSpec:={ thaws:=[.slot 3 23031008012 yI],head:=f68_l3yh,outs:=f68_l3yo,fn:=fun x=>f68_l3y_n ((x.1.1 - x.1.2.1).toNat + 1) x }
def f68_l3zh:Ann:={ env:=[(0,cP 14),(3,.cst (.row 25008012 .whole)),(5,YI),(6,YI)],stk:=[[(2,cP 25002)],[(4,cP 4),(5,cP 5),(6,cP 6),(7,cP 14),(8,cP 8),(16,YI),(17,YI)],[(0,.cst (.tup [(.fn 46 []),(.ptr 6 0 [])]))],[(0,.cst (.tup [(.fn 45 [(.ptr 6 0 []),(.ptr 4 0 []),(.ptr 5 0 [])])]))]],bxs:=[(14,.var [.ty .str,YI]),(25008012,.row yI false),(25002,.var [.ty .bool,.cst .nils]),(4,.var [.cst (.row 34 .whole)]),(5,.var [YI]),(6,.var [YI]),(8,.var [.ty (.arr 2 yI)]),(34,.row yR false)] }
def f68_l3zo:List (Ex × Ann):=[((.exit 0),{ env:=[(3,.cst (.row 25008012 .whole))],stk:=[[(2,cP 25002)],[(4,cP 4),(5,cP 5),(6,cP 6),(7,cP 14),(8,cP 8),(16,YI),(17,YI)],[(0,.cst (.tup [(.fn 46 []),(.ptr 6 0 [])]))],[(0,.cst (.tup [(.fn 45 [(.ptr 6 0 []),(.ptr 4 0 []),(.ptr 5 0 [])])]))]],bxs:=[(25008012,.row yI false),(25002,.var [.ty .bool,.cst .nils]),(4,.var [.cst (.row 34 .whole)]),(5,.var [YI]),(6,.var [YI]),(14,.var [.ty .str,YI]),(8,.var [.ty (.arr 2 yI)]),(34,.row yR false)] }),((.pan ⟨135,.emp⟩),{ env:=[],stk:=[[(2,cP 25002)],[(4,cP 4),(5,cP 5),(6,cP 6),(7,cP 14),(8,cP 8),(16,YI),(17,YI)],[(0,.cst (.tup [(.fn 46 []),(.ptr 6 0 [])]))],[(0,.cst (.tup [(.fn 45 [(.ptr 6 0 []),(.ptr 4 0 []),(.ptr 5 0 [])])]))]],bxs:=[(25002,.var [.ty .bool,.cst .nils]),(4,.var [.cst (.row 34 .whole)]),(5,.var [YI]),(6,.var [YI]),(14,.var [.ty .str,YI]),(8,.var [.ty (.arr 2 yI)]),(34,.row yR false)] })]
def f68_l3z (t5:Int) (k1t16:Int) (k1t17:Int) (b14g0:ByteArray) (b25002g0:Bool) (b5g0:Int) (b6g0:Int) (b8g0:(List Int)) (r34:(List Yr)):Nat→Int→Int→(List Int)→Option (outDen f68_l3zo)
 | 0,_,_,_=>none
 | k + 1,t6,b14g1,r25008012 =>
 bif (decide (t6 < t5)) then
 (f90 b14g0 b14g1).bind fun y78 =>
 bif (decide (y78.2.2.1 = (0:Int))) then
 let v79:Bool:=(decide (y78.1 ≥ (-1152921504606846976:Int)))
 bif v79 then
 let v80:Bool:=(decide (y78.1≤(1152921504606846976:Int)))
 bif (!v80) then
 some (.inr ((),((),(k1t16,k1t17,()),(),(),()),((b25002g0,()),(),(b5g0,()),(b6g0,()),(b14g0,b14g1,()),(b8g0,()),r34,())))
 else
 bif (decide (r25008012.length + ([y78.1]:List Int).length≤zac)) then f68_l3z t5 k1t16 k1t17 b14g0 b25002g0 b5g0 b6g0 b8g0 r34 k (IntKind.wrap .i64 (t6 + 1)) y78.2.1 (r25008012++([y78.1]:List Int)) else none
 else
 some (.inr ((),((),(k1t16,k1t17,()),(),(),()),((b25002g0,()),(),(b5g0,()),(b6g0,()),(b14g0,b14g1,()),(b8g0,()),r34,())))
 else
 some (.inr ((),((),(k1t16,k1t17,()),(),(),()),((b25002g0,()),(),(b5g0,()),(b6g0,()),(b14g0,b14g1,()),(b8g0,()),r34,())))
 else
 some (.inl ((),((),(k1t16,k1t17,()),(),(),()),(r25008012,(b25002g0,()),(),(b5g0,()),(b6g0,()),(b14g0,b14g1,()),(b8g0,()),r34,())))
def f68_l3z_n (n:Nat) (x:f68_l3zh.den):=f68_l3z x.1.1 x.2.1.2.1.1 x.2.1.2.1.2.1 x.2.2.1.1 x.2.2.2.2.1.1 x.2.2.2.2.2.2.1.1 x.2.2.2.2.2.2.2.1.1 x.2.2.2.2.2.2.2.2.1.1 x.2.2.2.2.2.2.2.2.2.1 n x.1.2.1 x.2.2.1.2.1 x.2.2.2.1
def f68_l3zs:LSpec:={ thaws:=[.slot 3 25008012 yI],head:=f68_l3zh,outs:=f68_l3zo,fn:=fun x=>f68_l3z_n ((x.1.1 - x.1.2.1).toNat + 1) x }
def f30_l5h:Ann:={ env:=[(4,cP 4),(5,cP 5),(6,cP 6),(7,cP 14),(16,YI),(17,YI)],stk:=[[(0,.cst (.tup [(.fn 46 []),(.ptr 6 0 [])]))],[(0,.cst (.tup [(.fn 45 [(.ptr 6 0 []),(.ptr 4 0 []),(.ptr 5 0 [])])]))]],bxs:=[(4,.var [.cst (.row 34 .whole)]),(5,.var [YI]),(6,.var [YI]),(14,.var [.ty .str,YI]),(34,.row yR false)] }
def f30_l5o:List (Ex × Ann):=[((.exit 0),{ env:=[(4,cP 4),(5,cP 5),(6,cP 6),(7,cP 14)],stk:=[[(0,.cst (.tup [(.fn 46 []),(.ptr 6 0 [])]))],[(0,.cst (.tup [(.fn 45 [(.ptr 6 0 []),(.ptr 4 0 []),(.ptr 5 0 [])])]))]],bxs:=[(4,.var [.cst (.row 34 .whole)]),(5,.var [YI]),(6,.var [YI]),(14,.var [.ty .str,YI]),(34,.row yR false)] }),((.pan ⟨135,.emp⟩),{ env:=[(4,cP 4),(5,cP 5),(6,cP 6)],stk:=[[(0,.cst (.tup [(.fn 46 []),(.ptr 6 0 [])]))],[(0,.cst (.tup [(.fn 45 [(.ptr 6 0 []),(.ptr 4 0 []),(.ptr 5 0 [])])]))]],bxs:=[(4,.var [.cst (.row 34 .whole)]),(5,.var [YI]),(6,.var [YI]),(34,.row yR false)] })]
def f30_l5:Nat→Int→Int→Int→Int→ByteArray→Int→(List Yr)→Option (outDen f30_l5o)
 | 0,_,_,_,_,_,_,_=>none
 | k + 1,t16,t17,b5g0,b6g0,b14g0,b14g1,r34 =>
 bif (decide (t17 < t16)) then
 (f90 b14g0 b14g1).bind fun y2 =>
 bif (decide (y2.2.2.1 = (0:Int))) then
 bif (decide (y2.1 ≥ (1:Int))) then
 bif (!(decide (y2.1≤(7:Int)))) then
 some (.inr ((),((),(),()),((),(b5g0,()),(b6g0,()),r34,())))
 else
 (f90 b14g0 y2.2.1).bind fun y3 =>
 bif (decide (y3.2.2.1 = (0:Int))) then
 bif (decide (y3.1 ≥ (0:Int))) then
 bif (!(decide (y3.1≤(23:Int)))) then
 some (.inr ((),((),(),()),((),(b5g0,()),(b6g0,()),r34,())))
 else
 (f90 b14g0 y3.2.1).bind fun y4 =>
 bif (decide (y4.2.2.1 = (0:Int))) then
 bif (decide (y4.1 ≥ (0:Int))) then
 bif (!(decide (y4.1≤(1:Int)))) then
 some (.inr ((),((),(),()),((),(b5g0,()),(b6g0,()),r34,())))
 else
 bif (decide (y4.1 = (0:Int))) then
 same (
 zbF (.val (.arr 2 yI) ([y2.1,y3.1]:List Int)) (.val (.arr 2 yI) ([y2.1,y3.1]:List Int)) (
 (f90 b14g0 y4.2.1).bind fun y5 =>
 bif (decide (y5.2.2.1 = (0:Int))) then
 bif (decide (y5.1 ≥ (0:Int))) then
 bif (!(decide (y5.1≤(1:Int)))) then
 some (.inr ((),((),(),()),((),(b5g0,()),(b6g0,()),r34,())))
 else
 bif (decide (y5.1 = (0:Int))) then
 zbF (.val (.arr 2 yI) ([y2.1,y3.1]:List Int)) (.val (.arr 2 yI) ([y2.1,y3.1]:List Int)) (
 (f45 ([y2.1,y3.1]:List Int) (false,([],())) (false,([],()))).bind fun y6 =>
 bif (decide (r34.length + ([y6.1]:List Yr).length≤zac)) then f30_l5 k t16 (IntKind.wrap .i64 (t17 + 1)) b5g0 b6g0 b14g0 y5.2.1 (r34++([y6.1]:List Yr)) else none)
 else
 (f90 b14g0 y5.2.1).bind fun y7 =>
 bif (decide (y7.2.2.1 = (0:Int))) then
 bif (decide (y7.1 ≥ (0:Int))) then
 bif (!(decide (y7.1≤(64:Int)))) then
 some (.inr ((),((),(),()),((),(b5g0,()),(b6g0,()),r34,())))
 else
 (f68_l3w y7.1 t16 t17 ([y2.1,y3.1]:List Int) (false,([],())) b14g0 false b5g0 b6g0 ([y2.1,y3.1]:List Int) false [] r34 ((y7.1 - (0:Int)).toNat + 1) (0:Int) y7.2.1 []).bind fun o11 =>
 Sum.elim (fun o12 =>
 let u14:Int:=o12.2.1.2.1.1
 let u15:Int:=o12.2.1.2.1.2.1
 let u16:(List Int):=o12.2.1.2.1.2.2.1
 let u17:(Bool × ((List Int) × Unit)):=o12.2.1.2.1.2.2.2.1
 let u18:(List Int):=o12.2.2.1
 let u20:Int:=o12.2.2.2.2.2.1.1
 let u21:Int:=o12.2.2.2.2.2.2.1.1
 let u22:ByteArray:=o12.2.2.2.2.2.2.2.1.1
 let u23:Int:=o12.2.2.2.2.2.2.2.1.2.1
 let u24:(List Int):=o12.2.2.2.2.2.2.2.2.1.1
 let u27:(List Yr):=o12.2.2.2.2.2.2.2.2.2.2.1
 zbF (.val (.arr 2 yI) u24) (.val (.arr 2 yI) u16) (
 (f45 u16 (u17.1,(u17.2.1,())) (true,(u18,()))).bind fun y28 =>
 bif (decide (u27.length + ([y28.1]:List Yr).length≤zac)) then f30_l5 k u14 (IntKind.wrap .i64 (u15 + 1)) u20 u21 u22 u23 (u27++([y28.1]:List Yr)) else none)) (fun o13 =>
 let u34:Int:=o13.2.2.2.2.1.1
 let u35:Int:=o13.2.2.2.2.2.1.1
 let u41:(List Yr):=o13.2.2.2.2.2.2.2.2.2.1
 some (.inr ((),((),(),()),((),(u34,()),(u35,()),u41,())))) o11
 else
 some (.inr ((),((),(),()),((),(b5g0,()),(b6g0,()),r34,())))
 else
 some (.inr ((),((),(),()),((),(b5g0,()),(b6g0,()),r34,())))
 else
 some (.inr ((),((),(),()),((),(b5g0,()),(b6g0,()),r34,())))
 else
 some (.inr ((),((),(),()),((),(b5g0,()),(b6g0,()),r34,()))))) (
 (f90 b14g0 y4.2.1).bind fun y42 =>
 bif (decide (y42.2.2.1 = (0:Int))) then
 bif (decide (y42.1 ≥ (0:Int))) then
 bif (!(decide (y42.1≤(1:Int)))) then
 some (.inr ((),((),(),()),((),(b5g0,()),(b6g0,()),r34,())))
 else
 bif (decide (y42.1 = (0:Int))) then
 zbF (.val (.arr 2 yI) ([y2.1,y3.1]:List Int)) (.val (.arr 2 yI) ([y2.1,y3.1]:List Int)) (
 zbF (.val (.arr 2 yI) ([y2.1,y3.1]:List Int)) (.val (.arr 2 yI) ([y2.1,y3.1]:List Int)) (
 (f45 ([y2.1,y3.1]:List Int) (false,([],())) (false,([],()))).bind fun y43 =>
 bif (decide (r34.length + ([y43.1]:List Yr).length≤zac)) then f30_l5 k t16 (IntKind.wrap .i64 (t17 + 1)) b5g0 b6g0 b14g0 y42.2.1 (r34++([y43.1]:List Yr)) else none))
 else
 (f90 b14g0 y42.2.1).bind fun y44 =>
 bif (decide (y44.2.2.1 = (0:Int))) then
 bif (decide (y44.1 ≥ (0:Int))) then
 bif (!(decide (y44.1≤(64:Int)))) then
 some (.inr ((),((),(),()),((),(b5g0,()),(b6g0,()),r34,())))
 else
 (f68_l3y y44.1 t16 t17 ([y2.1,y3.1]:List Int) b14g0 false b5g0 b6g0 ([y2.1,y3.1]:List Int) false [] r34 ((y44.1 - (0:Int)).toNat + 1) (0:Int) y44.2.1 []).bind fun o48 =>
 Sum.elim (fun o49 =>
 let u51:Int:=o49.2.1.2.1.1
 let u52:Int:=o49.2.1.2.1.2.1
 let u53:(List Int):=o49.2.1.2.1.2.2.1
 let u54:(List Int):=o49.2.2.1
 let u56:Int:=o49.2.2.2.2.2.1.1
 let u57:Int:=o49.2.2.2.2.2.2.1.1
 let u58:ByteArray:=o49.2.2.2.2.2.2.2.1.1
 let u59:Int:=o49.2.2.2.2.2.2.2.1.2.1
 let u60:(List Int):=o49.2.2.2.2.2.2.2.2.1.1
 let u61:Bool:=o49.2.2.2.2.2.2.2.2.2.1.1
 let u62:(List Int):=o49.2.2.2.2.2.2.2.2.2.1.2.1
 let u63:(List Yr):=o49.2.2.2.2.2.2.2.2.2.2.1
 zbF (.val (.arr 2 yI) u60) (.val (.arr 2 yI) u53) (
 zbF (.val (.arr 2 yI) u60) (.val (.arr 2 yI) u53) (
 (f45 u53 (u61,(u62,())) (true,(u54,()))).bind fun y64 =>
 bif (decide (u63.length + ([y64.1]:List Yr).length≤zac)) then f30_l5 k u51 (IntKind.wrap .i64 (u52 + 1)) u56 u57 u58 u59 (u63++([y64.1]:List Yr)) else none))) (fun o50 =>
 let u69:Int:=o50.2.2.2.2.1.1
 let u70:Int:=o50.2.2.2.2.2.1.1
 let u76:(List Yr):=o50.2.2.2.2.2.2.2.2.2.1
 some (.inr ((),((),(),()),((),(u69,()),(u70,()),u76,())))) o48
 else
 some (.inr ((),((),(),()),((),(b5g0,()),(b6g0,()),r34,())))
 else
 some (.inr ((),((),(),()),((),(b5g0,()),(b6g0,()),r34,())))
 else
 some (.inr ((),((),(),()),((),(b5g0,()),(b6g0,()),r34,())))
 else
 some (.inr ((),((),(),()),((),(b5g0,()),(b6g0,()),r34,()))))
 else
 (f90 b14g0 y4.2.1).bind fun y77 =>
 bif (decide (y77.2.2.1 = (0:Int))) then
 bif (decide (y77.1 ≥ (0:Int))) then
 bif (!(decide (y77.1≤(64:Int)))) then
 some (.inr ((),((),(),()),((),(b5g0,()),(b6g0,()),r34,())))
 else
 (f68_l3z y77.1 t16 t17 b14g0 false b5g0 b6g0 ([y2.1,y3.1]:List Int) r34 ((y77.1 - (0:Int)).toNat + 1) (0:Int) y77.2.1 []).bind fun o81 =>
 Sum.elim (fun o82 =>
 let u84:Int:=o82.2.1.2.1.1
 let u85:Int:=o82.2.1.2.1.2.1
 let u86:(List Int):=o82.2.2.1
 let u88:Int:=o82.2.2.2.2.2.1.1
 let u89:Int:=o82.2.2.2.2.2.2.1.1
 let u90:ByteArray:=o82.2.2.2.2.2.2.2.1.1
 let u91:Int:=o82.2.2.2.2.2.2.2.1.2.1
 let u92:(List Int):=o82.2.2.2.2.2.2.2.2.1.1
 let u93:(List Yr):=o82.2.2.2.2.2.2.2.2.2.1
 same (
 zbF (.val (.arr 2 yI) u92) (.val (.arr 2 yI) u92) (
 (f90 u90 u91).bind fun y94 =>
 bif (decide (y94.2.2.1 = (0:Int))) then
 bif (decide (y94.1 ≥ (0:Int))) then
 bif (!(decide (y94.1≤(1:Int)))) then
 some (.inr ((),((),(),()),((),(u88,()),(u89,()),u93,())))
 else
 bif (decide (y94.1 = (0:Int))) then
 zbF (.val (.arr 2 yI) u92) (.val (.arr 2 yI) u92) (
 (f45 u92 (true,(u86,())) (false,([],()))).bind fun y95 =>
 bif (decide (u93.length + ([y95.1]:List Yr).length≤zac)) then f30_l5 k u84 (IntKind.wrap .i64 (u85 + 1)) u88 u89 u90 y94.2.1 (u93++([y95.1]:List Yr)) else none)
 else
 (f90 u90 y94.2.1).bind fun y96 =>
 bif (decide (y96.2.2.1 = (0:Int))) then
 bif (decide (y96.1 ≥ (0:Int))) then
 bif (!(decide (y96.1≤(64:Int)))) then
 some (.inr ((),((),(),()),((),(u88,()),(u89,()),u93,())))
 else
 (f68_l3w y96.1 u84 u85 u92 (true,(u86,())) u90 false u88 u89 u92 true u86 u93 ((y96.1 - (0:Int)).toNat + 1) (0:Int) y96.2.1 []).bind fun o100 =>
 Sum.elim (fun o101 =>
 let u103:Int:=o101.2.1.2.1.1
 let u104:Int:=o101.2.1.2.1.2.1
 let u105:(List Int):=o101.2.1.2.1.2.2.1
 let u106:(Bool × ((List Int) × Unit)):=o101.2.1.2.1.2.2.2.1
 let u107:(List Int):=o101.2.2.1
 let u109:Int:=o101.2.2.2.2.2.1.1
 let u110:Int:=o101.2.2.2.2.2.2.1.1
 let u111:ByteArray:=o101.2.2.2.2.2.2.2.1.1
 let u112:Int:=o101.2.2.2.2.2.2.2.1.2.1
 let u113:(List Int):=o101.2.2.2.2.2.2.2.2.1.1
 let u116:(List Yr):=o101.2.2.2.2.2.2.2.2.2.2.1
 zbF (.val (.arr 2 yI) u113) (.val (.arr 2 yI) u105) (
 (f45 u105 (u106.1,(u106.2.1,())) (true,(u107,()))).bind fun y117 =>
 bif (decide (u116.length + ([y117.1]:List Yr).length≤zac)) then f30_l5 k u103 (IntKind.wrap .i64 (u104 + 1)) u109 u110 u111 u112 (u116++([y117.1]:List Yr)) else none)) (fun o102 =>
 let u123:Int:=o102.2.2.2.2.1.1
 let u124:Int:=o102.2.2.2.2.2.1.1
 let u130:(List Yr):=o102.2.2.2.2.2.2.2.2.2.1
 some (.inr ((),((),(),()),((),(u123,()),(u124,()),u130,())))) o100
 else
 some (.inr ((),((),(),()),((),(u88,()),(u89,()),u93,())))
 else
 some (.inr ((),((),(),()),((),(u88,()),(u89,()),u93,())))
 else
 some (.inr ((),((),(),()),((),(u88,()),(u89,()),u93,())))
 else
 some (.inr ((),((),(),()),((),(u88,()),(u89,()),u93,()))))) (
 (f90 u90 u91).bind fun y131 =>
 bif (decide (y131.2.2.1 = (0:Int))) then
 bif (decide (y131.1 ≥ (0:Int))) then
 bif (!(decide (y131.1≤(1:Int)))) then
 some (.inr ((),((),(),()),((),(u88,()),(u89,()),u93,())))
 else
 bif (decide (y131.1 = (0:Int))) then
 zbF (.val (.arr 2 yI) u92) (.val (.arr 2 yI) u92) (
 zbF (.val (.arr 2 yI) u92) (.val (.arr 2 yI) u92) (
 (f45 u92 (true,(u86,())) (false,([],()))).bind fun y132 =>
 bif (decide (u93.length + ([y132.1]:List Yr).length≤zac)) then f30_l5 k u84 (IntKind.wrap .i64 (u85 + 1)) u88 u89 u90 y131.2.1 (u93++([y132.1]:List Yr)) else none))
 else
 (f90 u90 y131.2.1).bind fun y133 =>
 bif (decide (y133.2.2.1 = (0:Int))) then
 bif (decide (y133.1 ≥ (0:Int))) then
 bif (!(decide (y133.1≤(64:Int)))) then
 some (.inr ((),((),(),()),((),(u88,()),(u89,()),u93,())))
 else
 (f68_l3y y133.1 u84 u85 u92 u90 false u88 u89 u92 true u86 u93 ((y133.1 - (0:Int)).toNat + 1) (0:Int) y133.2.1 []).bind fun o137 =>
 Sum.elim (fun o138 =>
 let u140:Int:=o138.2.1.2.1.1
 let u141:Int:=o138.2.1.2.1.2.1
 let u142:(List Int):=o138.2.1.2.1.2.2.1
 let u143:(List Int):=o138.2.2.1
 let u145:Int:=o138.2.2.2.2.2.1.1
 let u146:Int:=o138.2.2.2.2.2.2.1.1
 let u147:ByteArray:=o138.2.2.2.2.2.2.2.1.1
 let u148:Int:=o138.2.2.2.2.2.2.2.1.2.1
 let u149:(List Int):=o138.2.2.2.2.2.2.2.2.1.1
 let u150:Bool:=o138.2.2.2.2.2.2.2.2.2.1.1
 let u151:(List Int):=o138.2.2.2.2.2.2.2.2.2.1.2.1
 let u152:(List Yr):=o138.2.2.2.2.2.2.2.2.2.2.1
 zbF (.val (.arr 2 yI) u149) (.val (.arr 2 yI) u142) (
 zbF (.val (.arr 2 yI) u149) (.val (.arr 2 yI) u142) (
 (f45 u142 (u150,(u151,())) (true,(u143,()))).bind fun y153 =>
 bif (decide (u152.length + ([y153.1]:List Yr).length≤zac)) then f30_l5 k u140 (IntKind.wrap .i64 (u141 + 1)) u145 u146 u147 u148 (u152++([y153.1]:List Yr)) else none))) (fun o139 =>
 let u158:Int:=o139.2.2.2.2.1.1
 let u159:Int:=o139.2.2.2.2.2.1.1
 let u165:(List Yr):=o139.2.2.2.2.2.2.2.2.2.1
 some (.inr ((),((),(),()),((),(u158,()),(u159,()),u165,())))) o137
 else
 some (.inr ((),((),(),()),((),(u88,()),(u89,()),u93,())))
 else
 some (.inr ((),((),(),()),((),(u88,()),(u89,()),u93,())))
 else
 some (.inr ((),((),(),()),((),(u88,()),(u89,()),u93,())))
 else
 some (.inr ((),((),(),()),((),(u88,()),(u89,()),u93,()))))) (fun o83 =>
 let u169:Int:=o83.2.2.2.2.1.1
 let u170:Int:=o83.2.2.2.2.2.1.1
 let u174:(List Yr):=o83.2.2.2.2.2.2.2.2.1
 some (.inr ((),((),(),()),((),(u169,()),(u170,()),u174,())))) o81
 else
 some (.inr ((),((),(),()),((),(b5g0,()),(b6g0,()),r34,())))
 else
 some (.inr ((),((),(),()),((),(b5g0,()),(b6g0,()),r34,())))
 else
 some (.inr ((),((),(),()),((),(b5g0,()),(b6g0,()),r34,())))
 else
 some (.inr ((),((),(),()),((),(b5g0,()),(b6g0,()),r34,())))
 else
 some (.inr ((),((),(),()),((),(b5g0,()),(b6g0,()),r34,())))
 else
 some (.inr ((),((),(),()),((),(b5g0,()),(b6g0,()),r34,())))
 else
 some (.inr ((),((),(),()),((),(b5g0,()),(b6g0,()),r34,())))
 else
 some (.inr ((),((),(),()),((),(b5g0,()),(b6g0,()),r34,())))
 else
 some (.inl ((),((),(),()),((),(b5g0,()),(b6g0,()),(b14g0,b14g1,()),r34,())))
def f30_l5_n (n:Nat) (x:f30_l5h.den):=f30_l5 n x.1.1 x.1.2.1 x.2.2.2.1.1 x.2.2.2.2.1.1 x.2.2.2.2.2.1.1 x.2.2.2.2.2.1.2.1 x.2.2.2.2.2.2.1
def f30_l5s:LSpec:={ thaws:=[.cell 4 0 34 yR],head:=f30_l5h,outs:=f30_l5o,fn:=fun x=>f30_l5_n ((x.1.1 - x.1.2.1).toNat + 1) x }
def f30 (a0:ByteArray) (a1:Int):Option (((List Yr) × Unit) × Int × Int × Unit) :=
 (f90 a0 a1).bind fun y1 =>
 bif (decide (y1.2.2.1 = (0:Int))) then
 bif (decide (y1.1 ≥ (0:Int))) then
 bif (!(decide (y1.1≤(168:Int)))) then
 some (([],()),(0:Int),(160:Int),())
 else
 (f30_l5 ((y1.1 - (0:Int)).toNat + 1) y1.1 (0:Int) 0 0 a0 y1.2.1 []).bind fun o175 =>
 Sum.elim (fun o176 =>
 let u181:Int:=o176.2.2.2.2.2.1.2.1
 let u182:(List Yr):=o176.2.2.2.2.2.2.1
 (f19 (u182,())).bind fun y183 =>
 bif (!y183.1) then
 some (([],()),(0:Int),(160:Int),())
 else
 some ((u182,()),u181,(0:Int),())) (fun o177 =>
 some (([],()),(0:Int),(160:Int),())) o175
 else
 some (([],()),(0:Int),(160:Int),())
 else
 some (([],()),(0:Int),(160:Int),())
def f30s:PSpec:={ args:=[.str,yI],res:=[(.pair (.sl yR) .unit),yI,yI],fn:=fun x=>f30 x.1 x.2.1 }
noncomputable def f30c:Code:=Tryz.f9.body.getD .skip
noncomputable def f30_code_55:Code:=Tryz.f55.body.getD .skip
noncomputable def f30e:Env0:={ C:=cfgF,P:=[(28,f19s),(35,f45s),(85,f90s)],L:=[(⟨10,31031008000,55,3⟩,f68_l3ws),(⟨10,23031008000,55,3⟩,f68_l3ys),(⟨10,25008000,55,3⟩,f68_l3zs),(⟨12,0,9,5⟩,f30_l5s)],F:=[(9,Tryz.f9),(45,Tryz.f45),(46,Tryz.f46),(47,Tryz.f47),(48,Tryz.f48),(49,Tryz.f49),(55,Tryz.f55)],I:=[],tot:=[(9,[8])],sym:=true,ord:=true }
theorem f68_l3wy:zan f30e 10 55 31031008000 (zao f30_code_55 3) f68_l3ws :=
 zae (by kernel_rfl) f68_l3w_n (fun x o h=>⟨_,h⟩) (fun x=>by kernel_rfl) (fun n x=>by kernel_rfl)
theorem f68_l3yy:zan f30e 10 55 23031008000 (zao f30_code_55 3) f68_l3ys :=
 zae (by kernel_rfl) f68_l3y_n (fun x o h=>⟨_,h⟩) (fun x=>by kernel_rfl) (fun n x=>by kernel_rfl)
theorem f68_l3zy:zan f30e 10 55 25008000 (zao f30_code_55 3) f68_l3zs :=
 zae (by kernel_rfl) f68_l3z_n (fun x o h=>⟨_,h⟩) (fun x=>by kernel_rfl) (fun n x=>by kernel_rfl)
theorem f30_l5y:zan f30e 12 9 0 (zao f30c 5) f30_l5s :=
 zae (by kernel_rfl) f30_l5_n (fun x o h=>⟨_,h⟩) (fun x=>by kernel_rfl) (fun n x=>by kernel_rfl)
theorem f30r:zR f30e 9 Tryz.f9 f30c f30s:=by intro x; kernel_rfl
theorem f30n:zQ 9:=zN Tryz.func9
theorem f30k:zE f30e:=zO zaf ⟨⟨f19p,f19n⟩,⟨f45p,f45n⟩,⟨f90p,f90n⟩,trivial⟩ trivial ⟨zK Tryz.func9,zK Tryz.func45,zK Tryz.func46,zK Tryz.func47,zK Tryz.func48,zK Tryz.func49,zK Tryz.func55,trivial⟩ ⟨⟨Tryz.f55,f30_code_55,rfl,rfl,f68_l3wy⟩,⟨Tryz.f55,f30_code_55,rfl,rfl,f68_l3yy⟩,⟨Tryz.f55,f30_code_55,rfl,rfl,f68_l3zy⟩,⟨Tryz.f9,f30c,rfl,rfl,f30_l5y⟩,trivial⟩
theorem f30p:zU 9 f30s:=zP f30k Tryz.f9 f30c f30r
def f13_l4h:Ann:={ env:=[(2,cP 2),(3,cP 3),(5,YI)],bxs:=[(2,.var [.ty (.sl yR)]),(3,.var [.ty (.sl yR)])] }
def f13_l4o:List (Ex × Ann):=[((.exit 0),{ env:=[] }),(.ret,{ env:=[(4,.ty .bool)] })]
def f13_l4 (b2g0:(List Yr)) (b3g0:(List Yr)):Nat→Int→Option (outDen f13_l4o)
 | 0,_=>none
 | k + 1,t5 =>
 bif (decide (t5 < (b2g0.length:Int))) then
 bif (inR t5 b2g0.length) then
 bif (inR t5 b3g0.length) then
 let v2:Int:=(at_ yR b2g0 t5).1
 let v3:Int:=(at_ yR b3g0 t5).1
 bif (decide (v2 ≠ v3)) then
 some (.inr ((false,()),(),()))
 else
 let v4:Int:=(at_ yR b2g0 t5).2.1
 let v5:Int:=(at_ yR b3g0 t5).2.1
 bif (decide (v4 ≠ v5)) then
 some (.inr ((false,()),(),()))
 else
 let v6:Bool:=(at_ yR b2g0 t5).2.2.1
 let v7:Bool:=(at_ yR b3g0 t5).2.2.1
 bif (!(decide (v6 = v7))) then
 some (.inr ((false,()),(),()))
 else
 let v8:Bool:=(at_ yR b2g0 t5).2.2.2.2.1
 let v9:Bool:=(at_ yR b3g0 t5).2.2.2.2.1
 bif (!(decide (v8 = v9))) then
 some (.inr ((false,()),(),()))
 else
 let v10:(List Int):=(at_ yR b2g0 t5).2.2.2.1
 let v11:(List Int):=(at_ yR b3g0 t5).2.2.2.1
 (f26 v10 v11).bind fun y12 =>
 bif (!y12.1) then
 some (.inr ((false,()),(),()))
 else
 let v13:(List Int):=(at_ yR b2g0 t5).2.2.2.2.2.1
 let v14:(List Int):=(at_ yR b3g0 t5).2.2.2.2.2.1
 (f26 v13 v14).bind fun y15 =>
 bif (!y15.1) then
 some (.inr ((false,()),(),()))
 else
 f13_l4 b2g0 b3g0 k (IntKind.wrap .i64 (t5 + 1))
 else none
 else none
 else
 some (.inl ((),(),()))
def f13_l4_n (n:Nat) (x:f13_l4h.den):=f13_l4 x.2.2.1.1 x.2.2.2.1.1 n x.1.1
def f13_l4s:LSpec:={ head:=f13_l4h,outs:=f13_l4o,fn:=fun x=>f13_l4_n (((x.2.2.1.1.length:Int) - x.1.1).toNat + 1) x }
def f13 (a0:((List Yr) × Unit)) (a1:((List Yr) × Unit)):Option (Bool × Unit) :=
 let v1:Bool:=(decide ((a0.1.length:Int) ≠ (a1.1.length:Int)))
 bif v1 then
 some (false,())
 else
 (f13_l4 a0.1 a1.1 (((a0.1.length:Int) - (0:Int)).toNat + 1) (0:Int)).bind fun o16 =>
 Sum.elim (fun o17 =>
 some (true,())) (fun o18 =>
 let u19:Bool:=o18.1.1
 some (u19,())) o16
def f13s:PSpec:={ args:=[(.pair (.sl yR) .unit),(.pair (.sl yR) .unit)],res:=[.bool],fn:=fun x=>f13 x.1 x.2.1 }
noncomputable def f13c:Code:=Tryz.f10.body.getD .skip
noncomputable def f13e:Env0:={ C:=cfgF,P:=[(17,f26s)],L:=[(⟨12,0,10,4⟩,f13_l4s)],F:=[(10,Tryz.f10)] }
theorem f13_l4y:zan f13e 12 10 0 (zao f13c 4) f13_l4s :=
 zae (by kernel_rfl) f13_l4_n (fun x o h=>⟨_,h⟩) (fun x=>by kernel_rfl) (fun n x=>by kernel_rfl)
theorem f13r:zR f13e 10 Tryz.f10 f13c f13s:=by intro x; kernel_rfl
theorem f13n:zQ 10:=zN Tryz.func10
theorem f13k:zE f13e:=zO zaf ⟨⟨f26p,f26n⟩,trivial⟩ trivial ⟨zK Tryz.func10,trivial⟩ ⟨⟨Tryz.f10,f13c,rfl,rfl,f13_l4y⟩,trivial⟩
theorem f13p:zU 10 f13s:=zP f13k Tryz.f10 f13c f13r
def f511 (a0:Int) (a1:Int):Option (Int × Unit) :=
 bif (decide (a0 < (0:Int))) then
 let v1:Int:=(IntKind.wrap .i64 (0 - (IntKind.wrap .i64 (a0 + 1))))
 bif (decide (a1 ≠ 0)) then some ((Int.tmod v1 a1),()) else none
 else
 bif (decide (a1 ≠ 0)) then some ((Int.tmod a0 a1),()) else none
def f511s:PSpec:={ args:=[yI,yI],res:=[yI],fn:=fun x=>f511 x.1 x.2.1 }
noncomputable def f511c:Code:=Tryz.f11.body.getD .skip
noncomputable def f511e:Env0:={ C:=cfgF,P:=[],L:=[],F:=[(11,Tryz.f11)] }
theorem f511r:zR f511e 11 Tryz.f11 f511c f511s:=by intro x; kernel_rfl
theorem f511n:zQ 11:=zN Tryz.func11
theorem f511k:zE f511e:=zO zaf trivial trivial ⟨zK Tryz.func11,trivial⟩ trivial
theorem f511p:zU 11 f511s:=zP f511k Tryz.f11 f511c f511r
def f550_l5h:Ann:={ env:=[(0,.ty .str),(1,YI),(7,.ty (.int .u64)),(8,YI)] }
def f550_l5o:List (Ex × Ann):=[((.exit 0),{ env:=[] }),(.ret,{ env:=[(4,YI),(5,YI),(6,YI)] })]
def f550_l5 (t0:ByteArray) (t1:Int):Nat→Int→Int→Option (outDen f550_l5o)
 | 0,_,_=>none
 | k + 1,t7,t8 =>
 bif (decide (t8 < (9:Int))) then
 let v1:Bool:=(decide ((IntKind.wrap .i64 (t1 + t8)) < (t0.size:Int)))
 bif v1 then
 bif (inR (IntKind.wrap .i64 (t1 + t8)) t0.size) then
 let v2:Int:=(byteAt t0 (IntKind.wrap .i64 (t1 + t8)))
 let v3:Int:=(Int.tmod (IntKind.wrap .u64 v2) (128:Int))
 bif (decide (0≤(IntKind.wrap .i64 ((7:Int) * t8)))) then
 let v4:Int:=(shlV .u64 v3 (IntKind.wrap .i64 ((7:Int) * t8)))
 let v5:Bool:=(decide ((IntKind.wrap .u64 v2) ≥ (128:Int)))
 bif v5 then
 f550_l5 t0 t1 k (IntKind.wrap .u64 (t7 + v4)) (IntKind.wrap .i64 (t8 + 1))
 else
 let v6:Int:=(IntKind.wrap .u64 (Int.tdiv (IntKind.wrap .u64 (t7 + v4)) (2:Int)))
 let v7:Int:=(Int.tmod (IntKind.wrap .u64 (t7 + v4)) (2:Int))
 bif (decide (v7 = (1:Int))) then
 let v8:Int:=(IntKind.wrap .i64 (0 - (IntKind.wrap .i64 v6)))
 (f584 (IntKind.wrap .i64 (v8 - (1:Int)))).bind fun y9 =>
 bif (decide (y9.2.1 ≠ (0:Int))) then
 some (.inr (((0:Int),(0:Int),(10:Int),()),(),()))
 else
 let v10:Int:=(IntKind.wrap .i64 ((IntKind.wrap .i64 (t1 + t8)) + 1))
 bif (cutOk t0.size (some t1) (some v10)) then
 let v11:Bool:=(!(decide (y9.1 = (cutS t0 (some t1) (some v10)))))
 bif v11 then
 some (.inr (((0:Int),(0:Int),(10:Int),()),(),()))
 else
 let v12:Int:=(IntKind.wrap .i64 ((IntKind.wrap .i64 (t1 + t8)) + 1))
 some (.inr (((IntKind.wrap .i64 (v8 - (1:Int))),v12,(0:Int),()),(),()))
 else none
 else
 (f584 (IntKind.wrap .i64 v6)).bind fun y13 =>
 bif (decide (y13.2.1 ≠ (0:Int))) then
 some (.inr (((0:Int),(0:Int),(10:Int),()),(),()))
 else
 let v14:Int:=(IntKind.wrap .i64 ((IntKind.wrap .i64 (t1 + t8)) + 1))
 bif (cutOk t0.size (some t1) (some v14)) then
 let v15:Bool:=(!(decide (y13.1 = (cutS t0 (some t1) (some v14)))))
 bif v15 then
 some (.inr (((0:Int),(0:Int),(10:Int),()),(),()))
 else
 let v16:Int:=(IntKind.wrap .i64 ((IntKind.wrap .i64 (t1 + t8)) + 1))
 some (.inr (((IntKind.wrap .i64 v6),v16,(0:Int),()),(),()))
 else none
 else none
 else none
 else
 some (.inl ((),(),()))
 else
 some (.inl ((),(),()))
def f550_l5_n (n:Nat) (x:f550_l5h.den):=f550_l5 x.1.1 x.1.2.1 n x.1.2.2.1 x.1.2.2.2.1
def f550_l5s:LSpec:={ head:=f550_l5h,outs:=f550_l5o,fn:=fun x=>f550_l5_n (((9:Int) - x.1.2.2.2.1).toNat + 1) x }
def f550 (a0:ByteArray) (a1:Int):Option (Int × Int × Int × Unit) :=
 bif (decide (a1 < (0:Int))) then
 some ((0:Int),(0:Int),(2:Int),())
 else
 bif (decide (a1 > (a0.size:Int))) then
 some ((0:Int),(0:Int),(2:Int),())
 else
 (f550_l5 a0 a1 (((9:Int) - (0:Int)).toNat + 1) (0:Int) (0:Int)).bind fun o17 =>
 Sum.elim (fun o18 =>
 some ((0:Int),(0:Int),(10:Int),())) (fun o19 =>
 let u20:Int:=o19.1.1
 let u21:Int:=o19.1.2.1
 let u22:Int:=o19.1.2.2.1
 some (u20,u21,u22,())) o17
def f550s:PSpec:={ args:=[.str,yI],res:=[yI,yI,yI],fn:=fun x=>f550 x.1 x.2.1 }
noncomputable def f550c:Code:=Tryz.f50.body.getD .skip
noncomputable def f550e:Env0:={ C:=cfgF,P:=[(84,f584s)],L:=[(⟨12,0,50,5⟩,f550_l5s)],F:=[(50,Tryz.f50)] }
theorem f550_l5y:zan f550e 12 50 0 (zao f550c 5) f550_l5s :=
 zae (by kernel_rfl) f550_l5_n (fun x o h=>⟨_,h⟩) (fun x=>by kernel_rfl) (fun n x=>by kernel_rfl)
theorem f550r:zR f550e 50 Tryz.f50 f550c f550s:=by intro x; kernel_rfl
theorem f550n:zQ 50:=zN Tryz.func50
theorem f550k:zE f550e:=zO zaf ⟨⟨f584p,f584n⟩,trivial⟩ trivial ⟨zK Tryz.func50,trivial⟩ ⟨⟨Tryz.f50,f550c,rfl,rfl,f550_l5y⟩,trivial⟩
theorem f550p:zU 50 f550s:=zP f550k Tryz.f50 f550c f550r
end
end Go.V.G
namespace Go.V.G
open Go.Proofs
noncomputable section
def f556_l6h:Ann:={ env:=[(0,.ty .str),(1,YI),(7,YI),(9,.cst (.row 48 .whole)),(10,YI)],bxs:=[(48,.row yI false)] }
def f556_l6o:List (Ex × Ann):=[((.exit 0),{ env:=[(1,YI),(9,.cst (.row 48 .whole))],bxs:=[(48,.row yI false)] }),(.ret,{ env:=[(4,.cst .nils),(5,YI),(6,.ty .bool)] })]
def f556_l6 (t0:ByteArray) (t7:Int):Nat→Int→Int→(List Int)→Option (outDen f556_l6o)
 | 0,_,_,_=>none
 | k + 1,t1,t10,r48 =>
 bif (decide (t10 < t7)) then
 (f550 t0 t1).bind fun y2 =>
 bif (decide (y2.2.2.1 ≠ (0:Int))) then
 some (.inr (((0:Int),false,()),(),()))
 else
 bif (decide (r48.length + ([y2.1]:List Int).length≤zac)) then f556_l6 t0 t7 k y2.2.1 (IntKind.wrap .i64 (t10 + 1)) (r48++([y2.1]:List Int)) else none
 else
 some (.inl ((t1,()),(),(r48,())))
def f556_l6_n (n:Nat) (x:f556_l6h.den):=f556_l6 x.1.1 x.1.2.2.1 n x.1.2.1 x.1.2.2.2.1 x.2.2.1
def f556_l6s:LSpec:={ thaws:=[.slot 9 48 yI],head:=f556_l6h,outs:=f556_l6o,fn:=fun x=>f556_l6_n ((x.1.2.2.1 - x.1.2.2.2.1).toNat + 1) x }
def f556 (a0:ByteArray) (a1:Int):Option ((List Int) × Int × Bool × Unit) :=
 (f550 a0 a1).bind fun y1 =>
 bif (decide (y1.2.2.1 ≠ (0:Int))) then
 some ([],(0:Int),false,())
 else
 bif (decide (y1.1 < (0:Int))) then
 some ([],(0:Int),false,())
 else
 bif (decide (y1.1 > (64:Int))) then
 some ([],(0:Int),false,())
 else
 (f556_l6 a0 y1.1 ((y1.1 - (0:Int)).toNat + 1) y1.2.1 (0:Int) []).bind fun o3 =>
 Sum.elim (fun o4 =>
 let u6:Int:=o4.1.1
 let u7:(List Int):=o4.2.2.1
 (f81 u7).bind fun y8 =>
 some (u7,u6,y8.1,())) (fun o5 =>
 let u9:Int:=o5.1.1
 let u10:Bool:=o5.1.2.1
 some ([],u9,u10,())) o3
def f556s:PSpec:={ args:=[.str,yI],res:=[(.sl yI),yI,.bool],fn:=fun x=>f556 x.1 x.2.1 }
noncomputable def f556c:Code:=Tryz.f56.body.getD .skip
noncomputable def f556e:Env0:={ C:=cfgF,P:=[(50,f550s),(53,f81s)],L:=[(⟨12,0,56,6⟩,f556_l6s)],F:=[(56,Tryz.f56)] }
theorem f556_l6y:zan f556e 12 56 0 (zao f556c 6) f556_l6s :=
 zae (by kernel_rfl) f556_l6_n (fun x o h=>⟨_,h⟩) (fun x=>by kernel_rfl) (fun n x=>by kernel_rfl)
theorem f556r:zR f556e 56 Tryz.f56 f556c f556s:=by intro x; kernel_rfl
theorem f556n:zQ 56:=zN Tryz.func56
theorem f556k:zE f556e:=zO zaf ⟨⟨f550p,f550n⟩,⟨f81p,f81n⟩,trivial⟩ trivial ⟨zK Tryz.func56,trivial⟩ ⟨⟨Tryz.f56,f556c,rfl,rfl,f556_l6y⟩,trivial⟩
theorem f556p:zU 56 f556s:=zP f556k Tryz.f56 f556c f556r
def f551 (a0:ByteArray) (a1:Int):Option (Bool × (List Int) × Int × Bool × Unit) :=
 (f550 a0 a1).bind fun y1 =>
 bif (decide (y1.2.2.1 ≠ (0:Int))) then
 some (false,[],(0:Int),false,())
 else
 bif (decide (y1.1 < (0:Int))) then
 some (false,[],(0:Int),false,())
 else
 bif (decide (y1.1 > (1:Int))) then
 some (false,[],(0:Int),false,())
 else
 bif (decide (y1.1 = (0:Int))) then
 some (false,[],y1.2.1,true,())
 else
 (f556 a0 y1.2.1).bind fun y2 =>
 some (true,y2.1,y2.2.1,y2.2.2.1,())
def f551s:PSpec:={ args:=[.str,yI],res:=[.bool,(.sl yI),yI,.bool],fn:=fun x=>f551 x.1 x.2.1 }
noncomputable def f551c:Code:=Tryz.f51.body.getD .skip
noncomputable def f551e:Env0:={ C:=cfgF,P:=[(50,f550s),(56,f556s)],L:=[],F:=[(51,Tryz.f51)] }
theorem f551r:zR f551e 51 Tryz.f51 f551c f551s:=by intro x; kernel_rfl
theorem f551n:zQ 51:=zN Tryz.func51
theorem f551k:zE f551e:=zO zaf ⟨⟨f550p,f550n⟩,⟨f556p,f556n⟩,trivial⟩ trivial ⟨zK Tryz.func51,trivial⟩ trivial
theorem f551p:zU 51 f551s:=zP f551k Tryz.f51 f551c f551r
def f512_l6h:Ann:={ env:=[(0,.ty .str),(1,YI),(4,cP 4),(7,YI),(9,cP 9),(10,YI)],bxs:=[(4,.var [.cst .nils]),(9,.var [.cst (.row 101 .whole)]),(101,.row yR false)] }
def f512_l6o:List (Ex × Ann):=[((.exit 0),{ env:=[(1,YI),(4,cP 4),(9,cP 9)],bxs:=[(4,.var [.cst .nils]),(9,.var [.cst (.row 101 .whole)]),(101,.row yR false)] }),(.ret,{ env:=[(4,cP 4),(5,YI),(6,YI)],bxs:=[(4,.var [.cst .nils])] })]
def f512_l6 (t0:ByteArray) (t7:Int):Nat→Int→Int→(List Yr)→Option (outDen f512_l6o)
 | 0,_,_,_=>none
 | k + 1,t1,t10,r101 =>
 bif (decide (t10 < t7)) then
 (f550 t0 t1).bind fun y2 =>
 (f550 t0 y2.2.1).bind fun y3 =>
 bif (decide (y2.2.2.1 ≠ (0:Int))) then
 some (.inr (((0:Int),(160:Int),()),(),((),())))
 else
 bif (decide (y3.2.2.1 ≠ (0:Int))) then
 some (.inr (((0:Int),(160:Int),()),(),((),())))
 else
 (f551 t0 y3.2.1).bind fun y4 =>
 bif (!y4.2.2.2.1) then
 some (.inr (((0:Int),(160:Int),()),(),((),())))
 else
 (f551 t0 y4.2.2.1).bind fun y5 =>
 bif (!y5.2.2.2.1) then
 some (.inr (((0:Int),(160:Int),()),(),((),())))
 else
 bif (decide (r101.length + ([(y2.1,(y3.1,(y4.1,(y4.2.1,(y5.1,(y5.2.1,()))))))]:List Yr).length≤zac)) then f512_l6 t0 t7 k y5.2.2.1 (IntKind.wrap .i64 (t10 + 1)) (r101++([(y2.1,(y3.1,(y4.1,(y4.2.1,(y5.1,(y5.2.1,()))))))]:List Yr)) else none
 else
 some (.inl ((t1,()),(),((),(),r101,())))
def f512_l6_n (n:Nat) (x:f512_l6h.den):=f512_l6 x.1.1 x.1.2.2.1 n x.1.2.1 x.1.2.2.2.1 x.2.2.2.2.1
def f512_l6s:LSpec:={ thaws:=[.cell 9 0 101 yR],head:=f512_l6h,outs:=f512_l6o,fn:=fun x=>f512_l6_n ((x.1.2.2.1 - x.1.2.2.2.1).toNat + 1) x }
def f512 (a0:ByteArray) (a1:Int):Option (((List Yr) × Unit) × Int × Int × Unit) :=
 (f550 a0 a1).bind fun y1 =>
 bif (decide (y1.2.2.1 ≠ (0:Int))) then
 some (([],()),(0:Int),(160:Int),())
 else
 bif (decide (y1.1 < (0:Int))) then
 some (([],()),(0:Int),(160:Int),())
 else
 bif (decide (y1.1 > (168:Int))) then
 some (([],()),(0:Int),(160:Int),())
 else
 (f512_l6 a0 y1.1 ((y1.1 - (0:Int)).toNat + 1) y1.2.1 (0:Int) []).bind fun o6 =>
 Sum.elim (fun o7 =>
 let u9:Int:=o7.1.1
 let u10:(List Yr):=o7.2.2.2.2.1
 (f20 (u10,())).bind fun y11 =>
 bif (!y11.1) then
 some (([],()),(0:Int),(160:Int),())
 else
 some ((u10,()),u9,(0:Int),())) (fun o8 =>
 let u12:Int:=o8.1.1
 let u13:Int:=o8.1.2.1
 some (([],()),u12,u13,())) o6
def f512s:PSpec:={ args:=[.str,yI],res:=[(.pair (.sl yR) .unit),yI,yI],fn:=fun x=>f512 x.1 x.2.1 }
noncomputable def f512c:Code:=Tryz.f12.body.getD .skip
noncomputable def f512e:Env0:={ C:=cfgF,P:=[(42,f20s),(50,f550s),(51,f551s)],L:=[(⟨12,0,12,6⟩,f512_l6s)],F:=[(12,Tryz.f12)] }
theorem f512_l6y:zan f512e 12 12 0 (zao f512c 6) f512_l6s :=
 zae (by kernel_rfl) f512_l6_n (fun x o h=>⟨_,h⟩) (fun x=>by kernel_rfl) (fun n x=>by kernel_rfl)
theorem f512r:zR f512e 12 Tryz.f12 f512c f512s:=by intro x; kernel_rfl
theorem f512n:zQ 12:=zN Tryz.func12
theorem f512k:zE f512e:=zO zaf ⟨⟨f20p,f20n⟩,⟨f550p,f550n⟩,⟨f551p,f551n⟩,trivial⟩ trivial ⟨zK Tryz.func12,trivial⟩ ⟨⟨Tryz.f12,f512c,rfl,rfl,f512_l6y⟩,trivial⟩
theorem f512p:zU 12 f512s:=zP f512k Tryz.f12 f512c f512r
def f68_l3xh:Ann:={ env:=[(0,cP 8),(3,.cst (.row 10012 .whole)),(5,YI),(6,YI)],stk:=[[(0,.ty .str),(2,cP 2),(3,cP 3),(4,cP 8)],[(0,.cst (.tup [(.fn 46 []),(.ptr 3 0 [])]))],[(0,.cst (.tup [(.fn 54 [(.ptr 3 0 []),(.ptr 2 0 [])])]))]],bxs:=[(8,.var [.ty .str,YI]),(10012,.row yI false),(2,.var [.cst .nils]),(3,.var [YI])] }
def f68_l3xo:List (Ex × Ann):=[((.exit 0),{ env:=[(3,.cst (.row 10012 .whole))],stk:=[[(0,.ty .str),(2,cP 2),(3,cP 3),(4,cP 8)],[(0,.cst (.tup [(.fn 46 []),(.ptr 3 0 [])]))],[(0,.cst (.tup [(.fn 54 [(.ptr 3 0 []),(.ptr 2 0 [])])]))]],bxs:=[(10012,.row yI false),(2,.var [.cst .nils]),(3,.var [YI]),(8,.var [.ty .str,YI])] }),((.pan ⟨135,.emp⟩),{ env:=[],stk:=[[(0,.ty .str),(2,cP 2),(3,cP 3),(4,cP 8)],[(0,.cst (.tup [(.fn 46 []),(.ptr 3 0 [])]))],[(0,.cst (.tup [(.fn 54 [(.ptr 3 0 []),(.ptr 2 0 [])])]))]],bxs:=[(2,.var [.cst .nils]),(3,.var [YI]),(8,.var [.ty .str,YI])] })]
def f68_l3x (t5:Int) (k0t0:ByteArray) (b8g0:ByteArray) (b3g0:Int):Nat→Int→Int→(List Int)→Option (outDen f68_l3xo)
 | 0,_,_,_=>none
 | k + 1,t6,b8g1,r10012 =>
 bif (decide (t6 < t5)) then
 (f90 b8g0 b8g1).bind fun y2 =>
 bif (decide (y2.2.2.1 = (0:Int))) then
 let v3:Bool:=(decide (y2.1 ≥ (-1152921504606846976:Int)))
 bif v3 then
 let v4:Bool:=(decide (y2.1≤(1152921504606846976:Int)))
 bif (!v4) then
 some (.inr ((),((k0t0,()),(),(),()),((),(b3g0,()),(b8g0,b8g1,()),())))
 else
 bif (decide (r10012.length + ([y2.1]:List Int).length≤zac)) then f68_l3x t5 k0t0 b8g0 b3g0 k (IntKind.wrap .i64 (t6 + 1)) y2.2.1 (r10012++([y2.1]:List Int)) else none
 else
 some (.inr ((),((k0t0,()),(),(),()),((),(b3g0,()),(b8g0,b8g1,()),())))
 else
 some (.inr ((),((k0t0,()),(),(),()),((),(b3g0,()),(b8g0,b8g1,()),())))
 else
 some (.inl ((),((k0t0,()),(),(),()),(r10012,(),(b3g0,()),(b8g0,b8g1,()),())))
def f68_l3x_n (n:Nat) (x:f68_l3xh.den):=f68_l3x x.1.1 x.2.1.1.1 x.2.2.1.1 x.2.2.2.2.2.1.1 n x.1.2.1 x.2.2.1.2.1 x.2.2.2.1
def f68_l3xs:LSpec:={ thaws:=[.slot 3 10012 yI],head:=f68_l3xh,outs:=f68_l3xo,fn:=fun x=>f68_l3x_n ((x.1.1 - x.1.2.1).toNat + 1) x }
def f28 (a0:ByteArray):Option ((List Int) × Int × Unit) :=
 (f90 a0 0).bind fun y1 =>
 bif (decide (y1.2.2.1 = (0:Int))) then
 bif (decide (y1.1 ≥ (0:Int))) then
 bif (!(decide (y1.1≤(64:Int)))) then
 some ([],(160:Int),())
 else
 (f68_l3x y1.1 a0 a0 0 ((y1.1 - (0:Int)).toNat + 1) (0:Int) y1.2.1 []).bind fun o5 =>
 Sum.elim (fun o6 =>
 let u8:ByteArray:=o6.2.1.1.1
 let u9:(List Int):=o6.2.2.1
 let u12:Int:=o6.2.2.2.2.2.1.2.1
 bif (!(decide (u12 = (u8.size:Int)))) then
 some ([],(160:Int),())
 else
 some (u9,(0:Int),())) (fun o7 =>
 some ([],(160:Int),())) o5
 else
 some ([],(160:Int),())
 else
 some ([],(160:Int),())
def f28s:PSpec:={ args:=[.str],res:=[(.sl yI),yI],fn:=fun x=>f28 x.1 }
noncomputable def f28c:Code:=Tryz.f15.body.getD .skip
noncomputable def f28_code_55:Code:=Tryz.f55.body.getD .skip
noncomputable def f28e:Env0:={ C:=cfgF,P:=[(85,f90s)],L:=[(⟨11,10000,55,3⟩,f68_l3xs)],F:=[(15,Tryz.f15),(46,Tryz.f46),(47,Tryz.f47),(49,Tryz.f49),(54,Tryz.f54),(55,Tryz.f55)] }
theorem f68_l3xy:zan f28e 11 55 10000 (zao f28_code_55 3) f68_l3xs :=
 zae (by kernel_rfl) f68_l3x_n (fun x o h=>⟨_,h⟩) (fun x=>by kernel_rfl) (fun n x=>by kernel_rfl)
theorem f28r:zR f28e 15 Tryz.f15 f28c f28s:=by intro x; kernel_rfl
theorem f28n:zQ 15:=zN Tryz.func15
theorem f28k:zE f28e:=zO zaf ⟨⟨f90p,f90n⟩,trivial⟩ trivial ⟨zK Tryz.func15,zK Tryz.func46,zK Tryz.func47,zK Tryz.func49,zK Tryz.func54,zK Tryz.func55,trivial⟩ ⟨⟨Tryz.f55,f28_code_55,rfl,rfl,f68_l3xy⟩,trivial⟩
theorem f28p:zU 15 f28s:=zP f28k Tryz.f15 f28c f28r
def f516 (a0:ByteArray):Option ((List Int) × Int × Unit) :=
 (f556 a0 (0:Int)).bind fun y1 =>
 bif (!y1.2.2.1) then
 some ([],(160:Int),())
 else
 bif (decide (y1.2.1 ≠ (a0.size:Int))) then
 some ([],(160:Int),())
 else
 some (y1.1,(0:Int),())
def f516s:PSpec:={ args:=[.str],res:=[(.sl yI),yI],fn:=fun x=>f516 x.1 }
noncomputable def f516c:Code:=Tryz.f16.body.getD .skip
noncomputable def f516e:Env0:={ C:=cfgF,P:=[(56,f556s)],L:=[],F:=[(16,Tryz.f16)] }
theorem f516r:zR f516e 16 Tryz.f16 f516c f516s:=by intro x; kernel_rfl
theorem f516n:zQ 16:=zN Tryz.func16
theorem f516k:zE f516e:=zO zaf ⟨⟨f556p,f556n⟩,trivial⟩ trivial ⟨zK Tryz.func16,trivial⟩ trivial
theorem f516p:zU 16 f516s:=zP f516k Tryz.f16 f516c f516r
def f50 (a0:Yr):Option ((List Int) × Unit) :=
 some (([a0.1,a0.2.1]:List Int),())
def f50s:PSpec:={ args:=[yR],res:=[(.arr 2 yI)],fn:=fun x=>f50 x.1 }
noncomputable def f50c:Code:=Tryz.f59.body.getD .skip
noncomputable def f50e:Env0:={ C:=cfgF,P:=[],L:=[],F:=[(59,Tryz.f59)] }
theorem f50r:zR f50e 59 Tryz.f59 f50c f50s:=by intro x; kernel_rfl
theorem f50n:zQ 59:=zN Tryz.func59
theorem f50k:zE f50e:=zO zaf trivial trivial ⟨zK Tryz.func59,trivial⟩ trivial
theorem f50p:zU 59 f50s:=zP f50k Tryz.f59 f50c f50r
def f49_l3h:Ann:={ env:=[(1,.cst (.fn 59 [])),(5,.cst (.mp 8)),(9,.ty (.sl yR)),(10,YI),(11,YI)],bxs:=[(8,.map (.arr 2 yI) yR)] }
def f49_l3o:List (Ex × Ann):=[((.exit 0),{ env:=[(5,.cst (.mp 8))],bxs:=[(8,.map (.arr 2 yI) yR)] })]
def f49_l3 (t9:(List Yr)) (t10:Int):Nat→Int→(List ((List Int) × Yr))→Option (outDen f49_l3o)
 | 0,_,_=>none
 | k + 1,t11,m8 =>
 bif (decide (t11 < t10)) then
 bif (inR t11 t9.length) then
 let w10:Option (outDen f49_l3o):=(
 (f50 (at_ yR t9 t11)).bind fun y1 =>
 f49_l3 t9 t10 k (IntKind.wrap .i64 (t11 + 1)) (zbr (.arr 2 yI) yR m8 y1.1 (at_ yR t9 t11)))
 same (same w10 w10) w10
 else none
 else
 some ((),(),(m8,()))
def f49_l3_n (n:Nat) (x:f49_l3h.den):=f49_l3 x.1.1 x.1.2.1 n x.1.2.2.1 x.2.2.1
def f49_l3s:LSpec:={ head:=f49_l3h,outs:=f49_l3o,fn:=fun x=>f49_l3_n ((x.1.2.1 - x.1.2.2.1).toNat + 1) x }
def f49 (a0:(List Yr)):Option (List ((List Int) × Yr)) :=
 (f49_l3 a0 (a0.length:Int) (((a0.length:Int) - (0:Int)).toNat + 1) (0:Int) ([]:List ((List Int) × Yr))).bind fun o4 =>
 let u5:(List ((List Int) × Yr)):=o4.2.2.1
 some u5
def f49s:MSpec:={ args:=[(.sl yR)],arg:=59,K:=(.arr 2 yI),V:=yR,fn:=fun x=>f49 x.1 }
noncomputable def f49c:Code:=Tryz.f58.body.getD .skip
noncomputable def f49e:Env0:={ C:=cfgF,P:=[(59,f50s)],L:=[(⟨12,0,58,3⟩,f49_l3s)],F:=[(58,Tryz.f58)],I:=[],tot:=[(58,[5])],sym:=true }
theorem f49_l3y:zan f49e 12 58 0 (zao f49c 3) f49_l3s :=
 zae (by kernel_rfl) f49_l3_n (fun x o h=>⟨_,h⟩) (fun x=>by kernel_rfl) (fun n x=>by kernel_rfl)
theorem f49r (x:tysDen (f49s).args):runM f49e 58 Tryz.f58 f49c (tysAV (f49s).args x++[.fn 59 []]) (f49s).K (f49s).V = f49s.fn x:=by kernel_rfl
theorem f49n:zQ 58:=zN Tryz.func58
theorem f49k:zE f49e:=zO zaf ⟨⟨f50p,f50n⟩,trivial⟩ trivial ⟨zK Tryz.func58,trivial⟩ ⟨⟨Tryz.f58,f49c,rfl,rfl,f49_l3y⟩,trivial⟩
theorem f49_map:MapOK Tryz.prog cfg 58 f49s:=zk5 f49k (fn:=Tryz.f58) (c:=f49c) rfl rfl f49s (fun x _ h=>(f49r x).trans h)
end
end Go.V.G
namespace Go.V.G
open Go.Proofs
noncomputable section
def f49_l3xh:Ann:={ env:=[(1,.cst (.fn 59 [])),(5,.cst (.mp 17008)),(9,.ty (.sl yR)),(10,YI),(11,YI)],stk:=[[(2,cP 2),(4,cP 4),(5,cP 5)],[(0,.cst (.tup [(.fn 46 []),(.ptr 5 0 [])]))],[(0,.cst (.tup [(.fn 57 [(.ptr 5 0 []),(.ptr 4 0 [])])]))]],bxs:=[(17008,.map (.arr 2 yI) yR),(2,.var [.ty (.arr 8 (.sl yN))]),(4,.var [.cst .nils,.cst .nils,.cst .nils,.cst .nils,.cst .nils,.cst .nils,.cst .nils,.cst .nils]),(5,.var [YI])] }
def f49_l3xo:List (Ex × Ann):=[((.exit 0),{ env:=[(5,.cst (.mp 17008))],stk:=[[(2,cP 2),(4,cP 4),(5,cP 5)],[(0,.cst (.tup [(.fn 46 []),(.ptr 5 0 [])]))],[(0,.cst (.tup [(.fn 57 [(.ptr 5 0 []),(.ptr 4 0 [])])]))]],bxs:=[(17008,.map (.arr 2 yI) yR),(2,.var [.ty (.arr 8 (.sl yN))]),(4,.var [.cst .nils,.cst .nils,.cst .nils,.cst .nils,.cst .nils,.cst .nils,.cst .nils,.cst .nils]),(5,.var [YI])] })]
def f49_l3x (t9:(List Yr)) (t10:Int) (b2g0:(List (List Yn))) (b5g0:Int):Nat→Int→(List ((List Int) × Yr))→Option (outDen f49_l3xo)
 | 0,_,_=>none
 | k + 1,t11,m17008 =>
 bif (decide (t11 < t10)) then
 bif (inR t11 t9.length) then
 let w2:Option (outDen f49_l3xo):=(
 (f50 (at_ yR t9 t11)).bind fun y3 =>
 f49_l3x t9 t10 b2g0 b5g0 k (IntKind.wrap .i64 (t11 + 1)) (zbr (.arr 2 yI) yR m17008 y3.1 (at_ yR t9 t11)))
 same (same w2 w2) w2
 else none
 else
 some ((),((),(),(),()),(m17008,(b2g0,()),(),(b5g0,()),()))
def f49_l3x_n (n:Nat) (x:f49_l3xh.den):=f49_l3x x.1.1 x.1.2.1 x.2.2.2.1.1 x.2.2.2.2.2.1.1 n x.1.2.2.1 x.2.2.1
def f49_l3xs:LSpec:={ head:=f49_l3xh,outs:=f49_l3xo,fn:=fun x=>f49_l3x_n ((x.1.2.1 - x.1.2.2.1).toNat + 1) x }
def f41_l4bh:Ann:={ env:=[(0,.cst (.fn 60 [(.ptr 2 0 []),(.ptr 6 0 []),(.ptr 4 0 [])])),(2,.cst (.val yI (1:Int))),(8,YI)],stk:=[[(4,cP 4),(5,cP 5)],[(0,.cst (.tup [(.fn 46 []),(.ptr 5 0 [])]))],[(0,.cst (.tup [(.fn 57 [(.ptr 5 0 []),(.ptr 4 0 [])])]))]],bxs:=[(2,.var [.ty (.arr 8 (.sl yN))]),(6,.var [.cst (.mp 17008)]),(4,.var [.cst .nils,.cst (.row 19999009015041 .whole),.cst .nils,.cst .nils,.cst .nils,.cst .nils,.cst .nils,.cst .nils]),(5,.var [YI]),(17008,.map (.arr 2 yI) yR),(19999009015041,.row yN false)] }
def f41_l4bo:List (Ex × Ann):=[((.exit 2),{ env:=[(0,.cst (.fn 60 [(.ptr 2 0 []),(.ptr 6 0 []),(.ptr 4 0 [])])),(2,.cst (.val yI (1:Int)))],stk:=[[(4,cP 4),(5,cP 5)],[(0,.cst (.tup [(.fn 46 []),(.ptr 5 0 [])]))],[(0,.cst (.tup [(.fn 57 [(.ptr 5 0 []),(.ptr 4 0 [])])]))]],bxs:=[(2,.var [.ty (.arr 8 (.sl yN))]),(6,.var [.cst (.mp 17008)]),(4,.var [.cst .nils,.cst (.row 19999009015041 .whole),.cst .nils,.cst .nils,.cst .nils,.cst .nils,.cst .nils,.cst .nils]),(5,.var [YI]),(17008,.map (.arr 2 yI) yR),(19999009015041,.row yN false)] }),((.pan ⟨135,.emp⟩),{ env:=[],stk:=[[(4,cP 4),(5,cP 5)],[(0,.cst (.tup [(.fn 46 []),(.ptr 5 0 [])]))],[(0,.cst (.tup [(.fn 57 [(.ptr 5 0 []),(.ptr 4 0 [])])]))]],bxs:=[(4,.var [.cst .nils,.cst (.row 19999009015041 .whole),.cst .nils,.cst .nils,.cst .nils,.cst .nils,.cst .nils,.cst .nils]),(5,.var [YI]),(19999009015041,.row yN false)] })]
def f41_l4b (b2g0:(List (List Yn))) (b5g0:Int) (m17008:(List ((List Int) × Yr))):Nat→Int→(List Yn)→Option (outDen f41_l4bo)
 | 0,_,_=>none
 | k + 1,t8,r19999009015041 =>
 bif (decide (t8 < (24:Int))) then
 (f43 (b2g0,()) ([(1:Int),t8]:List Int)).bind fun y10 =>
 let v11:Bool:=(zaY (.arr 2 yI) yR m17008 ([(1:Int),t8]:List Int))
 bif v11 then
 let w3:Option (outDen f41_l4bo):=(
 (f52 (zai (.arr 2 yI) yR m17008 ([(1:Int),t8]:List Int))).bind fun y12 =>
 (f44 y10.1 y12.1).bind fun y13 =>
 bif (!y13.1) then
 some (.inr ((),((),(),(),()),((),(b5g0,()),r19999009015041,())))
 else
 (f53 (zai (.arr 2 yI) yR m17008 ([(1:Int),t8]:List Int))).bind fun y14 =>
 bif y14.1.1 then
 bif (inR (0:Int) 2) then
 bif (inR (0:Int) 2) then
 bif (inR (1:Int) 2) then
 bif (inR (1:Int) 8) then
 gI t8 t8 (
 gI (1:Int) (1:Int) (
 gI (1:Int) (1:Int) (
 (f54 y14.1.2.1).bind fun y15 =>
 gI t8 t8 (
 gI (1:Int) (1:Int) (
 gI (1:Int) (1:Int) (
 gI (1:Int) (1:Int) (
 gI (1:Int) (1:Int) (
 gI (1:Int) (1:Int) (
 gI (1:Int) (1:Int) (
 bif (decide (r19999009015041.length + ([(t8,(y15.1,()))]:List Yn).length≤zac)) then
 gI (1:Int) (1:Int) (
 bif (inR (1:Int) 8) then f41_l4b b2g0 b5g0 m17008 k (IntKind.wrap .i64 (t8 + 1)) (r19999009015041++([(t8,(y15.1,()))]:List Yn)) else none)
 else none))))))))))
 else none
 else none
 else none
 else none
 else
 f41_l4b b2g0 b5g0 m17008 k (IntKind.wrap .i64 (t8 + 1)) r19999009015041)
 same w3 (same w3 w3)
 else
 bif y10.1.1 then
 bif (inR (0:Int) 2) then
 bif (inR (0:Int) 2) then
 bif (inR (1:Int) 2) then
 bif (inR (1:Int) 8) then
 gI t8 t8 (
 gI (1:Int) (1:Int) (
 gI (1:Int) (1:Int) (
 (f54 y10.1.2.1).bind fun y24 =>
 gI t8 t8 (
 gI (1:Int) (1:Int) (
 gI (1:Int) (1:Int) (
 gI (1:Int) (1:Int) (
 gI (1:Int) (1:Int) (
 gI (1:Int) (1:Int) (
 gI (1:Int) (1:Int) (
 bif (decide (r19999009015041.length + ([(t8,(y24.1,()))]:List Yn).length≤zac)) then
 gI (1:Int) (1:Int) (
 bif (inR (1:Int) 8) then f41_l4b b2g0 b5g0 m17008 k (IntKind.wrap .i64 (t8 + 1)) (r19999009015041++([(t8,(y24.1,()))]:List Yn)) else none)
 else none))))))))))
 else none
 else none
 else none
 else none
 else
 f41_l4b b2g0 b5g0 m17008 k (IntKind.wrap .i64 (t8 + 1)) r19999009015041
 else
 some (.inl ((),((),(),(),()),((b2g0,()),(),(),(b5g0,()),m17008,r19999009015041,())))
def f41_l4b_n (n:Nat) (x:f41_l4bh.den):=f41_l4b x.2.2.1.1 x.2.2.2.2.2.1.1 x.2.2.2.2.2.2.1 n x.1.1 x.2.2.2.2.2.2.2.1
def f41_l4bs:LSpec:={ thaws:=[.cell 4 1 19999009015041 yN],head:=f41_l4bh,outs:=f41_l4bo,fn:=fun x=>f41_l4b_n (((24:Int) - x.1.1).toNat + 1) x }
def f41_l4ah:Ann:={ env:=[(0,.cst (.fn 60 [(.ptr 2 0 []),(.ptr 6 0 []),(.ptr 4 0 [])])),(2,.cst (.val yI (2:Int))),(8,YI)],stk:=[[(4,cP 4),(5,cP 5)],[(0,.cst (.tup [(.fn 46 []),(.ptr 5 0 [])]))],[(0,.cst (.tup [(.fn 57 [(.ptr 5 0 []),(.ptr 4 0 [])])]))]],bxs:=[(2,.var [.ty (.arr 8 (.sl yN))]),(6,.var [.cst (.mp 17008)]),(4,.var [.cst .nils,.cst (.row 19999009015041 .whole),.cst (.row 19999008015041 .whole),.cst .nils,.cst .nils,.cst .nils,.cst .nils,.cst .nils]),(5,.var [YI]),(17008,.map (.arr 2 yI) yR),(19999009015041,.row yN false),(19999008015041,.row yN false)] }
def f41_l4ao:List (Ex × Ann):=[((.exit 2),{ env:=[(0,.cst (.fn 60 [(.ptr 2 0 []),(.ptr 6 0 []),(.ptr 4 0 [])])),(2,.cst (.val yI (2:Int)))],stk:=[[(4,cP 4),(5,cP 5)],[(0,.cst (.tup [(.fn 46 []),(.ptr 5 0 [])]))],[(0,.cst (.tup [(.fn 57 [(.ptr 5 0 []),(.ptr 4 0 [])])]))]],bxs:=[(2,.var [.ty (.arr 8 (.sl yN))]),(6,.var [.cst (.mp 17008)]),(4,.var [.cst .nils,.cst (.row 19999009015041 .whole),.cst (.row 19999008015041 .whole),.cst .nils,.cst .nils,.cst .nils,.cst .nils,.cst .nils]),(5,.var [YI]),(17008,.map (.arr 2 yI) yR),(19999009015041,.row yN false),(19999008015041,.row yN false)] }),((.pan ⟨135,.emp⟩),{ env:=[],stk:=[[(4,cP 4),(5,cP 5)],[(0,.cst (.tup [(.fn 46 []),(.ptr 5 0 [])]))],[(0,.cst (.tup [(.fn 57 [(.ptr 5 0 []),(.ptr 4 0 [])])]))]],bxs:=[(4,.var [.cst .nils,.cst (.row 19999009015041 .whole),.cst (.row 19999008015041 .whole),.cst .nils,.cst .nils,.cst .nils,.cst .nils,.cst .nils]),(5,.var [YI]),(19999009015041,.row yN false),(19999008015041,.row yN false)] })]
def f41_l4a (b2g0:(List (List Yn))) (b5g0:Int) (m17008:(List ((List Int) × Yr))) (r19999009015041:(List Yn)):Nat→Int→(List Yn)→Option (outDen f41_l4ao)
 | 0,_,_=>none
 | k + 1,t8,r19999008015041 =>
 bif (decide (t8 < (24:Int))) then
 (f43 (b2g0,()) ([(2:Int),t8]:List Int)).bind fun y32 =>
 let v33:Bool:=(zaY (.arr 2 yI) yR m17008 ([(2:Int),t8]:List Int))
 bif v33 then
 let w4:Option (outDen f41_l4ao):=(
 (f52 (zai (.arr 2 yI) yR m17008 ([(2:Int),t8]:List Int))).bind fun y34 =>
 (f44 y32.1 y34.1).bind fun y35 =>
 bif (!y35.1) then
 some (.inr ((),((),(),(),()),((),(b5g0,()),r19999009015041,r19999008015041,())))
 else
 (f53 (zai (.arr 2 yI) yR m17008 ([(2:Int),t8]:List Int))).bind fun y36 =>
 bif y36.1.1 then
 bif (inR (0:Int) 2) then
 bif (inR (0:Int) 2) then
 bif (inR (1:Int) 2) then
 bif (inR (2:Int) 8) then
 gI t8 t8 (
 gI (2:Int) (2:Int) (
 gI (2:Int) (2:Int) (
 (f54 y36.1.2.1).bind fun y37 =>
 gI t8 t8 (
 gI (2:Int) (2:Int) (
 gI (2:Int) (2:Int) (
 gI (2:Int) (2:Int) (
 gI (2:Int) (2:Int) (
 gI (2:Int) (2:Int) (
 gI (2:Int) (2:Int) (
 bif (decide (r19999008015041.length + ([(t8,(y37.1,()))]:List Yn).length≤zac)) then
 gI (2:Int) (2:Int) (
 bif (inR (2:Int) 8) then f41_l4a b2g0 b5g0 m17008 r19999009015041 k (IntKind.wrap .i64 (t8 + 1)) (r19999008015041++([(t8,(y37.1,()))]:List Yn)) else none)
 else none))))))))))
 else none
 else none
 else none
 else none
 else
 f41_l4a b2g0 b5g0 m17008 r19999009015041 k (IntKind.wrap .i64 (t8 + 1)) r19999008015041)
 same w4 (same w4 w4)
 else
 bif y32.1.1 then
 bif (inR (0:Int) 2) then
 bif (inR (0:Int) 2) then
 bif (inR (1:Int) 2) then
 bif (inR (2:Int) 8) then
 gI t8 t8 (
 gI (2:Int) (2:Int) (
 gI (2:Int) (2:Int) (
 (f54 y32.1.2.1).bind fun y46 =>
 gI t8 t8 (
 gI (2:Int) (2:Int) (
 gI (2:Int) (2:Int) (
 gI (2:Int) (2:Int) (
 gI (2:Int) (2:Int) (
 gI (2:Int) (2:Int) (
 gI (2:Int) (2:Int) (
 bif (decide (r19999008015041.length + ([(t8,(y46.1,()))]:List Yn).length≤zac)) then
 gI (2:Int) (2:Int) (
 bif (inR (2:Int) 8) then f41_l4a b2g0 b5g0 m17008 r19999009015041 k (IntKind.wrap .i64 (t8 + 1)) (r19999008015041++([(t8,(y46.1,()))]:List Yn)) else none)
 else none))))))))))
 else none
 else none
 else none
 else none
 else
 f41_l4a b2g0 b5g0 m17008 r19999009015041 k (IntKind.wrap .i64 (t8 + 1)) r19999008015041
 else
 some (.inl ((),((),(),(),()),((b2g0,()),(),(),(b5g0,()),m17008,r19999009015041,r19999008015041,())))
def f41_l4a_n (n:Nat) (x:f41_l4ah.den):=f41_l4a x.2.2.1.1 x.2.2.2.2.2.1.1 x.2.2.2.2.2.2.1 x.2.2.2.2.2.2.2.1 n x.1.1 x.2.2.2.2.2.2.2.2.1
def f41_l4as:LSpec:={ thaws:=[.cell 4 2 19999008015041 yN],head:=f41_l4ah,outs:=f41_l4ao,fn:=fun x=>f41_l4a_n (((24:Int) - x.1.1).toNat + 1) x }
def f41_l4uh:Ann:={ env:=[(0,.cst (.fn 60 [(.ptr 2 0 []),(.ptr 6 0 []),(.ptr 4 0 [])])),(2,.cst (.val yI (3:Int))),(8,YI)],stk:=[[(4,cP 4),(5,cP 5)],[(0,.cst (.tup [(.fn 46 []),(.ptr 5 0 [])]))],[(0,.cst (.tup [(.fn 57 [(.ptr 5 0 []),(.ptr 4 0 [])])]))]],bxs:=[(2,.var [.ty (.arr 8 (.sl yN))]),(6,.var [.cst (.mp 17008)]),(4,.var [.cst .nils,.cst (.row 19999009015041 .whole),.cst (.row 19999008015041 .whole),.cst (.row 19999007015041 .whole),.cst .nils,.cst .nils,.cst .nils,.cst .nils]),(5,.var [YI]),(17008,.map (.arr 2 yI) yR),(19999009015041,.row yN false),(19999008015041,.row yN false),(19999007015041,.row yN false)] }
def f41_l4uo:List (Ex × Ann):=[((.exit 2),{ env:=[(0,.cst (.fn 60 [(.ptr 2 0 []),(.ptr 6 0 []),(.ptr 4 0 [])])),(2,.cst (.val yI (3:Int)))],stk:=[[(4,cP 4),(5,cP 5)],[(0,.cst (.tup [(.fn 46 []),(.ptr 5 0 [])]))],[(0,.cst (.tup [(.fn 57 [(.ptr 5 0 []),(.ptr 4 0 [])])]))]],bxs:=[(2,.var [.ty (.arr 8 (.sl yN))]),(6,.var [.cst (.mp 17008)]),(4,.var [.cst .nils,.cst (.row 19999009015041 .whole),.cst (.row 19999008015041 .whole),.cst (.row 19999007015041 .whole),.cst .nils,.cst .nils,.cst .nils,.cst .nils]),(5,.var [YI]),(17008,.map (.arr 2 yI) yR),(19999009015041,.row yN false),(19999008015041,.row yN false),(19999007015041,.row yN false)] }),((.pan ⟨135,.emp⟩),{ env:=[],stk:=[[(4,cP 4),(5,cP 5)],[(0,.cst (.tup [(.fn 46 []),(.ptr 5 0 [])]))],[(0,.cst (.tup [(.fn 57 [(.ptr 5 0 []),(.ptr 4 0 [])])]))]],bxs:=[(4,.var [.cst .nils,.cst (.row 19999009015041 .whole),.cst (.row 19999008015041 .whole),.cst (.row 19999007015041 .whole),.cst .nils,.cst .nils,.cst .nils,.cst .nils]),(5,.var [YI]),(19999009015041,.row yN false),(19999008015041,.row yN false),(19999007015041,.row yN false)] })]
def f41_l4u (b2g0:(List (List Yn))) (b5g0:Int) (m17008:(List ((List Int) × Yr))) (r19999009015041:(List Yn)) (r19999008015041:(List Yn)):Nat→Int→(List Yn)→Option (outDen f41_l4uo)
 | 0,_,_=>none
 | k + 1,t8,r19999007015041 =>
 bif (decide (t8 < (24:Int))) then
 (f43 (b2g0,()) ([(3:Int),t8]:List Int)).bind fun y55 =>
 let v56:Bool:=(zaY (.arr 2 yI) yR m17008 ([(3:Int),t8]:List Int))
 bif v56 then
 let w5:Option (outDen f41_l4uo):=(
 (f52 (zai (.arr 2 yI) yR m17008 ([(3:Int),t8]:List Int))).bind fun y57 =>
 (f44 y55.1 y57.1).bind fun y58 =>
 bif (!y58.1) then
 some (.inr ((),((),(),(),()),((),(b5g0,()),r19999009015041,r19999008015041,r19999007015041,())))
 else
 (f53 (zai (.arr 2 yI) yR m17008 ([(3:Int),t8]:List Int))).bind fun y59 =>
 bif y59.1.1 then
 bif (inR (0:Int) 2) then
 bif (inR (0:Int) 2) then
 bif (inR (1:Int) 2) then
 bif (inR (3:Int) 8) then
 gI t8 t8 (
 gI (3:Int) (3:Int) (
 gI (3:Int) (3:Int) (
 (f54 y59.1.2.1).bind fun y60 =>
 gI t8 t8 (
 gI (3:Int) (3:Int) (
 gI (3:Int) (3:Int) (
 gI (3:Int) (3:Int) (
 gI (3:Int) (3:Int) (
 gI (3:Int) (3:Int) (
 gI (3:Int) (3:Int) (
 bif (decide (r19999007015041.length + ([(t8,(y60.1,()))]:List Yn).length≤zac)) then
 gI (3:Int) (3:Int) (
 bif (inR (3:Int) 8) then f41_l4u b2g0 b5g0 m17008 r19999009015041 r19999008015041 k (IntKind.wrap .i64 (t8 + 1)) (r19999007015041++([(t8,(y60.1,()))]:List Yn)) else none)
 else none))))))))))
 else none
 else none
 else none
 else none
 else
 f41_l4u b2g0 b5g0 m17008 r19999009015041 r19999008015041 k (IntKind.wrap .i64 (t8 + 1)) r19999007015041)
 same w5 (same w5 w5)
 else
 bif y55.1.1 then
 bif (inR (0:Int) 2) then
 bif (inR (0:Int) 2) then
 bif (inR (1:Int) 2) then
 bif (inR (3:Int) 8) then
 gI t8 t8 (
 gI (3:Int) (3:Int) (
 gI (3:Int) (3:Int) (
 (f54 y55.1.2.1).bind fun y69 =>
 gI t8 t8 (
 gI (3:Int) (3:Int) (
 gI (3:Int) (3:Int) (
 gI (3:Int) (3:Int) (
 gI (3:Int) (3:Int) (
 gI (3:Int) (3:Int) (
 gI (3:Int) (3:Int) (
 bif (decide (r19999007015041.length + ([(t8,(y69.1,()))]:List Yn).length≤zac)) then
 gI (3:Int) (3:Int) (
 bif (inR (3:Int) 8) then f41_l4u b2g0 b5g0 m17008 r19999009015041 r19999008015041 k (IntKind.wrap .i64 (t8 + 1)) (r19999007015041++([(t8,(y69.1,()))]:List Yn)) else none)
 else none))))))))))
 else none
 else none
 else none
 else none
 else
 f41_l4u b2g0 b5g0 m17008 r19999009015041 r19999008015041 k (IntKind.wrap .i64 (t8 + 1)) r19999007015041
 else
 some (.inl ((),((),(),(),()),((b2g0,()),(),(),(b5g0,()),m17008,r19999009015041,r19999008015041,r19999007015041,())))
def f41_l4u_n (n:Nat) (x:f41_l4uh.den):=f41_l4u x.2.2.1.1 x.2.2.2.2.2.1.1 x.2.2.2.2.2.2.1 x.2.2.2.2.2.2.2.1 x.2.2.2.2.2.2.2.2.1 n x.1.1 x.2.2.2.2.2.2.2.2.2.1
def f41_l4us:LSpec:={ thaws:=[.cell 4 3 19999007015041 yN],head:=f41_l4uh,outs:=f41_l4uo,fn:=fun x=>f41_l4u_n (((24:Int) - x.1.1).toNat + 1) x }
def f41_l4vh:Ann:={ env:=[(0,.cst (.fn 60 [(.ptr 2 0 []),(.ptr 6 0 []),(.ptr 4 0 [])])),(2,.cst (.val yI (4:Int))),(8,YI)],stk:=[[(4,cP 4),(5,cP 5)],[(0,.cst (.tup [(.fn 46 []),(.ptr 5 0 [])]))],[(0,.cst (.tup [(.fn 57 [(.ptr 5 0 []),(.ptr 4 0 [])])]))]],bxs:=[(2,.var [.ty (.arr 8 (.sl yN))]),(6,.var [.cst (.mp 17008)]),(4,.var [.cst .nils,.cst (.row 19999009015041 .whole),.cst (.row 19999008015041 .whole),.cst (.row 19999007015041 .whole),.cst (.row 19999006015041 .whole),.cst .nils,.cst .nils,.cst .nils]),(5,.var [YI]),(17008,.map (.arr 2 yI) yR),(19999009015041,.row yN false),(19999008015041,.row yN false),(19999007015041,.row yN false),(19999006015041,.row yN false)] }
def f41_l4vo:List (Ex × Ann):=[((.exit 2),{ env:=[(0,.cst (.fn 60 [(.ptr 2 0 []),(.ptr 6 0 []),(.ptr 4 0 [])])),(2,.cst (.val yI (4:Int)))],stk:=[[(4,cP 4),(5,cP 5)],[(0,.cst (.tup [(.fn 46 []),(.ptr 5 0 [])]))],[(0,.cst (.tup [(.fn 57 [(.ptr 5 0 []),(.ptr 4 0 [])])]))]],bxs:=[(2,.var [.ty (.arr 8 (.sl yN))]),(6,.var [.cst (.mp 17008)]),(4,.var [.cst .nils,.cst (.row 19999009015041 .whole),.cst (.row 19999008015041 .whole),.cst (.row 19999007015041 .whole),.cst (.row 19999006015041 .whole),.cst .nils,.cst .nils,.cst .nils]),(5,.var [YI]),(17008,.map (.arr 2 yI) yR),(19999009015041,.row yN false),(19999008015041,.row yN false),(19999007015041,.row yN false),(19999006015041,.row yN false)] }),((.pan ⟨135,.emp⟩),{ env:=[],stk:=[[(4,cP 4),(5,cP 5)],[(0,.cst (.tup [(.fn 46 []),(.ptr 5 0 [])]))],[(0,.cst (.tup [(.fn 57 [(.ptr 5 0 []),(.ptr 4 0 [])])]))]],bxs:=[(4,.var [.cst .nils,.cst (.row 19999009015041 .whole),.cst (.row 19999008015041 .whole),.cst (.row 19999007015041 .whole),.cst (.row 19999006015041 .whole),.cst .nils,.cst .nils,.cst .nils]),(5,.var [YI]),(19999009015041,.row yN false),(19999008015041,.row yN false),(19999007015041,.row yN false),(19999006015041,.row yN false)] })]
def f41_l4v (b2g0:(List (List Yn))) (b5g0:Int) (m17008:(List ((List Int) × Yr))) (r19999009015041:(List Yn)) (r19999008015041:(List Yn)) (r19999007015041:(List Yn)):Nat→Int→(List Yn)→Option (outDen f41_l4vo)
 | 0,_,_=>none
 | k + 1,t8,r19999006015041 =>
 bif (decide (t8 < (24:Int))) then
 (f43 (b2g0,()) ([(4:Int),t8]:List Int)).bind fun y79 =>
 let v80:Bool:=(zaY (.arr 2 yI) yR m17008 ([(4:Int),t8]:List Int))
 bif v80 then
 let w6:Option (outDen f41_l4vo):=(
 (f52 (zai (.arr 2 yI) yR m17008 ([(4:Int),t8]:List Int))).bind fun y81 =>
 (f44 y79.1 y81.1).bind fun y82 =>
 bif (!y82.1) then
 some (.inr ((),((),(),(),()),((),(b5g0,()),r19999009015041,r19999008015041,r19999007015041,r19999006015041,())))
 else
 (f53 (zai (.arr 2 yI) yR m17008 ([(4:Int),t8]:List Int))).bind fun y83 =>
 bif y83.1.1 then
 bif (inR (0:Int) 2) then
 bif (inR (0:Int) 2) then
 bif (inR (1:Int) 2) then
 bif (inR (4:Int) 8) then
 gI t8 t8 (
 gI (4:Int) (4:Int) (
 gI (4:Int) (4:Int) (
 (f54 y83.1.2.1).bind fun y84 =>
 gI t8 t8 (
 gI (4:Int) (4:Int) (
 gI (4:Int) (4:Int) (
 gI (4:Int) (4:Int) (
 gI (4:Int) (4:Int) (
 gI (4:Int) (4:Int) (
 gI (4:Int) (4:Int) (
 bif (decide (r19999006015041.length + ([(t8,(y84.1,()))]:List Yn).length≤zac)) then
 gI (4:Int) (4:Int) (
 bif (inR (4:Int) 8) then f41_l4v b2g0 b5g0 m17008 r19999009015041 r19999008015041 r19999007015041 k (IntKind.wrap .i64 (t8 + 1)) (r19999006015041++([(t8,(y84.1,()))]:List Yn)) else none)
 else none))))))))))
 else none
 else none
 else none
 else none
 else
 f41_l4v b2g0 b5g0 m17008 r19999009015041 r19999008015041 r19999007015041 k (IntKind.wrap .i64 (t8 + 1)) r19999006015041)
 same w6 (same w6 w6)
 else
 bif y79.1.1 then
 bif (inR (0:Int) 2) then
 bif (inR (0:Int) 2) then
 bif (inR (1:Int) 2) then
 bif (inR (4:Int) 8) then
 gI t8 t8 (
 gI (4:Int) (4:Int) (
 gI (4:Int) (4:Int) (
 (f54 y79.1.2.1).bind fun y93 =>
 gI t8 t8 (
 gI (4:Int) (4:Int) (
 gI (4:Int) (4:Int) (
 gI (4:Int) (4:Int) (
 gI (4:Int) (4:Int) (
 gI (4:Int) (4:Int) (
 gI (4:Int) (4:Int) (
 bif (decide (r19999006015041.length + ([(t8,(y93.1,()))]:List Yn).length≤zac)) then
 gI (4:Int) (4:Int) (
 bif (inR (4:Int) 8) then f41_l4v b2g0 b5g0 m17008 r19999009015041 r19999008015041 r19999007015041 k (IntKind.wrap .i64 (t8 + 1)) (r19999006015041++([(t8,(y93.1,()))]:List Yn)) else none)
 else none))))))))))
 else none
 else none
 else none
 else none
 else
 f41_l4v b2g0 b5g0 m17008 r19999009015041 r19999008015041 r19999007015041 k (IntKind.wrap .i64 (t8 + 1)) r19999006015041
 else
 some (.inl ((),((),(),(),()),((b2g0,()),(),(),(b5g0,()),m17008,r19999009015041,r19999008015041,r19999007015041,r19999006015041,())))
def f41_l4v_n (n:Nat) (x:f41_l4vh.den):=f41_l4v x.2.2.1.1 x.2.2.2.2.2.1.1 x.2.2.2.2.2.2.1 x.2.2.2.2.2.2.2.1 x.2.2.2.2.2.2.2.2.1 x.2.2.2.2.2.2.2.2.2.1 n x.1.1 x.2.2.2.2.2.2.2.2.2.2.1
def f41_l4vs:LSpec:={ thaws:=[.cell 4 4 19999006015041 yN],head:=f41_l4vh,outs:=f41_l4vo,fn:=fun x=>f41_l4v_n (((24:Int) - x.1.1).toNat + 1) x }
def f41_l4wh:Ann:={ env:=[(0,.cst (.fn 60 [(.ptr 2 0 []),(.ptr 6 0 []),(.ptr 4 0 [])])),(2,.cst (.val yI (5:Int))),(8,YI)],stk:=[[(4,cP 4),(5,cP 5)],[(0,.cst (.tup [(.fn 46 []),(.ptr 5 0 [])]))],[(0,.cst (.tup [(.fn 57 [(.ptr 5 0 []),(.ptr 4 0 [])])]))]],bxs:=[(2,.var [.ty (.arr 8 (.sl yN))]),(6,.var [.cst (.mp 17008)]),(4,.var [.cst .nils,.cst (.row 19999009015041 .whole),.cst (.row 19999008015041 .whole),.cst (.row 19999007015041 .whole),.cst (.row 19999006015041 .whole),.cst (.row 19999005015041 .whole),.cst .nils,.cst .nils]),(5,.var [YI]),(17008,.map (.arr 2 yI) yR),(19999009015041,.row yN false),(19999008015041,.row yN false),(19999007015041,.row yN false),(19999006015041,.row yN false),(19999005015041,.row yN false)] }
def f41_l4wo:List (Ex × Ann):=[((.exit 2),{ env:=[(0,.cst (.fn 60 [(.ptr 2 0 []),(.ptr 6 0 []),(.ptr 4 0 [])])),(2,.cst (.val yI (5:Int)))],stk:=[[(4,cP 4),(5,cP 5)],[(0,.cst (.tup [(.fn 46 []),(.ptr 5 0 [])]))],[(0,.cst (.tup [(.fn 57 [(.ptr 5 0 []),(.ptr 4 0 [])])]))]],bxs:=[(2,.var [.ty (.arr 8 (.sl yN))]),(6,.var [.cst (.mp 17008)]),(4,.var [.cst .nils,.cst (.row 19999009015041 .whole),.cst (.row 19999008015041 .whole),.cst (.row 19999007015041 .whole),.cst (.row 19999006015041 .whole),.cst (.row 19999005015041 .whole),.cst .nils,.cst .nils]),(5,.var [YI]),(17008,.map (.arr 2 yI) yR),(19999009015041,.row yN false),(19999008015041,.row yN false),(19999007015041,.row yN false),(19999006015041,.row yN false),(19999005015041,.row yN false)] }),((.pan ⟨135,.emp⟩),{ env:=[],stk:=[[(4,cP 4),(5,cP 5)],[(0,.cst (.tup [(.fn 46 []),(.ptr 5 0 [])]))],[(0,.cst (.tup [(.fn 57 [(.ptr 5 0 []),(.ptr 4 0 [])])]))]],bxs:=[(4,.var [.cst .nils,.cst (.row 19999009015041 .whole),.cst (.row 19999008015041 .whole),.cst (.row 19999007015041 .whole),.cst (.row 19999006015041 .whole),.cst (.row 19999005015041 .whole),.cst .nils,.cst .nils]),(5,.var [YI]),(19999009015041,.row yN false),(19999008015041,.row yN false),(19999007015041,.row yN false),(19999006015041,.row yN false),(19999005015041,.row yN false)] })]
def f41_l4w (b2g0:(List (List Yn))) (b5g0:Int) (m17008:(List ((List Int) × Yr))) (r19999009015041:(List Yn)) (r19999008015041:(List Yn)) (r19999007015041:(List Yn)) (r19999006015041:(List Yn)):Nat→Int→(List Yn)→Option (outDen f41_l4wo)
 | 0,_,_=>none
 | k + 1,t8,r19999005015041 =>
 bif (decide (t8 < (24:Int))) then
 (f43 (b2g0,()) ([(5:Int),t8]:List Int)).bind fun y104 =>
 let v105:Bool:=(zaY (.arr 2 yI) yR m17008 ([(5:Int),t8]:List Int))
 bif v105 then
 let w7:Option (outDen f41_l4wo):=(
 (f52 (zai (.arr 2 yI) yR m17008 ([(5:Int),t8]:List Int))).bind fun y106 =>
 (f44 y104.1 y106.1).bind fun y107 =>
 bif (!y107.1) then
 some (.inr ((),((),(),(),()),((),(b5g0,()),r19999009015041,r19999008015041,r19999007015041,r19999006015041,r19999005015041,())))
 else
 (f53 (zai (.arr 2 yI) yR m17008 ([(5:Int),t8]:List Int))).bind fun y108 =>
 bif y108.1.1 then
 bif (inR (0:Int) 2) then
 bif (inR (0:Int) 2) then
 bif (inR (1:Int) 2) then
 bif (inR (5:Int) 8) then
 gI t8 t8 (
 gI (5:Int) (5:Int) (
 gI (5:Int) (5:Int) (
 (f54 y108.1.2.1).bind fun y109 =>
 gI t8 t8 (
 gI (5:Int) (5:Int) (
 gI (5:Int) (5:Int) (
 gI (5:Int) (5:Int) (
 gI (5:Int) (5:Int) (
 gI (5:Int) (5:Int) (
 gI (5:Int) (5:Int) (
 bif (decide (r19999005015041.length + ([(t8,(y109.1,()))]:List Yn).length≤zac)) then
 gI (5:Int) (5:Int) (
 bif (inR (5:Int) 8) then f41_l4w b2g0 b5g0 m17008 r19999009015041 r19999008015041 r19999007015041 r19999006015041 k (IntKind.wrap .i64 (t8 + 1)) (r19999005015041++([(t8,(y109.1,()))]:List Yn)) else none)
 else none))))))))))
 else none
 else none
 else none
 else none
 else
 f41_l4w b2g0 b5g0 m17008 r19999009015041 r19999008015041 r19999007015041 r19999006015041 k (IntKind.wrap .i64 (t8 + 1)) r19999005015041)
 same w7 (same w7 w7)
 else
 bif y104.1.1 then
 bif (inR (0:Int) 2) then
 bif (inR (0:Int) 2) then
 bif (inR (1:Int) 2) then
 bif (inR (5:Int) 8) then
 gI t8 t8 (
 gI (5:Int) (5:Int) (
 gI (5:Int) (5:Int) (
 (f54 y104.1.2.1).bind fun y118 =>
 gI t8 t8 (
 gI (5:Int) (5:Int) (
 gI (5:Int) (5:Int) (
 gI (5:Int) (5:Int) (
 gI (5:Int) (5:Int) (
 gI (5:Int) (5:Int) (
 gI (5:Int) (5:Int) (
 bif (decide (r19999005015041.length + ([(t8,(y118.1,()))]:List Yn).length≤zac)) then
 gI (5:Int) (5:Int) (
 bif (inR (5:Int) 8) then f41_l4w b2g0 b5g0 m17008 r19999009015041 r19999008015041 r19999007015041 r19999006015041 k (IntKind.wrap .i64 (t8 + 1)) (r19999005015041++([(t8,(y118.1,()))]:List Yn)) else none)
 else none))))))))))
 else none
 else none
 else none
 else none
 else
 f41_l4w b2g0 b5g0 m17008 r19999009015041 r19999008015041 r19999007015041 r19999006015041 k (IntKind.wrap .i64 (t8 + 1)) r19999005015041
 else
 some (.inl ((),((),(),(),()),((b2g0,()),(),(),(b5g0,()),m17008,r19999009015041,r19999008015041,r19999007015041,r19999006015041,r19999005015041,())))
def f41_l4w_n (n:Nat) (x:f41_l4wh.den):=f41_l4w x.2.2.1.1 x.2.2.2.2.2.1.1 x.2.2.2.2.2.2.1 x.2.2.2.2.2.2.2.1 x.2.2.2.2.2.2.2.2.1 x.2.2.2.2.2.2.2.2.2.1 x.2.2.2.2.2.2.2.2.2.2.1 n x.1.1 x.2.2.2.2.2.2.2.2.2.2.2.1
def f41_l4ws:LSpec:={ thaws:=[.cell 4 5 19999005015041 yN],head:=f41_l4wh,outs:=f41_l4wo,fn:=fun x=>f41_l4w_n (((24:Int) - x.1.1).toNat + 1) x }
def f41_l4zh:Ann:={ env:=[(0,.cst (.fn 60 [(.ptr 2 0 []),(.ptr 6 0 []),(.ptr 4 0 [])])),(2,.cst (.val yI (6:Int))),(8,YI)],stk:=[[(4,cP 4),(5,cP 5)],[(0,.cst (.tup [(.fn 46 []),(.ptr 5 0 [])]))],[(0,.cst (.tup [(.fn 57 [(.ptr 5 0 []),(.ptr 4 0 [])])]))]],bxs:=[(2,.var [.ty (.arr 8 (.sl yN))]),(6,.var [.cst (.mp 17008)]),(4,.var [.cst .nils,.cst (.row 19999009015041 .whole),.cst (.row 19999008015041 .whole),.cst (.row 19999007015041 .whole),.cst (.row 19999006015041 .whole),.cst (.row 19999005015041 .whole),.cst (.row 19999004015041 .whole),.cst .nils]),(5,.var [YI]),(17008,.map (.arr 2 yI) yR),(19999009015041,.row yN false),(19999008015041,.row yN false),(19999007015041,.row yN false),(19999006015041,.row yN false),(19999005015041,.row yN false),(19999004015041,.row yN false)] }
def f41_l4zo:List (Ex × Ann):=[((.exit 2),{ env:=[(0,.cst (.fn 60 [(.ptr 2 0 []),(.ptr 6 0 []),(.ptr 4 0 [])])),(2,.cst (.val yI (6:Int)))],stk:=[[(4,cP 4),(5,cP 5)],[(0,.cst (.tup [(.fn 46 []),(.ptr 5 0 [])]))],[(0,.cst (.tup [(.fn 57 [(.ptr 5 0 []),(.ptr 4 0 [])])]))]],bxs:=[(2,.var [.ty (.arr 8 (.sl yN))]),(6,.var [.cst (.mp 17008)]),(4,.var [.cst .nils,.cst (.row 19999009015041 .whole),.cst (.row 19999008015041 .whole),.cst (.row 19999007015041 .whole),.cst (.row 19999006015041 .whole),.cst (.row 19999005015041 .whole),.cst (.row 19999004015041 .whole),.cst .nils]),(5,.var [YI]),(17008,.map (.arr 2 yI) yR),(19999009015041,.row yN false),(19999008015041,.row yN false),(19999007015041,.row yN false),(19999006015041,.row yN false),(19999005015041,.row yN false),(19999004015041,.row yN false)] }),((.pan ⟨135,.emp⟩),{ env:=[],stk:=[[(4,cP 4),(5,cP 5)],[(0,.cst (.tup [(.fn 46 []),(.ptr 5 0 [])]))],[(0,.cst (.tup [(.fn 57 [(.ptr 5 0 []),(.ptr 4 0 [])])]))]],bxs:=[(4,.var [.cst .nils,.cst (.row 19999009015041 .whole),.cst (.row 19999008015041 .whole),.cst (.row 19999007015041 .whole),.cst (.row 19999006015041 .whole),.cst (.row 19999005015041 .whole),.cst (.row 19999004015041 .whole),.cst .nils]),(5,.var [YI]),(19999009015041,.row yN false),(19999008015041,.row yN false),(19999007015041,.row yN false),(19999006015041,.row yN false),(19999005015041,.row yN false),(19999004015041,.row yN false)] })]
def f41_l4z (b2g0:(List (List Yn))) (b5g0:Int) (m17008:(List ((List Int) × Yr))) (r19999009015041:(List Yn)) (r19999008015041:(List Yn)) (r19999007015041:(List Yn)) (r19999006015041:(List Yn)) (r19999005015041:(List Yn)):Nat→Int→(List Yn)→Option (outDen f41_l4zo)
 | 0,_,_=>none
 | k + 1,t8,r19999004015041 =>
 bif (decide (t8 < (24:Int))) then
 (f43 (b2g0,()) ([(6:Int),t8]:List Int)).bind fun y130 =>
 let v131:Bool:=(zaY (.arr 2 yI) yR m17008 ([(6:Int),t8]:List Int))
 bif v131 then
 let w8:Option (outDen f41_l4zo):=(
 (f52 (zai (.arr 2 yI) yR m17008 ([(6:Int),t8]:List Int))).bind fun y132 =>
 (f44 y130.1 y132.1).bind fun y133 =>
 bif (!y133.1) then
 some (.inr ((),((),(),(),()),((),(b5g0,()),r19999009015041,r19999008015041,r19999007015041,r19999006015041,r19999005015041,r19999004015041,())))
 else
 (f53 (zai (.arr 2 yI) yR m17008 ([(6:Int),t8]:List Int))).bind fun y134 =>
 bif y134.1.1 then
 bif (inR (0:Int) 2) then
 bif (inR (0:Int) 2) then
 bif (inR (1:Int) 2) then
 bif (inR (6:Int) 8) then
 gI t8 t8 (
 gI (6:Int) (6:Int) (
 gI (6:Int) (6:Int) (
 (f54 y134.1.2.1).bind fun y135 =>
 gI t8 t8 (
 gI (6:Int) (6:Int) (
 gI (6:Int) (6:Int) (
 gI (6:Int) (6:Int) (
 gI (6:Int) (6:Int) (
 gI (6:Int) (6:Int) (
 gI (6:Int) (6:Int) (
 bif (decide (r19999004015041.length + ([(t8,(y135.1,()))]:List Yn).length≤zac)) then
 gI (6:Int) (6:Int) (
 bif (inR (6:Int) 8) then f41_l4z b2g0 b5g0 m17008 r19999009015041 r19999008015041 r19999007015041 r19999006015041 r19999005015041 k (IntKind.wrap .i64 (t8 + 1)) (r19999004015041++([(t8,(y135.1,()))]:List Yn)) else none)
 else none))))))))))
 else none
 else none
 else none
 else none
 else
 f41_l4z b2g0 b5g0 m17008 r19999009015041 r19999008015041 r19999007015041 r19999006015041 r19999005015041 k (IntKind.wrap .i64 (t8 + 1)) r19999004015041)
 same w8 (same w8 w8)
 else
 bif y130.1.1 then
 bif (inR (0:Int) 2) then
 bif (inR (0:Int) 2) then
 bif (inR (1:Int) 2) then
 bif (inR (6:Int) 8) then
 gI t8 t8 (
 gI (6:Int) (6:Int) (
 gI (6:Int) (6:Int) (
 (f54 y130.1.2.1).bind fun y144 =>
 gI t8 t8 (
 gI (6:Int) (6:Int) (
 gI (6:Int) (6:Int) (
 gI (6:Int) (6:Int) (
 gI (6:Int) (6:Int) (
 gI (6:Int) (6:Int) (
 gI (6:Int) (6:Int) (
 bif (decide (r19999004015041.length + ([(t8,(y144.1,()))]:List Yn).length≤zac)) then
 gI (6:Int) (6:Int) (
 bif (inR (6:Int) 8) then f41_l4z b2g0 b5g0 m17008 r19999009015041 r19999008015041 r19999007015041 r19999006015041 r19999005015041 k (IntKind.wrap .i64 (t8 + 1)) (r19999004015041++([(t8,(y144.1,()))]:List Yn)) else none)
 else none))))))))))
 else none
 else none
 else none
 else none
 else
 f41_l4z b2g0 b5g0 m17008 r19999009015041 r19999008015041 r19999007015041 r19999006015041 r19999005015041 k (IntKind.wrap .i64 (t8 + 1)) r19999004015041
 else
 some (.inl ((),((),(),(),()),((b2g0,()),(),(),(b5g0,()),m17008,r19999009015041,r19999008015041,r19999007015041,r19999006015041,r19999005015041,r19999004015041,())))
def f41_l4z_n (n:Nat) (x:f41_l4zh.den):=f41_l4z x.2.2.1.1 x.2.2.2.2.2.1.1 x.2.2.2.2.2.2.1 x.2.2.2.2.2.2.2.1 x.2.2.2.2.2.2.2.2.1 x.2.2.2.2.2.2.2.2.2.1 x.2.2.2.2.2.2.2.2.2.2.1 x.2.2.2.2.2.2.2.2.2.2.2.1 n x.1.1 x.2.2.2.2.2.2.2.2.2.2.2.2.1
def f41_l4zs:LSpec:={ thaws:=[.cell 4 6 19999004015041 yN],head:=f41_l4zh,outs:=f41_l4zo,fn:=fun x=>f41_l4z_n (((24:Int) - x.1.1).toNat + 1) x }
def f41_l4yh:Ann:={ env:=[(0,.cst (.fn 60 [(.ptr 2 0 []),(.ptr 6 0 []),(.ptr 4 0 [])])),(2,.cst (.val yI (7:Int))),(8,YI)],stk:=[[(4,cP 4),(5,cP 5)],[(0,.cst (.tup [(.fn 46 []),(.ptr 5 0 [])]))],[(0,.cst (.tup [(.fn 57 [(.ptr 5 0 []),(.ptr 4 0 [])])]))]],bxs:=[(2,.var [.ty (.arr 8 (.sl yN))]),(6,.var [.cst (.mp 17008)]),(4,.var [.cst .nils,.cst (.row 19999009015041 .whole),.cst (.row 19999008015041 .whole),.cst (.row 19999007015041 .whole),.cst (.row 19999006015041 .whole),.cst (.row 19999005015041 .whole),.cst (.row 19999004015041 .whole),.cst (.row 19999003015041 .whole)]),(5,.var [YI]),(17008,.map (.arr 2 yI) yR),(19999009015041,.row yN false),(19999008015041,.row yN false),(19999007015041,.row yN false),(19999006015041,.row yN false),(19999005015041,.row yN false),(19999004015041,.row yN false),(19999003015041,.row yN false)] }
def f41_l4yo:List (Ex × Ann):=[((.exit 2),{ env:=[(0,.cst (.fn 60 [(.ptr 2 0 []),(.ptr 6 0 []),(.ptr 4 0 [])])),(2,.cst (.val yI (7:Int)))],stk:=[[(4,cP 4),(5,cP 5)],[(0,.cst (.tup [(.fn 46 []),(.ptr 5 0 [])]))],[(0,.cst (.tup [(.fn 57 [(.ptr 5 0 []),(.ptr 4 0 [])])]))]],bxs:=[(2,.var [.ty (.arr 8 (.sl yN))]),(6,.var [.cst (.mp 17008)]),(4,.var [.cst .nils,.cst (.row 19999009015041 .whole),.cst (.row 19999008015041 .whole),.cst (.row 19999007015041 .whole),.cst (.row 19999006015041 .whole),.cst (.row 19999005015041 .whole),.cst (.row 19999004015041 .whole),.cst (.row 19999003015041 .whole)]),(5,.var [YI]),(17008,.map (.arr 2 yI) yR),(19999009015041,.row yN false),(19999008015041,.row yN false),(19999007015041,.row yN false),(19999006015041,.row yN false),(19999005015041,.row yN false),(19999004015041,.row yN false),(19999003015041,.row yN false)] }),((.pan ⟨135,.emp⟩),{ env:=[],stk:=[[(4,cP 4),(5,cP 5)],[(0,.cst (.tup [(.fn 46 []),(.ptr 5 0 [])]))],[(0,.cst (.tup [(.fn 57 [(.ptr 5 0 []),(.ptr 4 0 [])])]))]],bxs:=[(4,.var [.cst .nils,.cst (.row 19999009015041 .whole),.cst (.row 19999008015041 .whole),.cst (.row 19999007015041 .whole),.cst (.row 19999006015041 .whole),.cst (.row 19999005015041 .whole),.cst (.row 19999004015041 .whole),.cst (.row 19999003015041 .whole)]),(5,.var [YI]),(19999009015041,.row yN false),(19999008015041,.row yN false),(19999007015041,.row yN false),(19999006015041,.row yN false),(19999005015041,.row yN false),(19999004015041,.row yN false),(19999003015041,.row yN false)] })]
def f41_l4y (b2g0:(List (List Yn))) (b5g0:Int) (m17008:(List ((List Int) × Yr))) (r19999009015041:(List Yn)) (r19999008015041:(List Yn)) (r19999007015041:(List Yn)) (r19999006015041:(List Yn)) (r19999005015041:(List Yn)) (r19999004015041:(List Yn)):Nat→Int→(List Yn)→Option (outDen f41_l4yo)
 | 0,_,_=>none
 | k + 1,t8,r19999003015041 =>
 bif (decide (t8 < (24:Int))) then
 (f43 (b2g0,()) ([(7:Int),t8]:List Int)).bind fun y157 =>
 let v158:Bool:=(zaY (.arr 2 yI) yR m17008 ([(7:Int),t8]:List Int))
 bif v158 then
 let w9:Option (outDen f41_l4yo):=(
 (f52 (zai (.arr 2 yI) yR m17008 ([(7:Int),t8]:List Int))).bind fun y159 =>
 (f44 y157.1 y159.1).bind fun y160 =>
 bif (!y160.1) then
 some (.inr ((),((),(),(),()),((),(b5g0,()),r19999009015041,r19999008015041,r19999007015041,r19999006015041,r19999005015041,r19999004015041,r19999003015041,())))
 else
 (f53 (zai (.arr 2 yI) yR m17008 ([(7:Int),t8]:List Int))).bind fun y161 =>
 bif y161.1.1 then
 bif (inR (0:Int) 2) then
 bif (inR (0:Int) 2) then
 bif (inR (1:Int) 2) then
 bif (inR (7:Int) 8) then
 gI t8 t8 (
 gI (7:Int) (7:Int) (
 gI (7:Int) (7:Int) (
 (f54 y161.1.2.1).bind fun y162 =>
 gI t8 t8 (
 gI (7:Int) (7:Int) (
 gI (7:Int) (7:Int) (
 gI (7:Int) (7:Int) (
 gI (7:Int) (7:Int) (
 gI (7:Int) (7:Int) (
 gI (7:Int) (7:Int) (
 bif (decide (r19999003015041.length + ([(t8,(y162.1,()))]:List Yn).length≤zac)) then
 gI (7:Int) (7:Int) (
 bif (inR (7:Int) 8) then f41_l4y b2g0 b5g0 m17008 r19999009015041 r19999008015041 r19999007015041 r19999006015041 r19999005015041 r19999004015041 k (IntKind.wrap .i64 (t8 + 1)) (r19999003015041++([(t8,(y162.1,()))]:List Yn)) else none)
 else none))))))))))
 else none
 else none
 else none
 else none
 else
 f41_l4y b2g0 b5g0 m17008 r19999009015041 r19999008015041 r19999007015041 r19999006015041 r19999005015041 r19999004015041 k (IntKind.wrap .i64 (t8 + 1)) r19999003015041)
 same w9 (same w9 w9)
 else
 bif y157.1.1 then
 bif (inR (0:Int) 2) then
 bif (inR (0:Int) 2) then
 bif (inR (1:Int) 2) then
 bif (inR (7:Int) 8) then
 gI t8 t8 (
 gI (7:Int) (7:Int) (
 gI (7:Int) (7:Int) (
 (f54 y157.1.2.1).bind fun y171 =>
 gI t8 t8 (
 gI (7:Int) (7:Int) (
 gI (7:Int) (7:Int) (
 gI (7:Int) (7:Int) (
 gI (7:Int) (7:Int) (
 gI (7:Int) (7:Int) (
 gI (7:Int) (7:Int) (
 bif (decide (r19999003015041.length + ([(t8,(y171.1,()))]:List Yn).length≤zac)) then
 gI (7:Int) (7:Int) (
 bif (inR (7:Int) 8) then f41_l4y b2g0 b5g0 m17008 r19999009015041 r19999008015041 r19999007015041 r19999006015041 r19999005015041 r19999004015041 k (IntKind.wrap .i64 (t8 + 1)) (r19999003015041++([(t8,(y171.1,()))]:List Yn)) else none)
 else none))))))))))
 else none
 else none
 else none
 else none
 else
 f41_l4y b2g0 b5g0 m17008 r19999009015041 r19999008015041 r19999007015041 r19999006015041 r19999005015041 r19999004015041 k (IntKind.wrap .i64 (t8 + 1)) r19999003015041
 else
 some (.inl ((),((),(),(),()),((b2g0,()),(),(),(b5g0,()),m17008,r19999009015041,r19999008015041,r19999007015041,r19999006015041,r19999005015041,r19999004015041,r19999003015041,())))
def f41_l4y_n (n:Nat) (x:f41_l4yh.den):=f41_l4y x.2.2.1.1 x.2.2.2.2.2.1.1 x.2.2.2.2.2.2.1 x.2.2.2.2.2.2.2.1 x.2.2.2.2.2.2.2.2.1 x.2.2.2.2.2.2.2.2.2.1 x.2.2.2.2.2.2.2.2.2.2.1 x.2.2.2.2.2.2.2.2.2.2.2.1 x.2.2.2.2.2.2.2.2.2.2.2.2.1 n x.1.1 x.2.2.2.2.2.2.2.2.2.2.2.2.2.1
def f41_l4ys:LSpec:={ thaws:=[.cell 4 7 19999003015041 yN],head:=f41_l4yh,outs:=f41_l4yo,fn:=fun x=>f41_l4y_n (((24:Int) - x.1.1).toNat + 1) x }
def f14 (a0:Yc) (a1:((List Yr) × Unit)):Option (Yc × Int × Unit) :=
 (f35 a0).bind fun y1 =>
 bif y1.1 then
 (f19 a1).bind fun y2 =>
 bif (!y2.1) then
 some ((([[],[],[],[],[],[],[],[]]:List (List Yn)),()),(160:Int),())
 else
 (f49_l3x a1.1 (a1.1.length:Int) a0.1 0 (((a1.1.length:Int) - (0:Int)).toNat + 1) (0:Int) ([]:List ((List Int) × Yr))).bind fun o6 =>
 let u7:(List ((List Int) × Yr)):=o6.2.2.1
 let u8:(List (List Yn)):=o6.2.2.2.1.1
 let u9:Int:=o6.2.2.2.2.2.1.1
 (f41_l4b u8 u9 u7 (((24:Int) - (0:Int)).toNat + 1) (0:Int) []).bind fun o25 =>
 Sum.elim (fun o26 =>
 let u28:(List (List Yn)):=o26.2.2.1.1
 let u29:Int:=o26.2.2.2.2.2.1.1
 let u30:(List ((List Int) × Yr)):=o26.2.2.2.2.2.2.1
 let u31:(List Yn):=o26.2.2.2.2.2.2.2.1
 (f41_l4a u28 u29 u30 u31 (((24:Int) - (0:Int)).toNat + 1) (0:Int) []).bind fun o47 =>
 Sum.elim (fun o48 =>
 let u50:(List (List Yn)):=o48.2.2.1.1
 let u51:Int:=o48.2.2.2.2.2.1.1
 let u52:(List ((List Int) × Yr)):=o48.2.2.2.2.2.2.1
 let u53:(List Yn):=o48.2.2.2.2.2.2.2.1
 let u54:(List Yn):=o48.2.2.2.2.2.2.2.2.1
 (f41_l4u u50 u51 u52 u53 u54 (((24:Int) - (0:Int)).toNat + 1) (0:Int) []).bind fun o70 =>
 Sum.elim (fun o71 =>
 let u73:(List (List Yn)):=o71.2.2.1.1
 let u74:Int:=o71.2.2.2.2.2.1.1
 let u75:(List ((List Int) × Yr)):=o71.2.2.2.2.2.2.1
 let u76:(List Yn):=o71.2.2.2.2.2.2.2.1
 let u77:(List Yn):=o71.2.2.2.2.2.2.2.2.1
 let u78:(List Yn):=o71.2.2.2.2.2.2.2.2.2.1
 (f41_l4v u73 u74 u75 u76 u77 u78 (((24:Int) - (0:Int)).toNat + 1) (0:Int) []).bind fun o94 =>
 Sum.elim (fun o95 =>
 let u97:(List (List Yn)):=o95.2.2.1.1
 let u98:Int:=o95.2.2.2.2.2.1.1
 let u99:(List ((List Int) × Yr)):=o95.2.2.2.2.2.2.1
 let u100:(List Yn):=o95.2.2.2.2.2.2.2.1
 let u101:(List Yn):=o95.2.2.2.2.2.2.2.2.1
 let u102:(List Yn):=o95.2.2.2.2.2.2.2.2.2.1
 let u103:(List Yn):=o95.2.2.2.2.2.2.2.2.2.2.1
 (f41_l4w u97 u98 u99 u100 u101 u102 u103 (((24:Int) - (0:Int)).toNat + 1) (0:Int) []).bind fun o119 =>
 Sum.elim (fun o120 =>
 let u122:(List (List Yn)):=o120.2.2.1.1
 let u123:Int:=o120.2.2.2.2.2.1.1
 let u124:(List ((List Int) × Yr)):=o120.2.2.2.2.2.2.1
 let u125:(List Yn):=o120.2.2.2.2.2.2.2.1
 let u126:(List Yn):=o120.2.2.2.2.2.2.2.2.1
 let u127:(List Yn):=o120.2.2.2.2.2.2.2.2.2.1
 let u128:(List Yn):=o120.2.2.2.2.2.2.2.2.2.2.1
 let u129:(List Yn):=o120.2.2.2.2.2.2.2.2.2.2.2.1
 (f41_l4z u122 u123 u124 u125 u126 u127 u128 u129 (((24:Int) - (0:Int)).toNat + 1) (0:Int) []).bind fun o145 =>
 Sum.elim (fun o146 =>
 let u148:(List (List Yn)):=o146.2.2.1.1
 let u149:Int:=o146.2.2.2.2.2.1.1
 let u150:(List ((List Int) × Yr)):=o146.2.2.2.2.2.2.1
 let u151:(List Yn):=o146.2.2.2.2.2.2.2.1
 let u152:(List Yn):=o146.2.2.2.2.2.2.2.2.1
 let u153:(List Yn):=o146.2.2.2.2.2.2.2.2.2.1
 let u154:(List Yn):=o146.2.2.2.2.2.2.2.2.2.2.1
 let u155:(List Yn):=o146.2.2.2.2.2.2.2.2.2.2.2.1
 let u156:(List Yn):=o146.2.2.2.2.2.2.2.2.2.2.2.2.1
 (f41_l4y u148 u149 u150 u151 u152 u153 u154 u155 u156 (((24:Int) - (0:Int)).toNat + 1) (0:Int) []).bind fun o172 =>
 Sum.elim (fun o173 =>
 let u178:(List Yn):=o173.2.2.2.2.2.2.2.1
 let u179:(List Yn):=o173.2.2.2.2.2.2.2.2.1
 let u180:(List Yn):=o173.2.2.2.2.2.2.2.2.2.1
 let u181:(List Yn):=o173.2.2.2.2.2.2.2.2.2.2.1
 let u182:(List Yn):=o173.2.2.2.2.2.2.2.2.2.2.2.1
 let u183:(List Yn):=o173.2.2.2.2.2.2.2.2.2.2.2.2.1
 let u184:(List Yn):=o173.2.2.2.2.2.2.2.2.2.2.2.2.2.1
 some ((([[],u178,u179,u180,u181,u182,u183,u184]:List (List Yn)),()),(0:Int),())) (fun o174 =>
 some ((([[],[],[],[],[],[],[],[]]:List (List Yn)),()),(160:Int),())) o172) (fun o147 =>
 some ((([[],[],[],[],[],[],[],[]]:List (List Yn)),()),(160:Int),())) o145) (fun o121 =>
 some ((([[],[],[],[],[],[],[],[]]:List (List Yn)),()),(160:Int),())) o119) (fun o96 =>
 some ((([[],[],[],[],[],[],[],[]]:List (List Yn)),()),(160:Int),())) o94) (fun o72 =>
 some ((([[],[],[],[],[],[],[],[]]:List (List Yn)),()),(160:Int),())) o70) (fun o49 =>
 some ((([[],[],[],[],[],[],[],[]]:List (List Yn)),()),(160:Int),())) o47) (fun o27 =>
 some ((([[],[],[],[],[],[],[],[]]:List (List Yn)),()),(160:Int),())) o25
 else
 some ((([[],[],[],[],[],[],[],[]]:List (List Yn)),()),(160:Int),())
def f14s:PSpec:={ args:=[yC,(.pair (.sl yR) .unit)],res:=[yC,yI],fn:=fun x=>f14 x.1 x.2.1 }
noncomputable def f14c:Code:=Tryz.f18.body.getD .skip
noncomputable def f14_code_31:Code:=Tryz.f31.body.getD .skip
noncomputable def f14_code_58:Code:=Tryz.f58.body.getD .skip
noncomputable def f14e:Env0:={ C:=cfgX,P:=[(27,f35s),(28,f19s),(33,f43s),(34,f44s),(39,f52s),(41,f53s),(59,f50s),(61,f54s)],L:=[(⟨11,17000,58,3⟩,f49_l3xs),(⟨11,19999009000,31,4⟩,f41_l4bs),(⟨11,19999008000,31,4⟩,f41_l4as),(⟨11,19999007000,31,4⟩,f41_l4us),(⟨11,19999006000,31,4⟩,f41_l4vs),(⟨11,19999005000,31,4⟩,f41_l4ws),(⟨11,19999004000,31,4⟩,f41_l4zs),(⟨11,19999003000,31,4⟩,f41_l4ys)],F:=[(18,Tryz.f18),(31,Tryz.f31),(46,Tryz.f46),(49,Tryz.f49),(57,Tryz.f57),(58,Tryz.f58),(60,Tryz.f60)],I:=[],tot:=[(58,[5]),(60,[4,7])],fuel:=10,vary:=true,sym:=true }
theorem f49_l3xy:zan f14e 11 58 17000 (zao f14_code_58 3) f49_l3xs :=
 zae (by kernel_rfl) f49_l3x_n (fun x o h=>⟨_,h⟩) (fun x=>by kernel_rfl) (fun n x=>by kernel_rfl)
theorem f41_l4by:zan f14e 11 31 19999009000 (zao f14_code_31 4) f41_l4bs :=
 zae (by kernel_rfl) f41_l4b_n (fun x o h=>⟨_,h⟩) (fun x=>by kernel_rfl) (fun n x=>by kernel_rfl)
theorem f41_l4ay:zan f14e 11 31 19999008000 (zao f14_code_31 4) f41_l4as :=
 zae (by kernel_rfl) f41_l4a_n (fun x o h=>⟨_,h⟩) (fun x=>by kernel_rfl) (fun n x=>by kernel_rfl)
theorem f41_l4uy:zan f14e 11 31 19999007000 (zao f14_code_31 4) f41_l4us :=
 zae (by kernel_rfl) f41_l4u_n (fun x o h=>⟨_,h⟩) (fun x=>by kernel_rfl) (fun n x=>by kernel_rfl)
theorem f41_l4vy:zan f14e 11 31 19999006000 (zao f14_code_31 4) f41_l4vs :=
 zae (by kernel_rfl) f41_l4v_n (fun x o h=>⟨_,h⟩) (fun x=>by kernel_rfl) (fun n x=>by kernel_rfl)
theorem f41_l4wy:zan f14e 11 31 19999005000 (zao f14_code_31 4) f41_l4ws :=
 zae (by kernel_rfl) f41_l4w_n (fun x o h=>⟨_,h⟩) (fun x=>by kernel_rfl) (fun n x=>by kernel_rfl)
theorem f41_l4zy:zan f14e 11 31 19999004000 (zao f14_code_31 4) f41_l4zs :=
 zae (by kernel_rfl) f41_l4z_n (fun x o h=>⟨_,h⟩) (fun x=>by kernel_rfl) (fun n x=>by kernel_rfl)
theorem f41_l4yy:zan f14e 11 31 19999003000 (zao f14_code_31 4) f41_l4ys :=
 zae (by kernel_rfl) f41_l4y_n (fun x o h=>⟨_,h⟩) (fun x=>by kernel_rfl) (fun n x=>by kernel_rfl)
theorem f14r:zR f14e 18 Tryz.f18 f14c f14s:=by intro x; kernel_rfl
theorem f14n:zQ 18:=zN Tryz.func18
theorem f14k:zE f14e:=zO zoL ⟨⟨f35p,f35n⟩,⟨f19p,f19n⟩,⟨f43p,f43n⟩,⟨f44p,f44n⟩,⟨f52p,f52n⟩,⟨f53p,f53n⟩,⟨f50p,f50n⟩,⟨f54p,f54n⟩,trivial⟩ trivial ⟨zK Tryz.func18,zK Tryz.func31,zK Tryz.func46,zK Tryz.func49,zK Tryz.func57,zK Tryz.func58,zK Tryz.func60,trivial⟩ ⟨⟨Tryz.f58,f14_code_58,rfl,rfl,f49_l3xy⟩,⟨Tryz.f31,f14_code_31,rfl,rfl,f41_l4by⟩,⟨Tryz.f31,f14_code_31,rfl,rfl,f41_l4ay⟩,⟨Tryz.f31,f14_code_31,rfl,rfl,f41_l4uy⟩,⟨Tryz.f31,f14_code_31,rfl,rfl,f41_l4vy⟩,⟨Tryz.f31,f14_code_31,rfl,rfl,f41_l4wy⟩,⟨Tryz.f31,f14_code_31,rfl,rfl,f41_l4zy⟩,⟨Tryz.f31,f14_code_31,rfl,rfl,f41_l4yy⟩,trivial⟩
theorem f14p:zU 18 f14s:=zP f14k Tryz.f18 f14c f14r
end
end Go.V.G
namespace Go.V.G
open Go.Proofs
noncomputable section
def f17_l5h:Ann:={ env:=[(2,cP 2),(4,cP 4),(12,.ty (.sl yR)),(13,YI),(14,YI)],bxs:=[(2,.var [.cst .nils]),(4,.var [.cst (.row 28 .whole)]),(28,.row yR false)] }
def f17_l5o:List (Ex × Ann):=[((.exit 0),{ env:=[(2,cP 2),(4,cP 4)],bxs:=[(2,.var [.cst .nils]),(4,.var [.cst (.row 28 .whole)]),(28,.row yR false)] })]
def f17_l5 (t12:(List Yr)) (t13:Int):Nat→Int→(List Yr)→Option (outDen f17_l5o)
 | 0,_,_=>none
 | k + 1,t14,r28 =>
 bif (decide (t14 < t13)) then
 bif (inR t14 t12.length) then
 (f50 (at_ yR t12 t14)).bind fun y2 =>
 (f53 (at_ yR t12 t14)).bind fun y3 =>
 (f52 (at_ yR t12 t14)).bind fun y4 =>
 (f45 y2.1 y3.1 y4.1).bind fun y5 =>
 bif (decide (r28.length + ([y5.1]:List Yr).length≤zac)) then f17_l5 t12 t13 k (IntKind.wrap .i64 (t14 + 1)) (r28++([y5.1]:List Yr)) else none
 else none
 else
 some ((),(),((),(),r28,()))
def f17_l5_n (n:Nat) (x:f17_l5h.den):=f17_l5 x.1.1 x.1.2.1 n x.1.2.2.1 x.2.2.2.2.1
def f17_l5s:LSpec:={ thaws:=[.cell 4 0 28 yR],head:=f17_l5h,outs:=f17_l5o,fn:=fun x=>f17_l5_n ((x.1.2.1 - x.1.2.2.1).toNat + 1) x }
def f17 (a0:((List Yr) × Unit)):Option (((List Yr) × Unit) × Int × Unit) :=
 (f19 a0).bind fun y1 =>
 bif (!y1.1) then
 some (([],()),(160:Int),())
 else
 (f17_l5 a0.1 (a0.1.length:Int) (((a0.1.length:Int) - (0:Int)).toNat + 1) (0:Int) []).bind fun o6 =>
 let u7:(List Yr):=o6.2.2.2.2.1
 some ((u7,()),(0:Int),())
def f17s:PSpec:={ args:=[(.pair (.sl yR) .unit)],res:=[(.pair (.sl yR) .unit),yI],fn:=fun x=>f17 x.1 }
noncomputable def f17c:Code:=Tryz.f19.body.getD .skip
noncomputable def f17e:Env0:={ C:=cfgF,P:=[(28,f19s),(35,f45s),(39,f52s),(41,f53s),(59,f50s)],L:=[(⟨12,0,19,5⟩,f17_l5s)],F:=[(19,Tryz.f19)] }
theorem f17_l5y:zan f17e 12 19 0 (zao f17c 5) f17_l5s :=
 zae (by kernel_rfl) f17_l5_n (fun x o h=>⟨_,h⟩) (fun x=>by kernel_rfl) (fun n x=>by kernel_rfl)
theorem f17r:zR f17e 19 Tryz.f19 f17c f17s:=by intro x; kernel_rfl
theorem f17n:zQ 19:=zN Tryz.func19
theorem f17k:zE f17e:=zO zaf ⟨⟨f19p,f19n⟩,⟨f45p,f45n⟩,⟨f52p,f52n⟩,⟨f53p,f53n⟩,⟨f50p,f50n⟩,trivial⟩ trivial ⟨zK Tryz.func19,trivial⟩ ⟨⟨Tryz.f19,f17c,rfl,rfl,f17_l5y⟩,trivial⟩
theorem f17p:zU 19 f17s:=zP f17k Tryz.f19 f17c f17r
end
end Go.V.G
