/- Part of the proof. -/
import Derived.KernelRfl
import Derived.Test.YtijakakpbijdkaaGreatDoorA12
set_option linter.all false
set_option linter.unusedVariables false
set_option linter.unusedSectionVars false
set_option linter.unusedSimpArgs false
namespace Go.V.G
open Go.Proofs
noncomputable section
def f5_l6_head:Ann:={ env:=[(1,cP 1),(3,.cst (.row 41 .whole)),(4,.cst .nils),(5,YI)],bxs:=[(1,.var [.ty (.arr 4 (.sl (.arr 4 yI)))]),(41,.row yC false)] }
def f5_l6_outs:List (Ex × Ann):=[((.exit 0),{ env:=[(3,.cst (.row 41 .whole)),(4,.cst .nils)],bxs:=[(41,.row yC false)] })]
def f5_l6 (b1g0:(List (List (List Int)))):Nat→Int→(List Yc)→Option (outDen f5_l6_outs)
 | 0,_,_=>none
 | k + 1,t5,r41 =>
 bif (decide (t5 < (4:Int))) then
 bif (inR t5 4) then
 (f8 (at_ (.sl (.arr 4 yI)) b1g0 t5)).bind fun y2 =>
 bif (decide (r41.length + ([y2.1]:List Yc).length≤appLim)) then f5_l6 b1g0 k (IntKind.wrap .i64 (t5 + 1)) (r41++([y2.1]:List Yc)) else none
 else none
 else
 some ((),(),(r41,()))
def f5_l6_n (n:Nat) (x:f5_l6_head.den):=f5_l6 x.2.2.1.1 n x.1.1 x.2.2.2.1
def f5_l6_spec:LSpec:={ thaws:=[.slot 3 41 yC],head:=f5_l6_head,outs:=f5_l6_outs,fn:=fun x=>f5_l6_n (((4:Int) - x.1.1).toNat + 1) x }
def f5_l10_head:Ann:={ env:=[(3,.cst (.row 41 .whole)),(4,.cst (.row 64 .whole)),(6,YI)],bxs:=[(41,.row yC false),(64,.row (.pair (.sl yR) .unit) false)] }
def f5_l10_outs:List (Ex × Ann):=[((.exit 2),{ env:=[(3,.cst (.row 41 .whole)),(4,.cst (.row 64 .whole))],bxs:=[(41,.row yC false),(64,.row (.pair (.sl yR) .unit) false)] }),(.ret,{ env:=[(2,.ty .bool)] })]
def f5_l10 (r41:(List Yc)):Nat→Int→(List ((List Yr) × Unit))→Option (outDen f5_l10_outs)
 | 0,_,_=>none
 | k + 1,t6,r64 =>
 bif (decide (t6 < (3:Int))) then
 bif (inR t6 r41.length) then
 bif (inR (IntKind.wrap .i64 (t6 + 1)) r41.length) then
 (f12 (at_ yC r41 t6) (at_ yC r41 (IntKind.wrap .i64 (t6 + 1)))).bind fun y5 =>
 bif (decide (y5.2.1 ≠ (0:Int))) then
 some (.inr ((false,()),(),()))
 else
 bif (decide (r64.length + ([y5.1]:List ((List Yr) × Unit)).length≤appLim)) then f5_l10 r41 k (IntKind.wrap .i64 (t6 + 1)) (r64++([y5.1]:List ((List Yr) × Unit))) else none
 else none
 else none
 else
 some (.inl ((),(),(r41,r64,())))
def f5_l10_n (n:Nat) (x:f5_l10_head.den):=f5_l10 x.2.2.1 n x.1.1 x.2.2.2.1
def f5_l10_spec:LSpec:={ thaws:=[.slot 4 64 (.pair (.sl yR) .unit)],head:=f5_l10_head,outs:=f5_l10_outs,fn:=fun x=>f5_l10_n (((3:Int) - x.1.1).toNat + 1) x }
def f5 (a0:(List (List (List Int)))):Option (Bool × Unit) :=
 (f7 ).bind fun y1 =>
 bif (!y1.1) then
 some (false,())
 else
 (f5_l6 a0 (((4:Int) - (0:Int)).toNat + 1) (0:Int) []).bind fun o3 =>
 let u4:(List Yc):=o3.2.2.1
 (f5_l10 u4 (((3:Int) - (0:Int)).toNat + 1) (0:Int) []).bind fun o6 =>
 Sum.elim (fun o7 =>
 let u9:(List Yc):=o7.2.2.1
 let u10:(List ((List Yr) × Unit)):=o7.2.2.2.1
 bif (inR (0:Int) u10.length) then
 bif (inR (1:Int) u10.length) then
 (f22 (at_ (.pair (.sl yR) .unit) u10 (0:Int)) (at_ (.pair (.sl yR) .unit) u10 (1:Int))).bind fun y11 =>
 bif (inR (1:Int) u10.length) then
 bif (inR (2:Int) u10.length) then
 (f22 (at_ (.pair (.sl yR) .unit) u10 (1:Int)) (at_ (.pair (.sl yR) .unit) u10 (2:Int))).bind fun y12 =>
 bif (inR (2:Int) u10.length) then
 (f22 y11.1 (at_ (.pair (.sl yR) .unit) u10 (2:Int))).bind fun y13 =>
 bif (inR (0:Int) u10.length) then
 (f22 (at_ (.pair (.sl yR) .unit) u10 (0:Int)) y12.1).bind fun y14 =>
 bif (inR (0:Int) u9.length) then
 bif (inR (3:Int) u9.length) then
 (f12 (at_ yC u9 (0:Int)) (at_ yC u9 (3:Int))).bind fun y15 =>
 bif (inR (0:Int) u9.length) then
 bif (inR (2:Int) u9.length) then
 (f12 (at_ yC u9 (0:Int)) (at_ yC u9 (2:Int))).bind fun y16 =>
 bif (inR (0:Int) u9.length) then
 (f14 (at_ yC u9 (0:Int)) y11.1).bind fun y17 =>
 bif (inR (0:Int) u10.length) then
 (f17 (at_ (.pair (.sl yR) .unit) u10 (0:Int))).bind fun y18 =>
 bif (inR (0:Int) u10.length) then
 (f22 (at_ (.pair (.sl yR) .unit) u10 (0:Int)) y18.1).bind fun y19 =>
 bif (inR (0:Int) u10.length) then
 (f22 (at_ (.pair (.sl yR) .unit) u10 (0:Int)) ([],())).bind fun y20 =>
 bif (decide (y11.2.1 ≠ (0:Int))) then
 some (false,())
 else
 bif (decide (y12.2.1 ≠ (0:Int))) then
 some (false,())
 else
 bif (decide (y13.2.1 ≠ (0:Int))) then
 some (false,())
 else
 bif (decide (y14.2.1 ≠ (0:Int))) then
 some (false,())
 else
 bif (decide (y15.2.1 ≠ (0:Int))) then
 some (false,())
 else
 bif (decide (y16.2.1 ≠ (0:Int))) then
 some (false,())
 else
 bif (decide (y17.2.1 ≠ (0:Int))) then
 some (false,())
 else
 bif (decide (y18.2.1 ≠ (0:Int))) then
 some (false,())
 else
 bif (decide (y19.2.1 ≠ (0:Int))) then
 some (false,())
 else
 bif (decide (y20.2.1 ≠ (0:Int))) then
 some (false,())
 else
 (f13 y13.1 y14.1).bind fun y21 =>
 bif y21.1 then
 (f13 y13.1 y15.1).bind fun y22 =>
 bif y22.1 then
 (f13 y11.1 y16.1).bind fun y23 =>
 bif y23.1 then
 bif (inR (2:Int) u9.length) then
 (f16 y17.1 (at_ yC u9 (2:Int))).bind fun y24 =>
 bif y24.1 then
 let v25:Bool:=(decide ((y19.1.1.length:Int) = (0:Int)))
 bif v25 then
 bif (inR (0:Int) u10.length) then
 (f13 y20.1 (at_ (.pair (.sl yR) .unit) u10 (0:Int))).bind fun y26 =>
 some (y26.1,())
 else none
 else
 some (false,())
 else
 some (false,())
 else none
 else
 some (false,())
 else
 some (false,())
 else
 some (false,())
 else none
 else none
 else none
 else none
 else none
 else none
 else none
 else none
 else none
 else none
 else none
 else none
 else none
 else none) (fun o8 =>
 let u27:Bool:=o8.1.1
 some (u27,())) o6
def f5_spec:PSpec:={ args:=[(.arr 4 (.sl (.arr 4 yI)))],res:=[.bool],fn:=fun x=>f5 x.1 }
noncomputable def f5_code:Code:=Tryz.f5.body.getD .skip
noncomputable def f5_env:Env0:={ C:=cfgF,P:=[(7,f7_spec),(8,f8_spec),(12,f12_spec),(13,f13_spec),(14,f14_spec),(16,f16_spec),(17,f17_spec),(22,f22_spec)],L:=[(⟨12,0,5,6⟩,f5_l6_spec),(⟨12,0,5,10⟩,f5_l10_spec)],F:=[(5,Tryz.f5)] }
theorem f5_l6_ok:LoopOK f5_env 12 5 0 (loopAt f5_code 6) f5_l6_spec :=
 loopOK_of (by kernel_rfl) f5_l6_n (fun x o h=>⟨_,h⟩) (fun x=>by kernel_rfl) (fun n x=>by kernel_rfl)
theorem f5_l10_ok:LoopOK f5_env 12 5 0 (loopAt f5_code 10) f5_l10_spec :=
 loopOK_of (by kernel_rfl) f5_l10_n (fun x o h=>⟨_,h⟩) (fun x=>by kernel_rfl) (fun n x=>by kernel_rfl)
theorem f5_run (x:tysDen (f5_spec).args):runF f5_env 5 Tryz.f5 f5_code (f5_spec).args (f5_spec).res x = f5_spec.fn x:=by kernel_rfl
theorem f5_envOK:EnvOK Tryz.prog f5_env:=envOK_of cds (by kernel_rfl) cfgF_ok ⟨⟨f7_pure,f7_enter⟩,⟨f8_pure,f8_enter⟩,⟨f12_pure,f12_enter⟩,⟨f13_pure,f13_enter⟩,⟨f14_pure,f14_enter⟩,⟨f16_pure,f16_enter⟩,⟨f17_pure,f17_enter⟩,⟨f22_pure,f22_enter⟩,trivial⟩ trivial ⟨⟨Tryz.func5,by kernel_rfl⟩,trivial⟩ ⟨⟨Tryz.f5,f5_code,rfl,rfl,f5_l6_ok⟩,⟨Tryz.f5,f5_code,rfl,rfl,f5_l10_ok⟩,trivial⟩ trivial trivial
theorem f5_pure:PureOK Tryz.prog cfg 5 f5_spec:=pure_of_run f5_envOK (fn:=Tryz.f5) (c:=f5_code) rfl rfl f5_spec (fun x _ h=>(f5_run x).trans h)
end
end Go.V.G
namespace Go.V.G
open Go.Proofs
open Go.V.K
theorem f5_made (x:List (List (List Int))) (k j:Nat) (hj:j < 4) (r:List Ct) (hr:r.length≤1000) (c:Ct) (e:f8 (at_ tX x (j:Int)) = some (c,())) :
  f5_l6 x (k + 1) (j:Int) r = f5_l6 x k ((j + 1:Nat):Int) (r++[c]):=by
 conv=>lhs; unfold f5_l6
 have e1:decide ((j:Int) < 4) = true:=by simp; omega
 have e2:decide (r.length + 1≤appLim) = true:=sm_app (by omega)
 simp only [e1,cond_true,inRN,hj,decide_true]
 refine bind_step e ?_
 show (bif decide (r.length + 1≤appLim) then _ else none) = _
 rw [e2,wS j (by omega)]
 rfl
theorem f5_made4 (x:List (List (List Int))) (h:∀ y∈x,iRows y):∃ a b c d,(okC a∧okC b∧okC c∧okC d)∧f5_l6 x (((4:Int) - (0:Int)).toNat + 1) (0:Int) [] = some ((),(),([a,b,c,d],())):=by
 obtain ⟨a,ea,ha⟩:=f8_eq _ (at_rows h ((0:Nat):Int))
 obtain ⟨b,eb,hb⟩:=f8_eq _ (at_rows h ((1:Nat):Int))
 obtain ⟨c,ec,hc⟩:=f8_eq _ (at_rows h ((2:Nat):Int))
 obtain ⟨d,ed,hd⟩:=f8_eq _ (at_rows h ((3:Nat):Int))
 refine ⟨a,b,c,d,⟨ha,hb,hc,hd⟩,?_⟩
 refine (f5_made x 4 0 (by decide) [] (by decide) a ea).trans ?_
 refine (f5_made x 3 1 (by decide) [a] (by simp) b eb).trans ?_
 refine (f5_made x 2 2 (by decide) [a,b] (by simp) c ec).trans ?_
 refine (f5_made x 1 3 (by decide) [a,b,c] (by simp) d ed).trans ?_
 rfl
theorem f5_diff (l:List Ct) (k j:Nat) (hj:j + 1 < l.length) (hl:j < 3) (r:List (List Rl × Unit)) (hr:r.length≤1000) (e:List Rl) (h:f12 (at_ tC l (j:Int)) (at_ tC l ((j + 1:Nat):Int)) = some ((e,()),(0:Int),())) :
  f5_l10 l (k + 1) (j:Int) r = f5_l10 l k ((j + 1:Nat):Int) (r++[(e,())]):=by
 conv=>lhs; unfold f5_l10
 have e1:decide ((j:Int) < 3) = true:=by simp; omega
 have e2:decide (r.length + 1≤appLim) = true:=sm_app (by omega)
 have e3:decide (j < l.length) = true:=zT (by omega)
 have e4:decide (j + 1 < l.length) = true:=zT hj
 simp only [e1,cond_true,wS j (by omega),inRN,e3,e4]
 refine bind_step h ?_
 show (bif decide (r.length + 1≤appLim) then _ else none) = _
 rw [e2]
 rfl
theorem f5_eq (x:List (List (List Int))) (h:∀ y∈x,iRows y):f5 x = some (true,()):=by
 obtain ⟨a,b,c,d,⟨ha,hb,hc,hd⟩,h6⟩:=f5_made4 x h
 have h10:f5_l10 [a,b,c,d] (((3:Int) - (0:Int)).toNat + 1) (0:Int) [] = some (.inl ((),(),([a,b,c,d],[(dif (la a) (la b),()),(dif (la b) (la c),()),(dif (la c) (la d),())],()))):=by
  refine (f5_diff [a,b,c,d] 3 0 (by simp) (by decide) [] (by decide) _ (diff_ok ha hb)).trans ?_
  refine (f5_diff [a,b,c,d] 2 1 (by simp) (by decide) [(dif (la a) (la b),())] (by simp) _ (diff_ok hb hc)).trans ?_
  refine (f5_diff [a,b,c,d] 1 2 (by simp) (by decide) [(dif (la a) (la b),()),(dif (la b) (la c),())] (by simp) _ (diff_ok hc hd)).trans ?_
  rfl
 have hab:=okD_la ha hb
 have hac:=okD_la ha hc
 have had:=okD_la ha hd
 have hi:f22 (dif (la a) (la b),()) ((dif (la a) (la b)).map inv,()) = some (([],()),(0:Int),()):=by
  rw [dif_inv,comp_d ha hb ha,dif_self]
 have hn:f22 (dif (la a) (la b),()) ([],()) = some ((dif (la a) (la b),()),(0:Int),()):=by
  rw [comp_ok hab okD_nil (comp_nil hab).1,(comp_nil hab).2]
 unfold f5
 refine bind_step sane_eq ?_
 refine bind_step h6 ?_
 refine bind_step h10 ?_
 have i0:inR (0:Int) 3 = true:=by decide
 have i1:inR (1:Int) 3 = true:=by decide
 have i2:inR (2:Int) 3 = true:=by decide
 have j0:inR (0:Int) 4 = true:=by decide
 have j2:inR (2:Int) 4 = true:=by decide
 have j3:inR (3:Int) 4 = true:=by decide
 simp only [Sum.elim_inl,List.length_cons,List.length_nil,Nat.zero_add,Nat.reduceAdd,i0,i1,i2,j0,j2,j3,cond_true]
 refine bind_step (comp_d ha hb hc) ?_
 refine bind_step (comp_d hb hc hd) ?_
 refine bind_step (comp_d ha hc hd) ?_
 refine bind_step (comp_d ha hb hd) ?_
 refine bind_step (diff_ok ha hd) ?_
 refine bind_step (diff_ok ha hc) ?_
 refine bind_step (patch_dif ha hc) ?_
 refine bind_step (inv_ok hab) ?_
 refine bind_step hi ?_
 refine bind_step hn ?_
 refine bind_step (same_ok had) ?_
 refine bind_step (same_ok had) ?_
 refine bind_step (same_ok hac) ?_
 refine bind_step (sameC_ok hc) ?_
 refine bind_step (same_ok hab) ?_
 rfl
theorem f5_all (x:tysDen f5_spec.args) (h:tysOk f5_spec.args x):f5_spec.fn x = some (true,()):=by
 obtain ⟨x,u⟩:=x
 exact f5_eq x (iRows4_of h.1)
end Go.V.G
