/- Part of the proof. -/
import Derived.KernelRfl
import Derived.Test.YtijakakpbijdkaaGreatDoorA12
set_option linter.all false
set_option linter.unusedVariables false
set_option linter.unusedSectionVars false
set_option linter.unusedSimpArgs false
namespace Go.V.G
open Go.Proofs
noncomputable section
def f6_l5_head:Ann:={ env:=[(1,cP 1),(3,.cst (.row 33 .whole)),(4,YI)],bxs:=[(1,.var [.ty (.arr 4 (.sl (.arr 4 yI)))]),(33,.row yC false)] }
def f6_l5_outs:List (Ex × Ann):=[((.exit 0),{ env:=[(3,.cst (.row 33 .whole))],bxs:=[(33,.row yC false)] })]
def f6_l5 (b1g0:(List (List (List Int)))):Nat→Int→(List Yc)→Option (outDen f6_l5_outs)
 | 0,_,_=>none
 | k + 1,t4,r33 =>
 bif (decide (t4 < (4:Int))) then
 bif (inR t4 4) then
 (f8 (at_ (.sl (.arr 4 yI)) b1g0 t4)).bind fun y2 =>
 bif (decide (r33.length + ([y2.1]:List Yc).length≤appLim)) then f6_l5 b1g0 k (IntKind.wrap .i64 (t4 + 1)) (r33++([y2.1]:List Yc)) else none
 else none
 else
 some ((),(),(r33,()))
def f6_l5_n (n:Nat) (x:f6_l5_head.den):=f6_l5 x.2.2.1.1 n x.1.1 x.2.2.2.1
def f6_l5_spec:LSpec:={ thaws:=[.slot 3 33 yC],head:=f6_l5_head,outs:=f6_l5_outs,fn:=fun x=>f6_l5_n (((4:Int) - x.1.1).toNat + 1) x }
def f6_l24_head:Ann:={ env:=[(3,.cst (.row 33 .whole)),(5,cP 5),(7,cP 7),(9,.ty .bool),(10,.ty .bool),(11,YI),(12,cP 12),(15,.ty .bool),(16,YI)],bxs:=[(33,.row yC false),(5,.var [.ty (.sl yR)]),(7,.var [.ty (.sl yR)]),(12,.var [YI,YI,.ty .bool,.ty (.sl yI),.ty .bool,.ty (.sl yI)])] }
def f6_l24_outs:List (Ex × Ann):=[((.exit 4),{ env:=[(3,.cst (.row 33 .whole)),(5,cP 5),(7,cP 7),(9,.ty .bool),(10,.ty .bool),(11,YI)],bxs:=[(33,.row yC false),(5,.var [.ty (.sl yR)]),(7,.var [.ty (.sl yR)])] })]
def f6_l24 (t10:Bool) (t11:Int) (t15:Bool) (r33:(List Yc)) (b5g0:(List Yr)) (b7g0:(List Yr)) (b12g0:Int) (b12g1:Int) (b12g2:Bool) (b12g3:(List Int)) (b12g4:Bool) (b12g5:(List Int)):Nat→Bool→Int→Option (outDen f6_l24_outs)
 | 0,_,_=>none
 | k + 1,t9,t16 =>
 bif (decide (t16 < (b5g0.length:Int))) then
 bif (inR t16 b5g0.length) then
 let v15:Int:=(at_ yR b5g0 t16).1
 bif (decide (v15 = b12g0)) then
 bif (inR t16 b5g0.length) then
 let v16:Int:=(at_ yR b5g0 t16).2.1
 bif (decide (v16 = b12g1)) then
 bif t9 then
 f6_l24 t10 t11 t15 r33 b5g0 b7g0 b12g0 b12g1 b12g2 b12g3 b12g4 b12g5 k true (IntKind.wrap .i64 (t16 + 1))
 else
 f6_l24 t10 t11 t15 r33 b5g0 b7g0 b12g0 b12g1 b12g2 b12g3 b12g4 b12g5 k (!t15) (IntKind.wrap .i64 (t16 + 1))
 else
 f6_l24 t10 t11 t15 r33 b5g0 b7g0 b12g0 b12g1 b12g2 b12g3 b12g4 b12g5 k t9 (IntKind.wrap .i64 (t16 + 1))
 else none
 else
 f6_l24 t10 t11 t15 r33 b5g0 b7g0 b12g0 b12g1 b12g2 b12g3 b12g4 b12g5 k t9 (IntKind.wrap .i64 (t16 + 1))
 else none
 else
 some ((t9,t10,t11,()),(),(r33,(b5g0,()),(b7g0,()),()))
def f6_l24_n (n:Nat) (x:f6_l24_head.den):=f6_l24 x.1.2.1 x.1.2.2.1 x.1.2.2.2.1 x.2.2.1 x.2.2.2.1.1 x.2.2.2.2.1.1 x.2.2.2.2.2.1.1 x.2.2.2.2.2.1.2.1 x.2.2.2.2.2.1.2.2.1 x.2.2.2.2.2.1.2.2.2.1 x.2.2.2.2.2.1.2.2.2.2.1 x.2.2.2.2.2.1.2.2.2.2.2.1 n x.1.1 x.1.2.2.2.2.1
def f6_l24_spec:LSpec:={ head:=f6_l24_head,outs:=f6_l24_outs,fn:=fun x=>f6_l24_n (((x.2.2.2.1.1.length:Int) - x.1.2.2.2.2.1).toNat + 1) x }
def f6_l15_head:Ann:={ env:=[(3,.cst (.row 33 .whole)),(5,cP 5),(7,cP 7),(9,.ty .bool),(10,.ty .bool),(11,YI)],bxs:=[(33,.row yC false),(5,.var [.ty (.sl yR)]),(7,.var [.ty (.sl yR)])] }
def f6_l15_outs:List (Ex × Ann):=[((.exit 2),{ env:=[(3,.cst (.row 33 .whole)),(5,cP 5),(7,cP 7),(9,.ty .bool),(10,.ty .bool)],bxs:=[(33,.row yC false),(5,.var [.ty (.sl yR)]),(7,.var [.ty (.sl yR)])] }),(.ret,{ env:=[(2,.ty .bool)] })]
def f6_l15:Nat→Bool→Bool→Int→(List Yc)→(List Yr)→(List Yr)→Option (outDen f6_l15_outs)
 | 0,_,_,_,_,_,_=>none
 | k + 1,t9,t10,t11,r33,b5g0,b7g0 =>
 bif (decide (t11 < (b7g0.length:Int))) then
 bif (inR t11 b7g0.length) then
 let v7:Int:=(at_ yR b7g0 t11).1
 bif (decide (v7 < (1:Int))) then
 some (.inr ((false,()),(),()))
 else
 let v8:Int:=(at_ yR b7g0 t11).1
 bif (decide (v8 > (7:Int))) then
 some (.inr ((false,()),(),()))
 else
 bif (inR (1:Int) r33.length) then
 let v9:Int:=(at_ yR b7g0 t11).1
 let v10:Int:=(at_ yR b7g0 t11).2.1
 (f25 (at_ yC r33 (1:Int)) v9 v10).bind fun y11 =>
 let v12:Bool:=(at_ yR b7g0 t11).2.2.1
 bif (decide (y11.2.1 = v12)) then
 let v13:(List Int):=(at_ yR b7g0 t11).2.2.2.1
 (f26 y11.1 v13).bind fun y14 =>
 bif t10 then
 (f6_l24 y14.1 t11 y14.1 r33 b5g0 b7g0 ((at_ yR b7g0 t11).1) ((at_ yR b7g0 t11).2.1) ((at_ yR b7g0 t11).2.2.1) ((at_ yR b7g0 t11).2.2.2.1) ((at_ yR b7g0 t11).2.2.2.2.1) ((at_ yR b7g0 t11).2.2.2.2.2.1) (((b5g0.length:Int) - (0:Int)).toNat + 1) t9 (0:Int)).bind fun o17 =>
 let u18:Bool:=o17.1.1
 let u19:Bool:=o17.1.2.1
 let u20:Int:=o17.1.2.2.1
 let u21:(List Yc):=o17.2.2.1
 let u22:(List Yr):=o17.2.2.2.1.1
 let u23:(List Yr):=o17.2.2.2.2.1.1
 f6_l15 k u18 u19 (IntKind.wrap .i64 (u20 + 1)) u21 u22 u23
 else
 (f6_l24 false t11 y14.1 r33 b5g0 b7g0 ((at_ yR b7g0 t11).1) ((at_ yR b7g0 t11).2.1) ((at_ yR b7g0 t11).2.2.1) ((at_ yR b7g0 t11).2.2.2.1) ((at_ yR b7g0 t11).2.2.2.2.1) ((at_ yR b7g0 t11).2.2.2.2.2.1) (((b5g0.length:Int) - (0:Int)).toNat + 1) t9 (0:Int)).bind fun o26 =>
 let u27:Bool:=o26.1.1
 let u28:Bool:=o26.1.2.1
 let u29:Int:=o26.1.2.2.1
 let u30:(List Yc):=o26.2.2.1
 let u31:(List Yr):=o26.2.2.2.1.1
 let u32:(List Yr):=o26.2.2.2.2.1.1
 f6_l15 k u27 u28 (IntKind.wrap .i64 (u29 + 1)) u30 u31 u32
 else
 bif t10 then
 (f6_l24 false t11 false r33 b5g0 b7g0 ((at_ yR b7g0 t11).1) ((at_ yR b7g0 t11).2.1) ((at_ yR b7g0 t11).2.2.1) ((at_ yR b7g0 t11).2.2.2.1) ((at_ yR b7g0 t11).2.2.2.2.1) ((at_ yR b7g0 t11).2.2.2.2.2.1) (((b5g0.length:Int) - (0:Int)).toNat + 1) t9 (0:Int)).bind fun o35 =>
 let u36:Bool:=o35.1.1
 let u37:Bool:=o35.1.2.1
 let u38:Int:=o35.1.2.2.1
 let u39:(List Yc):=o35.2.2.1
 let u40:(List Yr):=o35.2.2.2.1.1
 let u41:(List Yr):=o35.2.2.2.2.1.1
 f6_l15 k u36 u37 (IntKind.wrap .i64 (u38 + 1)) u39 u40 u41
 else
 (f6_l24 false t11 false r33 b5g0 b7g0 ((at_ yR b7g0 t11).1) ((at_ yR b7g0 t11).2.1) ((at_ yR b7g0 t11).2.2.1) ((at_ yR b7g0 t11).2.2.2.1) ((at_ yR b7g0 t11).2.2.2.2.1) ((at_ yR b7g0 t11).2.2.2.2.2.1) (((b5g0.length:Int) - (0:Int)).toNat + 1) t9 (0:Int)).bind fun o44 =>
 let u45:Bool:=o44.1.1
 let u46:Bool:=o44.1.2.1
 let u47:Int:=o44.1.2.2.1
 let u48:(List Yc):=o44.2.2.1
 let u49:(List Yr):=o44.2.2.2.1.1
 let u50:(List Yr):=o44.2.2.2.2.1.1
 f6_l15 k u45 u46 (IntKind.wrap .i64 (u47 + 1)) u48 u49 u50
 else none
 else none
 else
 some (.inl ((t9,t10,()),(),(r33,(b5g0,()),(b7g0,()),())))
def f6_l15_n (n:Nat) (x:f6_l15_head.den):=f6_l15 n x.1.1 x.1.2.1 x.1.2.2.1 x.2.2.1 x.2.2.2.1.1 x.2.2.2.2.1.1
def f6_l15_spec:LSpec:={ head:=f6_l15_head,outs:=f6_l15_outs,fn:=fun x=>f6_l15_n (((x.2.2.2.2.1.1.length:Int) - x.1.2.2.1).toNat + 1) x }
def f6 (a0:(List (List (List Int)))):Option (Bool × Unit) :=
 (f7 ).bind fun y1 =>
 bif (!y1.1) then
 some (false,())
 else
 (f6_l5 a0 (((4:Int) - (0:Int)).toNat + 1) (0:Int) []).bind fun o3 =>
 let u4:(List Yc):=o3.2.2.1
 bif (inR (0:Int) u4.length) then
 bif (inR (1:Int) u4.length) then
 (f12 (at_ yC u4 (0:Int)) (at_ yC u4 (1:Int))).bind fun y5 =>
 bif (inR (2:Int) u4.length) then
 bif (inR (3:Int) u4.length) then
 (f12 (at_ yC u4 (2:Int)) (at_ yC u4 (3:Int))).bind fun y6 =>
 bif (decide (y5.2.1 ≠ (0:Int))) then
 some (false,())
 else
 bif (decide (y6.2.1 ≠ (0:Int))) then
 some (false,())
 else
 (f6_l15 (((y6.1.1.length:Int) - (0:Int)).toNat + 1) false true (0:Int) u4 y5.1.1 y6.1.1).bind fun o51 =>
 Sum.elim (fun o52 =>
 let u54:Bool:=o52.1.1
 let u55:Bool:=o52.1.2.1
 let u56:(List Yc):=o52.2.2.1
 let u57:(List Yr):=o52.2.2.2.1.1
 let u58:(List Yr):=o52.2.2.2.2.1.1
 (f22 (u57,()) (u58,())).bind fun y59 =>
 bif (inR (1:Int) u56.length) then
 (f14 (at_ yC u56 (1:Int)) (u58,())).bind fun y60 =>
 let v61:Bool:=(!(decide ((decide (y59.2.1 = (0:Int))) = u54)))
 bif v61 then
 let v62:Bool:=(decide ((decide (y60.2.1 = (0:Int))) = u55))
 bif v62 then
 bif (decide (y59.2.1 = (0:Int))) then
 bif (decide (y60.2.1 = (0:Int))) then
 some (true,())
 else
 some ((decide (y60.2.1 = (160:Int))),())
 else
 bif (decide (y59.2.1 = (160:Int))) then
 bif (decide (y60.2.1 = (0:Int))) then
 some (true,())
 else
 some ((decide (y60.2.1 = (160:Int))),())
 else
 some (false,())
 else
 some (false,())
 else
 some (false,())
 else none) (fun o53 =>
 let u63:Bool:=o53.1.1
 some (u63,())) o51
 else none
 else none
 else none
 else none
def f6_spec:PSpec:={ args:=[(.arr 4 (.sl (.arr 4 yI)))],res:=[.bool],fn:=fun x=>f6 x.1 }
noncomputable def f6_code:Code:=Tryz.f6.body.getD .skip
noncomputable def f6_env:Env0:={ C:=cfgF,P:=[(7,f7_spec),(8,f8_spec),(12,f12_spec),(14,f14_spec),(22,f22_spec),(25,f25_spec),(26,f26_spec)],L:=[(⟨12,0,6,5⟩,f6_l5_spec),(⟨12,0,6,24⟩,f6_l24_spec),(⟨12,0,6,15⟩,f6_l15_spec)],F:=[(6,Tryz.f6)] }
theorem f6_l5_ok:LoopOK f6_env 12 6 0 (loopAt f6_code 5) f6_l5_spec :=
 loopOK_of (by kernel_rfl) f6_l5_n (fun x o h=>⟨_,h⟩) (fun x=>by kernel_rfl) (fun n x=>by kernel_rfl)
theorem f6_l24_ok:LoopOK f6_env 12 6 0 (loopAt f6_code 24) f6_l24_spec :=
 loopOK_of (by kernel_rfl) f6_l24_n (fun x o h=>⟨_,h⟩) (fun x=>by kernel_rfl) (fun n x=>by kernel_rfl)
theorem f6_l15_ok:LoopOK f6_env 12 6 0 (loopAt f6_code 15) f6_l15_spec :=
 loopOK_of (by kernel_rfl) f6_l15_n (fun x o h=>⟨_,h⟩) (fun x=>by kernel_rfl) (fun n x=>by kernel_rfl)
theorem f6_run (x:tysDen (f6_spec).args):runF f6_env 6 Tryz.f6 f6_code (f6_spec).args (f6_spec).res x = f6_spec.fn x:=by kernel_rfl
theorem f6_envOK:EnvOK Tryz.prog f6_env:=envOK_of cds (by kernel_rfl) cfgF_ok ⟨⟨f7_pure,f7_enter⟩,⟨f8_pure,f8_enter⟩,⟨f12_pure,f12_enter⟩,⟨f14_pure,f14_enter⟩,⟨f22_pure,f22_enter⟩,⟨f25_pure,f25_enter⟩,⟨f26_pure,f26_enter⟩,trivial⟩ trivial ⟨⟨Tryz.func6,by kernel_rfl⟩,trivial⟩ ⟨⟨Tryz.f6,f6_code,rfl,rfl,f6_l5_ok⟩,⟨Tryz.f6,f6_code,rfl,rfl,f6_l24_ok⟩,⟨Tryz.f6,f6_code,rfl,rfl,f6_l15_ok⟩,trivial⟩ trivial trivial
theorem f6_pure:PureOK Tryz.prog cfg 6 f6_spec:=pure_of_run f6_envOK (fn:=Tryz.f6) (c:=f6_code) rfl rfl f6_spec (fun x _ h=>(f6_run x).trans h)
end
end Go.V.G
namespace Go.V.G
open Go.Proofs
open Go.V.K
def sm (b:Ct) (r:Rl):Bool:=decide (la b r.1 r.2.1 = bf r)
def hit (d:List Rl) (r:Rl):Bool:=d.any fun x=>decide (x.1 = r.1) && decide (x.2.1 = r.2.1)
theorem sm_eq (b:Ct) (r:Rl):sm b r = (decide ((la b r.1 r.2.1).1 = r.2.2.1) && decide ((la b r.1 r.2.1).2 = r.2.2.2.1)):=by
 unfold sm bf
 rw [← Bool.decide_and]
 exact decide_eq_decide.2 Prod.ext_iff
theorem toN {i:Int} (h1:1≤i) (h2:i≤7):i.toNat < 8∧((i.toNat:Nat):Int) = i:=by omega
theorem f6_made (x:List (List (List Int))) (k j:Nat) (hj:j < 4) (r:List Ct) (hr:r.length≤1000) (c:Ct) (e:f8 (at_ tX x (j:Int)) = some (c,())) :
  f6_l5 x (k + 1) (j:Int) r = f6_l5 x k ((j + 1:Nat):Int) (r++[c]):=by
 conv=>lhs; unfold f6_l5
 have e1:decide ((j:Int) < 4) = true:=by simp; omega
 have e2:decide (r.length + 1≤appLim) = true:=sm_app (by omega)
 simp only [e1,cond_true,inRN,hj,decide_true]
 refine bind_step e ?_
 show (bif decide (r.length + 1≤appLim) then _ else none) = _
 rw [e2,wS j (by omega)]
 rfl
theorem f6_made4 (x:List (List (List Int))) (h:∀ y∈x,iRows y):∃ a b c d,(okC a∧okC b∧okC c∧okC d)∧f6_l5 x (((4:Int) - (0:Int)).toNat + 1) (0:Int) [] = some ((),(),([a,b,c,d],())):=by
 obtain ⟨a,ea,ha⟩:=f8_eq _ (at_rows h ((0:Nat):Int))
 obtain ⟨b,eb,hb⟩:=f8_eq _ (at_rows h ((1:Nat):Int))
 obtain ⟨c,ec,hc⟩:=f8_eq _ (at_rows h ((2:Nat):Int))
 obtain ⟨d,ed,hd⟩:=f8_eq _ (at_rows h ((3:Nat):Int))
 refine ⟨a,b,c,d,⟨ha,hb,hc,hd⟩,?_⟩
 refine (f6_made x 4 0 (by decide) [] (by decide) a ea).trans ?_
 refine (f6_made x 3 1 (by decide) [a] (by simp) b eb).trans ?_
 refine (f6_made x 2 2 (by decide) [a,b] (by simp) c ec).trans ?_
 refine (f6_made x 1 3 (by decide) [a,b,c] (by simp) d ed).trans ?_
 rfl
theorem f6_in (t10:Bool) (t11:Int) (t15:Bool) (r:List Ct) (d e:List Rl) (x:Rl) (hd:d.length≤1000):∀ (m j k:Nat) (c:Bool),j + m = d.length→m < k →
  f6_l24 t10 t11 t15 r d e x.1 x.2.1 x.2.2.1 x.2.2.2.1 x.2.2.2.2.1 x.2.2.2.2.2.1 k c (j:Int) = some (((c || (!t15 && hit (d.drop j) x)),t10,t11,()),(),(r,(d,()),(e,()),())):=by
 intro m
 induction m with
 | zero =>
  intro j k c h1 h2
  obtain ⟨k,rfl⟩:∃ q,k = q + 1:=⟨k - 1,by omega⟩
  conv=>lhs; unfold f6_l24
  rw [List.drop_of_length_le (by omega)]
  have e1:¬ j < d.length:=by omega
  simp only [Int.ofNat_lt,e1,decide_false,cond_false]
  simp [hit]
  rfl
 | succ m ih =>
  intro j k c h1 h2
  obtain ⟨k,rfl⟩:∃ q,k = q + 1:=⟨k - 1,by omega⟩
  have hj:j < d.length:=by omega
  conv=>lhs; unfold f6_l24
  rw [List.drop_eq_getElem_cons hj,← atN tR d j hj]
  simp only [Int.ofNat_lt,inRN,hj,decide_true,cond_true,wS j (by omega)]
  generalize at_ tR d (j:Int) = y
  unfold hit
  rw [List.any_cons]
  have ih':=fun c=>ih (j + 1) k c (by omega) (by omega)
  by_cases e1:y.1 = x.1
  ·by_cases e2:y.2.1 = x.2.1
   ·simp only [e1,e2,decide_true,cond_true,Bool.true_and,Bool.true_or,Bool.and_true]
    cases c with
    | true=>simp only [ih',Bool.true_or]; rfl
    | false =>
     simp only [ih',Bool.false_or]
     cases t15 <;> rfl
   ·simp only [e1,e2,decide_true,decide_false,cond_true,cond_false,ih',Bool.and_false,Bool.false_or]
    rfl
  ·simp only [e1,decide_false,cond_false,ih',Bool.false_and,Bool.false_or]
   rfl
theorem f6_out (r:List Ct) (b:Ct) (hr:1 < r.length) (hb1:at_ tC r (1:Int) = b) (hb:smC b) (d e:List Rl) (hd:d.length≤1000) (he:okD e):∀ (m j k:Nat) (c f:Bool),j + m = e.length→m < k →
  f6_l15 k c f (j:Int) r d e = some (.inl (((c || (e.drop j).any fun x=>!sm b x && hit d x),(f && (e.drop j).all (sm b)),()),(),(r,(d,()),(e,()),()))):=by
 intro m
 have hl:=okD_len he
 induction m with
 | zero =>
  intro j k c f h1 h2
  obtain ⟨k,rfl⟩:∃ q,k = q + 1:=⟨k - 1,by omega⟩
  conv=>lhs; unfold f6_l15
  rw [List.drop_of_length_le (by omega)]
  have e1:¬ j < e.length:=by omega
  simp only [Int.ofNat_lt,e1,decide_false,cond_false]
  simp
  try rfl
 | succ m ih =>
  intro j k c f h1 h2
  obtain ⟨k,rfl⟩:∃ q,k = q + 1:=⟨k - 1,by omega⟩
  have hj:j < e.length:=by omega
  have hx:=(he.1 _ (List.getElem_mem hj)).1
  have hk:=(mem_keys.1 hx).1
  conv=>lhs; unfold f6_l15
  rw [List.drop_eq_getElem_cons hj,List.any_cons,List.all_cons,← atN tR e j hj]
  rw [← atN tR e j hj] at hk
  have i1:inR (1:Int) r.length = true:=by
   have:=inRN 1 r.length
   rw [zT hr] at this
   exact this
  simp only [Int.ofNat_lt,inRN,hj,decide_true,cond_true,i1,hb1]
  generalize at_ tR e (j:Int) = x at hk
  have k1:¬ x.1 < 1:=Int.not_lt.2 hk.1
  have k2:¬ x.1 > 7:=Int.not_lt.2 hk.2
  have k3:Int.toNat x.1 < 8∧((Int.toNat x.1:Nat):Int) = x.1:=toN hk.1 hk.2
  have h25:f25 b x.1 x.2.1 = some ((la b x.1 x.2.1).2,(la b x.1 x.2.1).1,()):=by
   have:=f25_eq b hb (Int.toNat x.1) k3.1 x.2.1
   rw [k3.2] at this
   exact this
  have h26:=f26_eq (la b x.1 x.2.1).2 x.2.2.2.1 (la_sm hb _ _)
  have h24:∀ t10 t15 c,f6_l24 t10 (j:Int) t15 r d e x.1 x.2.1 x.2.2.1 x.2.2.2.1 x.2.2.2.2.1 x.2.2.2.2.2.1 (((d.length:Int) - 0).toNat + 1) c 0 = some (((c || (!t15 && hit d x)),t10,(j:Int),()),(),(r,(d,()),(e,()),())):=fun t10 t15 c=>f6_in t10 (j:Int) t15 r d e x hd d.length 0 _ c (by omega) (by omega)
  have ih':=fun c f=>ih (j + 1) k c f (by omega) (by omega)
  simp only [k1,k2,decide_false,cond_false,h25,Option.bind_some,h26,h24,wS j (by omega),ih']
  rw [sm_eq b x]
  by_cases e1:(la b x.1 x.2.1).1 = x.2.2.1
  ·simp only [e1,decide_true,cond_true,Bool.true_and]
   cases f
   all_goals
    simp only [cond_true,cond_false,Bool.true_and,Bool.false_and]
    refine bind_step rfl ?_
    show f6_l15 k _ _ (IntKind.wrap .i64 ((j:Int) + 1)) r d e = _
    rw [wS j (by omega),ih',Bool.or_assoc]
    try rfl
  ·simp only [e1,decide_false,cond_false,Bool.false_and]
   cases f
   all_goals
    simp only [cond_true,cond_false,Bool.true_and,Bool.false_and,Bool.not_false]
    refine bind_step rfl ?_
    show f6_l15 k _ _ (IntKind.wrap .i64 ((j:Int) + 1)) r d e = _
    rw [wS j (by omega),ih',Bool.or_assoc]
    rfl
theorem hit_any (B:Int→Int→Lb) (d e:List Rl) (b:Ct) (hB:B = la b):(e.any fun r=>d.any fun x=>decide (kOf x = kOf r) && !decide (B r.1 r.2.1 = bf r)) = (e.any fun x=>!sm b x && hit d x):=by
 subst hB
 congr 1
 funext r
 unfold sm hit
 cases h:decide (la b r.1 r.2.1 = bf r) with
 | true=>simp
 | false =>
  simp only [Bool.not_false,Bool.and_true,Bool.true_and]
  congr 1
  funext x
  rw [← Bool.decide_and]
  exact decide_eq_decide.2 Prod.ext_iff
theorem f6_eq (x:List (List (List Int))) (h:∀ y∈x,iRows y):f6 x = some (true,()):=by
 obtain ⟨a,b,c,d,⟨ha,hb,hc,hd⟩,h5⟩:=f6_made4 x h
 have hab:=okD_la ha hb
 have hcd:=okD_la hc hd
 have l1:=okD_len hab
 have h15:=f6_out [a,b,c,d] b (by simp) rfl (okC_sm hb) (dif (la a) (la b)) (dif (la c) (la d)) (by omega) hcd (dif (la c) (la d)).length 0 ((((dif (la c) (la d)).length:Int) - 0).toNat + 1) false true (by omega) (by omega)
 rw [List.drop_zero,Bool.false_or,Bool.true_and,← hit_any (la b) _ _ b rfl,← clash_dif (A:=la a) hcd] at h15
 unfold f6
 refine bind_step sane_eq ?_
 refine bind_step h5 ?_
 have j0:inR (0:Int) 4 = true:=by decide
 have j1:inR (1:Int) 4 = true:=by decide
 have j2:inR (2:Int) 4 = true:=by decide
 have j3:inR (3:Int) 4 = true:=by decide
 simp only [List.length_cons,List.length_nil,Nat.zero_add,Nat.reduceAdd,j0,j1,j2,j3,cond_true]
 refine bind_step (diff_ok ha hb) ?_
 refine bind_step (diff_ok hc hd) ?_
 refine bind_step h15 ?_
 have hp:f14 b (dif (la c) (la d),()) = some (if (dif (la c) (la d)).all (sm b) then mkC (aft (la b) (dif (la c) (la d))) else (([[],[],[],[],[],[],[],[]]:List (List Nm)),()),(if (dif (la c) (la d)).all (sm b) then (0:Int) else 160),()):=by
  rcases patch_eq hb (okD_sm hcd) with ⟨_,p2,p3⟩ | ⟨p1,p3⟩
  ·have:(dif (la c) (la d)).all (sm b) = true:=List.all_eq_true.2 fun r hr=>zT (p2 r hr)
   rw [p3,this]
   rfl
  ·have:(dif (la c) (la d)).all (sm b) = false:=by
    rw [Bool.eq_false_iff]
    intro h
    exact p1 ⟨hcd,fun r hr=>of_decide_eq_true (List.all_eq_true.1 h r hr)⟩
   rw [p3,this]
   rfl
 have hq:f22 (dif (la a) (la b),()) (dif (la c) (la d),()) = some (if clash (dif (la a) (la b)) (dif (la c) (la d)) then ([],()) else (comp (dif (la a) (la b)) (dif (la c) (la d)),()),(if clash (dif (la a) (la b)) (dif (la c) (la d)) then (160:Int) else 0),()):=by
  cases e:clash (dif (la a) (la b)) (dif (la c) (la d)) with
  | true=>rw [comp_no hab hcd e]; rfl
  | false=>rw [comp_ok hab hcd e]; rfl
 simp only [Sum.elim_inl,List.length_cons,List.length_nil,Nat.zero_add,Nat.reduceAdd,j1,cond_true]
 refine bind_step hq ?_
 refine bind_step hp ?_
 cases clash (dif (la a) (la b)) (dif (la c) (la d)) <;> cases (dif (la c) (la d)).all (sm b) <;> rfl
theorem f6_all (x:tysDen f6_spec.args) (h:tysOk f6_spec.args x):f6_spec.fn x = some (true,()):=by
 obtain ⟨x,u⟩:=x
 exact f6_eq x (iRows4_of h.1)
end Go.V.G
