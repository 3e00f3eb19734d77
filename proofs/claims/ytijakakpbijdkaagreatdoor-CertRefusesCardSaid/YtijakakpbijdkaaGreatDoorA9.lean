/- Part of the proof. -/
import Derived.KernelRfl
import Derived.Test.YtijakakpbijdkaaGreatDoorA8
set_option linter.all false
set_option linter.unusedVariables false
set_option linter.unusedSectionVars false
set_option linter.unusedSimpArgs false
namespace Go.V.G
open Go.Proofs
noncomputable section
def f55_l4_head:Ann:={ env:=[(0,.ty (.sl yN)),(1,.ty (.sl yN)),(5,YI)] }
def f55_l4_outs:List (Ex × Ann):=[((.exit 0),{ env:=[] }),(.ret,{ env:=[(4,.ty .bool)] })]
def f55_l4 (t0:(List Yn)) (t1:(List Yn)):Nat→Int→Option (outDen f55_l4_outs)
 | 0,_=>none
 | k + 1,t5 =>
 bif (decide (t5 < (t0.length:Int))) then
 bif (inR t5 t0.length) then
 let v2:Int:=(at_ yN t0 t5).1
 bif (inR t5 t1.length) then
 let v3:Int:=(at_ yN t1 t5).1
 bif (decide (v2 ≠ v3)) then
 some (.inr ((false,()),(),()))
 else
 bif (inR t5 t0.length) then
 let v4:(List Int):=(at_ yN t0 t5).2.1
 bif (inR t5 t1.length) then
 let v5:(List Int):=(at_ yN t1 t5).2.1
 (f26 v4 v5).bind fun y6 =>
 bif (!y6.1) then
 some (.inr ((false,()),(),()))
 else
 f55_l4 t0 t1 k (IntKind.wrap .i64 (t5 + 1))
 else none
 else none
 else none
 else none
 else
 some (.inl ((),(),()))
def f55_l4_n (n:Nat) (x:f55_l4_head.den):=f55_l4 x.1.1 x.1.2.1 n x.1.2.2.1
def f55_l4_spec:LSpec:={ head:=f55_l4_head,outs:=f55_l4_outs,fn:=fun x=>f55_l4_n (((x.1.1.length:Int) - x.1.2.2.1).toNat + 1) x }
def f55 (a0:(List Yn)) (a1:(List Yn)):Option (Bool × Unit) :=
 let v1:Bool:=(decide ((a0.length:Int) ≠ (a1.length:Int)))
 bif v1 then
 some (false,())
 else
 (f55_l4 a0 a1 (((a0.length:Int) - (0:Int)).toNat + 1) (0:Int)).bind fun o7 =>
 Sum.elim (fun o8 =>
 some (true,())) (fun o9 =>
 let u10:Bool:=o9.1.1
 some (u10,())) o7
def f55_spec:PSpec:={ args:=[(.sl yN),(.sl yN)],res:=[.bool],fn:=fun x=>f55 x.1 x.2.1 }
noncomputable def f55_code:Code:=Tryz.f55.body.getD .skip
noncomputable def f55_env:Env0:={ C:=cfgF,P:=[(26,f26_spec)],L:=[(⟨12,0,55,4⟩,f55_l4_spec)],F:=[(55,Tryz.f55)] }
theorem f55_l4_ok:LoopOK f55_env 12 55 0 (loopAt f55_code 4) f55_l4_spec :=
 loopOK_of (by kernel_rfl) f55_l4_n (fun x o h=>⟨_,h⟩) (fun x=>by kernel_rfl) (fun n x=>by kernel_rfl)
theorem f55_run (x:tysDen (f55_spec).args):runF f55_env 55 Tryz.f55 f55_code (f55_spec).args (f55_spec).res x = f55_spec.fn x:=by kernel_rfl
theorem f55_enter:Enterable Tryz.prog 55:=enter_fun Tryz.func55 (by kernel_rfl)
theorem f55_envOK:EnvOK Tryz.prog f55_env:=envOK_of cds (by kernel_rfl) cfgF_ok ⟨⟨f26_pure,f26_enter⟩,trivial⟩ trivial ⟨⟨Tryz.func55,by kernel_rfl⟩,trivial⟩ ⟨⟨Tryz.f55,f55_code,rfl,rfl,f55_l4_ok⟩,trivial⟩ trivial trivial
theorem f55_pure:PureOK Tryz.prog cfg 55 f55_spec:=pure_of_run f55_envOK (fn:=Tryz.f55) (c:=f55_code) rfl rfl f55_spec (fun x _ h=>(f55_run x).trans h)
def f16_l2_head:Ann:={ env:=[(2,cP 2),(3,cP 3),(5,YI)],bxs:=[(2,.var [.ty (.arr 8 (.sl yN))]),(3,.var [.ty (.arr 8 (.sl yN))])] }
def f16_l2_outs:List (Ex × Ann):=[((.exit 0),{ env:=[] }),(.ret,{ env:=[(4,.ty .bool)] })]
def f16_l2 (b2g0:(List (List Yn))) (b3g0:(List (List Yn))):Nat→Int→Option (outDen f16_l2_outs)
 | 0,_=>none
 | k + 1,t5 =>
 bif (decide (t5 < (8:Int))) then
 bif (inR t5 8) then
 let v1:(List Yn):=(at_ (.sl yN) b2g0 t5)
 bif (inR t5 8) then
 let v2:(List Yn):=(at_ (.sl yN) b3g0 t5)
 (f55 v1 v2).bind fun y3 =>
 bif (!y3.1) then
 some (.inr ((false,()),(),()))
 else
 f16_l2 b2g0 b3g0 k (IntKind.wrap .i64 (t5 + 1))
 else none
 else none
 else
 some (.inl ((),(),()))
def f16_l2_n (n:Nat) (x:f16_l2_head.den):=f16_l2 x.2.2.1.1 x.2.2.2.1.1 n x.1.1
def f16_l2_spec:LSpec:={ head:=f16_l2_head,outs:=f16_l2_outs,fn:=fun x=>f16_l2_n (((8:Int) - x.1.1).toNat + 1) x }
def f16 (a0:Yc) (a1:Yc):Option (Bool × Unit) :=
 (f16_l2 a0.1 a1.1 (((8:Int) - (0:Int)).toNat + 1) (0:Int)).bind fun o4 =>
 Sum.elim (fun o5 =>
 some (true,())) (fun o6 =>
 let u7:Bool:=o6.1.1
 some (u7,())) o4
def f16_spec:PSpec:={ args:=[yC,yC],res:=[.bool],fn:=fun x=>f16 x.1 x.2.1 }
noncomputable def f16_code:Code:=Tryz.f16.body.getD .skip
noncomputable def f16_env:Env0:={ C:=cfgF,P:=[(55,f55_spec)],L:=[(⟨12,0,16,2⟩,f16_l2_spec)],F:=[(16,Tryz.f16)] }
theorem f16_l2_ok:LoopOK f16_env 12 16 0 (loopAt f16_code 2) f16_l2_spec :=
 loopOK_of (by kernel_rfl) f16_l2_n (fun x o h=>⟨_,h⟩) (fun x=>by kernel_rfl) (fun n x=>by kernel_rfl)
theorem f16_run (x:tysDen (f16_spec).args):runF f16_env 16 Tryz.f16 f16_code (f16_spec).args (f16_spec).res x = f16_spec.fn x:=by kernel_rfl
theorem f16_enter:Enterable Tryz.prog 16:=enter_fun Tryz.func16 (by kernel_rfl)
theorem f16_envOK:EnvOK Tryz.prog f16_env:=envOK_of cds (by kernel_rfl) cfgF_ok ⟨⟨f55_pure,f55_enter⟩,trivial⟩ trivial ⟨⟨Tryz.func16,by kernel_rfl⟩,trivial⟩ ⟨⟨Tryz.f16,f16_code,rfl,rfl,f16_l2_ok⟩,trivial⟩ trivial trivial
theorem f16_pure:PureOK Tryz.prog cfg 16 f16_spec:=pure_of_run f16_envOK (fn:=Tryz.f16) (c:=f16_code) rfl rfl f16_spec (fun x _ h=>(f16_run x).trans h)
def f17_l5_head:Ann:={ env:=[(2,cP 2),(4,cP 4),(12,.ty (.sl yR)),(13,YI),(14,YI)],bxs:=[(2,.var [.cst .nils]),(4,.var [.cst (.row 28 .whole)]),(28,.row yR false)] }
def f17_l5_outs:List (Ex × Ann):=[((.exit 0),{ env:=[(2,cP 2),(4,cP 4)],bxs:=[(2,.var [.cst .nils]),(4,.var [.cst (.row 28 .whole)]),(28,.row yR false)] })]
def f17_l5 (t12:(List Yr)) (t13:Int):Nat→Int→(List Yr)→Option (outDen f17_l5_outs)
 | 0,_,_=>none
 | k + 1,t14,r28 =>
 bif (decide (t14 < t13)) then
 bif (inR t14 t12.length) then
 (f50 (at_ yR t12 t14)).bind fun y2 =>
 (f53 (at_ yR t12 t14)).bind fun y3 =>
 (f52 (at_ yR t12 t14)).bind fun y4 =>
 (f45 y2.1 y3.1 y4.1).bind fun y5 =>
 bif (decide (r28.length + ([y5.1]:List Yr).length≤appLim)) then f17_l5 t12 t13 k (IntKind.wrap .i64 (t14 + 1)) (r28++([y5.1]:List Yr)) else none
 else none
 else
 some ((),(),((),(),r28,()))
def f17_l5_n (n:Nat) (x:f17_l5_head.den):=f17_l5 x.1.1 x.1.2.1 n x.1.2.2.1 x.2.2.2.2.1
def f17_l5_spec:LSpec:={ thaws:=[.cell 4 0 28 yR],head:=f17_l5_head,outs:=f17_l5_outs,fn:=fun x=>f17_l5_n ((x.1.2.1 - x.1.2.2.1).toNat + 1) x }
def f17 (a0:((List Yr) × Unit)):Option (((List Yr) × Unit) × Int × Unit) :=
 (f19 a0).bind fun y1 =>
 bif (!y1.1) then
 some (([],()),(160:Int),())
 else
 (f17_l5 a0.1 (a0.1.length:Int) (((a0.1.length:Int) - (0:Int)).toNat + 1) (0:Int) []).bind fun o6 =>
 let u7:(List Yr):=o6.2.2.2.2.1
 some ((u7,()),(0:Int),())
def f17_spec:PSpec:={ args:=[(.pair (.sl yR) .unit)],res:=[(.pair (.sl yR) .unit),yI],fn:=fun x=>f17 x.1 }
noncomputable def f17_code:Code:=Tryz.f17.body.getD .skip
noncomputable def f17_env:Env0:={ C:=cfgF,P:=[(19,f19_spec),(45,f45_spec),(50,f50_spec),(52,f52_spec),(53,f53_spec)],L:=[(⟨12,0,17,5⟩,f17_l5_spec)],F:=[(17,Tryz.f17)] }
theorem f17_l5_ok:LoopOK f17_env 12 17 0 (loopAt f17_code 5) f17_l5_spec :=
 loopOK_of (by kernel_rfl) f17_l5_n (fun x o h=>⟨_,h⟩) (fun x=>by kernel_rfl) (fun n x=>by kernel_rfl)
theorem f17_run (x:tysDen (f17_spec).args):runF f17_env 17 Tryz.f17 f17_code (f17_spec).args (f17_spec).res x = f17_spec.fn x:=by kernel_rfl
theorem f17_enter:Enterable Tryz.prog 17:=enter_fun Tryz.func17 (by kernel_rfl)
theorem f17_envOK:EnvOK Tryz.prog f17_env:=envOK_of cds (by kernel_rfl) cfgF_ok ⟨⟨f19_pure,f19_enter⟩,⟨f45_pure,f45_enter⟩,⟨f50_pure,f50_enter⟩,⟨f52_pure,f52_enter⟩,⟨f53_pure,f53_enter⟩,trivial⟩ trivial ⟨⟨Tryz.func17,by kernel_rfl⟩,trivial⟩ ⟨⟨Tryz.f17,f17_code,rfl,rfl,f17_l5_ok⟩,trivial⟩ trivial trivial
theorem f17_pure:PureOK Tryz.prog cfg 17 f17_spec:=pure_of_run f17_envOK (fn:=Tryz.f17) (c:=f17_code) rfl rfl f17_spec (fun x _ h=>(f17_run x).trans h)
def f21 (a0:((List Yr) × Unit)):Option (Int × Unit) :=
 some ((a0.1.length:Int),())
def f21_spec:PSpec:={ args:=[(.pair (.sl yR) .unit)],res:=[yI],fn:=fun x=>f21 x.1 }
noncomputable def f21_code:Code:=Tryz.f21.body.getD .skip
noncomputable def f21_env:Env0:={ C:=cfgF,P:=[],L:=[],F:=[(21,Tryz.f21)] }
theorem f21_run (x:tysDen (f21_spec).args):runF f21_env 21 Tryz.f21 f21_code (f21_spec).args (f21_spec).res x = f21_spec.fn x:=by kernel_rfl
theorem f21_enter:Enterable Tryz.prog 21:=enter_fun Tryz.func21 (by kernel_rfl)
theorem f21_envOK:EnvOK Tryz.prog f21_env:=envOK_of cds (by kernel_rfl) cfgF_ok trivial trivial ⟨⟨Tryz.func21,by kernel_rfl⟩,trivial⟩ trivial trivial trivial
theorem f21_pure:PureOK Tryz.prog cfg 21 f21_spec:=pure_of_run f21_envOK (fn:=Tryz.f21) (c:=f21_code) rfl rfl f21_spec (fun x _ h=>(f21_run x).trans h)
def f49_l3_head:Ann:={ env:=[(1,.cst (.fn 50 [])),(5,.cst (.mp 8)),(9,.ty (.sl yR)),(10,YI),(11,YI)],bxs:=[(8,.map (.arr 2 yI) yR)] }
def f49_l3_outs:List (Ex × Ann):=[((.exit 0),{ env:=[(5,.cst (.mp 8))],bxs:=[(8,.map (.arr 2 yI) yR)] })]
def f49_l3 (t9:(List Yr)) (t10:Int):Nat→Int→(List ((List Int) × Yr))→Option (outDen f49_l3_outs)
 | 0,_,_=>none
 | k + 1,t11,m8 =>
 bif (decide (t11 < t10)) then
 bif (inR t11 t9.length) then
 same (
 same (
 (f50 (at_ yR t9 t11)).bind fun y1 =>
 f49_l3 t9 t10 k (IntKind.wrap .i64 (t11 + 1)) (mapSet (.arr 2 yI) yR m8 y1.1 (at_ yR t9 t11))) (
 (f50 (at_ yR t9 t11)).bind fun y2 =>
 f49_l3 t9 t10 k (IntKind.wrap .i64 (t11 + 1)) (mapSet (.arr 2 yI) yR m8 y2.1 (at_ yR t9 t11)))) (
 (f50 (at_ yR t9 t11)).bind fun y3 =>
 f49_l3 t9 t10 k (IntKind.wrap .i64 (t11 + 1)) (mapSet (.arr 2 yI) yR m8 y3.1 (at_ yR t9 t11)))
 else none
 else
 some ((),(),(m8,()))
def f49_l3_n (n:Nat) (x:f49_l3_head.den):=f49_l3 x.1.1 x.1.2.1 n x.1.2.2.1 x.2.2.1
def f49_l3_spec:LSpec:={ head:=f49_l3_head,outs:=f49_l3_outs,fn:=fun x=>f49_l3_n ((x.1.2.1 - x.1.2.2.1).toNat + 1) x }
def f49 (a0:(List Yr)):Option (List ((List Int) × Yr)) :=
 (f49_l3 a0 (a0.length:Int) (((a0.length:Int) - (0:Int)).toNat + 1) (0:Int) ([]:List ((List Int) × Yr))).bind fun o4 =>
 let u5:(List ((List Int) × Yr)):=o4.2.2.1
 some u5
def f49_spec:MSpec:={ args:=[(.sl yR)],arg:=50,K:=(.arr 2 yI),V:=yR,fn:=fun x=>f49 x.1 }
noncomputable def f49_code:Code:=Tryz.f49.body.getD .skip
noncomputable def f49_env:Env0:={ C:=cfgF,P:=[(50,f50_spec)],L:=[(⟨12,0,49,3⟩,f49_l3_spec)],F:=[(49,Tryz.f49)],I:=[],tot:=[(49,[5])],sym:=true }
theorem f49_l3_ok:LoopOK f49_env 12 49 0 (loopAt f49_code 3) f49_l3_spec :=
 loopOK_of (by kernel_rfl) f49_l3_n (fun x o h=>⟨_,h⟩) (fun x=>by kernel_rfl) (fun n x=>by kernel_rfl)
theorem f49_run (x:tysDen (f49_spec).args):runM f49_env 49 Tryz.f49 f49_code (tysAV (f49_spec).args x++[.fn 50 []]) (f49_spec).K (f49_spec).V = f49_spec.fn x:=by kernel_rfl
theorem f49_enter:Enterable Tryz.prog 49:=enter_fun Tryz.func49 (by kernel_rfl)
theorem f49_envOK:EnvOK Tryz.prog f49_env:=envOK_of cds (by kernel_rfl) cfgF_ok ⟨⟨f50_pure,f50_enter⟩,trivial⟩ trivial ⟨⟨Tryz.func49,by kernel_rfl⟩,trivial⟩ ⟨⟨Tryz.f49,f49_code,rfl,rfl,f49_l3_ok⟩,trivial⟩ trivial trivial
theorem f49_map:MapOK Tryz.prog cfg 49 f49_spec:=map_of_run f49_envOK (fn:=Tryz.f49) (c:=f49_code) rfl rfl f49_spec (fun x _ h=>(f49_run x).trans h)
end
end Go.V.G
namespace Go.V.G
open Go.Proofs
open Go.V.K
def smRl (r:Rl):Prop:=(bf r).2.length≤1000000∧(af r).2.length≤1000000
def smD (d:List Rl):Prop:=d.length≤1000000∧∀ r∈d,smRl r
def okRb (r:Rl):Bool :=
 decide (r.1 ≥ 1) && (decide (r.1≤7) && (decide (r.2.1 ≥ 0) && (decide (r.2.1 < 24) && ((r.2.2.1 || decide ((r.2.2.2.1.length:Int) = 0)) && ((r.2.2.2.2.1 || decide ((r.2.2.2.2.2.1.length:Int) = 0)) &&
  (okLb r.2.2.2.1 && (okLb r.2.2.2.2.2.1 && !decide ((r.2.2.1,r.2.2.2.1) = (r.2.2.2.2.1,r.2.2.2.2.2.1)))))))))
theorem len0 {α:Type} {l:List α}:(l.length:Int) = 0 ↔ l = []:=by
 cases l with
 | nil=>simp
 | cons x l=>simp only [List.length_cons]; constructor <;> intro h <;> first | (cases h; done) | omega
theorem okRb_iff {r:Rl}:okRb r = true ↔ okR r:=by
 obtain ⟨k,i,h,o,h',n,u⟩:=r
 simp only [okRb,okR,okM,bf,af,kOf,mem_keys,Bool.and_eq_true,Bool.or_eq_true,Bool.not_eq_true',decide_eq_true_eq,decide_eq_false_iff_not,okLb_iff,len0,ge_iff_le]
 constructor
 ·rintro ⟨h1,h2,h3,h4,h5,h6,h7,h8,h9⟩
  refine ⟨⟨⟨h1,h2⟩,h3,h4⟩,⟨h7,fun e=>?_⟩,⟨h8,fun e=>?_⟩,h9⟩
  ·rcases h5 with h5 | h5
   ·rw [h5] at e; cases e
   ·exact h5
  ·rcases h6 with h6 | h6
   ·rw [h6] at e; cases e
   ·exact h6
 ·rintro ⟨⟨⟨h1,h2⟩,h3,h4⟩,⟨h7,h5⟩,⟨h8,h6⟩,h9⟩
  refine ⟨h1,h2,h3,h4,?_,?_,h7,h8,h9⟩
  ·cases h with
   | true=>exact .inl rfl
   | false=>exact .inr (h5 rfl)
  ·cases h' with
   | true=>exact .inl rfl
   | false=>exact .inr (h6 rfl)
theorem f56_eq (r:Rl) (hs:smRl r):f56 r = some (okRb r,()):=by
 obtain ⟨k,i,h,o,h',n,u⟩:=r
 obtain ⟨s1,s2⟩:=hs
 have e1:f65 o = some (okLb o,()):=f65_eq o s1
 have e2:f65 n = some (okLb n,()):=f65_eq n s2
 have e3:f44 (h,(o,())) (h',(n,())) = some (decide ((h,o) = (h',n)),()):=f44_mk h o h' n s1
 unfold f56 okRb f52 f53
 simp only [e1,e2,e3,Option.bind_some]
 generalize decide (k ≥ 1) = b1
 generalize decide (k≤7) = b2
 generalize decide (i ≥ 0) = b3
 generalize decide (i < 24) = b4
 generalize decide ((o.length:Int) = 0) = b5
 generalize decide ((n.length:Int) = 0) = b6
 generalize okLb o = b7
 generalize okLb n = b8
 generalize hb:decide ((h,o) = (h',n)) = b9
 clear hb e1 e2 e3 s1 s2
 cases b1 <;> cases b2 <;> cases b3 <;> cases b4 <;> cases h <;> cases h' <;> cases b5 <;> cases b6 <;> cases b7 <;> cases b8 <;> rfl
def ltb (a b:Rl):Bool:=decide (a.1 < b.1) || (decide (a.1 = b.1) && decide (a.2.1 < b.2.1))
theorem ltb_iff {a b:Rl}:ltb a b = true ↔ lt2 (kOf a) (kOf b):=by
 unfold ltb lt2 kOf
 simp
def dOk (d:List Rl) (j:Nat):Bool:=okRb (at_ tR d (j:Int)) && (decide (j = 0) || ltb (at_ tR d ((j - 1:Nat):Int)) (at_ tR d (j:Int)))
def validD (d:List Rl):Bool:=(List.range d.length).all (dOk d)
theorem asc_adj2 {d:List Rl} (h:∀ j (h:j < d.length),0 < j→lt2 (kOf (d[j - 1]'(by omega))) (kOf d[j])):d.Pairwise (fun a b=>lt2 (kOf a) (kOf b)):=by
 rw [List.pairwise_iff_getElem]
 intro i j hi hj hij
 induction j with
 | zero=>omega
 | succ j ih =>
  have h1:=h (j + 1) hj (by omega)
  by_cases e:i = j
  ·subst e; exact h1
  ·exact lt2_tr _ _ _ (ih (by omega) (by omega)) h1
theorem validD_iff {d:List Rl}:validD d = true ↔ okD d:=by
 unfold validD okD
 rw [List.all_eq_true]
 constructor
 ·intro h
  have h':∀ j (hj:j < d.length),dOk d j = true:=fun j hj=>h j (List.mem_range.2 hj)
  constructor
  ·intro r hr
   obtain ⟨j,hj,rfl⟩:=List.mem_iff_getElem.1 hr
   have:=h' j hj
   rw [dOk,Bool.and_eq_true,atN tR d j hj] at this
   exact okRb_iff.1 this.1
  ·refine asc_adj2 fun j hj h0=>?_
   have:=h' j hj
   rw [dOk,Bool.and_eq_true,Bool.or_eq_true,atN tR d j hj,atN tR d (j - 1) (by omega),decide_eq_true_eq] at this
   rcases this.2 with h1 | h1
   ·omega
   ·exact ltb_iff.1 h1
 ·rintro ⟨h1,h2⟩ j hj
  have hj:=List.mem_range.1 hj
  rw [dOk,Bool.and_eq_true,Bool.or_eq_true,atN tR d j hj,decide_eq_true_eq]
  refine ⟨okRb_iff.2 (h1 _ (List.getElem_mem hj)),?_⟩
  by_cases h0:j = 0
  ·exact .inl h0
  ·rw [atN tR d (j - 1) (by omega)]
   exact .inr (ltb_iff.2 (List.pairwise_iff_getElem.1 h2 (j - 1) j (by omega) hj (by omega)))
theorem smD_at {d:List Rl} (h:smD d) (j:Nat) (hj:j < d.length):smRl (at_ tR d (j:Int)):=by
 rw [atN tR d j hj]
 exact h.2 _ (List.getElem_mem hj)
theorem flat_one {α β:Type} (g:α→β):∀ (l:List α),l.flatMap (fun x=>[g x]) = l.map g
 | []=>rfl
 | x :: l=>by rw [List.flatMap_cons,flat_one g l]; rfl
theorem map_flat {α β:Type} (T:Ty) (l:List T.den) (f:T.den→β):(List.range' 0 l.length).flatMap (fun j:Nat=>[f (at_ T l (j:Int))]) = l.map f:=by
 rw [← List.range_eq_range']
 rw [flat_one (fun j:Nat=>f (at_ T l (j:Int)))]
 apply List.ext_getElem
 ·simp
 ·intro i h1 h2
  simp only [List.length_map] at h2
  simp only [List.getElem_map,List.getElem_range,atN T l i h2]
end Go.V.G
namespace Go.V.G
open Go.Proofs
noncomputable section
def f63_l4_b9000_head:Ann:={ env:=[(1,.ty (.sl yR)),(2,.cst (.fn 64 [])),(15,.ty (.sl yR)),(16,YI),(17,YI)],stk:=[[(4,.ty .bool)]] }
def f63_l4_b9000_outs:List (Ex × Ann):=[((.exit 0),{ env:=[],stk:=[[(4,.ty .bool)]] }),(.ret,{ env:=[(6,.ty .bool)],stk:=[[(4,.ty .bool)]] })]
def f63_l4_b9000 (t1:(List Yr)) (t15:(List Yr)) (t16:Int) (k0t4:Bool):Nat→Int→Option (outDen f63_l4_b9000_outs)
 | 0,_=>none
 | k + 1,t17 =>
 bif (decide (t17 < t16)) then
 bif (inR t17 t15.length) then
 bif (inR t17 t1.length) then
 let v2:Int:=(at_ yR t15 t17).1
 let v3:Int:=(at_ yR t1 t17).1
 bif (decide (v2 = v3)) then
 let v4:Int:=(at_ yR t15 t17).2.1
 let v5:Int:=(at_ yR t1 t17).2.1
 bif (decide (v4 = v5)) then
 (f52 (at_ yR t15 t17)).bind fun y6 =>
 (f52 (at_ yR t1 t17)).bind fun y7 =>
 (f44 y6.1 y7.1).bind fun y8 =>
 bif y8.1 then
 (f53 (at_ yR t15 t17)).bind fun y9 =>
 (f53 (at_ yR t1 t17)).bind fun y10 =>
 (f44 y9.1 y10.1).bind fun y11 =>
 bif (!y11.1) then
 some (.inr ((false,()),((k0t4,()),()),()))
 else
 f63_l4_b9000 t1 t15 t16 k0t4 k (IntKind.wrap .i64 (t17 + 1))
 else
 some (.inr ((false,()),((k0t4,()),()),()))
 else
 some (.inr ((false,()),((k0t4,()),()),()))
 else
 some (.inr ((false,()),((k0t4,()),()),()))
 else none
 else none
 else
 some (.inl ((),((k0t4,()),()),()))
def f63_l4_b9000_n (n:Nat) (x:f63_l4_b9000_head.den):=f63_l4_b9000 x.1.1 x.1.2.1 x.1.2.2.1 x.2.1.1.1 n x.1.2.2.2.1
def f63_l4_b9000_spec:LSpec:={ head:=f63_l4_b9000_head,outs:=f63_l4_b9000_outs,fn:=fun x=>f63_l4_b9000_n ((x.1.2.2.1 - x.1.2.2.2.1).toNat + 1) x }
def f24 (a0:((List Yr) × Unit)) (a1:((List Yr) × Unit)):Option (Bool × Unit) :=
 let v1:Bool:=(decide ((a0.1.length:Int) ≠ (a1.1.length:Int)))
 bif v1 then
 some (false,())
 else
 (f63_l4_b9000 a1.1 a0.1 (a0.1.length:Int) false (((a0.1.length:Int) - (0:Int)).toNat + 1) (0:Int)).bind fun o12 =>
 Sum.elim (fun o13 =>
 some (true,())) (fun o14 =>
 let u16:Bool:=o14.1.1
 some (u16,())) o12
def f24_spec:PSpec:={ args:=[(.pair (.sl yR) .unit),(.pair (.sl yR) .unit)],res:=[.bool],fn:=fun x=>f24 x.1 x.2.1 }
noncomputable def f24_code:Code:=Tryz.f24.body.getD .skip
noncomputable def f24_code_63:Code:=Tryz.f63.body.getD .skip
noncomputable def f24_env:Env0:={ C:=cfgF,P:=[(44,f44_spec),(52,f52_spec),(53,f53_spec)],L:=[(⟨11,9000,63,4⟩,f63_l4_b9000_spec)],F:=[(24,Tryz.f24),(63,Tryz.f63),(64,Tryz.f64)] }
theorem f63_l4_b9000_ok:LoopOK f24_env 11 63 9000 (loopAt f24_code_63 4) f63_l4_b9000_spec :=
 loopOK_of (by kernel_rfl) f63_l4_b9000_n (fun x o h=>⟨_,h⟩) (fun x=>by kernel_rfl) (fun n x=>by kernel_rfl)
theorem f24_run (x:tysDen (f24_spec).args):runF f24_env 24 Tryz.f24 f24_code (f24_spec).args (f24_spec).res x = f24_spec.fn x:=by kernel_rfl
theorem f24_enter:Enterable Tryz.prog 24:=enter_fun Tryz.func24 (by kernel_rfl)
theorem f24_envOK:EnvOK Tryz.prog f24_env:=envOK_of cds (by kernel_rfl) cfgF_ok ⟨⟨f44_pure,f44_enter⟩,⟨f52_pure,f52_enter⟩,⟨f53_pure,f53_enter⟩,trivial⟩ trivial ⟨⟨Tryz.func24,by kernel_rfl⟩,⟨Tryz.func63,by kernel_rfl⟩,⟨Tryz.func64,by kernel_rfl⟩,trivial⟩ ⟨⟨Tryz.f63,f24_code_63,rfl,rfl,f63_l4_b9000_ok⟩,trivial⟩ trivial trivial
theorem f24_pure:PureOK Tryz.prog cfg 24 f24_spec:=pure_of_run f24_envOK (fn:=Tryz.f24) (c:=f24_code) rfl rfl f24_spec (fun x _ h=>(f24_run x).trans h)
def f34 :Option (ByteArray × Unit) :=
 bif (decide (0≤(32:Int)) && decide ((32:Int)≤(32:Int)) && decide ((32:Int)≤(appLim:Int))) then
 let v1:ByteArray:=(ofBytes (List.replicate (Int.toNat (32:Int)) (0:Int)))
 some (v1,())
 else none
def f34_spec:PSpec:={ args:=[],res:=[.str],fn:=fun x=>f34  }
noncomputable def f34_code:Code:=Tryz.f34.body.getD .skip
noncomputable def f34_env:Env0:={ C:=cfgF,P:=[],L:=[],F:=[(34,Tryz.f34)] }
theorem f34_run (x:tysDen (f34_spec).args):runF f34_env 34 Tryz.f34 f34_code (f34_spec).args (f34_spec).res x = f34_spec.fn x:=by kernel_rfl
theorem f34_enter:Enterable Tryz.prog 34:=enter_fun Tryz.func34 (by kernel_rfl)
theorem f34_envOK:EnvOK Tryz.prog f34_env:=envOK_of cds (by kernel_rfl) cfgF_ok trivial trivial ⟨⟨Tryz.func34,by kernel_rfl⟩,trivial⟩ trivial trivial trivial
theorem f34_pure:PureOK Tryz.prog cfg 34 f34_spec:=pure_of_run f34_envOK (fn:=Tryz.f34) (c:=f34_code) rfl rfl f34_spec (fun x _ h=>(f34_run x).trans h)
def f78_l4x_head:Ann:={ env:=[(1,.ty (.sl yN)),(2,.cst (.fn 79 [])),(15,.ty (.sl yN)),(16,YI),(17,YI)],stk:=[[(3,cP 3),(8,.ty (.arr 8 (.sl yN))),(9,YI)]],bxs:=[(3,.var [.ty (.arr 8 (.sl yN))])] }
def f78_l4x_outs:List (Ex × Ann):=[((.exit 0),{ env:=[],stk:=[[(3,cP 3),(8,.ty (.arr 8 (.sl yN))),(9,YI)]],bxs:=[(3,.var [.ty (.arr 8 (.sl yN))])] }),(.ret,{ env:=[(6,.ty .bool)],stk:=[[(3,cP 3),(8,.ty (.arr 8 (.sl yN))),(9,YI)]],bxs:=[(3,.var [.ty (.arr 8 (.sl yN))])] })]
def f78_l4x (t1:(List Yn)) (t15:(List Yn)) (t16:Int) (k0t8:(List (List Yn))) (k0t9:Int) (b3g0:(List (List Yn))):Nat→Int→Option (outDen f78_l4x_outs)
 | 0,_=>none
 | k + 1,t17 =>
 bif (decide (t17 < t16)) then
 bif (inR t17 t15.length) then
 bif (inR t17 t1.length) then
 let v4:Int:=(at_ yN t15 t17).1
 let v5:Int:=(at_ yN t1 t17).1
 bif (decide (v4 = v5)) then
 let v6:(List Int):=(at_ yN t15 t17).2.1
 let v7:(List Int):=(at_ yN t1 t17).2.1
 (f80 v6 v7).bind fun y8 =>
 bif (!y8.1) then
 some (.inr ((false,()),((k0t8,k0t9,()),()),((b3g0,()),())))
 else
 f78_l4x t1 t15 t16 k0t8 k0t9 b3g0 k (IntKind.wrap .i64 (t17 + 1))
 else
 some (.inr ((false,()),((k0t8,k0t9,()),()),((b3g0,()),())))
 else none
 else none
 else
 some (.inl ((),((k0t8,k0t9,()),()),((b3g0,()),())))
def f78_l4x_n (n:Nat) (x:f78_l4x_head.den):=f78_l4x x.1.1 x.1.2.1 x.1.2.2.1 x.2.1.1.1 x.2.1.1.2.1 x.2.2.1.1 n x.1.2.2.2.1
def f78_l4x_spec:LSpec:={ head:=f78_l4x_head,outs:=f78_l4x_outs,fn:=fun x=>f78_l4x_n ((x.1.2.2.1 - x.1.2.2.2.1).toNat + 1) x }
def f36_l2_head:Ann:={ env:=[(3,cP 3),(8,.ty (.arr 8 (.sl yN))),(9,YI)],bxs:=[(3,.var [.ty (.arr 8 (.sl yN))])] }
def f36_l2_outs:List (Ex × Ann):=[((.exit 0),{ env:=[] }),(.ret,{ env:=[(4,.ty .bool)] })]
def f36_l2:Nat→(List (List Yn))→Int→(List (List Yn))→Option (outDen f36_l2_outs)
 | 0,_,_,_=>none
 | k + 1,t8,t9,b3g0 =>
 bif (decide (t9 < (8:Int))) then
 bif (inR t9 8) then
 let v1:(List Yn):=(at_ (.sl yN) t8 t9)
 bif (inR t9 8) then
 let v2:(List Yn):=(at_ (.sl yN) b3g0 t9)
 let v3:Bool:=(decide ((v1.length:Int) ≠ (v2.length:Int)))
 bif v3 then
 some (.inr ((false,()),(),()))
 else
 (f78_l4x v2 v1 (v1.length:Int) t8 t9 b3g0 (((v1.length:Int) - (0:Int)).toNat + 1) (0:Int)).bind fun o9 =>
 Sum.elim (fun o10 =>
 let u12:(List (List Yn)):=o10.2.1.1.1
 let u13:Int:=o10.2.1.1.2.1
 let u14:(List (List Yn)):=o10.2.2.1.1
 f36_l2 k u12 (IntKind.wrap .i64 (u13 + 1)) u14) (fun o11 =>
 let u15:Bool:=o11.1.1
 let u16:(List (List Yn)):=o11.2.1.1.1
 let u17:Int:=o11.2.1.1.2.1
 let u18:(List (List Yn)):=o11.2.2.1.1
 bif (!u15) then
 some (.inr ((false,()),(),()))
 else
 f36_l2 k u16 (IntKind.wrap .i64 (u17 + 1)) u18) o9
 else none
 else none
 else
 some (.inl ((),(),()))
def f36_l2_n (n:Nat) (x:f36_l2_head.den):=f36_l2 n x.1.1 x.1.2.1 x.2.2.1.1
def f36_l2_spec:LSpec:={ head:=f36_l2_head,outs:=f36_l2_outs,fn:=fun x=>f36_l2_n (((8:Int) - x.1.2.1).toNat + 1) x }
def f36 (a0:Yc) (a1:Yc):Option (Bool × Unit) :=
 (f36_l2 (((8:Int) - (0:Int)).toNat + 1) a0.1 (0:Int) a1.1).bind fun o19 =>
 Sum.elim (fun o20 =>
 some (true,())) (fun o21 =>
 let u22:Bool:=o21.1.1
 some (u22,())) o19
def f36_spec:PSpec:={ args:=[yC,yC],res:=[.bool],fn:=fun x=>f36 x.1 x.2.1 }
noncomputable def f36_code:Code:=Tryz.f36.body.getD .skip
noncomputable def f36_code_78:Code:=Tryz.f78.body.getD .skip
noncomputable def f36_env:Env0:={ C:=cfgF,P:=[(80,f80_spec)],L:=[(⟨11,18000,78,4⟩,f78_l4x_spec),(⟨12,0,36,2⟩,f36_l2_spec)],F:=[(36,Tryz.f36),(78,Tryz.f78),(79,Tryz.f79)] }
theorem f78_l4x_ok:LoopOK f36_env 11 78 18000 (loopAt f36_code_78 4) f78_l4x_spec :=
 loopOK_of (by kernel_rfl) f78_l4x_n (fun x o h=>⟨_,h⟩) (fun x=>by kernel_rfl) (fun n x=>by kernel_rfl)
theorem f36_l2_ok:LoopOK f36_env 12 36 0 (loopAt f36_code 2) f36_l2_spec :=
 loopOK_of (by kernel_rfl) f36_l2_n (fun x o h=>⟨_,h⟩) (fun x=>by kernel_rfl) (fun n x=>by kernel_rfl)
theorem f36_run (x:tysDen (f36_spec).args):runF f36_env 36 Tryz.f36 f36_code (f36_spec).args (f36_spec).res x = f36_spec.fn x:=by kernel_rfl
theorem f36_enter:Enterable Tryz.prog 36:=enter_fun Tryz.func36 (by kernel_rfl)
theorem f36_envOK:EnvOK Tryz.prog f36_env:=envOK_of cds (by kernel_rfl) cfgF_ok ⟨⟨f80_pure,f80_enter⟩,trivial⟩ trivial ⟨⟨Tryz.func36,by kernel_rfl⟩,⟨Tryz.func78,by kernel_rfl⟩,⟨Tryz.func79,by kernel_rfl⟩,trivial⟩ ⟨⟨Tryz.f78,f36_code_78,rfl,rfl,f78_l4x_ok⟩,⟨Tryz.f36,f36_code,rfl,rfl,f36_l2_ok⟩,trivial⟩ trivial trivial
theorem f36_pure:PureOK Tryz.prog cfg 36 f36_spec:=pure_of_run f36_envOK (fn:=Tryz.f36) (c:=f36_code) rfl rfl f36_spec (fun x _ h=>(f36_run x).trans h)
end
end Go.V.G
namespace Go.V.G
open Go.Proofs
noncomputable section
def f49_l3x_head:Ann:={ env:=[(1,.cst (.fn 50 [])),(5,.cst (.mp 17008)),(9,.ty (.sl yR)),(10,YI),(11,YI)],stk:=[[(2,cP 2),(4,cP 4),(5,cP 5)],[(0,.cst (.tup [(.fn 47 []),(.ptr 5 0 [])]))],[(0,.cst (.tup [(.fn 46 [(.ptr 5 0 []),(.ptr 4 0 [])])]))]],bxs:=[(17008,.map (.arr 2 yI) yR),(2,.var [.ty (.arr 8 (.sl yN))]),(4,.var [.cst .nils,.cst .nils,.cst .nils,.cst .nils,.cst .nils,.cst .nils,.cst .nils,.cst .nils]),(5,.var [YI])] }
def f49_l3x_outs:List (Ex × Ann):=[((.exit 0),{ env:=[(5,.cst (.mp 17008))],stk:=[[(2,cP 2),(4,cP 4),(5,cP 5)],[(0,.cst (.tup [(.fn 47 []),(.ptr 5 0 [])]))],[(0,.cst (.tup [(.fn 46 [(.ptr 5 0 []),(.ptr 4 0 [])])]))]],bxs:=[(17008,.map (.arr 2 yI) yR),(2,.var [.ty (.arr 8 (.sl yN))]),(4,.var [.cst .nils,.cst .nils,.cst .nils,.cst .nils,.cst .nils,.cst .nils,.cst .nils,.cst .nils]),(5,.var [YI])] })]
def f49_l3x (t9:(List Yr)) (t10:Int) (b2g0:(List (List Yn))) (b5g0:Int):Nat→Int→(List ((List Int) × Yr))→Option (outDen f49_l3x_outs)
 | 0,_,_=>none
 | k + 1,t11,m17008 =>
 bif (decide (t11 < t10)) then
 bif (inR t11 t9.length) then
 same (
 same (
 (f50 (at_ yR t9 t11)).bind fun y3 =>
 f49_l3x t9 t10 b2g0 b5g0 k (IntKind.wrap .i64 (t11 + 1)) (mapSet (.arr 2 yI) yR m17008 y3.1 (at_ yR t9 t11))) (
 (f50 (at_ yR t9 t11)).bind fun y4 =>
 f49_l3x t9 t10 b2g0 b5g0 k (IntKind.wrap .i64 (t11 + 1)) (mapSet (.arr 2 yI) yR m17008 y4.1 (at_ yR t9 t11)))) (
 (f50 (at_ yR t9 t11)).bind fun y5 =>
 f49_l3x t9 t10 b2g0 b5g0 k (IntKind.wrap .i64 (t11 + 1)) (mapSet (.arr 2 yI) yR m17008 y5.1 (at_ yR t9 t11)))
 else none
 else
 some ((),((),(),(),()),(m17008,(b2g0,()),(),(b5g0,()),()))
def f49_l3x_n (n:Nat) (x:f49_l3x_head.den):=f49_l3x x.1.1 x.1.2.1 x.2.2.2.1.1 x.2.2.2.2.2.1.1 n x.1.2.2.1 x.2.2.1
def f49_l3x_spec:LSpec:={ head:=f49_l3x_head,outs:=f49_l3x_outs,fn:=fun x=>f49_l3x_n ((x.1.2.1 - x.1.2.2.1).toNat + 1) x }
def f41_l4b_head:Ann:={ env:=[(0,.cst (.fn 51 [(.ptr 2 0 []),(.ptr 6 0 []),(.ptr 4 0 [])])),(2,.cst (.val yI (1:Int))),(8,YI)],stk:=[[(4,cP 4),(5,cP 5)],[(0,.cst (.tup [(.fn 47 []),(.ptr 5 0 [])]))],[(0,.cst (.tup [(.fn 46 [(.ptr 5 0 []),(.ptr 4 0 [])])]))]],bxs:=[(2,.var [.ty (.arr 8 (.sl yN))]),(6,.var [.cst (.mp 17008)]),(4,.var [.cst .nils,.cst (.row 19999009015041 .whole),.cst .nils,.cst .nils,.cst .nils,.cst .nils,.cst .nils,.cst .nils]),(5,.var [YI]),(17008,.map (.arr 2 yI) yR),(19999009015041,.row yN false)] }
def f41_l4b_outs:List (Ex × Ann):=[((.exit 2),{ env:=[(0,.cst (.fn 51 [(.ptr 2 0 []),(.ptr 6 0 []),(.ptr 4 0 [])])),(2,.cst (.val yI (1:Int)))],stk:=[[(4,cP 4),(5,cP 5)],[(0,.cst (.tup [(.fn 47 []),(.ptr 5 0 [])]))],[(0,.cst (.tup [(.fn 46 [(.ptr 5 0 []),(.ptr 4 0 [])])]))]],bxs:=[(2,.var [.ty (.arr 8 (.sl yN))]),(6,.var [.cst (.mp 17008)]),(4,.var [.cst .nils,.cst (.row 19999009015041 .whole),.cst .nils,.cst .nils,.cst .nils,.cst .nils,.cst .nils,.cst .nils]),(5,.var [YI]),(17008,.map (.arr 2 yI) yR),(19999009015041,.row yN false)] }),((.pan ⟨130,.emp⟩),{ env:=[],stk:=[[(4,cP 4),(5,cP 5)],[(0,.cst (.tup [(.fn 47 []),(.ptr 5 0 [])]))],[(0,.cst (.tup [(.fn 46 [(.ptr 5 0 []),(.ptr 4 0 [])])]))]],bxs:=[(4,.var [.cst .nils,.cst (.row 19999009015041 .whole),.cst .nils,.cst .nils,.cst .nils,.cst .nils,.cst .nils,.cst .nils]),(5,.var [YI]),(19999009015041,.row yN false)] })]
def f41_l4b (b2g0:(List (List Yn))) (b5g0:Int) (m17008:(List ((List Int) × Yr))):Nat→Int→(List Yn)→Option (outDen f41_l4b_outs)
 | 0,_,_=>none
 | k + 1,t8,r19999009015041 =>
 bif (decide (t8 < (24:Int))) then
 (f43 (b2g0,()) ([(1:Int),t8]:List Int)).bind fun y10 =>
 let v11:Bool:=(mapHas (.arr 2 yI) yR m17008 ([(1:Int),t8]:List Int))
 bif v11 then
 same (
 (f52 (mapGet (.arr 2 yI) yR m17008 ([(1:Int),t8]:List Int))).bind fun y12 =>
 (f44 y10.1 y12.1).bind fun y13 =>
 bif (!y13.1) then
 some (.inr ((),((),(),(),()),((),(b5g0,()),r19999009015041,())))
 else
 (f53 (mapGet (.arr 2 yI) yR m17008 ([(1:Int),t8]:List Int))).bind fun y14 =>
 bif y14.1.1 then
 bif (inR (0:Int) 2) then
 bif (inR (0:Int) 2) then
 bif (inR (1:Int) 2) then
 bif (inR (1:Int) 8) then
 eqGate (.val yI t8) (.val yI t8) (
 eqGate (.val yI (1:Int)) (.val yI (1:Int)) (
 eqGate (.val yI (1:Int)) (.val yI (1:Int)) (
 (f54 y14.1.2.1).bind fun y15 =>
 eqGate (.val yI t8) (.val yI t8) (
 eqGate (.val yI (1:Int)) (.val yI (1:Int)) (
 eqGate (.val yI (1:Int)) (.val yI (1:Int)) (
 eqGate (.val yI (1:Int)) (.val yI (1:Int)) (
 eqGate (.val yI (1:Int)) (.val yI (1:Int)) (
 eqGate (.val yI (1:Int)) (.val yI (1:Int)) (
 eqGate (.val yI (1:Int)) (.val yI (1:Int)) (
 bif (decide (r19999009015041.length + ([(t8,(y15.1,()))]:List Yn).length≤appLim)) then
 eqGate (.val yI (1:Int)) (.val yI (1:Int)) (
 bif (inR (1:Int) 8) then f41_l4b b2g0 b5g0 m17008 k (IntKind.wrap .i64 (t8 + 1)) (r19999009015041++([(t8,(y15.1,()))]:List Yn)) else none)
 else none))))))))))
 else none
 else none
 else none
 else none
 else
 f41_l4b b2g0 b5g0 m17008 k (IntKind.wrap .i64 (t8 + 1)) r19999009015041) (
 same (
 (f52 (mapGet (.arr 2 yI) yR m17008 ([(1:Int),t8]:List Int))).bind fun y16 =>
 (f44 y10.1 y16.1).bind fun y17 =>
 bif (!y17.1) then
 some (.inr ((),((),(),(),()),((),(b5g0,()),r19999009015041,())))
 else
 (f53 (mapGet (.arr 2 yI) yR m17008 ([(1:Int),t8]:List Int))).bind fun y18 =>
 bif y18.1.1 then
 bif (inR (0:Int) 2) then
 bif (inR (0:Int) 2) then
 bif (inR (1:Int) 2) then
 bif (inR (1:Int) 8) then
 eqGate (.val yI t8) (.val yI t8) (
 eqGate (.val yI (1:Int)) (.val yI (1:Int)) (
 eqGate (.val yI (1:Int)) (.val yI (1:Int)) (
 (f54 y18.1.2.1).bind fun y19 =>
 eqGate (.val yI t8) (.val yI t8) (
 eqGate (.val yI (1:Int)) (.val yI (1:Int)) (
 eqGate (.val yI (1:Int)) (.val yI (1:Int)) (
 eqGate (.val yI (1:Int)) (.val yI (1:Int)) (
 eqGate (.val yI (1:Int)) (.val yI (1:Int)) (
 eqGate (.val yI (1:Int)) (.val yI (1:Int)) (
 eqGate (.val yI (1:Int)) (.val yI (1:Int)) (
 bif (decide (r19999009015041.length + ([(t8,(y19.1,()))]:List Yn).length≤appLim)) then
 eqGate (.val yI (1:Int)) (.val yI (1:Int)) (
 bif (inR (1:Int) 8) then f41_l4b b2g0 b5g0 m17008 k (IntKind.wrap .i64 (t8 + 1)) (r19999009015041++([(t8,(y19.1,()))]:List Yn)) else none)
 else none))))))))))
 else none
 else none
 else none
 else none
 else
 f41_l4b b2g0 b5g0 m17008 k (IntKind.wrap .i64 (t8 + 1)) r19999009015041) (
 (f52 (mapGet (.arr 2 yI) yR m17008 ([(1:Int),t8]:List Int))).bind fun y20 =>
 (f44 y10.1 y20.1).bind fun y21 =>
 bif (!y21.1) then
 some (.inr ((),((),(),(),()),((),(b5g0,()),r19999009015041,())))
 else
 (f53 (mapGet (.arr 2 yI) yR m17008 ([(1:Int),t8]:List Int))).bind fun y22 =>
 bif y22.1.1 then
 bif (inR (0:Int) 2) then
 bif (inR (0:Int) 2) then
 bif (inR (1:Int) 2) then
 bif (inR (1:Int) 8) then
 eqGate (.val yI t8) (.val yI t8) (
 eqGate (.val yI (1:Int)) (.val yI (1:Int)) (
 eqGate (.val yI (1:Int)) (.val yI (1:Int)) (
 (f54 y22.1.2.1).bind fun y23 =>
 eqGate (.val yI t8) (.val yI t8) (
 eqGate (.val yI (1:Int)) (.val yI (1:Int)) (
 eqGate (.val yI (1:Int)) (.val yI (1:Int)) (
 eqGate (.val yI (1:Int)) (.val yI (1:Int)) (
 eqGate (.val yI (1:Int)) (.val yI (1:Int)) (
 eqGate (.val yI (1:Int)) (.val yI (1:Int)) (
 eqGate (.val yI (1:Int)) (.val yI (1:Int)) (
 bif (decide (r19999009015041.length + ([(t8,(y23.1,()))]:List Yn).length≤appLim)) then
 eqGate (.val yI (1:Int)) (.val yI (1:Int)) (
 bif (inR (1:Int) 8) then f41_l4b b2g0 b5g0 m17008 k (IntKind.wrap .i64 (t8 + 1)) (r19999009015041++([(t8,(y23.1,()))]:List Yn)) else none)
 else none))))))))))
 else none
 else none
 else none
 else none
 else
 f41_l4b b2g0 b5g0 m17008 k (IntKind.wrap .i64 (t8 + 1)) r19999009015041))
 else
 bif y10.1.1 then
 bif (inR (0:Int) 2) then
 bif (inR (0:Int) 2) then
 bif (inR (1:Int) 2) then
 bif (inR (1:Int) 8) then
 eqGate (.val yI t8) (.val yI t8) (
 eqGate (.val yI (1:Int)) (.val yI (1:Int)) (
 eqGate (.val yI (1:Int)) (.val yI (1:Int)) (
 (f54 y10.1.2.1).bind fun y24 =>
 eqGate (.val yI t8) (.val yI t8) (
 eqGate (.val yI (1:Int)) (.val yI (1:Int)) (
 eqGate (.val yI (1:Int)) (.val yI (1:Int)) (
 eqGate (.val yI (1:Int)) (.val yI (1:Int)) (
 eqGate (.val yI (1:Int)) (.val yI (1:Int)) (
 eqGate (.val yI (1:Int)) (.val yI (1:Int)) (
 eqGate (.val yI (1:Int)) (.val yI (1:Int)) (
 bif (decide (r19999009015041.length + ([(t8,(y24.1,()))]:List Yn).length≤appLim)) then
 eqGate (.val yI (1:Int)) (.val yI (1:Int)) (
 bif (inR (1:Int) 8) then f41_l4b b2g0 b5g0 m17008 k (IntKind.wrap .i64 (t8 + 1)) (r19999009015041++([(t8,(y24.1,()))]:List Yn)) else none)
 else none))))))))))
 else none
 else none
 else none
 else none
 else
 f41_l4b b2g0 b5g0 m17008 k (IntKind.wrap .i64 (t8 + 1)) r19999009015041
 else
 some (.inl ((),((),(),(),()),((b2g0,()),(),(),(b5g0,()),m17008,r19999009015041,())))
def f41_l4b_n (n:Nat) (x:f41_l4b_head.den):=f41_l4b x.2.2.1.1 x.2.2.2.2.2.1.1 x.2.2.2.2.2.2.1 n x.1.1 x.2.2.2.2.2.2.2.1
def f41_l4b_spec:LSpec:={ thaws:=[.cell 4 1 19999009015041 yN],head:=f41_l4b_head,outs:=f41_l4b_outs,fn:=fun x=>f41_l4b_n (((24:Int) - x.1.1).toNat + 1) x }
def f41_l4a_head:Ann:={ env:=[(0,.cst (.fn 51 [(.ptr 2 0 []),(.ptr 6 0 []),(.ptr 4 0 [])])),(2,.cst (.val yI (2:Int))),(8,YI)],stk:=[[(4,cP 4),(5,cP 5)],[(0,.cst (.tup [(.fn 47 []),(.ptr 5 0 [])]))],[(0,.cst (.tup [(.fn 46 [(.ptr 5 0 []),(.ptr 4 0 [])])]))]],bxs:=[(2,.var [.ty (.arr 8 (.sl yN))]),(6,.var [.cst (.mp 17008)]),(4,.var [.cst .nils,.cst (.row 19999009015041 .whole),.cst (.row 19999008015041 .whole),.cst .nils,.cst .nils,.cst .nils,.cst .nils,.cst .nils]),(5,.var [YI]),(17008,.map (.arr 2 yI) yR),(19999009015041,.row yN false),(19999008015041,.row yN false)] }
def f41_l4a_outs:List (Ex × Ann):=[((.exit 2),{ env:=[(0,.cst (.fn 51 [(.ptr 2 0 []),(.ptr 6 0 []),(.ptr 4 0 [])])),(2,.cst (.val yI (2:Int)))],stk:=[[(4,cP 4),(5,cP 5)],[(0,.cst (.tup [(.fn 47 []),(.ptr 5 0 [])]))],[(0,.cst (.tup [(.fn 46 [(.ptr 5 0 []),(.ptr 4 0 [])])]))]],bxs:=[(2,.var [.ty (.arr 8 (.sl yN))]),(6,.var [.cst (.mp 17008)]),(4,.var [.cst .nils,.cst (.row 19999009015041 .whole),.cst (.row 19999008015041 .whole),.cst .nils,.cst .nils,.cst .nils,.cst .nils,.cst .nils]),(5,.var [YI]),(17008,.map (.arr 2 yI) yR),(19999009015041,.row yN false),(19999008015041,.row yN false)] }),((.pan ⟨130,.emp⟩),{ env:=[],stk:=[[(4,cP 4),(5,cP 5)],[(0,.cst (.tup [(.fn 47 []),(.ptr 5 0 [])]))],[(0,.cst (.tup [(.fn 46 [(.ptr 5 0 []),(.ptr 4 0 [])])]))]],bxs:=[(4,.var [.cst .nils,.cst (.row 19999009015041 .whole),.cst (.row 19999008015041 .whole),.cst .nils,.cst .nils,.cst .nils,.cst .nils,.cst .nils]),(5,.var [YI]),(19999009015041,.row yN false),(19999008015041,.row yN false)] })]
def f41_l4a (b2g0:(List (List Yn))) (b5g0:Int) (m17008:(List ((List Int) × Yr))) (r19999009015041:(List Yn)):Nat→Int→(List Yn)→Option (outDen f41_l4a_outs)
 | 0,_,_=>none
 | k + 1,t8,r19999008015041 =>
 bif (decide (t8 < (24:Int))) then
 (f43 (b2g0,()) ([(2:Int),t8]:List Int)).bind fun y32 =>
 let v33:Bool:=(mapHas (.arr 2 yI) yR m17008 ([(2:Int),t8]:List Int))
 bif v33 then
 same (
 (f52 (mapGet (.arr 2 yI) yR m17008 ([(2:Int),t8]:List Int))).bind fun y34 =>
 (f44 y32.1 y34.1).bind fun y35 =>
 bif (!y35.1) then
 some (.inr ((),((),(),(),()),((),(b5g0,()),r19999009015041,r19999008015041,())))
 else
 (f53 (mapGet (.arr 2 yI) yR m17008 ([(2:Int),t8]:List Int))).bind fun y36 =>
 bif y36.1.1 then
 bif (inR (0:Int) 2) then
 bif (inR (0:Int) 2) then
 bif (inR (1:Int) 2) then
 bif (inR (2:Int) 8) then
 eqGate (.val yI t8) (.val yI t8) (
 eqGate (.val yI (2:Int)) (.val yI (2:Int)) (
 eqGate (.val yI (2:Int)) (.val yI (2:Int)) (
 (f54 y36.1.2.1).bind fun y37 =>
 eqGate (.val yI t8) (.val yI t8) (
 eqGate (.val yI (2:Int)) (.val yI (2:Int)) (
 eqGate (.val yI (2:Int)) (.val yI (2:Int)) (
 eqGate (.val yI (2:Int)) (.val yI (2:Int)) (
 eqGate (.val yI (2:Int)) (.val yI (2:Int)) (
 eqGate (.val yI (2:Int)) (.val yI (2:Int)) (
 eqGate (.val yI (2:Int)) (.val yI (2:Int)) (
 bif (decide (r19999008015041.length + ([(t8,(y37.1,()))]:List Yn).length≤appLim)) then
 eqGate (.val yI (2:Int)) (.val yI (2:Int)) (
 bif (inR (2:Int) 8) then f41_l4a b2g0 b5g0 m17008 r19999009015041 k (IntKind.wrap .i64 (t8 + 1)) (r19999008015041++([(t8,(y37.1,()))]:List Yn)) else none)
 else none))))))))))
 else none
 else none
 else none
 else none
 else
 f41_l4a b2g0 b5g0 m17008 r19999009015041 k (IntKind.wrap .i64 (t8 + 1)) r19999008015041) (
 same (
 (f52 (mapGet (.arr 2 yI) yR m17008 ([(2:Int),t8]:List Int))).bind fun y38 =>
 (f44 y32.1 y38.1).bind fun y39 =>
 bif (!y39.1) then
 some (.inr ((),((),(),(),()),((),(b5g0,()),r19999009015041,r19999008015041,())))
 else
 (f53 (mapGet (.arr 2 yI) yR m17008 ([(2:Int),t8]:List Int))).bind fun y40 =>
 bif y40.1.1 then
 bif (inR (0:Int) 2) then
 bif (inR (0:Int) 2) then
 bif (inR (1:Int) 2) then
 bif (inR (2:Int) 8) then
 eqGate (.val yI t8) (.val yI t8) (
 eqGate (.val yI (2:Int)) (.val yI (2:Int)) (
 eqGate (.val yI (2:Int)) (.val yI (2:Int)) (
 (f54 y40.1.2.1).bind fun y41 =>
 eqGate (.val yI t8) (.val yI t8) (
 eqGate (.val yI (2:Int)) (.val yI (2:Int)) (
 eqGate (.val yI (2:Int)) (.val yI (2:Int)) (
 eqGate (.val yI (2:Int)) (.val yI (2:Int)) (
 eqGate (.val yI (2:Int)) (.val yI (2:Int)) (
 eqGate (.val yI (2:Int)) (.val yI (2:Int)) (
 eqGate (.val yI (2:Int)) (.val yI (2:Int)) (
 bif (decide (r19999008015041.length + ([(t8,(y41.1,()))]:List Yn).length≤appLim)) then
 eqGate (.val yI (2:Int)) (.val yI (2:Int)) (
 bif (inR (2:Int) 8) then f41_l4a b2g0 b5g0 m17008 r19999009015041 k (IntKind.wrap .i64 (t8 + 1)) (r19999008015041++([(t8,(y41.1,()))]:List Yn)) else none)
 else none))))))))))
 else none
 else none
 else none
 else none
 else
 f41_l4a b2g0 b5g0 m17008 r19999009015041 k (IntKind.wrap .i64 (t8 + 1)) r19999008015041) (
 (f52 (mapGet (.arr 2 yI) yR m17008 ([(2:Int),t8]:List Int))).bind fun y42 =>
 (f44 y32.1 y42.1).bind fun y43 =>
 bif (!y43.1) then
 some (.inr ((),((),(),(),()),((),(b5g0,()),r19999009015041,r19999008015041,())))
 else
 (f53 (mapGet (.arr 2 yI) yR m17008 ([(2:Int),t8]:List Int))).bind fun y44 =>
 bif y44.1.1 then
 bif (inR (0:Int) 2) then
 bif (inR (0:Int) 2) then
 bif (inR (1:Int) 2) then
 bif (inR (2:Int) 8) then
 eqGate (.val yI t8) (.val yI t8) (
 eqGate (.val yI (2:Int)) (.val yI (2:Int)) (
 eqGate (.val yI (2:Int)) (.val yI (2:Int)) (
 (f54 y44.1.2.1).bind fun y45 =>
 eqGate (.val yI t8) (.val yI t8) (
 eqGate (.val yI (2:Int)) (.val yI (2:Int)) (
 eqGate (.val yI (2:Int)) (.val yI (2:Int)) (
 eqGate (.val yI (2:Int)) (.val yI (2:Int)) (
 eqGate (.val yI (2:Int)) (.val yI (2:Int)) (
 eqGate (.val yI (2:Int)) (.val yI (2:Int)) (
 eqGate (.val yI (2:Int)) (.val yI (2:Int)) (
 bif (decide (r19999008015041.length + ([(t8,(y45.1,()))]:List Yn).length≤appLim)) then
 eqGate (.val yI (2:Int)) (.val yI (2:Int)) (
 bif (inR (2:Int) 8) then f41_l4a b2g0 b5g0 m17008 r19999009015041 k (IntKind.wrap .i64 (t8 + 1)) (r19999008015041++([(t8,(y45.1,()))]:List Yn)) else none)
 else none))))))))))
 else none
 else none
 else none
 else none
 else
 f41_l4a b2g0 b5g0 m17008 r19999009015041 k (IntKind.wrap .i64 (t8 + 1)) r19999008015041))
 else
 bif y32.1.1 then
 bif (inR (0:Int) 2) then
 bif (inR (0:Int) 2) then
 bif (inR (1:Int) 2) then
 bif (inR (2:Int) 8) then
 eqGate (.val yI t8) (.val yI t8) (
 eqGate (.val yI (2:Int)) (.val yI (2:Int)) (
 eqGate (.val yI (2:Int)) (.val yI (2:Int)) (
 (f54 y32.1.2.1).bind fun y46 =>
 eqGate (.val yI t8) (.val yI t8) (
 eqGate (.val yI (2:Int)) (.val yI (2:Int)) (
 eqGate (.val yI (2:Int)) (.val yI (2:Int)) (
 eqGate (.val yI (2:Int)) (.val yI (2:Int)) (
 eqGate (.val yI (2:Int)) (.val yI (2:Int)) (
 eqGate (.val yI (2:Int)) (.val yI (2:Int)) (
 eqGate (.val yI (2:Int)) (.val yI (2:Int)) (
 bif (decide (r19999008015041.length + ([(t8,(y46.1,()))]:List Yn).length≤appLim)) then
 eqGate (.val yI (2:Int)) (.val yI (2:Int)) (
 bif (inR (2:Int) 8) then f41_l4a b2g0 b5g0 m17008 r19999009015041 k (IntKind.wrap .i64 (t8 + 1)) (r19999008015041++([(t8,(y46.1,()))]:List Yn)) else none)
 else none))))))))))
 else none
 else none
 else none
 else none
 else
 f41_l4a b2g0 b5g0 m17008 r19999009015041 k (IntKind.wrap .i64 (t8 + 1)) r19999008015041
 else
 some (.inl ((),((),(),(),()),((b2g0,()),(),(),(b5g0,()),m17008,r19999009015041,r19999008015041,())))
def f41_l4a_n (n:Nat) (x:f41_l4a_head.den):=f41_l4a x.2.2.1.1 x.2.2.2.2.2.1.1 x.2.2.2.2.2.2.1 x.2.2.2.2.2.2.2.1 n x.1.1 x.2.2.2.2.2.2.2.2.1
def f41_l4a_spec:LSpec:={ thaws:=[.cell 4 2 19999008015041 yN],head:=f41_l4a_head,outs:=f41_l4a_outs,fn:=fun x=>f41_l4a_n (((24:Int) - x.1.1).toNat + 1) x }
def f41_l4u_head:Ann:={ env:=[(0,.cst (.fn 51 [(.ptr 2 0 []),(.ptr 6 0 []),(.ptr 4 0 [])])),(2,.cst (.val yI (3:Int))),(8,YI)],stk:=[[(4,cP 4),(5,cP 5)],[(0,.cst (.tup [(.fn 47 []),(.ptr 5 0 [])]))],[(0,.cst (.tup [(.fn 46 [(.ptr 5 0 []),(.ptr 4 0 [])])]))]],bxs:=[(2,.var [.ty (.arr 8 (.sl yN))]),(6,.var [.cst (.mp 17008)]),(4,.var [.cst .nils,.cst (.row 19999009015041 .whole),.cst (.row 19999008015041 .whole),.cst (.row 19999007015041 .whole),.cst .nils,.cst .nils,.cst .nils,.cst .nils]),(5,.var [YI]),(17008,.map (.arr 2 yI) yR),(19999009015041,.row yN false),(19999008015041,.row yN false),(19999007015041,.row yN false)] }
def f41_l4u_outs:List (Ex × Ann):=[((.exit 2),{ env:=[(0,.cst (.fn 51 [(.ptr 2 0 []),(.ptr 6 0 []),(.ptr 4 0 [])])),(2,.cst (.val yI (3:Int)))],stk:=[[(4,cP 4),(5,cP 5)],[(0,.cst (.tup [(.fn 47 []),(.ptr 5 0 [])]))],[(0,.cst (.tup [(.fn 46 [(.ptr 5 0 []),(.ptr 4 0 [])])]))]],bxs:=[(2,.var [.ty (.arr 8 (.sl yN))]),(6,.var [.cst (.mp 17008)]),(4,.var [.cst .nils,.cst (.row 19999009015041 .whole),.cst (.row 19999008015041 .whole),.cst (.row 19999007015041 .whole),.cst .nils,.cst .nils,.cst .nils,.cst .nils]),(5,.var [YI]),(17008,.map (.arr 2 yI) yR),(19999009015041,.row yN false),(19999008015041,.row yN false),(19999007015041,.row yN false)] }),((.pan ⟨130,.emp⟩),{ env:=[],stk:=[[(4,cP 4),(5,cP 5)],[(0,.cst (.tup [(.fn 47 []),(.ptr 5 0 [])]))],[(0,.cst (.tup [(.fn 46 [(.ptr 5 0 []),(.ptr 4 0 [])])]))]],bxs:=[(4,.var [.cst .nils,.cst (.row 19999009015041 .whole),.cst (.row 19999008015041 .whole),.cst (.row 19999007015041 .whole),.cst .nils,.cst .nils,.cst .nils,.cst .nils]),(5,.var [YI]),(19999009015041,.row yN false),(19999008015041,.row yN false),(19999007015041,.row yN false)] })]
def f41_l4u (b2g0:(List (List Yn))) (b5g0:Int) (m17008:(List ((List Int) × Yr))) (r19999009015041:(List Yn)) (r19999008015041:(List Yn)):Nat→Int→(List Yn)→Option (outDen f41_l4u_outs)
 | 0,_,_=>none
 | k + 1,t8,r19999007015041 =>
 bif (decide (t8 < (24:Int))) then
 (f43 (b2g0,()) ([(3:Int),t8]:List Int)).bind fun y55 =>
 let v56:Bool:=(mapHas (.arr 2 yI) yR m17008 ([(3:Int),t8]:List Int))
 bif v56 then
 same (
 (f52 (mapGet (.arr 2 yI) yR m17008 ([(3:Int),t8]:List Int))).bind fun y57 =>
 (f44 y55.1 y57.1).bind fun y58 =>
 bif (!y58.1) then
 some (.inr ((),((),(),(),()),((),(b5g0,()),r19999009015041,r19999008015041,r19999007015041,())))
 else
 (f53 (mapGet (.arr 2 yI) yR m17008 ([(3:Int),t8]:List Int))).bind fun y59 =>
 bif y59.1.1 then
 bif (inR (0:Int) 2) then
 bif (inR (0:Int) 2) then
 bif (inR (1:Int) 2) then
 bif (inR (3:Int) 8) then
 eqGate (.val yI t8) (.val yI t8) (
 eqGate (.val yI (3:Int)) (.val yI (3:Int)) (
 eqGate (.val yI (3:Int)) (.val yI (3:Int)) (
 (f54 y59.1.2.1).bind fun y60 =>
 eqGate (.val yI t8) (.val yI t8) (
 eqGate (.val yI (3:Int)) (.val yI (3:Int)) (
 eqGate (.val yI (3:Int)) (.val yI (3:Int)) (
 eqGate (.val yI (3:Int)) (.val yI (3:Int)) (
 eqGate (.val yI (3:Int)) (.val yI (3:Int)) (
 eqGate (.val yI (3:Int)) (.val yI (3:Int)) (
 eqGate (.val yI (3:Int)) (.val yI (3:Int)) (
 bif (decide (r19999007015041.length + ([(t8,(y60.1,()))]:List Yn).length≤appLim)) then
 eqGate (.val yI (3:Int)) (.val yI (3:Int)) (
 bif (inR (3:Int) 8) then f41_l4u b2g0 b5g0 m17008 r19999009015041 r19999008015041 k (IntKind.wrap .i64 (t8 + 1)) (r19999007015041++([(t8,(y60.1,()))]:List Yn)) else none)
 else none))))))))))
 else none
 else none
 else none
 else none
 else
 f41_l4u b2g0 b5g0 m17008 r19999009015041 r19999008015041 k (IntKind.wrap .i64 (t8 + 1)) r19999007015041) (
 same (
 (f52 (mapGet (.arr 2 yI) yR m17008 ([(3:Int),t8]:List Int))).bind fun y61 =>
 (f44 y55.1 y61.1).bind fun y62 =>
 bif (!y62.1) then
 some (.inr ((),((),(),(),()),((),(b5g0,()),r19999009015041,r19999008015041,r19999007015041,())))
 else
 (f53 (mapGet (.arr 2 yI) yR m17008 ([(3:Int),t8]:List Int))).bind fun y63 =>
 bif y63.1.1 then
 bif (inR (0:Int) 2) then
 bif (inR (0:Int) 2) then
 bif (inR (1:Int) 2) then
 bif (inR (3:Int) 8) then
 eqGate (.val yI t8) (.val yI t8) (
 eqGate (.val yI (3:Int)) (.val yI (3:Int)) (
 eqGate (.val yI (3:Int)) (.val yI (3:Int)) (
 (f54 y63.1.2.1).bind fun y64 =>
 eqGate (.val yI t8) (.val yI t8) (
 eqGate (.val yI (3:Int)) (.val yI (3:Int)) (
 eqGate (.val yI (3:Int)) (.val yI (3:Int)) (
 eqGate (.val yI (3:Int)) (.val yI (3:Int)) (
 eqGate (.val yI (3:Int)) (.val yI (3:Int)) (
 eqGate (.val yI (3:Int)) (.val yI (3:Int)) (
 eqGate (.val yI (3:Int)) (.val yI (3:Int)) (
 bif (decide (r19999007015041.length + ([(t8,(y64.1,()))]:List Yn).length≤appLim)) then
 eqGate (.val yI (3:Int)) (.val yI (3:Int)) (
 bif (inR (3:Int) 8) then f41_l4u b2g0 b5g0 m17008 r19999009015041 r19999008015041 k (IntKind.wrap .i64 (t8 + 1)) (r19999007015041++([(t8,(y64.1,()))]:List Yn)) else none)
 else none))))))))))
 else none
 else none
 else none
 else none
 else
 f41_l4u b2g0 b5g0 m17008 r19999009015041 r19999008015041 k (IntKind.wrap .i64 (t8 + 1)) r19999007015041) (
 (f52 (mapGet (.arr 2 yI) yR m17008 ([(3:Int),t8]:List Int))).bind fun y65 =>
 (f44 y55.1 y65.1).bind fun y66 =>
 bif (!y66.1) then
 some (.inr ((),((),(),(),()),((),(b5g0,()),r19999009015041,r19999008015041,r19999007015041,())))
 else
 (f53 (mapGet (.arr 2 yI) yR m17008 ([(3:Int),t8]:List Int))).bind fun y67 =>
 bif y67.1.1 then
 bif (inR (0:Int) 2) then
 bif (inR (0:Int) 2) then
 bif (inR (1:Int) 2) then
 bif (inR (3:Int) 8) then
 eqGate (.val yI t8) (.val yI t8) (
 eqGate (.val yI (3:Int)) (.val yI (3:Int)) (
 eqGate (.val yI (3:Int)) (.val yI (3:Int)) (
 (f54 y67.1.2.1).bind fun y68 =>
 eqGate (.val yI t8) (.val yI t8) (
 eqGate (.val yI (3:Int)) (.val yI (3:Int)) (
 eqGate (.val yI (3:Int)) (.val yI (3:Int)) (
 eqGate (.val yI (3:Int)) (.val yI (3:Int)) (
 eqGate (.val yI (3:Int)) (.val yI (3:Int)) (
 eqGate (.val yI (3:Int)) (.val yI (3:Int)) (
 eqGate (.val yI (3:Int)) (.val yI (3:Int)) (
 bif (decide (r19999007015041.length + ([(t8,(y68.1,()))]:List Yn).length≤appLim)) then
 eqGate (.val yI (3:Int)) (.val yI (3:Int)) (
 bif (inR (3:Int) 8) then f41_l4u b2g0 b5g0 m17008 r19999009015041 r19999008015041 k (IntKind.wrap .i64 (t8 + 1)) (r19999007015041++([(t8,(y68.1,()))]:List Yn)) else none)
 else none))))))))))
 else none
 else none
 else none
 else none
 else
 f41_l4u b2g0 b5g0 m17008 r19999009015041 r19999008015041 k (IntKind.wrap .i64 (t8 + 1)) r19999007015041))
 else
 bif y55.1.1 then
 bif (inR (0:Int) 2) then
 bif (inR (0:Int) 2) then
 bif (inR (1:Int) 2) then
 bif (inR (3:Int) 8) then
 eqGate (.val yI t8) (.val yI t8) (
 eqGate (.val yI (3:Int)) (.val yI (3:Int)) (
 eqGate (.val yI (3:Int)) (.val yI (3:Int)) (
 (f54 y55.1.2.1).bind fun y69 =>
 eqGate (.val yI t8) (.val yI t8) (
 eqGate (.val yI (3:Int)) (.val yI (3:Int)) (
 eqGate (.val yI (3:Int)) (.val yI (3:Int)) (
 eqGate (.val yI (3:Int)) (.val yI (3:Int)) (
 eqGate (.val yI (3:Int)) (.val yI (3:Int)) (
 eqGate (.val yI (3:Int)) (.val yI (3:Int)) (
 eqGate (.val yI (3:Int)) (.val yI (3:Int)) (
 bif (decide (r19999007015041.length + ([(t8,(y69.1,()))]:List Yn).length≤appLim)) then
 eqGate (.val yI (3:Int)) (.val yI (3:Int)) (
 bif (inR (3:Int) 8) then f41_l4u b2g0 b5g0 m17008 r19999009015041 r19999008015041 k (IntKind.wrap .i64 (t8 + 1)) (r19999007015041++([(t8,(y69.1,()))]:List Yn)) else none)
 else none))))))))))
 else none
 else none
 else none
 else none
 else
 f41_l4u b2g0 b5g0 m17008 r19999009015041 r19999008015041 k (IntKind.wrap .i64 (t8 + 1)) r19999007015041
 else
 some (.inl ((),((),(),(),()),((b2g0,()),(),(),(b5g0,()),m17008,r19999009015041,r19999008015041,r19999007015041,())))
def f41_l4u_n (n:Nat) (x:f41_l4u_head.den):=f41_l4u x.2.2.1.1 x.2.2.2.2.2.1.1 x.2.2.2.2.2.2.1 x.2.2.2.2.2.2.2.1 x.2.2.2.2.2.2.2.2.1 n x.1.1 x.2.2.2.2.2.2.2.2.2.1
def f41_l4u_spec:LSpec:={ thaws:=[.cell 4 3 19999007015041 yN],head:=f41_l4u_head,outs:=f41_l4u_outs,fn:=fun x=>f41_l4u_n (((24:Int) - x.1.1).toNat + 1) x }
def f41_l4v_head:Ann:={ env:=[(0,.cst (.fn 51 [(.ptr 2 0 []),(.ptr 6 0 []),(.ptr 4 0 [])])),(2,.cst (.val yI (4:Int))),(8,YI)],stk:=[[(4,cP 4),(5,cP 5)],[(0,.cst (.tup [(.fn 47 []),(.ptr 5 0 [])]))],[(0,.cst (.tup [(.fn 46 [(.ptr 5 0 []),(.ptr 4 0 [])])]))]],bxs:=[(2,.var [.ty (.arr 8 (.sl yN))]),(6,.var [.cst (.mp 17008)]),(4,.var [.cst .nils,.cst (.row 19999009015041 .whole),.cst (.row 19999008015041 .whole),.cst (.row 19999007015041 .whole),.cst (.row 19999006015041 .whole),.cst .nils,.cst .nils,.cst .nils]),(5,.var [YI]),(17008,.map (.arr 2 yI) yR),(19999009015041,.row yN false),(19999008015041,.row yN false),(19999007015041,.row yN false),(19999006015041,.row yN false)] }
def f41_l4v_outs:List (Ex × Ann):=[((.exit 2),{ env:=[(0,.cst (.fn 51 [(.ptr 2 0 []),(.ptr 6 0 []),(.ptr 4 0 [])])),(2,.cst (.val yI (4:Int)))],stk:=[[(4,cP 4),(5,cP 5)],[(0,.cst (.tup [(.fn 47 []),(.ptr 5 0 [])]))],[(0,.cst (.tup [(.fn 46 [(.ptr 5 0 []),(.ptr 4 0 [])])]))]],bxs:=[(2,.var [.ty (.arr 8 (.sl yN))]),(6,.var [.cst (.mp 17008)]),(4,.var [.cst .nils,.cst (.row 19999009015041 .whole),.cst (.row 19999008015041 .whole),.cst (.row 19999007015041 .whole),.cst (.row 19999006015041 .whole),.cst .nils,.cst .nils,.cst .nils]),(5,.var [YI]),(17008,.map (.arr 2 yI) yR),(19999009015041,.row yN false),(19999008015041,.row yN false),(19999007015041,.row yN false),(19999006015041,.row yN false)] }),((.pan ⟨130,.emp⟩),{ env:=[],stk:=[[(4,cP 4),(5,cP 5)],[(0,.cst (.tup [(.fn 47 []),(.ptr 5 0 [])]))],[(0,.cst (.tup [(.fn 46 [(.ptr 5 0 []),(.ptr 4 0 [])])]))]],bxs:=[(4,.var [.cst .nils,.cst (.row 19999009015041 .whole),.cst (.row 19999008015041 .whole),.cst (.row 19999007015041 .whole),.cst (.row 19999006015041 .whole),.cst .nils,.cst .nils,.cst .nils]),(5,.var [YI]),(19999009015041,.row yN false),(19999008015041,.row yN false),(19999007015041,.row yN false),(19999006015041,.row yN false)] })]
def f41_l4v (b2g0:(List (List Yn))) (b5g0:Int) (m17008:(List ((List Int) × Yr))) (r19999009015041:(List Yn)) (r19999008015041:(List Yn)) (r19999007015041:(List Yn)):Nat→Int→(List Yn)→Option (outDen f41_l4v_outs)
 | 0,_,_=>none
 | k + 1,t8,r19999006015041 =>
 bif (decide (t8 < (24:Int))) then
 (f43 (b2g0,()) ([(4:Int),t8]:List Int)).bind fun y79 =>
 let v80:Bool:=(mapHas (.arr 2 yI) yR m17008 ([(4:Int),t8]:List Int))
 bif v80 then
 same (
 (f52 (mapGet (.arr 2 yI) yR m17008 ([(4:Int),t8]:List Int))).bind fun y81 =>
 (f44 y79.1 y81.1).bind fun y82 =>
 bif (!y82.1) then
 some (.inr ((),((),(),(),()),((),(b5g0,()),r19999009015041,r19999008015041,r19999007015041,r19999006015041,())))
 else
 (f53 (mapGet (.arr 2 yI) yR m17008 ([(4:Int),t8]:List Int))).bind fun y83 =>
 bif y83.1.1 then
 bif (inR (0:Int) 2) then
 bif (inR (0:Int) 2) then
 bif (inR (1:Int) 2) then
 bif (inR (4:Int) 8) then
 eqGate (.val yI t8) (.val yI t8) (
 eqGate (.val yI (4:Int)) (.val yI (4:Int)) (
 eqGate (.val yI (4:Int)) (.val yI (4:Int)) (
 (f54 y83.1.2.1).bind fun y84 =>
 eqGate (.val yI t8) (.val yI t8) (
 eqGate (.val yI (4:Int)) (.val yI (4:Int)) (
 eqGate (.val yI (4:Int)) (.val yI (4:Int)) (
 eqGate (.val yI (4:Int)) (.val yI (4:Int)) (
 eqGate (.val yI (4:Int)) (.val yI (4:Int)) (
 eqGate (.val yI (4:Int)) (.val yI (4:Int)) (
 eqGate (.val yI (4:Int)) (.val yI (4:Int)) (
 bif (decide (r19999006015041.length + ([(t8,(y84.1,()))]:List Yn).length≤appLim)) then
 eqGate (.val yI (4:Int)) (.val yI (4:Int)) (
 bif (inR (4:Int) 8) then f41_l4v b2g0 b5g0 m17008 r19999009015041 r19999008015041 r19999007015041 k (IntKind.wrap .i64 (t8 + 1)) (r19999006015041++([(t8,(y84.1,()))]:List Yn)) else none)
 else none))))))))))
 else none
 else none
 else none
 else none
 else
 f41_l4v b2g0 b5g0 m17008 r19999009015041 r19999008015041 r19999007015041 k (IntKind.wrap .i64 (t8 + 1)) r19999006015041) (
 same (
 (f52 (mapGet (.arr 2 yI) yR m17008 ([(4:Int),t8]:List Int))).bind fun y85 =>
 (f44 y79.1 y85.1).bind fun y86 =>
 bif (!y86.1) then
 some (.inr ((),((),(),(),()),((),(b5g0,()),r19999009015041,r19999008015041,r19999007015041,r19999006015041,())))
 else
 (f53 (mapGet (.arr 2 yI) yR m17008 ([(4:Int),t8]:List Int))).bind fun y87 =>
 bif y87.1.1 then
 bif (inR (0:Int) 2) then
 bif (inR (0:Int) 2) then
 bif (inR (1:Int) 2) then
 bif (inR (4:Int) 8) then
 eqGate (.val yI t8) (.val yI t8) (
 eqGate (.val yI (4:Int)) (.val yI (4:Int)) (
 eqGate (.val yI (4:Int)) (.val yI (4:Int)) (
 (f54 y87.1.2.1).bind fun y88 =>
 eqGate (.val yI t8) (.val yI t8) (
 eqGate (.val yI (4:Int)) (.val yI (4:Int)) (
 eqGate (.val yI (4:Int)) (.val yI (4:Int)) (
 eqGate (.val yI (4:Int)) (.val yI (4:Int)) (
 eqGate (.val yI (4:Int)) (.val yI (4:Int)) (
 eqGate (.val yI (4:Int)) (.val yI (4:Int)) (
 eqGate (.val yI (4:Int)) (.val yI (4:Int)) (
 bif (decide (r19999006015041.length + ([(t8,(y88.1,()))]:List Yn).length≤appLim)) then
 eqGate (.val yI (4:Int)) (.val yI (4:Int)) (
 bif (inR (4:Int) 8) then f41_l4v b2g0 b5g0 m17008 r19999009015041 r19999008015041 r19999007015041 k (IntKind.wrap .i64 (t8 + 1)) (r19999006015041++([(t8,(y88.1,()))]:List Yn)) else none)
 else none))))))))))
 else none
 else none
 else none
 else none
 else
 f41_l4v b2g0 b5g0 m17008 r19999009015041 r19999008015041 r19999007015041 k (IntKind.wrap .i64 (t8 + 1)) r19999006015041) (
 (f52 (mapGet (.arr 2 yI) yR m17008 ([(4:Int),t8]:List Int))).bind fun y89 =>
 (f44 y79.1 y89.1).bind fun y90 =>
 bif (!y90.1) then
 some (.inr ((),((),(),(),()),((),(b5g0,()),r19999009015041,r19999008015041,r19999007015041,r19999006015041,())))
 else
 (f53 (mapGet (.arr 2 yI) yR m17008 ([(4:Int),t8]:List Int))).bind fun y91 =>
 bif y91.1.1 then
 bif (inR (0:Int) 2) then
 bif (inR (0:Int) 2) then
 bif (inR (1:Int) 2) then
 bif (inR (4:Int) 8) then
 eqGate (.val yI t8) (.val yI t8) (
 eqGate (.val yI (4:Int)) (.val yI (4:Int)) (
 eqGate (.val yI (4:Int)) (.val yI (4:Int)) (
 (f54 y91.1.2.1).bind fun y92 =>
 eqGate (.val yI t8) (.val yI t8) (
 eqGate (.val yI (4:Int)) (.val yI (4:Int)) (
 eqGate (.val yI (4:Int)) (.val yI (4:Int)) (
 eqGate (.val yI (4:Int)) (.val yI (4:Int)) (
 eqGate (.val yI (4:Int)) (.val yI (4:Int)) (
 eqGate (.val yI (4:Int)) (.val yI (4:Int)) (
 eqGate (.val yI (4:Int)) (.val yI (4:Int)) (
 bif (decide (r19999006015041.length + ([(t8,(y92.1,()))]:List Yn).length≤appLim)) then
 eqGate (.val yI (4:Int)) (.val yI (4:Int)) (
 bif (inR (4:Int) 8) then f41_l4v b2g0 b5g0 m17008 r19999009015041 r19999008015041 r19999007015041 k (IntKind.wrap .i64 (t8 + 1)) (r19999006015041++([(t8,(y92.1,()))]:List Yn)) else none)
 else none))))))))))
 else none
 else none
 else none
 else none
 else
 f41_l4v b2g0 b5g0 m17008 r19999009015041 r19999008015041 r19999007015041 k (IntKind.wrap .i64 (t8 + 1)) r19999006015041))
 else
 bif y79.1.1 then
 bif (inR (0:Int) 2) then
 bif (inR (0:Int) 2) then
 bif (inR (1:Int) 2) then
 bif (inR (4:Int) 8) then
 eqGate (.val yI t8) (.val yI t8) (
 eqGate (.val yI (4:Int)) (.val yI (4:Int)) (
 eqGate (.val yI (4:Int)) (.val yI (4:Int)) (
 (f54 y79.1.2.1).bind fun y93 =>
 eqGate (.val yI t8) (.val yI t8) (
 eqGate (.val yI (4:Int)) (.val yI (4:Int)) (
 eqGate (.val yI (4:Int)) (.val yI (4:Int)) (
 eqGate (.val yI (4:Int)) (.val yI (4:Int)) (
 eqGate (.val yI (4:Int)) (.val yI (4:Int)) (
 eqGate (.val yI (4:Int)) (.val yI (4:Int)) (
 eqGate (.val yI (4:Int)) (.val yI (4:Int)) (
 bif (decide (r19999006015041.length + ([(t8,(y93.1,()))]:List Yn).length≤appLim)) then
 eqGate (.val yI (4:Int)) (.val yI (4:Int)) (
 bif (inR (4:Int) 8) then f41_l4v b2g0 b5g0 m17008 r19999009015041 r19999008015041 r19999007015041 k (IntKind.wrap .i64 (t8 + 1)) (r19999006015041++([(t8,(y93.1,()))]:List Yn)) else none)
 else none))))))))))
 else none
 else none
 else none
 else none
 else
 f41_l4v b2g0 b5g0 m17008 r19999009015041 r19999008015041 r19999007015041 k (IntKind.wrap .i64 (t8 + 1)) r19999006015041
 else
 some (.inl ((),((),(),(),()),((b2g0,()),(),(),(b5g0,()),m17008,r19999009015041,r19999008015041,r19999007015041,r19999006015041,())))
def f41_l4v_n (n:Nat) (x:f41_l4v_head.den):=f41_l4v x.2.2.1.1 x.2.2.2.2.2.1.1 x.2.2.2.2.2.2.1 x.2.2.2.2.2.2.2.1 x.2.2.2.2.2.2.2.2.1 x.2.2.2.2.2.2.2.2.2.1 n x.1.1 x.2.2.2.2.2.2.2.2.2.2.1
def f41_l4v_spec:LSpec:={ thaws:=[.cell 4 4 19999006015041 yN],head:=f41_l4v_head,outs:=f41_l4v_outs,fn:=fun x=>f41_l4v_n (((24:Int) - x.1.1).toNat + 1) x }
def f41_l4w_head:Ann:={ env:=[(0,.cst (.fn 51 [(.ptr 2 0 []),(.ptr 6 0 []),(.ptr 4 0 [])])),(2,.cst (.val yI (5:Int))),(8,YI)],stk:=[[(4,cP 4),(5,cP 5)],[(0,.cst (.tup [(.fn 47 []),(.ptr 5 0 [])]))],[(0,.cst (.tup [(.fn 46 [(.ptr 5 0 []),(.ptr 4 0 [])])]))]],bxs:=[(2,.var [.ty (.arr 8 (.sl yN))]),(6,.var [.cst (.mp 17008)]),(4,.var [.cst .nils,.cst (.row 19999009015041 .whole),.cst (.row 19999008015041 .whole),.cst (.row 19999007015041 .whole),.cst (.row 19999006015041 .whole),.cst (.row 19999005015041 .whole),.cst .nils,.cst .nils]),(5,.var [YI]),(17008,.map (.arr 2 yI) yR),(19999009015041,.row yN false),(19999008015041,.row yN false),(19999007015041,.row yN false),(19999006015041,.row yN false),(19999005015041,.row yN false)] }
def f41_l4w_outs:List (Ex × Ann):=[((.exit 2),{ env:=[(0,.cst (.fn 51 [(.ptr 2 0 []),(.ptr 6 0 []),(.ptr 4 0 [])])),(2,.cst (.val yI (5:Int)))],stk:=[[(4,cP 4),(5,cP 5)],[(0,.cst (.tup [(.fn 47 []),(.ptr 5 0 [])]))],[(0,.cst (.tup [(.fn 46 [(.ptr 5 0 []),(.ptr 4 0 [])])]))]],bxs:=[(2,.var [.ty (.arr 8 (.sl yN))]),(6,.var [.cst (.mp 17008)]),(4,.var [.cst .nils,.cst (.row 19999009015041 .whole),.cst (.row 19999008015041 .whole),.cst (.row 19999007015041 .whole),.cst (.row 19999006015041 .whole),.cst (.row 19999005015041 .whole),.cst .nils,.cst .nils]),(5,.var [YI]),(17008,.map (.arr 2 yI) yR),(19999009015041,.row yN false),(19999008015041,.row yN false),(19999007015041,.row yN false),(19999006015041,.row yN false),(19999005015041,.row yN false)] }),((.pan ⟨130,.emp⟩),{ env:=[],stk:=[[(4,cP 4),(5,cP 5)],[(0,.cst (.tup [(.fn 47 []),(.ptr 5 0 [])]))],[(0,.cst (.tup [(.fn 46 [(.ptr 5 0 []),(.ptr 4 0 [])])]))]],bxs:=[(4,.var [.cst .nils,.cst (.row 19999009015041 .whole),.cst (.row 19999008015041 .whole),.cst (.row 19999007015041 .whole),.cst (.row 19999006015041 .whole),.cst (.row 19999005015041 .whole),.cst .nils,.cst .nils]),(5,.var [YI]),(19999009015041,.row yN false),(19999008015041,.row yN false),(19999007015041,.row yN false),(19999006015041,.row yN false),(19999005015041,.row yN false)] })]
def f41_l4w (b2g0:(List (List Yn))) (b5g0:Int) (m17008:(List ((List Int) × Yr))) (r19999009015041:(List Yn)) (r19999008015041:(List Yn)) (r19999007015041:(List Yn)) (r19999006015041:(List Yn)):Nat→Int→(List Yn)→Option (outDen f41_l4w_outs)
 | 0,_,_=>none
 | k + 1,t8,r19999005015041 =>
 bif (decide (t8 < (24:Int))) then
 (f43 (b2g0,()) ([(5:Int),t8]:List Int)).bind fun y104 =>
 let v105:Bool:=(mapHas (.arr 2 yI) yR m17008 ([(5:Int),t8]:List Int))
 bif v105 then
 same (
 (f52 (mapGet (.arr 2 yI) yR m17008 ([(5:Int),t8]:List Int))).bind fun y106 =>
 (f44 y104.1 y106.1).bind fun y107 =>
 bif (!y107.1) then
 some (.inr ((),((),(),(),()),((),(b5g0,()),r19999009015041,r19999008015041,r19999007015041,r19999006015041,r19999005015041,())))
 else
 (f53 (mapGet (.arr 2 yI) yR m17008 ([(5:Int),t8]:List Int))).bind fun y108 =>
 bif y108.1.1 then
 bif (inR (0:Int) 2) then
 bif (inR (0:Int) 2) then
 bif (inR (1:Int) 2) then
 bif (inR (5:Int) 8) then
 eqGate (.val yI t8) (.val yI t8) (
 eqGate (.val yI (5:Int)) (.val yI (5:Int)) (
 eqGate (.val yI (5:Int)) (.val yI (5:Int)) (
 (f54 y108.1.2.1).bind fun y109 =>
 eqGate (.val yI t8) (.val yI t8) (
 eqGate (.val yI (5:Int)) (.val yI (5:Int)) (
 eqGate (.val yI (5:Int)) (.val yI (5:Int)) (
 eqGate (.val yI (5:Int)) (.val yI (5:Int)) (
 eqGate (.val yI (5:Int)) (.val yI (5:Int)) (
 eqGate (.val yI (5:Int)) (.val yI (5:Int)) (
 eqGate (.val yI (5:Int)) (.val yI (5:Int)) (
 bif (decide (r19999005015041.length + ([(t8,(y109.1,()))]:List Yn).length≤appLim)) then
 eqGate (.val yI (5:Int)) (.val yI (5:Int)) (
 bif (inR (5:Int) 8) then f41_l4w b2g0 b5g0 m17008 r19999009015041 r19999008015041 r19999007015041 r19999006015041 k (IntKind.wrap .i64 (t8 + 1)) (r19999005015041++([(t8,(y109.1,()))]:List Yn)) else none)
 else none))))))))))
 else none
 else none
 else none
 else none
 else
 f41_l4w b2g0 b5g0 m17008 r19999009015041 r19999008015041 r19999007015041 r19999006015041 k (IntKind.wrap .i64 (t8 + 1)) r19999005015041) (
 same (
 (f52 (mapGet (.arr 2 yI) yR m17008 ([(5:Int),t8]:List Int))).bind fun y110 =>
 (f44 y104.1 y110.1).bind fun y111 =>
 bif (!y111.1) then
 some (.inr ((),((),(),(),()),((),(b5g0,()),r19999009015041,r19999008015041,r19999007015041,r19999006015041,r19999005015041,())))
 else
 (f53 (mapGet (.arr 2 yI) yR m17008 ([(5:Int),t8]:List Int))).bind fun y112 =>
 bif y112.1.1 then
 bif (inR (0:Int) 2) then
 bif (inR (0:Int) 2) then
 bif (inR (1:Int) 2) then
 bif (inR (5:Int) 8) then
 eqGate (.val yI t8) (.val yI t8) (
 eqGate (.val yI (5:Int)) (.val yI (5:Int)) (
 eqGate (.val yI (5:Int)) (.val yI (5:Int)) (
 (f54 y112.1.2.1).bind fun y113 =>
 eqGate (.val yI t8) (.val yI t8) (
 eqGate (.val yI (5:Int)) (.val yI (5:Int)) (
 eqGate (.val yI (5:Int)) (.val yI (5:Int)) (
 eqGate (.val yI (5:Int)) (.val yI (5:Int)) (
 eqGate (.val yI (5:Int)) (.val yI (5:Int)) (
 eqGate (.val yI (5:Int)) (.val yI (5:Int)) (
 eqGate (.val yI (5:Int)) (.val yI (5:Int)) (
 bif (decide (r19999005015041.length + ([(t8,(y113.1,()))]:List Yn).length≤appLim)) then
 eqGate (.val yI (5:Int)) (.val yI (5:Int)) (
 bif (inR (5:Int) 8) then f41_l4w b2g0 b5g0 m17008 r19999009015041 r19999008015041 r19999007015041 r19999006015041 k (IntKind.wrap .i64 (t8 + 1)) (r19999005015041++([(t8,(y113.1,()))]:List Yn)) else none)
 else none))))))))))
 else none
 else none
 else none
 else none
 else
 f41_l4w b2g0 b5g0 m17008 r19999009015041 r19999008015041 r19999007015041 r19999006015041 k (IntKind.wrap .i64 (t8 + 1)) r19999005015041) (
 (f52 (mapGet (.arr 2 yI) yR m17008 ([(5:Int),t8]:List Int))).bind fun y114 =>
 (f44 y104.1 y114.1).bind fun y115 =>
 bif (!y115.1) then
 some (.inr ((),((),(),(),()),((),(b5g0,()),r19999009015041,r19999008015041,r19999007015041,r19999006015041,r19999005015041,())))
 else
 (f53 (mapGet (.arr 2 yI) yR m17008 ([(5:Int),t8]:List Int))).bind fun y116 =>
 bif y116.1.1 then
 bif (inR (0:Int) 2) then
 bif (inR (0:Int) 2) then
 bif (inR (1:Int) 2) then
 bif (inR (5:Int) 8) then
 eqGate (.val yI t8) (.val yI t8) (
 eqGate (.val yI (5:Int)) (.val yI (5:Int)) (
 eqGate (.val yI (5:Int)) (.val yI (5:Int)) (
 (f54 y116.1.2.1).bind fun y117 =>
 eqGate (.val yI t8) (.val yI t8) (
 eqGate (.val yI (5:Int)) (.val yI (5:Int)) (
 eqGate (.val yI (5:Int)) (.val yI (5:Int)) (
 eqGate (.val yI (5:Int)) (.val yI (5:Int)) (
 eqGate (.val yI (5:Int)) (.val yI (5:Int)) (
 eqGate (.val yI (5:Int)) (.val yI (5:Int)) (
 eqGate (.val yI (5:Int)) (.val yI (5:Int)) (
 bif (decide (r19999005015041.length + ([(t8,(y117.1,()))]:List Yn).length≤appLim)) then
 eqGate (.val yI (5:Int)) (.val yI (5:Int)) (
 bif (inR (5:Int) 8) then f41_l4w b2g0 b5g0 m17008 r19999009015041 r19999008015041 r19999007015041 r19999006015041 k (IntKind.wrap .i64 (t8 + 1)) (r19999005015041++([(t8,(y117.1,()))]:List Yn)) else none)
 else none))))))))))
 else none
 else none
 else none
 else none
 else
 f41_l4w b2g0 b5g0 m17008 r19999009015041 r19999008015041 r19999007015041 r19999006015041 k (IntKind.wrap .i64 (t8 + 1)) r19999005015041))
 else
 bif y104.1.1 then
 bif (inR (0:Int) 2) then
 bif (inR (0:Int) 2) then
 bif (inR (1:Int) 2) then
 bif (inR (5:Int) 8) then
 eqGate (.val yI t8) (.val yI t8) (
 eqGate (.val yI (5:Int)) (.val yI (5:Int)) (
 eqGate (.val yI (5:Int)) (.val yI (5:Int)) (
 (f54 y104.1.2.1).bind fun y118 =>
 eqGate (.val yI t8) (.val yI t8) (
 eqGate (.val yI (5:Int)) (.val yI (5:Int)) (
 eqGate (.val yI (5:Int)) (.val yI (5:Int)) (
 eqGate (.val yI (5:Int)) (.val yI (5:Int)) (
 eqGate (.val yI (5:Int)) (.val yI (5:Int)) (
 eqGate (.val yI (5:Int)) (.val yI (5:Int)) (
 eqGate (.val yI (5:Int)) (.val yI (5:Int)) (
 bif (decide (r19999005015041.length + ([(t8,(y118.1,()))]:List Yn).length≤appLim)) then
 eqGate (.val yI (5:Int)) (.val yI (5:Int)) (
 bif (inR (5:Int) 8) then f41_l4w b2g0 b5g0 m17008 r19999009015041 r19999008015041 r19999007015041 r19999006015041 k (IntKind.wrap .i64 (t8 + 1)) (r19999005015041++([(t8,(y118.1,()))]:List Yn)) else none)
 else none))))))))))
 else none
 else none
 else none
 else none
 else
 f41_l4w b2g0 b5g0 m17008 r19999009015041 r19999008015041 r19999007015041 r19999006015041 k (IntKind.wrap .i64 (t8 + 1)) r19999005015041
 else
 some (.inl ((),((),(),(),()),((b2g0,()),(),(),(b5g0,()),m17008,r19999009015041,r19999008015041,r19999007015041,r19999006015041,r19999005015041,())))
def f41_l4w_n (n:Nat) (x:f41_l4w_head.den):=f41_l4w x.2.2.1.1 x.2.2.2.2.2.1.1 x.2.2.2.2.2.2.1 x.2.2.2.2.2.2.2.1 x.2.2.2.2.2.2.2.2.1 x.2.2.2.2.2.2.2.2.2.1 x.2.2.2.2.2.2.2.2.2.2.1 n x.1.1 x.2.2.2.2.2.2.2.2.2.2.2.1
def f41_l4w_spec:LSpec:={ thaws:=[.cell 4 5 19999005015041 yN],head:=f41_l4w_head,outs:=f41_l4w_outs,fn:=fun x=>f41_l4w_n (((24:Int) - x.1.1).toNat + 1) x }
def f41_l4z_head:Ann:={ env:=[(0,.cst (.fn 51 [(.ptr 2 0 []),(.ptr 6 0 []),(.ptr 4 0 [])])),(2,.cst (.val yI (6:Int))),(8,YI)],stk:=[[(4,cP 4),(5,cP 5)],[(0,.cst (.tup [(.fn 47 []),(.ptr 5 0 [])]))],[(0,.cst (.tup [(.fn 46 [(.ptr 5 0 []),(.ptr 4 0 [])])]))]],bxs:=[(2,.var [.ty (.arr 8 (.sl yN))]),(6,.var [.cst (.mp 17008)]),(4,.var [.cst .nils,.cst (.row 19999009015041 .whole),.cst (.row 19999008015041 .whole),.cst (.row 19999007015041 .whole),.cst (.row 19999006015041 .whole),.cst (.row 19999005015041 .whole),.cst (.row 19999004015041 .whole),.cst .nils]),(5,.var [YI]),(17008,.map (.arr 2 yI) yR),(19999009015041,.row yN false),(19999008015041,.row yN false),(19999007015041,.row yN false),(19999006015041,.row yN false),(19999005015041,.row yN false),(19999004015041,.row yN false)] }
def f41_l4z_outs:List (Ex × Ann):=[((.exit 2),{ env:=[(0,.cst (.fn 51 [(.ptr 2 0 []),(.ptr 6 0 []),(.ptr 4 0 [])])),(2,.cst (.val yI (6:Int)))],stk:=[[(4,cP 4),(5,cP 5)],[(0,.cst (.tup [(.fn 47 []),(.ptr 5 0 [])]))],[(0,.cst (.tup [(.fn 46 [(.ptr 5 0 []),(.ptr 4 0 [])])]))]],bxs:=[(2,.var [.ty (.arr 8 (.sl yN))]),(6,.var [.cst (.mp 17008)]),(4,.var [.cst .nils,.cst (.row 19999009015041 .whole),.cst (.row 19999008015041 .whole),.cst (.row 19999007015041 .whole),.cst (.row 19999006015041 .whole),.cst (.row 19999005015041 .whole),.cst (.row 19999004015041 .whole),.cst .nils]),(5,.var [YI]),(17008,.map (.arr 2 yI) yR),(19999009015041,.row yN false),(19999008015041,.row yN false),(19999007015041,.row yN false),(19999006015041,.row yN false),(19999005015041,.row yN false),(19999004015041,.row yN false)] }),((.pan ⟨130,.emp⟩),{ env:=[],stk:=[[(4,cP 4),(5,cP 5)],[(0,.cst (.tup [(.fn 47 []),(.ptr 5 0 [])]))],[(0,.cst (.tup [(.fn 46 [(.ptr 5 0 []),(.ptr 4 0 [])])]))]],bxs:=[(4,.var [.cst .nils,.cst (.row 19999009015041 .whole),.cst (.row 19999008015041 .whole),.cst (.row 19999007015041 .whole),.cst (.row 19999006015041 .whole),.cst (.row 19999005015041 .whole),.cst (.row 19999004015041 .whole),.cst .nils]),(5,.var [YI]),(19999009015041,.row yN false),(19999008015041,.row yN false),(19999007015041,.row yN false),(19999006015041,.row yN false),(19999005015041,.row yN false),(19999004015041,.row yN false)] })]
def f41_l4z (b2g0:(List (List Yn))) (b5g0:Int) (m17008:(List ((List Int) × Yr))) (r19999009015041:(List Yn)) (r19999008015041:(List Yn)) (r19999007015041:(List Yn)) (r19999006015041:(List Yn)) (r19999005015041:(List Yn)):Nat→Int→(List Yn)→Option (outDen f41_l4z_outs)
 | 0,_,_=>none
 | k + 1,t8,r19999004015041 =>
 bif (decide (t8 < (24:Int))) then
 (f43 (b2g0,()) ([(6:Int),t8]:List Int)).bind fun y130 =>
 let v131:Bool:=(mapHas (.arr 2 yI) yR m17008 ([(6:Int),t8]:List Int))
 bif v131 then
 same (
 (f52 (mapGet (.arr 2 yI) yR m17008 ([(6:Int),t8]:List Int))).bind fun y132 =>
 (f44 y130.1 y132.1).bind fun y133 =>
 bif (!y133.1) then
 some (.inr ((),((),(),(),()),((),(b5g0,()),r19999009015041,r19999008015041,r19999007015041,r19999006015041,r19999005015041,r19999004015041,())))
 else
 (f53 (mapGet (.arr 2 yI) yR m17008 ([(6:Int),t8]:List Int))).bind fun y134 =>
 bif y134.1.1 then
 bif (inR (0:Int) 2) then
 bif (inR (0:Int) 2) then
 bif (inR (1:Int) 2) then
 bif (inR (6:Int) 8) then
 eqGate (.val yI t8) (.val yI t8) (
 eqGate (.val yI (6:Int)) (.val yI (6:Int)) (
 eqGate (.val yI (6:Int)) (.val yI (6:Int)) (
 (f54 y134.1.2.1).bind fun y135 =>
 eqGate (.val yI t8) (.val yI t8) (
 eqGate (.val yI (6:Int)) (.val yI (6:Int)) (
 eqGate (.val yI (6:Int)) (.val yI (6:Int)) (
 eqGate (.val yI (6:Int)) (.val yI (6:Int)) (
 eqGate (.val yI (6:Int)) (.val yI (6:Int)) (
 eqGate (.val yI (6:Int)) (.val yI (6:Int)) (
 eqGate (.val yI (6:Int)) (.val yI (6:Int)) (
 bif (decide (r19999004015041.length + ([(t8,(y135.1,()))]:List Yn).length≤appLim)) then
 eqGate (.val yI (6:Int)) (.val yI (6:Int)) (
 bif (inR (6:Int) 8) then f41_l4z b2g0 b5g0 m17008 r19999009015041 r19999008015041 r19999007015041 r19999006015041 r19999005015041 k (IntKind.wrap .i64 (t8 + 1)) (r19999004015041++([(t8,(y135.1,()))]:List Yn)) else none)
 else none))))))))))
 else none
 else none
 else none
 else none
 else
 f41_l4z b2g0 b5g0 m17008 r19999009015041 r19999008015041 r19999007015041 r19999006015041 r19999005015041 k (IntKind.wrap .i64 (t8 + 1)) r19999004015041) (
 same (
 (f52 (mapGet (.arr 2 yI) yR m17008 ([(6:Int),t8]:List Int))).bind fun y136 =>
 (f44 y130.1 y136.1).bind fun y137 =>
 bif (!y137.1) then
 some (.inr ((),((),(),(),()),((),(b5g0,()),r19999009015041,r19999008015041,r19999007015041,r19999006015041,r19999005015041,r19999004015041,())))
 else
 (f53 (mapGet (.arr 2 yI) yR m17008 ([(6:Int),t8]:List Int))).bind fun y138 =>
 bif y138.1.1 then
 bif (inR (0:Int) 2) then
 bif (inR (0:Int) 2) then
 bif (inR (1:Int) 2) then
 bif (inR (6:Int) 8) then
 eqGate (.val yI t8) (.val yI t8) (
 eqGate (.val yI (6:Int)) (.val yI (6:Int)) (
 eqGate (.val yI (6:Int)) (.val yI (6:Int)) (
 (f54 y138.1.2.1).bind fun y139 =>
 eqGate (.val yI t8) (.val yI t8) (
 eqGate (.val yI (6:Int)) (.val yI (6:Int)) (
 eqGate (.val yI (6:Int)) (.val yI (6:Int)) (
 eqGate (.val yI (6:Int)) (.val yI (6:Int)) (
 eqGate (.val yI (6:Int)) (.val yI (6:Int)) (
 eqGate (.val yI (6:Int)) (.val yI (6:Int)) (
 eqGate (.val yI (6:Int)) (.val yI (6:Int)) (
 bif (decide (r19999004015041.length + ([(t8,(y139.1,()))]:List Yn).length≤appLim)) then
 eqGate (.val yI (6:Int)) (.val yI (6:Int)) (
 bif (inR (6:Int) 8) then f41_l4z b2g0 b5g0 m17008 r19999009015041 r19999008015041 r19999007015041 r19999006015041 r19999005015041 k (IntKind.wrap .i64 (t8 + 1)) (r19999004015041++([(t8,(y139.1,()))]:List Yn)) else none)
 else none))))))))))
 else none
 else none
 else none
 else none
 else
 f41_l4z b2g0 b5g0 m17008 r19999009015041 r19999008015041 r19999007015041 r19999006015041 r19999005015041 k (IntKind.wrap .i64 (t8 + 1)) r19999004015041) (
 (f52 (mapGet (.arr 2 yI) yR m17008 ([(6:Int),t8]:List Int))).bind fun y140 =>
 (f44 y130.1 y140.1).bind fun y141 =>
 bif (!y141.1) then
 some (.inr ((),((),(),(),()),((),(b5g0,()),r19999009015041,r19999008015041,r19999007015041,r19999006015041,r19999005015041,r19999004015041,())))
 else
 (f53 (mapGet (.arr 2 yI) yR m17008 ([(6:Int),t8]:List Int))).bind fun y142 =>
 bif y142.1.1 then
 bif (inR (0:Int) 2) then
 bif (inR (0:Int) 2) then
 bif (inR (1:Int) 2) then
 bif (inR (6:Int) 8) then
 eqGate (.val yI t8) (.val yI t8) (
 eqGate (.val yI (6:Int)) (.val yI (6:Int)) (
 eqGate (.val yI (6:Int)) (.val yI (6:Int)) (
 (f54 y142.1.2.1).bind fun y143 =>
 eqGate (.val yI t8) (.val yI t8) (
 eqGate (.val yI (6:Int)) (.val yI (6:Int)) (
 eqGate (.val yI (6:Int)) (.val yI (6:Int)) (
 eqGate (.val yI (6:Int)) (.val yI (6:Int)) (
 eqGate (.val yI (6:Int)) (.val yI (6:Int)) (
 eqGate (.val yI (6:Int)) (.val yI (6:Int)) (
 eqGate (.val yI (6:Int)) (.val yI (6:Int)) (
 bif (decide (r19999004015041.length + ([(t8,(y143.1,()))]:List Yn).length≤appLim)) then
 eqGate (.val yI (6:Int)) (.val yI (6:Int)) (
 bif (inR (6:Int) 8) then f41_l4z b2g0 b5g0 m17008 r19999009015041 r19999008015041 r19999007015041 r19999006015041 r19999005015041 k (IntKind.wrap .i64 (t8 + 1)) (r19999004015041++([(t8,(y143.1,()))]:List Yn)) else none)
 else none))))))))))
 else none
 else none
 else none
 else none
 else
 f41_l4z b2g0 b5g0 m17008 r19999009015041 r19999008015041 r19999007015041 r19999006015041 r19999005015041 k (IntKind.wrap .i64 (t8 + 1)) r19999004015041))
 else
 bif y130.1.1 then
 bif (inR (0:Int) 2) then
 bif (inR (0:Int) 2) then
 bif (inR (1:Int) 2) then
 bif (inR (6:Int) 8) then
 eqGate (.val yI t8) (.val yI t8) (
 eqGate (.val yI (6:Int)) (.val yI (6:Int)) (
 eqGate (.val yI (6:Int)) (.val yI (6:Int)) (
 (f54 y130.1.2.1).bind fun y144 =>
 eqGate (.val yI t8) (.val yI t8) (
 eqGate (.val yI (6:Int)) (.val yI (6:Int)) (
 eqGate (.val yI (6:Int)) (.val yI (6:Int)) (
 eqGate (.val yI (6:Int)) (.val yI (6:Int)) (
 eqGate (.val yI (6:Int)) (.val yI (6:Int)) (
 eqGate (.val yI (6:Int)) (.val yI (6:Int)) (
 eqGate (.val yI (6:Int)) (.val yI (6:Int)) (
 bif (decide (r19999004015041.length + ([(t8,(y144.1,()))]:List Yn).length≤appLim)) then
 eqGate (.val yI (6:Int)) (.val yI (6:Int)) (
 bif (inR (6:Int) 8) then f41_l4z b2g0 b5g0 m17008 r19999009015041 r19999008015041 r19999007015041 r19999006015041 r19999005015041 k (IntKind.wrap .i64 (t8 + 1)) (r19999004015041++([(t8,(y144.1,()))]:List Yn)) else none)
 else none))))))))))
 else none
 else none
 else none
 else none
 else
 f41_l4z b2g0 b5g0 m17008 r19999009015041 r19999008015041 r19999007015041 r19999006015041 r19999005015041 k (IntKind.wrap .i64 (t8 + 1)) r19999004015041
 else
 some (.inl ((),((),(),(),()),((b2g0,()),(),(),(b5g0,()),m17008,r19999009015041,r19999008015041,r19999007015041,r19999006015041,r19999005015041,r19999004015041,())))
def f41_l4z_n (n:Nat) (x:f41_l4z_head.den):=f41_l4z x.2.2.1.1 x.2.2.2.2.2.1.1 x.2.2.2.2.2.2.1 x.2.2.2.2.2.2.2.1 x.2.2.2.2.2.2.2.2.1 x.2.2.2.2.2.2.2.2.2.1 x.2.2.2.2.2.2.2.2.2.2.1 x.2.2.2.2.2.2.2.2.2.2.2.1 n x.1.1 x.2.2.2.2.2.2.2.2.2.2.2.2.1
def f41_l4z_spec:LSpec:={ thaws:=[.cell 4 6 19999004015041 yN],head:=f41_l4z_head,outs:=f41_l4z_outs,fn:=fun x=>f41_l4z_n (((24:Int) - x.1.1).toNat + 1) x }
def f41_l4y_head:Ann:={ env:=[(0,.cst (.fn 51 [(.ptr 2 0 []),(.ptr 6 0 []),(.ptr 4 0 [])])),(2,.cst (.val yI (7:Int))),(8,YI)],stk:=[[(4,cP 4),(5,cP 5)],[(0,.cst (.tup [(.fn 47 []),(.ptr 5 0 [])]))],[(0,.cst (.tup [(.fn 46 [(.ptr 5 0 []),(.ptr 4 0 [])])]))]],bxs:=[(2,.var [.ty (.arr 8 (.sl yN))]),(6,.var [.cst (.mp 17008)]),(4,.var [.cst .nils,.cst (.row 19999009015041 .whole),.cst (.row 19999008015041 .whole),.cst (.row 19999007015041 .whole),.cst (.row 19999006015041 .whole),.cst (.row 19999005015041 .whole),.cst (.row 19999004015041 .whole),.cst (.row 19999003015041 .whole)]),(5,.var [YI]),(17008,.map (.arr 2 yI) yR),(19999009015041,.row yN false),(19999008015041,.row yN false),(19999007015041,.row yN false),(19999006015041,.row yN false),(19999005015041,.row yN false),(19999004015041,.row yN false),(19999003015041,.row yN false)] }
def f41_l4y_outs:List (Ex × Ann):=[((.exit 2),{ env:=[(0,.cst (.fn 51 [(.ptr 2 0 []),(.ptr 6 0 []),(.ptr 4 0 [])])),(2,.cst (.val yI (7:Int)))],stk:=[[(4,cP 4),(5,cP 5)],[(0,.cst (.tup [(.fn 47 []),(.ptr 5 0 [])]))],[(0,.cst (.tup [(.fn 46 [(.ptr 5 0 []),(.ptr 4 0 [])])]))]],bxs:=[(2,.var [.ty (.arr 8 (.sl yN))]),(6,.var [.cst (.mp 17008)]),(4,.var [.cst .nils,.cst (.row 19999009015041 .whole),.cst (.row 19999008015041 .whole),.cst (.row 19999007015041 .whole),.cst (.row 19999006015041 .whole),.cst (.row 19999005015041 .whole),.cst (.row 19999004015041 .whole),.cst (.row 19999003015041 .whole)]),(5,.var [YI]),(17008,.map (.arr 2 yI) yR),(19999009015041,.row yN false),(19999008015041,.row yN false),(19999007015041,.row yN false),(19999006015041,.row yN false),(19999005015041,.row yN false),(19999004015041,.row yN false),(19999003015041,.row yN false)] }),((.pan ⟨130,.emp⟩),{ env:=[],stk:=[[(4,cP 4),(5,cP 5)],[(0,.cst (.tup [(.fn 47 []),(.ptr 5 0 [])]))],[(0,.cst (.tup [(.fn 46 [(.ptr 5 0 []),(.ptr 4 0 [])])]))]],bxs:=[(4,.var [.cst .nils,.cst (.row 19999009015041 .whole),.cst (.row 19999008015041 .whole),.cst (.row 19999007015041 .whole),.cst (.row 19999006015041 .whole),.cst (.row 19999005015041 .whole),.cst (.row 19999004015041 .whole),.cst (.row 19999003015041 .whole)]),(5,.var [YI]),(19999009015041,.row yN false),(19999008015041,.row yN false),(19999007015041,.row yN false),(19999006015041,.row yN false),(19999005015041,.row yN false),(19999004015041,.row yN false),(19999003015041,.row yN false)] })]
def f41_l4y (b2g0:(List (List Yn))) (b5g0:Int) (m17008:(List ((List Int) × Yr))) (r19999009015041:(List Yn)) (r19999008015041:(List Yn)) (r19999007015041:(List Yn)) (r19999006015041:(List Yn)) (r19999005015041:(List Yn)) (r19999004015041:(List Yn)):Nat→Int→(List Yn)→Option (outDen f41_l4y_outs)
 | 0,_,_=>none
 | k + 1,t8,r19999003015041 =>
 bif (decide (t8 < (24:Int))) then
 (f43 (b2g0,()) ([(7:Int),t8]:List Int)).bind fun y157 =>
 let v158:Bool:=(mapHas (.arr 2 yI) yR m17008 ([(7:Int),t8]:List Int))
 bif v158 then
 same (
 (f52 (mapGet (.arr 2 yI) yR m17008 ([(7:Int),t8]:List Int))).bind fun y159 =>
 (f44 y157.1 y159.1).bind fun y160 =>
 bif (!y160.1) then
 some (.inr ((),((),(),(),()),((),(b5g0,()),r19999009015041,r19999008015041,r19999007015041,r19999006015041,r19999005015041,r19999004015041,r19999003015041,())))
 else
 (f53 (mapGet (.arr 2 yI) yR m17008 ([(7:Int),t8]:List Int))).bind fun y161 =>
 bif y161.1.1 then
 bif (inR (0:Int) 2) then
 bif (inR (0:Int) 2) then
 bif (inR (1:Int) 2) then
 bif (inR (7:Int) 8) then
 eqGate (.val yI t8) (.val yI t8) (
 eqGate (.val yI (7:Int)) (.val yI (7:Int)) (
 eqGate (.val yI (7:Int)) (.val yI (7:Int)) (
 (f54 y161.1.2.1).bind fun y162 =>
 eqGate (.val yI t8) (.val yI t8) (
 eqGate (.val yI (7:Int)) (.val yI (7:Int)) (
 eqGate (.val yI (7:Int)) (.val yI (7:Int)) (
 eqGate (.val yI (7:Int)) (.val yI (7:Int)) (
 eqGate (.val yI (7:Int)) (.val yI (7:Int)) (
 eqGate (.val yI (7:Int)) (.val yI (7:Int)) (
 eqGate (.val yI (7:Int)) (.val yI (7:Int)) (
 bif (decide (r19999003015041.length + ([(t8,(y162.1,()))]:List Yn).length≤appLim)) then
 eqGate (.val yI (7:Int)) (.val yI (7:Int)) (
 bif (inR (7:Int) 8) then f41_l4y b2g0 b5g0 m17008 r19999009015041 r19999008015041 r19999007015041 r19999006015041 r19999005015041 r19999004015041 k (IntKind.wrap .i64 (t8 + 1)) (r19999003015041++([(t8,(y162.1,()))]:List Yn)) else none)
 else none))))))))))
 else none
 else none
 else none
 else none
 else
 f41_l4y b2g0 b5g0 m17008 r19999009015041 r19999008015041 r19999007015041 r19999006015041 r19999005015041 r19999004015041 k (IntKind.wrap .i64 (t8 + 1)) r19999003015041) (
 same (
 (f52 (mapGet (.arr 2 yI) yR m17008 ([(7:Int),t8]:List Int))).bind fun y163 =>
 (f44 y157.1 y163.1).bind fun y164 =>
 bif (!y164.1) then
 some (.inr ((),((),(),(),()),((),(b5g0,()),r19999009015041,r19999008015041,r19999007015041,r19999006015041,r19999005015041,r19999004015041,r19999003015041,())))
 else
 (f53 (mapGet (.arr 2 yI) yR m17008 ([(7:Int),t8]:List Int))).bind fun y165 =>
 bif y165.1.1 then
 bif (inR (0:Int) 2) then
 bif (inR (0:Int) 2) then
 bif (inR (1:Int) 2) then
 bif (inR (7:Int) 8) then
 eqGate (.val yI t8) (.val yI t8) (
 eqGate (.val yI (7:Int)) (.val yI (7:Int)) (
 eqGate (.val yI (7:Int)) (.val yI (7:Int)) (
 (f54 y165.1.2.1).bind fun y166 =>
 eqGate (.val yI t8) (.val yI t8) (
 eqGate (.val yI (7:Int)) (.val yI (7:Int)) (
 eqGate (.val yI (7:Int)) (.val yI (7:Int)) (
 eqGate (.val yI (7:Int)) (.val yI (7:Int)) (
 eqGate (.val yI (7:Int)) (.val yI (7:Int)) (
 eqGate (.val yI (7:Int)) (.val yI (7:Int)) (
 eqGate (.val yI (7:Int)) (.val yI (7:Int)) (
 bif (decide (r19999003015041.length + ([(t8,(y166.1,()))]:List Yn).length≤appLim)) then
 eqGate (.val yI (7:Int)) (.val yI (7:Int)) (
 bif (inR (7:Int) 8) then f41_l4y b2g0 b5g0 m17008 r19999009015041 r19999008015041 r19999007015041 r19999006015041 r19999005015041 r19999004015041 k (IntKind.wrap .i64 (t8 + 1)) (r19999003015041++([(t8,(y166.1,()))]:List Yn)) else none)
 else none))))))))))
 else none
 else none
 else none
 else none
 else
 f41_l4y b2g0 b5g0 m17008 r19999009015041 r19999008015041 r19999007015041 r19999006015041 r19999005015041 r19999004015041 k (IntKind.wrap .i64 (t8 + 1)) r19999003015041) (
 (f52 (mapGet (.arr 2 yI) yR m17008 ([(7:Int),t8]:List Int))).bind fun y167 =>
 (f44 y157.1 y167.1).bind fun y168 =>
 bif (!y168.1) then
 some (.inr ((),((),(),(),()),((),(b5g0,()),r19999009015041,r19999008015041,r19999007015041,r19999006015041,r19999005015041,r19999004015041,r19999003015041,())))
 else
 (f53 (mapGet (.arr 2 yI) yR m17008 ([(7:Int),t8]:List Int))).bind fun y169 =>
 bif y169.1.1 then
 bif (inR (0:Int) 2) then
 bif (inR (0:Int) 2) then
 bif (inR (1:Int) 2) then
 bif (inR (7:Int) 8) then
 eqGate (.val yI t8) (.val yI t8) (
 eqGate (.val yI (7:Int)) (.val yI (7:Int)) (
 eqGate (.val yI (7:Int)) (.val yI (7:Int)) (
 (f54 y169.1.2.1).bind fun y170 =>
 eqGate (.val yI t8) (.val yI t8) (
 eqGate (.val yI (7:Int)) (.val yI (7:Int)) (
 eqGate (.val yI (7:Int)) (.val yI (7:Int)) (
 eqGate (.val yI (7:Int)) (.val yI (7:Int)) (
 eqGate (.val yI (7:Int)) (.val yI (7:Int)) (
 eqGate (.val yI (7:Int)) (.val yI (7:Int)) (
 eqGate (.val yI (7:Int)) (.val yI (7:Int)) (
 bif (decide (r19999003015041.length + ([(t8,(y170.1,()))]:List Yn).length≤appLim)) then
 eqGate (.val yI (7:Int)) (.val yI (7:Int)) (
 bif (inR (7:Int) 8) then f41_l4y b2g0 b5g0 m17008 r19999009015041 r19999008015041 r19999007015041 r19999006015041 r19999005015041 r19999004015041 k (IntKind.wrap .i64 (t8 + 1)) (r19999003015041++([(t8,(y170.1,()))]:List Yn)) else none)
 else none))))))))))
 else none
 else none
 else none
 else none
 else
 f41_l4y b2g0 b5g0 m17008 r19999009015041 r19999008015041 r19999007015041 r19999006015041 r19999005015041 r19999004015041 k (IntKind.wrap .i64 (t8 + 1)) r19999003015041))
 else
 bif y157.1.1 then
 bif (inR (0:Int) 2) then
 bif (inR (0:Int) 2) then
 bif (inR (1:Int) 2) then
 bif (inR (7:Int) 8) then
 eqGate (.val yI t8) (.val yI t8) (
 eqGate (.val yI (7:Int)) (.val yI (7:Int)) (
 eqGate (.val yI (7:Int)) (.val yI (7:Int)) (
 (f54 y157.1.2.1).bind fun y171 =>
 eqGate (.val yI t8) (.val yI t8) (
 eqGate (.val yI (7:Int)) (.val yI (7:Int)) (
 eqGate (.val yI (7:Int)) (.val yI (7:Int)) (
 eqGate (.val yI (7:Int)) (.val yI (7:Int)) (
 eqGate (.val yI (7:Int)) (.val yI (7:Int)) (
 eqGate (.val yI (7:Int)) (.val yI (7:Int)) (
 eqGate (.val yI (7:Int)) (.val yI (7:Int)) (
 bif (decide (r19999003015041.length + ([(t8,(y171.1,()))]:List Yn).length≤appLim)) then
 eqGate (.val yI (7:Int)) (.val yI (7:Int)) (
 bif (inR (7:Int) 8) then f41_l4y b2g0 b5g0 m17008 r19999009015041 r19999008015041 r19999007015041 r19999006015041 r19999005015041 r19999004015041 k (IntKind.wrap .i64 (t8 + 1)) (r19999003015041++([(t8,(y171.1,()))]:List Yn)) else none)
 else none))))))))))
 else none
 else none
 else none
 else none
 else
 f41_l4y b2g0 b5g0 m17008 r19999009015041 r19999008015041 r19999007015041 r19999006015041 r19999005015041 r19999004015041 k (IntKind.wrap .i64 (t8 + 1)) r19999003015041
 else
 some (.inl ((),((),(),(),()),((b2g0,()),(),(),(b5g0,()),m17008,r19999009015041,r19999008015041,r19999007015041,r19999006015041,r19999005015041,r19999004015041,r19999003015041,())))
def f41_l4y_n (n:Nat) (x:f41_l4y_head.den):=f41_l4y x.2.2.1.1 x.2.2.2.2.2.1.1 x.2.2.2.2.2.2.1 x.2.2.2.2.2.2.2.1 x.2.2.2.2.2.2.2.2.1 x.2.2.2.2.2.2.2.2.2.1 x.2.2.2.2.2.2.2.2.2.2.1 x.2.2.2.2.2.2.2.2.2.2.2.1 x.2.2.2.2.2.2.2.2.2.2.2.2.1 n x.1.1 x.2.2.2.2.2.2.2.2.2.2.2.2.2.1
def f41_l4y_spec:LSpec:={ thaws:=[.cell 4 7 19999003015041 yN],head:=f41_l4y_head,outs:=f41_l4y_outs,fn:=fun x=>f41_l4y_n (((24:Int) - x.1.1).toNat + 1) x }
def f14 (a0:Yc) (a1:((List Yr) × Unit)):Option (Yc × Int × Unit) :=
 (f35 a0).bind fun y1 =>
 bif y1.1 then
 (f19 a1).bind fun y2 =>
 bif (!y2.1) then
 some ((([[],[],[],[],[],[],[],[]]:List (List Yn)),()),(160:Int),())
 else
 (f49_l3x a1.1 (a1.1.length:Int) a0.1 0 (((a1.1.length:Int) - (0:Int)).toNat + 1) (0:Int) ([]:List ((List Int) × Yr))).bind fun o6 =>
 let u7:(List ((List Int) × Yr)):=o6.2.2.1
 let u8:(List (List Yn)):=o6.2.2.2.1.1
 let u9:Int:=o6.2.2.2.2.2.1.1
 (f41_l4b u8 u9 u7 (((24:Int) - (0:Int)).toNat + 1) (0:Int) []).bind fun o25 =>
 Sum.elim (fun o26 =>
 let u28:(List (List Yn)):=o26.2.2.1.1
 let u29:Int:=o26.2.2.2.2.2.1.1
 let u30:(List ((List Int) × Yr)):=o26.2.2.2.2.2.2.1
 let u31:(List Yn):=o26.2.2.2.2.2.2.2.1
 (f41_l4a u28 u29 u30 u31 (((24:Int) - (0:Int)).toNat + 1) (0:Int) []).bind fun o47 =>
 Sum.elim (fun o48 =>
 let u50:(List (List Yn)):=o48.2.2.1.1
 let u51:Int:=o48.2.2.2.2.2.1.1
 let u52:(List ((List Int) × Yr)):=o48.2.2.2.2.2.2.1
 let u53:(List Yn):=o48.2.2.2.2.2.2.2.1
 let u54:(List Yn):=o48.2.2.2.2.2.2.2.2.1
 (f41_l4u u50 u51 u52 u53 u54 (((24:Int) - (0:Int)).toNat + 1) (0:Int) []).bind fun o70 =>
 Sum.elim (fun o71 =>
 let u73:(List (List Yn)):=o71.2.2.1.1
 let u74:Int:=o71.2.2.2.2.2.1.1
 let u75:(List ((List Int) × Yr)):=o71.2.2.2.2.2.2.1
 let u76:(List Yn):=o71.2.2.2.2.2.2.2.1
 let u77:(List Yn):=o71.2.2.2.2.2.2.2.2.1
 let u78:(List Yn):=o71.2.2.2.2.2.2.2.2.2.1
 (f41_l4v u73 u74 u75 u76 u77 u78 (((24:Int) - (0:Int)).toNat + 1) (0:Int) []).bind fun o94 =>
 Sum.elim (fun o95 =>
 let u97:(List (List Yn)):=o95.2.2.1.1
 let u98:Int:=o95.2.2.2.2.2.1.1
 let u99:(List ((List Int) × Yr)):=o95.2.2.2.2.2.2.1
 let u100:(List Yn):=o95.2.2.2.2.2.2.2.1
 let u101:(List Yn):=o95.2.2.2.2.2.2.2.2.1
 let u102:(List Yn):=o95.2.2.2.2.2.2.2.2.2.1
 let u103:(List Yn):=o95.2.2.2.2.2.2.2.2.2.2.1
 (f41_l4w u97 u98 u99 u100 u101 u102 u103 (((24:Int) - (0:Int)).toNat + 1) (0:Int) []).bind fun o119 =>
 Sum.elim (fun o120 =>
 let u122:(List (List Yn)):=o120.2.2.1.1
 let u123:Int:=o120.2.2.2.2.2.1.1
 let u124:(List ((List Int) × Yr)):=o120.2.2.2.2.2.2.1
 let u125:(List Yn):=o120.2.2.2.2.2.2.2.1
 let u126:(List Yn):=o120.2.2.2.2.2.2.2.2.1
 let u127:(List Yn):=o120.2.2.2.2.2.2.2.2.2.1
 let u128:(List Yn):=o120.2.2.2.2.2.2.2.2.2.2.1
 let u129:(List Yn):=o120.2.2.2.2.2.2.2.2.2.2.2.1
 (f41_l4z u122 u123 u124 u125 u126 u127 u128 u129 (((24:Int) - (0:Int)).toNat + 1) (0:Int) []).bind fun o145 =>
 Sum.elim (fun o146 =>
 let u148:(List (List Yn)):=o146.2.2.1.1
 let u149:Int:=o146.2.2.2.2.2.1.1
 let u150:(List ((List Int) × Yr)):=o146.2.2.2.2.2.2.1
 let u151:(List Yn):=o146.2.2.2.2.2.2.2.1
 let u152:(List Yn):=o146.2.2.2.2.2.2.2.2.1
 let u153:(List Yn):=o146.2.2.2.2.2.2.2.2.2.1
 let u154:(List Yn):=o146.2.2.2.2.2.2.2.2.2.2.1
 let u155:(List Yn):=o146.2.2.2.2.2.2.2.2.2.2.2.1
 let u156:(List Yn):=o146.2.2.2.2.2.2.2.2.2.2.2.2.1
 (f41_l4y u148 u149 u150 u151 u152 u153 u154 u155 u156 (((24:Int) - (0:Int)).toNat + 1) (0:Int) []).bind fun o172 =>
 Sum.elim (fun o173 =>
 let u178:(List Yn):=o173.2.2.2.2.2.2.2.1
 let u179:(List Yn):=o173.2.2.2.2.2.2.2.2.1
 let u180:(List Yn):=o173.2.2.2.2.2.2.2.2.2.1
 let u181:(List Yn):=o173.2.2.2.2.2.2.2.2.2.2.1
 let u182:(List Yn):=o173.2.2.2.2.2.2.2.2.2.2.2.1
 let u183:(List Yn):=o173.2.2.2.2.2.2.2.2.2.2.2.2.1
 let u184:(List Yn):=o173.2.2.2.2.2.2.2.2.2.2.2.2.2.1
 some ((([[],u178,u179,u180,u181,u182,u183,u184]:List (List Yn)),()),(0:Int),())) (fun o174 =>
 some ((([[],[],[],[],[],[],[],[]]:List (List Yn)),()),(160:Int),())) o172) (fun o147 =>
 some ((([[],[],[],[],[],[],[],[]]:List (List Yn)),()),(160:Int),())) o145) (fun o121 =>
 some ((([[],[],[],[],[],[],[],[]]:List (List Yn)),()),(160:Int),())) o119) (fun o96 =>
 some ((([[],[],[],[],[],[],[],[]]:List (List Yn)),()),(160:Int),())) o94) (fun o72 =>
 some ((([[],[],[],[],[],[],[],[]]:List (List Yn)),()),(160:Int),())) o70) (fun o49 =>
 some ((([[],[],[],[],[],[],[],[]]:List (List Yn)),()),(160:Int),())) o47) (fun o27 =>
 some ((([[],[],[],[],[],[],[],[]]:List (List Yn)),()),(160:Int),())) o25
 else
 some ((([[],[],[],[],[],[],[],[]]:List (List Yn)),()),(160:Int),())
def f14_spec:PSpec:={ args:=[yC,(.pair (.sl yR) .unit)],res:=[yC,yI],fn:=fun x=>f14 x.1 x.2.1 }
noncomputable def f14_code:Code:=Tryz.f14.body.getD .skip
noncomputable def f14_code_41:Code:=Tryz.f41.body.getD .skip
noncomputable def f14_code_49:Code:=Tryz.f49.body.getD .skip
noncomputable def f14_env:Env0:={ C:=cfgX,P:=[(19,f19_spec),(35,f35_spec),(43,f43_spec),(44,f44_spec),(50,f50_spec),(52,f52_spec),(53,f53_spec),(54,f54_spec)],L:=[(⟨11,17000,49,3⟩,f49_l3x_spec),(⟨11,19999009000,41,4⟩,f41_l4b_spec),(⟨11,19999008000,41,4⟩,f41_l4a_spec),(⟨11,19999007000,41,4⟩,f41_l4u_spec),(⟨11,19999006000,41,4⟩,f41_l4v_spec),(⟨11,19999005000,41,4⟩,f41_l4w_spec),(⟨11,19999004000,41,4⟩,f41_l4z_spec),(⟨11,19999003000,41,4⟩,f41_l4y_spec)],F:=[(14,Tryz.f14),(41,Tryz.f41),(46,Tryz.f46),(47,Tryz.f47),(48,Tryz.f48),(49,Tryz.f49),(51,Tryz.f51)],I:=[],tot:=[(49,[5]),(51,[4,7])],fuel:=10,vary:=true,sym:=true }
theorem f49_l3x_ok:LoopOK f14_env 11 49 17000 (loopAt f14_code_49 3) f49_l3x_spec :=
 loopOK_of (by kernel_rfl) f49_l3x_n (fun x o h=>⟨_,h⟩) (fun x=>by kernel_rfl) (fun n x=>by kernel_rfl)
theorem f41_l4b_ok:LoopOK f14_env 11 41 19999009000 (loopAt f14_code_41 4) f41_l4b_spec :=
 loopOK_of (by kernel_rfl) f41_l4b_n (fun x o h=>⟨_,h⟩) (fun x=>by kernel_rfl) (fun n x=>by kernel_rfl)
theorem f41_l4a_ok:LoopOK f14_env 11 41 19999008000 (loopAt f14_code_41 4) f41_l4a_spec :=
 loopOK_of (by kernel_rfl) f41_l4a_n (fun x o h=>⟨_,h⟩) (fun x=>by kernel_rfl) (fun n x=>by kernel_rfl)
theorem f41_l4u_ok:LoopOK f14_env 11 41 19999007000 (loopAt f14_code_41 4) f41_l4u_spec :=
 loopOK_of (by kernel_rfl) f41_l4u_n (fun x o h=>⟨_,h⟩) (fun x=>by kernel_rfl) (fun n x=>by kernel_rfl)
theorem f41_l4v_ok:LoopOK f14_env 11 41 19999006000 (loopAt f14_code_41 4) f41_l4v_spec :=
 loopOK_of (by kernel_rfl) f41_l4v_n (fun x o h=>⟨_,h⟩) (fun x=>by kernel_rfl) (fun n x=>by kernel_rfl)
theorem f41_l4w_ok:LoopOK f14_env 11 41 19999005000 (loopAt f14_code_41 4) f41_l4w_spec :=
 loopOK_of (by kernel_rfl) f41_l4w_n (fun x o h=>⟨_,h⟩) (fun x=>by kernel_rfl) (fun n x=>by kernel_rfl)
theorem f41_l4z_ok:LoopOK f14_env 11 41 19999004000 (loopAt f14_code_41 4) f41_l4z_spec :=
 loopOK_of (by kernel_rfl) f41_l4z_n (fun x o h=>⟨_,h⟩) (fun x=>by kernel_rfl) (fun n x=>by kernel_rfl)
theorem f41_l4y_ok:LoopOK f14_env 11 41 19999003000 (loopAt f14_code_41 4) f41_l4y_spec :=
 loopOK_of (by kernel_rfl) f41_l4y_n (fun x o h=>⟨_,h⟩) (fun x=>by kernel_rfl) (fun n x=>by kernel_rfl)
theorem f14_run (x:tysDen (f14_spec).args):runF f14_env 14 Tryz.f14 f14_code (f14_spec).args (f14_spec).res x = f14_spec.fn x:=by kernel_rfl
theorem f14_enter:Enterable Tryz.prog 14:=enter_fun Tryz.func14 (by kernel_rfl)
theorem f14_envOK:EnvOK Tryz.prog f14_env:=envOK_of cds (by kernel_rfl) cfgX_ok ⟨⟨f19_pure,f19_enter⟩,⟨f35_pure,f35_enter⟩,⟨f43_pure,f43_enter⟩,⟨f44_pure,f44_enter⟩,⟨f50_pure,f50_enter⟩,⟨f52_pure,f52_enter⟩,⟨f53_pure,f53_enter⟩,⟨f54_pure,f54_enter⟩,trivial⟩ trivial ⟨⟨Tryz.func14,by kernel_rfl⟩,⟨Tryz.func41,by kernel_rfl⟩,⟨Tryz.func46,by kernel_rfl⟩,⟨Tryz.func47,by kernel_rfl⟩,⟨Tryz.func48,by kernel_rfl⟩,⟨Tryz.func49,by kernel_rfl⟩,⟨Tryz.func51,by kernel_rfl⟩,trivial⟩ ⟨⟨Tryz.f49,f14_code_49,rfl,rfl,f49_l3x_ok⟩,⟨Tryz.f41,f14_code_41,rfl,rfl,f41_l4b_ok⟩,⟨Tryz.f41,f14_code_41,rfl,rfl,f41_l4a_ok⟩,⟨Tryz.f41,f14_code_41,rfl,rfl,f41_l4u_ok⟩,⟨Tryz.f41,f14_code_41,rfl,rfl,f41_l4v_ok⟩,⟨Tryz.f41,f14_code_41,rfl,rfl,f41_l4w_ok⟩,⟨Tryz.f41,f14_code_41,rfl,rfl,f41_l4z_ok⟩,⟨Tryz.f41,f14_code_41,rfl,rfl,f41_l4y_ok⟩,trivial⟩ trivial trivial
theorem f14_pure:PureOK Tryz.prog cfg 14 f14_spec:=pure_of_run f14_envOK (fn:=Tryz.f14) (c:=f14_code) rfl rfl f14_spec (fun x _ h=>(f14_run x).trans h)
end
end Go.V.G
namespace Go.V.G
open Go.Proofs
open Go.V.K
section
variable {R B:Type}
def optStep (P:Nat→Option (List B)) (bad:List B→R) (j:Nat) (acc:List B):List B ⊕ R :=
 match P j with
 | some x=>.inl (acc++x)
 | none=>.inr (bad acc)
theorem rounds_opt (P:Nat→Option (List B)) (good bad:List B→R):∀ (m j:Nat) (acc:List B),
  ((List.range' j m).all (fun j=>(P j).isSome) = true∧rounds (optStep P bad) good m j acc = good (acc++(List.range' j m).flatMap (fun j=>(P j).getD []))) ∨
  ((List.range' j m).all (fun j=>(P j).isSome) = false∧∃ acc',rounds (optStep P bad) good m j acc = bad acc')
 | 0,j,acc=>.inl ⟨rfl,by simp [rounds]⟩
 | m + 1,j,acc=>by
  simp only [rounds,optStep,List.range'_succ,List.all_cons,List.flatMap_cons]
  cases h:P j with
  | none=>exact .inr ⟨by simp,acc,rfl⟩
  | some x =>
   simp only [Option.isSome_some,Bool.true_and,Option.getD_some]
   rcases rounds_opt P good bad m (j + 1) (acc++x) with ⟨h1,h2⟩ | ⟨h1,h2⟩
   ·exact .inl ⟨h1,by rw [h2,List.append_assoc]⟩
   ·exact .inr ⟨h1,h2⟩
end
abbrev tK:Ty:=.arr 2 yI
def kv (r:Rl):List Int × Rl:=([r.1,r.2.1],r)
theorem key_eq (a b:Int × Int):keyEq tK [a.1,a.2] [b.1,b.2] = decide (b = a):=by
 show decide (([a.1,a.2]:List Int) = [b.1,b.2]) = _
 rw [decide_eq_decide]
 simp only [List.cons.injEq,and_true]
 constructor
 ·rintro ⟨h1,h2⟩; exact Prod.ext h1.symm h2.symm
 ·rintro rfl; exact ⟨rfl,rfl⟩
theorem map_has (k:Int × Int):∀ (d:List Rl),mapHas tK tR (d.map kv) [k.1,k.2] = (fd d k).isSome∧∀ r,fd d k = some r→mapGet tK tR (d.map kv) [k.1,k.2] = r
 | []=>⟨rfl,fun r h=>by cases h⟩
 | x :: d=>by
  have e:keyEq tK [k.1,k.2] [x.1,x.2.1] = decide (kOf x = k):=key_eq k (kOf x)
  have ih:=map_has k d
  simp only [List.map_cons,kv,mapHas,mapGet,e]
  unfold fd
  rw [List.find?_cons]
  cases hx:decide (kOf x = k) with
  | true=>exact ⟨rfl,fun r h=>by simp at h; exact h⟩
  | false=>exact ih
theorem map_set:∀ (d:List Rl) (r:Rl),(∀ x∈d,kOf x ≠ kOf r)→mapSet tK tR (d.map kv) [r.1,r.2.1] r = (d++[r]).map kv
 | [],r,_=>rfl
 | x :: d,r,h=>by
  have e:keyEq tK [r.1,r.2.1] [x.1,x.2.1] = false:=by
   have:=key_eq (kOf r) (kOf x)
   rw [zF (show ¬ kOf x = kOf r from h x (by simp))] at this
   exact this
  simp only [List.map_cons,kv,mapSet,e,cond_false,List.cons_append]
  exact congrArg _ (map_set d r fun y hy=>h y (by simp [hy]))
theorem f50_eq (r:Rl):f50 r = some ([r.1,r.2.1],()):=rfl
theorem f49_l3_eq (d:List Rl) (hd:okD d) (hl:d.length≤1000000) (b:List (List Nm)) (z:Int) (k:Nat) (hk:d.length < k) :
  f49_l3x d (d.length:Int) b z k 0 [] = some ((),((),(),(),()),(d.map kv,(b,()),(),(z,()),())):=by
 have h:=loop_rounds d.length (fun j m=>m = (d.take j).map kv) (fun j m=>(.inl ((d.take (j + 1)).map kv):List (List Int × Rl) ⊕ outDen f49_l3x_outs)) (fun m=>((),((),(),(),()),(m,(b,()),(),(z,()),()))) (f49_l3x d (d.length:Int) b z) (by
  intro k j m hj hm
  conv=>lhs; unfold f49_l3x
  by_cases e:j < d.length
  ·simp only [Int.ofNat_lt,inRN,e,decide_true,cond_true,same_self,f50_eq,Option.bind_some,wS j (by omega),if_true]
   rw [atN tR d j e,hm]
   have hset:=map_set (d.take j) d[j] (fun x hx=>by
    obtain ⟨i,hi,rfl⟩:=List.mem_iff_getElem.1 hx
    rw [List.length_take] at hi
    have h1:lt2 (kOf d[i]) (kOf d[j]):=List.pairwise_iff_getElem.1 hd.2 i j (by omega) e (by omega)
    rw [List.getElem_take]
    intro e2
    rw [e2] at h1
    exact lt2_irr _ h1)
   rw [hset,← List.take_succ_eq_append_getElem e]
  ·simp only [Int.ofNat_lt,e,decide_false,cond_false,if_false]) (fun j m m' _ _ e=>by cases e; rfl) d.length k 0 [] (by omega) (by omega) hk (by simp)
 refine h.trans ?_
 have key:∀ (n j:Nat) (m:List (List Int × Rl)),j + n = d.length→m = (d.take j).map kv→rounds (fun j m=>(.inl ((d.take (j + 1)).map kv):List (List Int × Rl) ⊕ outDen f49_l3x_outs)) (fun m=>((),((),(),(),()),(m,(b,()),(),(z,()),()))) n j m = ((),((),(),(),()),(d.map kv,(b,()),(),(z,()),())):=by
  intro n
  induction n with
  | zero =>
   intro j m h1 h2
   subst h2
   rw [List.take_of_length_le (by omega)]
   rfl
  | succ n ih =>
   intro j m h1 h2
   exact ih (j + 1) _ (by omega) rfl
 exact congrArg some (key d.length 0 [] (by omega) rfl)
def patch1 (A:Int→Int→Lb) (d:List Rl) (k i:Int):Option Lb :=
 match fd d (k,i) with
 | some r=>if A k i = bf r then some (af r) else none
 | none=>some (A k i)
def cell (i:Int) (m:Lb):List Nm:=if m.1 then [(i,m.2,())] else []
def patchR (A:Int→Int→Lb) (d:List Rl) (k:Int) (j:Nat):Option (List Nm):=(patch1 A d k j).map (cell j)
def rowFit (A:Int→Int→Lb) (d:List Rl) (k:Int):Bool:=(List.range' 0 24).all fun j=>(patchR A d k j).isSome
def rowNew (A:Int→Int→Lb) (d:List Rl) (k:Int):List Nm:=(List.range' 0 24).flatMap fun j=>(patchR A d k j).getD []
theorem fd_sm {d:List Rl} (h:smD d) {k:Int × Int} {r:Rl} (hr:fd d k = some r):smRl r:=h.2 r (fd_some hr).1
theorem row1 (a:Ct) (ha:smC a) (d:List Rl) (hs:smD d) (z:Int)  (k:Nat) (hk:24 < k) :
  (rowFit (la a) d 1 = true∧f41_l4b a.1 z (d.map kv) k 0 [] = some ((fun acc:List Nm=>((.inl ((),((),(),(),()),((a.1,()),(),(),(z,()),d.map kv,acc,()))):outDen f41_l4b_outs)) (rowNew (la a) d 1))) ∨
  (rowFit (la a) d 1 = false∧∃ acc:List Nm,f41_l4b a.1 z (d.map kv) k 0 [] = some ((.inr ((),((),(),(),()),((),(z,()),acc,()))):outDen f41_l4b_outs)):=by
 have h:=loop_rounds 24 (fun j (acc:List Nm)=>acc.length≤j) (optStep (patchR (la a) d 1) (fun acc=>((.inr ((),((),(),(),()),((),(z,()),acc,()))):outDen f41_l4b_outs))) (fun acc=>(.inl ((),((),(),(),()),((a.1,()),(),(),(z,()),d.map kv,acc,())))) (f41_l4b a.1 z (d.map kv)) (by
  intro k j acc hj hacc
  conv=>lhs; unfold f41_l4b
  by_cases e:j < 24
  ·have e1:decide ((j:Int) < 24) = true:=by simp; omega
   have e3:f43 (a.1,()) [(1:Int),(j:Int)] = some (((la a 1 j).1,((la a 1 j).2,())),()):=f43_eq a ha 1 (by decide) j
   obtain ⟨m1,m2⟩:=map_has ((1:Int),(j:Int)) d
   have i0:inR (0:Int) 2 = true:=by decide
   have i1:inR (1:Int) 2 = true:=by decide
   have i2:inR (1:Int) 8 = true:=by decide
   simp only [e1,cond_true,e3,Option.bind_some,same_self,eqGate_self,i0,i1,i2,m1]
   refine Eq.trans ?_ (if_pos e).symm
   have ea:decide (acc.length + 1≤appLim) = true:=sm_app (by omega)
   unfold optStep patchR patch1 cell
   cases hf:fd d ((1:Int),(j:Int)) with
   | none =>
    have eb:decide ((la a 1 j).2.length≤appLim) = true:=sm_app (la_sm ha _ _)
    simp only [Option.isSome_none,cond_false,Option.map_some,wS j (by omega),f54,eb,cond_true,Option.bind_some,List.length_singleton,ea]
    cases (la a 1 j).1 with
    | true=>rfl
    | false =>
     simp only [Bool.false_eq_true,if_false,cond_false,List.append_nil]
     rfl
   | some r =>
    have hr:=fd_sm hs hf
    simp only [Option.isSome_some,cond_true,m2 r hf,wS j (by omega)]
    simp only [f52,f53,Option.bind_some]
    rw [f44_mk _ _ _ _ (la_sm ha 1 j)]
    by_cases hb:la a 1 j = bf r
    ·have hb2:((la a 1 j).1,(la a 1 j).2) = (r.2.2.1,r.2.2.2.1):=hb
     have eb:decide (r.2.2.2.2.2.1.length≤appLim) = true:=sm_app hr.2
     simp only [hb2,decide_true,Option.bind_some,Bool.not_true,cond_false,f54,eb,cond_true,List.length_singleton,ea]
     rw [if_pos hb]
     show (bif r.2.2.2.2.1 then _ else _) = _
     simp only [Option.map_some,af]
     cases r.2.2.2.2.1 with
     | true=>rfl
     | false =>
      simp only [Bool.false_eq_true,if_false,cond_false,List.append_nil]
      rfl
    ·have hb2:((la a 1 j).1,(la a 1 j).2) ≠ (r.2.2.1,r.2.2.2.1):=hb
     simp only [hb2,decide_false,Option.bind_some,Bool.not_false,cond_true]
     rw [if_neg hb]
     rfl
  ·have e1:decide ((j:Int) < 24) = false:=by simp; omega
   simp only [e1,cond_false]
   exact (if_neg e).symm) (fun j acc acc' _ h1 h2=>by
    unfold optStep at h2
    cases hp:patchR (la a) d 1 j with
    | none=>simp [hp] at h2
    | some x =>
     simp only [hp,Sum.inl.injEq] at h2
     subst h2
     have:x.length≤1:=by
      unfold patchR at hp
      obtain ⟨m,_,rfl⟩:=Option.map_eq_some_iff.1 hp
      unfold cell
      split <;> simp
     rw [List.length_append]
     omega) 24 k 0 [] (by omega) (by omega) hk (by simp)
 rcases rounds_opt (patchR (la a) d 1) (fun acc=>((.inl ((),((),(),(),()),((a.1,()),(),(),(z,()),d.map kv,acc,()))):outDen f41_l4b_outs)) (fun acc=>((.inr ((),((),(),(),()),((),(z,()),acc,()))):outDen f41_l4b_outs)) 24 0 [] with ⟨h1,h2⟩ | ⟨h1,acc,h2⟩
 ·exact .inl ⟨h1,h.trans (congrArg some h2)⟩
 ·exact .inr ⟨h1,acc,h.trans (congrArg some h2)⟩
theorem row2 (a:Ct) (ha:smC a) (d:List Rl) (hs:smD d) (z:Int) (p1:List Nm) (k:Nat) (hk:24 < k) :
  (rowFit (la a) d 2 = true∧f41_l4a a.1 z (d.map kv) p1 k 0 [] = some ((fun acc:List Nm=>((.inl ((),((),(),(),()),((a.1,()),(),(),(z,()),d.map kv,p1,acc,()))):outDen f41_l4a_outs)) (rowNew (la a) d 2))) ∨
  (rowFit (la a) d 2 = false∧∃ acc:List Nm,f41_l4a a.1 z (d.map kv) p1 k 0 [] = some ((.inr ((),((),(),(),()),((),(z,()),p1,acc,()))):outDen f41_l4a_outs)):=by
 have h:=loop_rounds 24 (fun j (acc:List Nm)=>acc.length≤j) (optStep (patchR (la a) d 2) (fun acc=>((.inr ((),((),(),(),()),((),(z,()),p1,acc,()))):outDen f41_l4a_outs))) (fun acc=>(.inl ((),((),(),(),()),((a.1,()),(),(),(z,()),d.map kv,p1,acc,())))) (f41_l4a a.1 z (d.map kv) p1) (by
  intro k j acc hj hacc
  conv=>lhs; unfold f41_l4a
  by_cases e:j < 24
  ·have e1:decide ((j:Int) < 24) = true:=by simp; omega
   have e3:f43 (a.1,()) [(2:Int),(j:Int)] = some (((la a 2 j).1,((la a 2 j).2,())),()):=f43_eq a ha 2 (by decide) j
   obtain ⟨m1,m2⟩:=map_has ((2:Int),(j:Int)) d
   have i0:inR (0:Int) 2 = true:=by decide
   have i1:inR (1:Int) 2 = true:=by decide
   have i2:inR (2:Int) 8 = true:=by decide
   simp only [e1,cond_true,e3,Option.bind_some,same_self,eqGate_self,i0,i1,i2,m1]
   refine Eq.trans ?_ (if_pos e).symm
   have ea:decide (acc.length + 1≤appLim) = true:=sm_app (by omega)
   unfold optStep patchR patch1 cell
   cases hf:fd d ((2:Int),(j:Int)) with
   | none =>
    have eb:decide ((la a 2 j).2.length≤appLim) = true:=sm_app (la_sm ha _ _)
    simp only [Option.isSome_none,cond_false,Option.map_some,wS j (by omega),f54,eb,cond_true,Option.bind_some,List.length_singleton,ea]
    cases (la a 2 j).1 with
    | true=>rfl
    | false =>
     simp only [Bool.false_eq_true,if_false,cond_false,List.append_nil]
     rfl
   | some r =>
    have hr:=fd_sm hs hf
    simp only [Option.isSome_some,cond_true,m2 r hf,wS j (by omega)]
    simp only [f52,f53,Option.bind_some]
    rw [f44_mk _ _ _ _ (la_sm ha 2 j)]
    by_cases hb:la a 2 j = bf r
    ·have hb2:((la a 2 j).1,(la a 2 j).2) = (r.2.2.1,r.2.2.2.1):=hb
     have eb:decide (r.2.2.2.2.2.1.length≤appLim) = true:=sm_app hr.2
     simp only [hb2,decide_true,Option.bind_some,Bool.not_true,cond_false,f54,eb,cond_true,List.length_singleton,ea]
     rw [if_pos hb]
     show (bif r.2.2.2.2.1 then _ else _) = _
     simp only [Option.map_some,af]
     cases r.2.2.2.2.1 with
     | true=>rfl
     | false =>
      simp only [Bool.false_eq_true,if_false,cond_false,List.append_nil]
      rfl
    ·have hb2:((la a 2 j).1,(la a 2 j).2) ≠ (r.2.2.1,r.2.2.2.1):=hb
     simp only [hb2,decide_false,Option.bind_some,Bool.not_false,cond_true]
     rw [if_neg hb]
     rfl
  ·have e1:decide ((j:Int) < 24) = false:=by simp; omega
   simp only [e1,cond_false]
   exact (if_neg e).symm) (fun j acc acc' _ h1 h2=>by
    unfold optStep at h2
    cases hp:patchR (la a) d 2 j with
    | none=>simp [hp] at h2
    | some x =>
     simp only [hp,Sum.inl.injEq] at h2
     subst h2
     have:x.length≤1:=by
      unfold patchR at hp
      obtain ⟨m,_,rfl⟩:=Option.map_eq_some_iff.1 hp
      unfold cell
      split <;> simp
     rw [List.length_append]
     omega) 24 k 0 [] (by omega) (by omega) hk (by simp)
 rcases rounds_opt (patchR (la a) d 2) (fun acc=>((.inl ((),((),(),(),()),((a.1,()),(),(),(z,()),d.map kv,p1,acc,()))):outDen f41_l4a_outs)) (fun acc=>((.inr ((),((),(),(),()),((),(z,()),p1,acc,()))):outDen f41_l4a_outs)) 24 0 [] with ⟨h1,h2⟩ | ⟨h1,acc,h2⟩
 ·exact .inl ⟨h1,h.trans (congrArg some h2)⟩
 ·exact .inr ⟨h1,acc,h.trans (congrArg some h2)⟩
theorem row3 (a:Ct) (ha:smC a) (d:List Rl) (hs:smD d) (z:Int) (p1:List Nm) (p2:List Nm) (k:Nat) (hk:24 < k) :
  (rowFit (la a) d 3 = true∧f41_l4u a.1 z (d.map kv) p1 p2 k 0 [] = some ((fun acc:List Nm=>((.inl ((),((),(),(),()),((a.1,()),(),(),(z,()),d.map kv,p1,p2,acc,()))):outDen f41_l4u_outs)) (rowNew (la a) d 3))) ∨
  (rowFit (la a) d 3 = false∧∃ acc:List Nm,f41_l4u a.1 z (d.map kv) p1 p2 k 0 [] = some ((.inr ((),((),(),(),()),((),(z,()),p1,p2,acc,()))):outDen f41_l4u_outs)):=by
 have h:=loop_rounds 24 (fun j (acc:List Nm)=>acc.length≤j) (optStep (patchR (la a) d 3) (fun acc=>((.inr ((),((),(),(),()),((),(z,()),p1,p2,acc,()))):outDen f41_l4u_outs))) (fun acc=>(.inl ((),((),(),(),()),((a.1,()),(),(),(z,()),d.map kv,p1,p2,acc,())))) (f41_l4u a.1 z (d.map kv) p1 p2) (by
  intro k j acc hj hacc
  conv=>lhs; unfold f41_l4u
  by_cases e:j < 24
  ·have e1:decide ((j:Int) < 24) = true:=by simp; omega
   have e3:f43 (a.1,()) [(3:Int),(j:Int)] = some (((la a 3 j).1,((la a 3 j).2,())),()):=f43_eq a ha 3 (by decide) j
   obtain ⟨m1,m2⟩:=map_has ((3:Int),(j:Int)) d
   have i0:inR (0:Int) 2 = true:=by decide
   have i1:inR (1:Int) 2 = true:=by decide
   have i2:inR (3:Int) 8 = true:=by decide
   simp only [e1,cond_true,e3,Option.bind_some,same_self,eqGate_self,i0,i1,i2,m1]
   refine Eq.trans ?_ (if_pos e).symm
   have ea:decide (acc.length + 1≤appLim) = true:=sm_app (by omega)
   unfold optStep patchR patch1 cell
   cases hf:fd d ((3:Int),(j:Int)) with
   | none =>
    have eb:decide ((la a 3 j).2.length≤appLim) = true:=sm_app (la_sm ha _ _)
    simp only [Option.isSome_none,cond_false,Option.map_some,wS j (by omega),f54,eb,cond_true,Option.bind_some,List.length_singleton,ea]
    cases (la a 3 j).1 with
    | true=>rfl
    | false =>
     simp only [Bool.false_eq_true,if_false,cond_false,List.append_nil]
     rfl
   | some r =>
    have hr:=fd_sm hs hf
    simp only [Option.isSome_some,cond_true,m2 r hf,wS j (by omega)]
    simp only [f52,f53,Option.bind_some]
    rw [f44_mk _ _ _ _ (la_sm ha 3 j)]
    by_cases hb:la a 3 j = bf r
    ·have hb2:((la a 3 j).1,(la a 3 j).2) = (r.2.2.1,r.2.2.2.1):=hb
     have eb:decide (r.2.2.2.2.2.1.length≤appLim) = true:=sm_app hr.2
     simp only [hb2,decide_true,Option.bind_some,Bool.not_true,cond_false,f54,eb,cond_true,List.length_singleton,ea]
     rw [if_pos hb]
     show (bif r.2.2.2.2.1 then _ else _) = _
     simp only [Option.map_some,af]
     cases r.2.2.2.2.1 with
     | true=>rfl
     | false =>
      simp only [Bool.false_eq_true,if_false,cond_false,List.append_nil]
      rfl
    ·have hb2:((la a 3 j).1,(la a 3 j).2) ≠ (r.2.2.1,r.2.2.2.1):=hb
     simp only [hb2,decide_false,Option.bind_some,Bool.not_false,cond_true]
     rw [if_neg hb]
     rfl
  ·have e1:decide ((j:Int) < 24) = false:=by simp; omega
   simp only [e1,cond_false]
   exact (if_neg e).symm) (fun j acc acc' _ h1 h2=>by
    unfold optStep at h2
    cases hp:patchR (la a) d 3 j with
    | none=>simp [hp] at h2
    | some x =>
     simp only [hp,Sum.inl.injEq] at h2
     subst h2
     have:x.length≤1:=by
      unfold patchR at hp
      obtain ⟨m,_,rfl⟩:=Option.map_eq_some_iff.1 hp
      unfold cell
      split <;> simp
     rw [List.length_append]
     omega) 24 k 0 [] (by omega) (by omega) hk (by simp)
 rcases rounds_opt (patchR (la a) d 3) (fun acc=>((.inl ((),((),(),(),()),((a.1,()),(),(),(z,()),d.map kv,p1,p2,acc,()))):outDen f41_l4u_outs)) (fun acc=>((.inr ((),((),(),(),()),((),(z,()),p1,p2,acc,()))):outDen f41_l4u_outs)) 24 0 [] with ⟨h1,h2⟩ | ⟨h1,acc,h2⟩
 ·exact .inl ⟨h1,h.trans (congrArg some h2)⟩
 ·exact .inr ⟨h1,acc,h.trans (congrArg some h2)⟩
theorem row4 (a:Ct) (ha:smC a) (d:List Rl) (hs:smD d) (z:Int) (p1:List Nm) (p2:List Nm) (p3:List Nm) (k:Nat) (hk:24 < k) :
  (rowFit (la a) d 4 = true∧f41_l4v a.1 z (d.map kv) p1 p2 p3 k 0 [] = some ((fun acc:List Nm=>((.inl ((),((),(),(),()),((a.1,()),(),(),(z,()),d.map kv,p1,p2,p3,acc,()))):outDen f41_l4v_outs)) (rowNew (la a) d 4))) ∨
  (rowFit (la a) d 4 = false∧∃ acc:List Nm,f41_l4v a.1 z (d.map kv) p1 p2 p3 k 0 [] = some ((.inr ((),((),(),(),()),((),(z,()),p1,p2,p3,acc,()))):outDen f41_l4v_outs)):=by
 have h:=loop_rounds 24 (fun j (acc:List Nm)=>acc.length≤j) (optStep (patchR (la a) d 4) (fun acc=>((.inr ((),((),(),(),()),((),(z,()),p1,p2,p3,acc,()))):outDen f41_l4v_outs))) (fun acc=>(.inl ((),((),(),(),()),((a.1,()),(),(),(z,()),d.map kv,p1,p2,p3,acc,())))) (f41_l4v a.1 z (d.map kv) p1 p2 p3) (by
  intro k j acc hj hacc
  conv=>lhs; unfold f41_l4v
  by_cases e:j < 24
  ·have e1:decide ((j:Int) < 24) = true:=by simp; omega
   have e3:f43 (a.1,()) [(4:Int),(j:Int)] = some (((la a 4 j).1,((la a 4 j).2,())),()):=f43_eq a ha 4 (by decide) j
   obtain ⟨m1,m2⟩:=map_has ((4:Int),(j:Int)) d
   have i0:inR (0:Int) 2 = true:=by decide
   have i1:inR (1:Int) 2 = true:=by decide
   have i2:inR (4:Int) 8 = true:=by decide
   simp only [e1,cond_true,e3,Option.bind_some,same_self,eqGate_self,i0,i1,i2,m1]
   refine Eq.trans ?_ (if_pos e).symm
   have ea:decide (acc.length + 1≤appLim) = true:=sm_app (by omega)
   unfold optStep patchR patch1 cell
   cases hf:fd d ((4:Int),(j:Int)) with
   | none =>
    have eb:decide ((la a 4 j).2.length≤appLim) = true:=sm_app (la_sm ha _ _)
    simp only [Option.isSome_none,cond_false,Option.map_some,wS j (by omega),f54,eb,cond_true,Option.bind_some,List.length_singleton,ea]
    cases (la a 4 j).1 with
    | true=>rfl
    | false =>
     simp only [Bool.false_eq_true,if_false,cond_false,List.append_nil]
     rfl
   | some r =>
    have hr:=fd_sm hs hf
    simp only [Option.isSome_some,cond_true,m2 r hf,wS j (by omega)]
    simp only [f52,f53,Option.bind_some]
    rw [f44_mk _ _ _ _ (la_sm ha 4 j)]
    by_cases hb:la a 4 j = bf r
    ·have hb2:((la a 4 j).1,(la a 4 j).2) = (r.2.2.1,r.2.2.2.1):=hb
     have eb:decide (r.2.2.2.2.2.1.length≤appLim) = true:=sm_app hr.2
     simp only [hb2,decide_true,Option.bind_some,Bool.not_true,cond_false,f54,eb,cond_true,List.length_singleton,ea]
     rw [if_pos hb]
     show (bif r.2.2.2.2.1 then _ else _) = _
     simp only [Option.map_some,af]
     cases r.2.2.2.2.1 with
     | true=>rfl
     | false =>
      simp only [Bool.false_eq_true,if_false,cond_false,List.append_nil]
      rfl
    ·have hb2:((la a 4 j).1,(la a 4 j).2) ≠ (r.2.2.1,r.2.2.2.1):=hb
     simp only [hb2,decide_false,Option.bind_some,Bool.not_false,cond_true]
     rw [if_neg hb]
     rfl
  ·have e1:decide ((j:Int) < 24) = false:=by simp; omega
   simp only [e1,cond_false]
   exact (if_neg e).symm) (fun j acc acc' _ h1 h2=>by
    unfold optStep at h2
    cases hp:patchR (la a) d 4 j with
    | none=>simp [hp] at h2
    | some x =>
     simp only [hp,Sum.inl.injEq] at h2
     subst h2
     have:x.length≤1:=by
      unfold patchR at hp
      obtain ⟨m,_,rfl⟩:=Option.map_eq_some_iff.1 hp
      unfold cell
      split <;> simp
     rw [List.length_append]
     omega) 24 k 0 [] (by omega) (by omega) hk (by simp)
 rcases rounds_opt (patchR (la a) d 4) (fun acc=>((.inl ((),((),(),(),()),((a.1,()),(),(),(z,()),d.map kv,p1,p2,p3,acc,()))):outDen f41_l4v_outs)) (fun acc=>((.inr ((),((),(),(),()),((),(z,()),p1,p2,p3,acc,()))):outDen f41_l4v_outs)) 24 0 [] with ⟨h1,h2⟩ | ⟨h1,acc,h2⟩
 ·exact .inl ⟨h1,h.trans (congrArg some h2)⟩
 ·exact .inr ⟨h1,acc,h.trans (congrArg some h2)⟩
theorem row5 (a:Ct) (ha:smC a) (d:List Rl) (hs:smD d) (z:Int) (p1:List Nm) (p2:List Nm) (p3:List Nm) (p4:List Nm) (k:Nat) (hk:24 < k) :
  (rowFit (la a) d 5 = true∧f41_l4w a.1 z (d.map kv) p1 p2 p3 p4 k 0 [] = some ((fun acc:List Nm=>((.inl ((),((),(),(),()),((a.1,()),(),(),(z,()),d.map kv,p1,p2,p3,p4,acc,()))):outDen f41_l4w_outs)) (rowNew (la a) d 5))) ∨
  (rowFit (la a) d 5 = false∧∃ acc:List Nm,f41_l4w a.1 z (d.map kv) p1 p2 p3 p4 k 0 [] = some ((.inr ((),((),(),(),()),((),(z,()),p1,p2,p3,p4,acc,()))):outDen f41_l4w_outs)):=by
 have h:=loop_rounds 24 (fun j (acc:List Nm)=>acc.length≤j) (optStep (patchR (la a) d 5) (fun acc=>((.inr ((),((),(),(),()),((),(z,()),p1,p2,p3,p4,acc,()))):outDen f41_l4w_outs))) (fun acc=>(.inl ((),((),(),(),()),((a.1,()),(),(),(z,()),d.map kv,p1,p2,p3,p4,acc,())))) (f41_l4w a.1 z (d.map kv) p1 p2 p3 p4) (by
  intro k j acc hj hacc
  conv=>lhs; unfold f41_l4w
  by_cases e:j < 24
  ·have e1:decide ((j:Int) < 24) = true:=by simp; omega
   have e3:f43 (a.1,()) [(5:Int),(j:Int)] = some (((la a 5 j).1,((la a 5 j).2,())),()):=f43_eq a ha 5 (by decide) j
   obtain ⟨m1,m2⟩:=map_has ((5:Int),(j:Int)) d
   have i0:inR (0:Int) 2 = true:=by decide
   have i1:inR (1:Int) 2 = true:=by decide
   have i2:inR (5:Int) 8 = true:=by decide
   simp only [e1,cond_true,e3,Option.bind_some,same_self,eqGate_self,i0,i1,i2,m1]
   refine Eq.trans ?_ (if_pos e).symm
   have ea:decide (acc.length + 1≤appLim) = true:=sm_app (by omega)
   unfold optStep patchR patch1 cell
   cases hf:fd d ((5:Int),(j:Int)) with
   | none =>
    have eb:decide ((la a 5 j).2.length≤appLim) = true:=sm_app (la_sm ha _ _)
    simp only [Option.isSome_none,cond_false,Option.map_some,wS j (by omega),f54,eb,cond_true,Option.bind_some,List.length_singleton,ea]
    cases (la a 5 j).1 with
    | true=>rfl
    | false =>
     simp only [Bool.false_eq_true,if_false,cond_false,List.append_nil]
     rfl
   | some r =>
    have hr:=fd_sm hs hf
    simp only [Option.isSome_some,cond_true,m2 r hf,wS j (by omega)]
    simp only [f52,f53,Option.bind_some]
    rw [f44_mk _ _ _ _ (la_sm ha 5 j)]
    by_cases hb:la a 5 j = bf r
    ·have hb2:((la a 5 j).1,(la a 5 j).2) = (r.2.2.1,r.2.2.2.1):=hb
     have eb:decide (r.2.2.2.2.2.1.length≤appLim) = true:=sm_app hr.2
     simp only [hb2,decide_true,Option.bind_some,Bool.not_true,cond_false,f54,eb,cond_true,List.length_singleton,ea]
     rw [if_pos hb]
     show (bif r.2.2.2.2.1 then _ else _) = _
     simp only [Option.map_some,af]
     cases r.2.2.2.2.1 with
     | true=>rfl
     | false =>
      simp only [Bool.false_eq_true,if_false,cond_false,List.append_nil]
      rfl
    ·have hb2:((la a 5 j).1,(la a 5 j).2) ≠ (r.2.2.1,r.2.2.2.1):=hb
     simp only [hb2,decide_false,Option.bind_some,Bool.not_false,cond_true]
     rw [if_neg hb]
     rfl
  ·have e1:decide ((j:Int) < 24) = false:=by simp; omega
   simp only [e1,cond_false]
   exact (if_neg e).symm) (fun j acc acc' _ h1 h2=>by
    unfold optStep at h2
    cases hp:patchR (la a) d 5 j with
    | none=>simp [hp] at h2
    | some x =>
     simp only [hp,Sum.inl.injEq] at h2
     subst h2
     have:x.length≤1:=by
      unfold patchR at hp
      obtain ⟨m,_,rfl⟩:=Option.map_eq_some_iff.1 hp
      unfold cell
      split <;> simp
     rw [List.length_append]
     omega) 24 k 0 [] (by omega) (by omega) hk (by simp)
 rcases rounds_opt (patchR (la a) d 5) (fun acc=>((.inl ((),((),(),(),()),((a.1,()),(),(),(z,()),d.map kv,p1,p2,p3,p4,acc,()))):outDen f41_l4w_outs)) (fun acc=>((.inr ((),((),(),(),()),((),(z,()),p1,p2,p3,p4,acc,()))):outDen f41_l4w_outs)) 24 0 [] with ⟨h1,h2⟩ | ⟨h1,acc,h2⟩
 ·exact .inl ⟨h1,h.trans (congrArg some h2)⟩
 ·exact .inr ⟨h1,acc,h.trans (congrArg some h2)⟩
theorem row6 (a:Ct) (ha:smC a) (d:List Rl) (hs:smD d) (z:Int) (p1:List Nm) (p2:List Nm) (p3:List Nm) (p4:List Nm) (p5:List Nm) (k:Nat) (hk:24 < k) :
  (rowFit (la a) d 6 = true∧f41_l4z a.1 z (d.map kv) p1 p2 p3 p4 p5 k 0 [] = some ((fun acc:List Nm=>((.inl ((),((),(),(),()),((a.1,()),(),(),(z,()),d.map kv,p1,p2,p3,p4,p5,acc,()))):outDen f41_l4z_outs)) (rowNew (la a) d 6))) ∨
  (rowFit (la a) d 6 = false∧∃ acc:List Nm,f41_l4z a.1 z (d.map kv) p1 p2 p3 p4 p5 k 0 [] = some ((.inr ((),((),(),(),()),((),(z,()),p1,p2,p3,p4,p5,acc,()))):outDen f41_l4z_outs)):=by
 have h:=loop_rounds 24 (fun j (acc:List Nm)=>acc.length≤j) (optStep (patchR (la a) d 6) (fun acc=>((.inr ((),((),(),(),()),((),(z,()),p1,p2,p3,p4,p5,acc,()))):outDen f41_l4z_outs))) (fun acc=>(.inl ((),((),(),(),()),((a.1,()),(),(),(z,()),d.map kv,p1,p2,p3,p4,p5,acc,())))) (f41_l4z a.1 z (d.map kv) p1 p2 p3 p4 p5) (by
  intro k j acc hj hacc
  conv=>lhs; unfold f41_l4z
  by_cases e:j < 24
  ·have e1:decide ((j:Int) < 24) = true:=by simp; omega
   have e3:f43 (a.1,()) [(6:Int),(j:Int)] = some (((la a 6 j).1,((la a 6 j).2,())),()):=f43_eq a ha 6 (by decide) j
   obtain ⟨m1,m2⟩:=map_has ((6:Int),(j:Int)) d
   have i0:inR (0:Int) 2 = true:=by decide
   have i1:inR (1:Int) 2 = true:=by decide
   have i2:inR (6:Int) 8 = true:=by decide
   simp only [e1,cond_true,e3,Option.bind_some,same_self,eqGate_self,i0,i1,i2,m1]
   refine Eq.trans ?_ (if_pos e).symm
   have ea:decide (acc.length + 1≤appLim) = true:=sm_app (by omega)
   unfold optStep patchR patch1 cell
   cases hf:fd d ((6:Int),(j:Int)) with
   | none =>
    have eb:decide ((la a 6 j).2.length≤appLim) = true:=sm_app (la_sm ha _ _)
    simp only [Option.isSome_none,cond_false,Option.map_some,wS j (by omega),f54,eb,cond_true,Option.bind_some,List.length_singleton,ea]
    cases (la a 6 j).1 with
    | true=>rfl
    | false =>
     simp only [Bool.false_eq_true,if_false,cond_false,List.append_nil]
     rfl
   | some r =>
    have hr:=fd_sm hs hf
    simp only [Option.isSome_some,cond_true,m2 r hf,wS j (by omega)]
    simp only [f52,f53,Option.bind_some]
    rw [f44_mk _ _ _ _ (la_sm ha 6 j)]
    by_cases hb:la a 6 j = bf r
    ·have hb2:((la a 6 j).1,(la a 6 j).2) = (r.2.2.1,r.2.2.2.1):=hb
     have eb:decide (r.2.2.2.2.2.1.length≤appLim) = true:=sm_app hr.2
     simp only [hb2,decide_true,Option.bind_some,Bool.not_true,cond_false,f54,eb,cond_true,List.length_singleton,ea]
     rw [if_pos hb]
     show (bif r.2.2.2.2.1 then _ else _) = _
     simp only [Option.map_some,af]
     cases r.2.2.2.2.1 with
     | true=>rfl
     | false =>
      simp only [Bool.false_eq_true,if_false,cond_false,List.append_nil]
      rfl
    ·have hb2:((la a 6 j).1,(la a 6 j).2) ≠ (r.2.2.1,r.2.2.2.1):=hb
     simp only [hb2,decide_false,Option.bind_some,Bool.not_false,cond_true]
     rw [if_neg hb]
     rfl
  ·have e1:decide ((j:Int) < 24) = false:=by simp; omega
   simp only [e1,cond_false]
   exact (if_neg e).symm) (fun j acc acc' _ h1 h2=>by
    unfold optStep at h2
    cases hp:patchR (la a) d 6 j with
    | none=>simp [hp] at h2
    | some x =>
     simp only [hp,Sum.inl.injEq] at h2
     subst h2
     have:x.length≤1:=by
      unfold patchR at hp
      obtain ⟨m,_,rfl⟩:=Option.map_eq_some_iff.1 hp
      unfold cell
      split <;> simp
     rw [List.length_append]
     omega) 24 k 0 [] (by omega) (by omega) hk (by simp)
 rcases rounds_opt (patchR (la a) d 6) (fun acc=>((.inl ((),((),(),(),()),((a.1,()),(),(),(z,()),d.map kv,p1,p2,p3,p4,p5,acc,()))):outDen f41_l4z_outs)) (fun acc=>((.inr ((),((),(),(),()),((),(z,()),p1,p2,p3,p4,p5,acc,()))):outDen f41_l4z_outs)) 24 0 [] with ⟨h1,h2⟩ | ⟨h1,acc,h2⟩
 ·exact .inl ⟨h1,h.trans (congrArg some h2)⟩
 ·exact .inr ⟨h1,acc,h.trans (congrArg some h2)⟩
theorem row7 (a:Ct) (ha:smC a) (d:List Rl) (hs:smD d) (z:Int) (p1:List Nm) (p2:List Nm) (p3:List Nm) (p4:List Nm) (p5:List Nm) (p6:List Nm) (k:Nat) (hk:24 < k) :
  (rowFit (la a) d 7 = true∧f41_l4y a.1 z (d.map kv) p1 p2 p3 p4 p5 p6 k 0 [] = some ((fun acc:List Nm=>((.inl ((),((),(),(),()),((a.1,()),(),(),(z,()),d.map kv,p1,p2,p3,p4,p5,p6,acc,()))):outDen f41_l4y_outs)) (rowNew (la a) d 7))) ∨
  (rowFit (la a) d 7 = false∧∃ acc:List Nm,f41_l4y a.1 z (d.map kv) p1 p2 p3 p4 p5 p6 k 0 [] = some ((.inr ((),((),(),(),()),((),(z,()),p1,p2,p3,p4,p5,p6,acc,()))):outDen f41_l4y_outs)):=by
 have h:=loop_rounds 24 (fun j (acc:List Nm)=>acc.length≤j) (optStep (patchR (la a) d 7) (fun acc=>((.inr ((),((),(),(),()),((),(z,()),p1,p2,p3,p4,p5,p6,acc,()))):outDen f41_l4y_outs))) (fun acc=>(.inl ((),((),(),(),()),((a.1,()),(),(),(z,()),d.map kv,p1,p2,p3,p4,p5,p6,acc,())))) (f41_l4y a.1 z (d.map kv) p1 p2 p3 p4 p5 p6) (by
  intro k j acc hj hacc
  conv=>lhs; unfold f41_l4y
  by_cases e:j < 24
  ·have e1:decide ((j:Int) < 24) = true:=by simp; omega
   have e3:f43 (a.1,()) [(7:Int),(j:Int)] = some (((la a 7 j).1,((la a 7 j).2,())),()):=f43_eq a ha 7 (by decide) j
   obtain ⟨m1,m2⟩:=map_has ((7:Int),(j:Int)) d
   have i0:inR (0:Int) 2 = true:=by decide
   have i1:inR (1:Int) 2 = true:=by decide
   have i2:inR (7:Int) 8 = true:=by decide
   simp only [e1,cond_true,e3,Option.bind_some,same_self,eqGate_self,i0,i1,i2,m1]
   refine Eq.trans ?_ (if_pos e).symm
   have ea:decide (acc.length + 1≤appLim) = true:=sm_app (by omega)
   unfold optStep patchR patch1 cell
   cases hf:fd d ((7:Int),(j:Int)) with
   | none =>
    have eb:decide ((la a 7 j).2.length≤appLim) = true:=sm_app (la_sm ha _ _)
    simp only [Option.isSome_none,cond_false,Option.map_some,wS j (by omega),f54,eb,cond_true,Option.bind_some,List.length_singleton,ea]
    cases (la a 7 j).1 with
    | true=>rfl
    | false =>
     simp only [Bool.false_eq_true,if_false,cond_false,List.append_nil]
     rfl
   | some r =>
    have hr:=fd_sm hs hf
    simp only [Option.isSome_some,cond_true,m2 r hf,wS j (by omega)]
    simp only [f52,f53,Option.bind_some]
    rw [f44_mk _ _ _ _ (la_sm ha 7 j)]
    by_cases hb:la a 7 j = bf r
    ·have hb2:((la a 7 j).1,(la a 7 j).2) = (r.2.2.1,r.2.2.2.1):=hb
     have eb:decide (r.2.2.2.2.2.1.length≤appLim) = true:=sm_app hr.2
     simp only [hb2,decide_true,Option.bind_some,Bool.not_true,cond_false,f54,eb,cond_true,List.length_singleton,ea]
     rw [if_pos hb]
     show (bif r.2.2.2.2.1 then _ else _) = _
     simp only [Option.map_some,af]
     cases r.2.2.2.2.1 with
     | true=>rfl
     | false =>
      simp only [Bool.false_eq_true,if_false,cond_false,List.append_nil]
      rfl
    ·have hb2:((la a 7 j).1,(la a 7 j).2) ≠ (r.2.2.1,r.2.2.2.1):=hb
     simp only [hb2,decide_false,Option.bind_some,Bool.not_false,cond_true]
     rw [if_neg hb]
     rfl
  ·have e1:decide ((j:Int) < 24) = false:=by simp; omega
   simp only [e1,cond_false]
   exact (if_neg e).symm) (fun j acc acc' _ h1 h2=>by
    unfold optStep at h2
    cases hp:patchR (la a) d 7 j with
    | none=>simp [hp] at h2
    | some x =>
     simp only [hp,Sum.inl.injEq] at h2
     subst h2
     have:x.length≤1:=by
      unfold patchR at hp
      obtain ⟨m,_,rfl⟩:=Option.map_eq_some_iff.1 hp
      unfold cell
      split <;> simp
     rw [List.length_append]
     omega) 24 k 0 [] (by omega) (by omega) hk (by simp)
 rcases rounds_opt (patchR (la a) d 7) (fun acc=>((.inl ((),((),(),(),()),((a.1,()),(),(),(z,()),d.map kv,p1,p2,p3,p4,p5,p6,acc,()))):outDen f41_l4y_outs)) (fun acc=>((.inr ((),((),(),(),()),((),(z,()),p1,p2,p3,p4,p5,p6,acc,()))):outDen f41_l4y_outs)) 24 0 [] with ⟨h1,h2⟩ | ⟨h1,acc,h2⟩
 ·exact .inl ⟨h1,h.trans (congrArg some h2)⟩
 ·exact .inr ⟨h1,acc,h.trans (congrArg some h2)⟩
theorem patch_fit {a:Ct} (ha:okC a) {d:List Rl} (hd:okD d):(kinds.all fun k=>rowFit (la a) d k) = true ↔ fits (la a) d:=by
 rw [List.all_eq_true]
 constructor
 ·intro h r hr
  have hk:=(hd.1 r hr).1
  have h1:=mem_keys.1 hk
  have h2:=h _ (mem_kinds.2 h1.1)
  unfold rowFit at h2
  rw [List.all_eq_true] at h2
  have hi:(kOf r).2.toNat∈List.range' 0 24:=by
   rw [List.mem_range'_1]
   have:=h1.2
   omega
  have h3:=h2 _ hi
  have e:(((kOf r).2.toNat:Nat):Int) = (kOf r).2:=by have:=h1.2; omega
  unfold patchR patch1 at h3
  rw [e,show (((kOf r).1,(kOf r).2):Int × Int) = kOf r from rfl,fd_mem hd.2 hr] at h3
  simp only at h3
  split at h3
  ·rename_i h4; exact h4
  ·simp at h3
 ·intro h k _
  unfold rowFit
  rw [List.all_eq_true]
  intro j _
  unfold patchR patch1
  cases e:fd d (k,(j:Int)) with
  | none=>rfl
  | some r =>
   obtain ⟨h1,h2⟩:=fd_some e
   have h3:=h r h1
   have h4:la a k j = bf r:=by
    have q1:r.1 = k:=congrArg Prod.fst h2
    have q2:r.2.1 = (j:Int):=congrArg Prod.snd h2
    rw [← q1,← q2]
    exact h3
   simp [h4]
theorem rowNew_eq {a:Ct} {d:List Rl} {k:Int} (h:rowFit (la a) d k = true):rowNew (la a) d k = mkRow (aft (la a) d k):=by
 unfold rowNew mkRow
 rw [← ids_fm (fun i=>if (aft (la a) d k i).1 then some (i,(aft (la a) d k i).2,()) else none)]
 have h1:=List.all_eq_true.1 h
 have:∀ (l:List Nat),(∀ j∈l,(patchR (la a) d k j).isSome = true)→l.flatMap (fun j=>(patchR (la a) d k j).getD []) = l.flatMap (fun j:Nat=>(if (aft (la a) d k (j:Int)).1 then some ((j:Int),(aft (la a) d k (j:Int)).2,()) else none:Option Nm).toList):=by
  intro l
  induction l with
  | nil=>intro _; rfl
  | cons j l ih =>
   intro hl
   rw [List.flatMap_cons,List.flatMap_cons,ih fun x hx=>hl x (by simp [hx])]
   congr 1
   have hj:=hl j (by simp)
   unfold patchR patch1 aft at *
   cases e:fd d (k,(j:Int)) with
   | none =>
    simp only [Option.map_some,Option.getD_some,cell]
    split <;> rfl
   | some r =>
    rw [e] at hj
    simp only at hj ⊢
    split at hj
    ·rename_i hb
     rw [if_pos hb]
     simp only [Option.map_some,Option.getD_some,cell]
     split <;> rfl
    ·simp at hj
 exact this _ (fun j hj=>h1 j hj)
theorem f14_eq (a:Ct) (ha:smC a) (d:List Rl) (hd:smD d) (h19:f19 (d,()) = some (validD d,())) (z0:(validD d = true→okD d)) :
  f14 a (d,()) = if validC a && validD d && kinds.all (fun k=>rowFit (la a) d k) then some ((([] :: kinds.map (fun k=>rowNew (la a) d k):List (List Nm)),()),(0:Int),()) else some ((([[],[],[],[],[],[],[],[]]:List (List Nm)),()),(160:Int),()):=by
 have hk:kinds.all (fun k=>rowFit (la a) d k) = (rowFit (la a) d 1 && (rowFit (la a) d 2 && (rowFit (la a) d 3 && (rowFit (la a) d 4 && (rowFit (la a) d 5 && (rowFit (la a) d 6 && (rowFit (la a) d 7 && true))))))):=rfl
 rw [hk]
 unfold f14
 refine bind_step (f35_eq a ha) ?_
 cases h1:validC a with
 | false=>rfl
 | true =>
 simp only [cond_true,Bool.true_and]
 refine bind_step h19 ?_
 cases h2:validD d with
 | false=>rfl
 | true =>
 simp only [Bool.not_true,cond_false,Bool.true_and]
 refine bind_step (f49_l3_eq d (z0 h2) hd.1 a.1 0 _ (by omega)) ?_
 rcases row1 a ha d hd 0  (((24:Int) - 0).toNat + 1) (by decide) with ⟨e1,g1⟩ | ⟨e1,acc1,g1⟩
 case inr =>
  refine bind_step g1 ?_
  simp only [e1,Bool.true_and,Bool.false_and]
  rfl
 refine bind_step g1 ?_
 rcases row2 a ha d hd 0 (rowNew (la a) d 1) (((24:Int) - 0).toNat + 1) (by decide) with ⟨e2,g2⟩ | ⟨e2,acc2,g2⟩
 case inr =>
  refine bind_step g2 ?_
  simp only [e1,e2,Bool.true_and,Bool.false_and]
  rfl
 refine bind_step g2 ?_
 rcases row3 a ha d hd 0 (rowNew (la a) d 1) (rowNew (la a) d 2) (((24:Int) - 0).toNat + 1) (by decide) with ⟨e3,g3⟩ | ⟨e3,acc3,g3⟩
 case inr =>
  refine bind_step g3 ?_
  simp only [e1,e2,e3,Bool.true_and,Bool.false_and]
  rfl
 refine bind_step g3 ?_
 rcases row4 a ha d hd 0 (rowNew (la a) d 1) (rowNew (la a) d 2) (rowNew (la a) d 3) (((24:Int) - 0).toNat + 1) (by decide) with ⟨e4,g4⟩ | ⟨e4,acc4,g4⟩
 case inr =>
  refine bind_step g4 ?_
  simp only [e1,e2,e3,e4,Bool.true_and,Bool.false_and]
  rfl
 refine bind_step g4 ?_
 rcases row5 a ha d hd 0 (rowNew (la a) d 1) (rowNew (la a) d 2) (rowNew (la a) d 3) (rowNew (la a) d 4) (((24:Int) - 0).toNat + 1) (by decide) with ⟨e5,g5⟩ | ⟨e5,acc5,g5⟩
 case inr =>
  refine bind_step g5 ?_
  simp only [e1,e2,e3,e4,e5,Bool.true_and,Bool.false_and]
  rfl
 refine bind_step g5 ?_
 rcases row6 a ha d hd 0 (rowNew (la a) d 1) (rowNew (la a) d 2) (rowNew (la a) d 3) (rowNew (la a) d 4) (rowNew (la a) d 5) (((24:Int) - 0).toNat + 1) (by decide) with ⟨e6,g6⟩ | ⟨e6,acc6,g6⟩
 case inr =>
  refine bind_step g6 ?_
  simp only [e1,e2,e3,e4,e5,e6,Bool.true_and,Bool.false_and]
  rfl
 refine bind_step g6 ?_
 rcases row7 a ha d hd 0 (rowNew (la a) d 1) (rowNew (la a) d 2) (rowNew (la a) d 3) (rowNew (la a) d 4) (rowNew (la a) d 5) (rowNew (la a) d 6) (((24:Int) - 0).toNat + 1) (by decide) with ⟨e7,g7⟩ | ⟨e7,acc7,g7⟩
 case inr =>
  refine bind_step g7 ?_
  simp only [e1,e2,e3,e4,e5,e6,e7,Bool.true_and,Bool.false_and]
  rfl
 refine bind_step g7 ?_
 simp only [e1,e2,e3,e4,e5,e6,e7,Bool.true_and]
 rfl
end Go.V.G
