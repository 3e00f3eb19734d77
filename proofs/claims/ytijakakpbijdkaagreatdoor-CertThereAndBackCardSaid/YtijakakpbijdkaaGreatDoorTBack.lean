/- Part of the proof. -/
import Derived.KernelRfl
import Derived.Test.YtijakakpbijdkaaGreatDoorA12
set_option linter.all false
set_option linter.unusedVariables false
set_option linter.unusedSectionVars false
set_option linter.unusedSimpArgs false
namespace Go.V.G
open Go.Proofs
noncomputable section
def f4_l14_head:Ann:={ env:=[(7,cP 7),(106,.ty (.sl (.pair (.sl yR) .unit))),(107,YI),(108,YI)],bxs:=[(7,.var [.ty (.arr 8 (.sl yN))])] }
def f4_l14_outs:List (Ex × Ann):=[((.exit 0),{ env:=[] }),(.ret,{ env:=[(6,.ty .bool)] })]
def f4_l14 (t106:(List ((List Yr) × Unit))) (t107:Int) (b7g0:(List (List Yn))):Nat→Int→Option (outDen f4_l14_outs)
 | 0,_=>none
 | k + 1,t108 =>
 bif (decide (t108 < t107)) then
 bif (inR t108 t106.length) then
 (f14 (b7g0,()) (at_ (.pair (.sl yR) .unit) t106 t108)).bind fun y15 =>
 bif (decide (y15.2.1 ≠ (0:Int))) then
 f4_l14 t106 t107 b7g0 k (IntKind.wrap .i64 (t108 + 1))
 else
 (f12 (b7g0,()) y15.1).bind fun y16 =>
 bif (decide (y16.2.1 ≠ (0:Int))) then
 some (.inr ((false,()),(),()))
 else
 (f13 y16.1 (at_ (.pair (.sl yR) .unit) t106 t108)).bind fun y17 =>
 bif (!y17.1) then
 some (.inr ((false,()),(),()))
 else
 f4_l14 t106 t107 b7g0 k (IntKind.wrap .i64 (t108 + 1))
 else none
 else
 some (.inl ((),(),()))
def f4_l14_n (n:Nat) (x:f4_l14_head.den):=f4_l14 x.1.1 x.1.2.1 x.2.2.1.1 n x.1.2.2.1
def f4_l14_spec:LSpec:={ head:=f4_l14_head,outs:=f4_l14_outs,fn:=fun x=>f4_l14_n ((x.1.2.1 - x.1.2.2.1).toNat + 1) x }
def f4 (a0:(List (List Int))) (a1:(List (List Int))) (a2:((List Yr) × Unit)):Option (Bool × Unit) :=
 (f7 ).bind fun y1 =>
 bif (!y1.1) then
 some (false,())
 else
 (f8 a0).bind fun y2 =>
 (f8 a1).bind fun y3 =>
 (f12 y2.1 y3.1).bind fun y4 =>
 (f12 y3.1 y2.1).bind fun y5 =>
 (f17 y4.1).bind fun y6 =>
 (f14 y2.1 y4.1).bind fun y7 =>
 (f12 y2.1 y2.1).bind fun y8 =>
 bif (decide (y4.2.1 ≠ (0:Int))) then
 some (false,())
 else
 bif (decide (y5.2.1 ≠ (0:Int))) then
 some (false,())
 else
 bif (decide (y6.2.1 ≠ (0:Int))) then
 some (false,())
 else
 bif (decide (y7.2.1 ≠ (0:Int))) then
 some (false,())
 else
 bif (decide (y8.2.1 ≠ (0:Int))) then
 some (false,())
 else
 (f19 y4.1).bind fun y9 =>
 bif (!y9.1) then
 some (false,())
 else
 (f16 y7.1 y3.1).bind fun y10 =>
 bif (!y10.1) then
 some (false,())
 else
 let v11:Bool:=(decide ((y8.1.1.length:Int) > (0:Int)))
 bif v11 then
 some (false,())
 else
 (f13 y5.1 y6.1).bind fun y12 =>
 bif (!y12.1) then
 some (false,())
 else
 (f10 a2).bind fun y13 =>
 let v14:Int:=(([y13.1,y6.1]:List ((List Yr) × Unit)).length:Int)
 (f4_l14 ([y13.1,y6.1]:List ((List Yr) × Unit)) v14 y2.1.1 ((v14 - (0:Int)).toNat + 1) (0:Int)).bind fun o18 =>
 Sum.elim (fun o19 =>
 some (true,())) (fun o20 =>
 let u21:Bool:=o20.1.1
 some (u21,())) o18
def f4_spec:PSpec:={ args:=[(.sl (.arr 4 yI)),(.sl (.arr 4 yI)),(.pair (.sl yR) .unit)],res:=[.bool],fn:=fun x=>f4 x.1 x.2.1 x.2.2.1 }
noncomputable def f4_code:Code:=Tryz.f4.body.getD .skip
noncomputable def f4_env:Env0:={ C:=cfgF,P:=[(7,f7_spec),(8,f8_spec),(10,f10_spec),(12,f12_spec),(13,f13_spec),(14,f14_spec),(16,f16_spec),(17,f17_spec),(19,f19_spec)],L:=[(⟨12,0,4,14⟩,f4_l14_spec)],F:=[(4,Tryz.f4)] }
theorem f4_l14_ok:LoopOK f4_env 12 4 0 (loopAt f4_code 14) f4_l14_spec :=
 loopOK_of (by kernel_rfl) f4_l14_n (fun x o h=>⟨_,h⟩) (fun x=>by kernel_rfl) (fun n x=>by kernel_rfl)
theorem f4_run (x:tysDen (f4_spec).args):runF f4_env 4 Tryz.f4 f4_code (f4_spec).args (f4_spec).res x = f4_spec.fn x:=by kernel_rfl
theorem f4_envOK:EnvOK Tryz.prog f4_env:=envOK_of cds (by kernel_rfl) cfgF_ok ⟨⟨f7_pure,f7_enter⟩,⟨f8_pure,f8_enter⟩,⟨f10_pure,f10_enter⟩,⟨f12_pure,f12_enter⟩,⟨f13_pure,f13_enter⟩,⟨f14_pure,f14_enter⟩,⟨f16_pure,f16_enter⟩,⟨f17_pure,f17_enter⟩,⟨f19_pure,f19_enter⟩,trivial⟩ trivial ⟨⟨Tryz.func4,by kernel_rfl⟩,trivial⟩ ⟨⟨Tryz.f4,f4_code,rfl,rfl,f4_l14_ok⟩,trivial⟩ trivial trivial
theorem f4_pure:PureOK Tryz.prog cfg 4 f4_spec:=pure_of_run f4_envOK (fn:=Tryz.f4) (c:=f4_code) rfl rfl f4_spec (fun x _ h=>(f4_run x).trans h)
end
end Go.V.G
namespace Go.V.G
open Go.Proofs
open Go.V.K
theorem f4_loop {a:Ct} (ha:okC a) (l:List (List Rl × Unit)) (hl:l.length≤1000) (hs:∀ d∈l,smD d.1) (k:Nat) (hk:l.length < k) :
  f4_l14 l (l.length:Int) a.1 k 0 = some (.inl ((),(),())):=by
 have h:=all_loop l.length (fun _=>true) (f4_l14 l (l.length:Int) a.1) (.inl ((),(),())) (.inr ((false,()),(),())) (by
  intro k j hj
  conv=>lhs; unfold f4_l14
  by_cases e:j < l.length
  ·simp only [Int.ofNat_lt,inRN,e,decide_true,cond_true]
   refine Eq.trans ?_ (if_pos trivial).symm
   have hd:smD (at_ (.pair (.sl tR) .unit) l (j:Int)).1:=by
    rw [atN (.pair (.sl tR) .unit) l j e]
    exact hs _ (List.getElem_mem e)
   rcases patch_eq ha hd with ⟨h1,h2,h3⟩ | ⟨_,h3⟩
   ·refine bind_step h3 ?_
    refine bind_step (diff_ok ha (aft_okC ha h1)) ?_
    rw [dif_back ha h1 h2]
    refine bind_step (same_ok h1) ?_
    show f4_l14 l (l.length:Int) a.1 k (IntKind.wrap .i64 ((j:Int) + 1)) = _
    rw [wS j (by omega)]
    rfl
   ·refine bind_step h3 ?_
    show f4_l14 l (l.length:Int) a.1 k (IntKind.wrap .i64 ((j:Int) + 1)) = _
    rw [wS j (by omega)]
    rfl
  ·simp only [Int.ofNat_lt,e,decide_false,cond_false]
   exact (if_neg not_false).symm) k hk
 exact h.trans (congrArg some (if_pos (List.all_eq_true.2 fun _ _=>rfl)))
theorem f4_eq (x y:List (List Int)) (d:List Rl × Unit) (hx:iRows x) (hy:iRows y):f4 x y d = some (true,()):=by
 obtain ⟨a,h1,ha⟩:=f8_eq x hx
 obtain ⟨b,h2,hb⟩:=f8_eq y hy
 obtain ⟨r,h3,hr⟩:=f10_eq d.1
 have hab:=okD_la ha hb
 have hi:okD ((dif (la a) (la b)).map inv):=by rw [dif_inv]; exact okD_la hb ha
 unfold f4
 refine bind_step sane_eq ?_
 refine bind_step h1 ?_
 refine bind_step h2 ?_
 refine bind_step (diff_ok ha hb) ?_
 refine bind_step (diff_ok hb ha) ?_
 refine bind_step (inv_ok hab) ?_
 refine bind_step (patch_dif ha hb) ?_
 refine bind_step (diff_ok ha ha) ?_
 refine bind_step (valid_ok hab) ?_
 refine bind_step (sameC_ok hb) ?_
 rw [dif_self]
 rw [← dif_inv (la a) (la b)]
 refine bind_step (same_ok hi) ?_
 refine bind_step h3 ?_
 refine bind_step (f4_loop ha [(r,()),((dif (la a) (la b)).map inv,())] (by simp) (by
  intro z hz
  simp only [List.mem_cons,List.not_mem_nil,or_false] at hz
  rcases hz with rfl | rfl
  ·exact hr
  ·exact okD_sm hi) _ (show 2 < (((2:Nat):Int) - 0).toNat + 1 by decide)) ?_
 rfl
theorem f4_all (x:tysDen f4_spec.args) (h:tysOk f4_spec.args x):f4_spec.fn x = some (true,()):=by
 obtain ⟨x,y,d,u⟩:=x
 obtain ⟨h1,h2,_⟩:=h
 exact f4_eq x y d (iRows_of h1) (iRows_of h2)
end Go.V.G
