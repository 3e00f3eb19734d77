/- Part of the proof. -/
import Derived.KernelRfl
import Derived.Test.YtijakakpbijdkaaGreatDoorA11
set_option linter.all false
set_option linter.unusedVariables false
set_option linter.unusedSectionVars false
set_option linter.unusedSimpArgs false
namespace Go.V.G
open Go.Proofs
noncomputable section
def f3_l15_head:Ann:={ env:=[(9,cP 9),(13,cP 13),(18,.ty (.sl (.pair (.sl yR) .unit))),(20,cP 20),(77,.ty (.sl yC)),(78,YI),(79,YI),(86,.ty (.sl yC)),(87,YI),(88,YI)],bxs:=[(9,.var [.ty (.arr 8 (.sl yN))]),(13,.var [.ty (.arr 8 (.sl yN))]),(20,.var [.ty (.arr 8 (.sl yN))])] }
def f3_l15_outs:List (Ex × Ann):=[((.exit 2),{ env:=[(9,cP 9),(13,cP 13),(18,.ty (.sl (.pair (.sl yR) .unit))),(20,cP 20),(77,.ty (.sl yC)),(78,YI),(79,YI)],bxs:=[(9,.var [.ty (.arr 8 (.sl yN))]),(13,.var [.ty (.arr 8 (.sl yN))]),(20,.var [.ty (.arr 8 (.sl yN))])] }),(.ret,{ env:=[(10,.ty .bool)] })]
def f3_l15 (t18:(List ((List Yr) × Unit))) (t77:(List Yc)) (t78:Int) (t79:Int) (t86:(List Yc)) (t87:Int) (b9g0:(List (List Yn))) (b13g0:(List (List Yn))) (b20g0:(List (List Yn))):Nat→Int→Option (outDen f3_l15_outs)
 | 0,_=>none
 | k + 1,t88 =>
 bif (decide (t88 < t87)) then
 bif (inR t88 t86.length) then
 (f12 (b20g0,()) (at_ yC t86 t88)).bind fun y12 =>
 (f9 (b20g0,()) (at_ yC t86 t88)).bind fun y13 =>
 bif (decide (y12.2.1 ≠ y13.2.1)) then
 some (.inr ((false,()),(),()))
 else
 (f13 y12.1 y13.1).bind fun y14 =>
 bif (!y14.1) then
 some (.inr ((false,()),(),()))
 else
 f3_l15 t18 t77 t78 t79 t86 t87 b9g0 b13g0 b20g0 k (IntKind.wrap .i64 (t88 + 1))
 else none
 else
 some (.inl ((t18,t77,t78,t79,()),(),((b9g0,()),(b13g0,()),(b20g0,()),())))
def f3_l15_n (n:Nat) (x:f3_l15_head.den):=f3_l15 x.1.1 x.1.2.1 x.1.2.2.1 x.1.2.2.2.1 x.1.2.2.2.2.1 x.1.2.2.2.2.2.1 x.2.2.1.1 x.2.2.2.1.1 x.2.2.2.2.1.1 n x.1.2.2.2.2.2.2.1
def f3_l15_spec:LSpec:={ head:=f3_l15_head,outs:=f3_l15_outs,fn:=fun x=>f3_l15_n ((x.1.2.2.2.2.2.1 - x.1.2.2.2.2.2.2.1).toNat + 1) x }
def f3_l23_head:Ann:={ env:=[(9,cP 9),(13,cP 13),(18,.ty (.sl (.pair (.sl yR) .unit))),(20,cP 20),(27,YI),(77,.ty (.sl yC)),(78,YI),(79,YI)],bxs:=[(9,.var [.ty (.arr 8 (.sl yN))]),(13,.var [.ty (.arr 8 (.sl yN))]),(20,.var [.ty (.arr 8 (.sl yN))])] }
def f3_l23_outs:List (Ex × Ann):=[((.exit 4),{ env:=[(9,cP 9),(13,cP 13),(18,.ty (.sl (.pair (.sl yR) .unit))),(77,.ty (.sl yC)),(78,YI),(79,YI)],bxs:=[(9,.var [.ty (.arr 8 (.sl yN))]),(13,.var [.ty (.arr 8 (.sl yN))])] }),(.ret,{ env:=[(10,.ty .bool)] })]
def f3_l23 (t18:(List ((List Yr) × Unit))) (t77:(List Yc)) (t78:Int) (t79:Int) (b9g0:(List (List Yn))) (b13g0:(List (List Yn))) (b20g0:(List (List Yn))):Nat→Int→Option (outDen f3_l23_outs)
 | 0,_=>none
 | k + 1,t27 =>
 bif (decide (t27 < (t18.length:Int))) then
 bif (inR t27 t18.length) then
 (f14 (b20g0,()) (at_ (.pair (.sl yR) .unit) t18 t27)).bind fun y25 =>
 bif (inR t27 t18.length) then
 (f15 (b20g0,()) (at_ (.pair (.sl yR) .unit) t18 t27)).bind fun y26 =>
 bif (decide (y25.2.1 ≠ y26.2.1)) then
 some (.inr ((false,()),(),()))
 else
 (f16 y25.1 y26.1).bind fun y27 =>
 bif (!y27.1) then
 some (.inr ((false,()),(),()))
 else
 f3_l23 t18 t77 t78 t79 b9g0 b13g0 b20g0 k (IntKind.wrap .i64 (t27 + 1))
 else none
 else none
 else
 some (.inl ((t18,t77,t78,t79,()),(),((b9g0,()),(b13g0,()),())))
def f3_l23_n (n:Nat) (x:f3_l23_head.den):=f3_l23 x.1.1 x.1.2.2.1 x.1.2.2.2.1 x.1.2.2.2.2.1 x.2.2.1.1 x.2.2.2.1.1 x.2.2.2.2.1.1 n x.1.2.1
def f3_l23_spec:LSpec:={ head:=f3_l23_head,outs:=f3_l23_outs,fn:=fun x=>f3_l23_n (((x.1.1.length:Int) - x.1.2.1).toNat + 1) x }
def f3_l12_head:Ann:={ env:=[(9,cP 9),(13,cP 13),(18,.ty (.sl (.pair (.sl yR) .unit))),(77,.ty (.sl yC)),(78,YI),(79,YI)],bxs:=[(9,.var [.ty (.arr 8 (.sl yN))]),(13,.var [.ty (.arr 8 (.sl yN))])] }
def f3_l12_outs:List (Ex × Ann):=[((.exit 0),{ env:=[(18,.ty (.sl (.pair (.sl yR) .unit)))] }),(.ret,{ env:=[(10,.ty .bool)] })]
def f3_l12:Nat→(List ((List Yr) × Unit))→(List Yc)→Int→Int→(List (List Yn))→(List (List Yn))→Option (outDen f3_l12_outs)
 | 0,_,_,_,_,_,_=>none
 | k + 1,t18,t77,t78,t79,b9g0,b13g0 =>
 bif (decide (t79 < t78)) then
 bif (inR t79 t77.length) then
 (f11 (b9g0,())).bind fun y10 =>
 let v11:Int:=(([(b13g0,()),y10.1]:List Yc).length:Int)
 (f3_l15 t18 t77 t78 t79 ([(b13g0,()),y10.1]:List Yc) v11 b9g0 b13g0 ((at_ yC t77 t79).1) ((v11 - (0:Int)).toNat + 1) (0:Int)).bind fun o15 =>
 Sum.elim (fun o16 =>
 let u18:(List ((List Yr) × Unit)):=o16.1.1
 let u19:(List Yc):=o16.1.2.1
 let u20:Int:=o16.1.2.2.1
 let u21:Int:=o16.1.2.2.2.1
 let u22:(List (List Yn)):=o16.2.2.1.1
 let u23:(List (List Yn)):=o16.2.2.2.1.1
 let u24:(List (List Yn)):=o16.2.2.2.2.1.1
 (f3_l23 u18 u19 u20 u21 u22 u23 u24 (((u18.length:Int) - (0:Int)).toNat + 1) (0:Int)).bind fun o28 =>
 Sum.elim (fun o29 =>
 let u31:(List ((List Yr) × Unit)):=o29.1.1
 let u32:(List Yc):=o29.1.2.1
 let u33:Int:=o29.1.2.2.1
 let u34:Int:=o29.1.2.2.2.1
 let u35:(List (List Yn)):=o29.2.2.1.1
 let u36:(List (List Yn)):=o29.2.2.2.1.1
 f3_l12 k u31 u32 u33 (IntKind.wrap .i64 (u34 + 1)) u35 u36) (fun o30 =>
 let u37:Bool:=o30.1.1
 some (.inr ((u37,()),(),()))) o28) (fun o17 =>
 let u38:Bool:=o17.1.1
 some (.inr ((u38,()),(),()))) o15
 else none
 else
 some (.inl ((t18,()),(),()))
def f3_l12_n (n:Nat) (x:f3_l12_head.den):=f3_l12 n x.1.1 x.1.2.1 x.1.2.2.1 x.1.2.2.2.1 x.2.2.1.1 x.2.2.2.1.1
def f3_l12_spec:LSpec:={ head:=f3_l12_head,outs:=f3_l12_outs,fn:=fun x=>f3_l12_n ((x.1.2.2.1 - x.1.2.2.2.1).toNat + 1) x }
def f3_l38_head:Ann:={ env:=[(18,.ty (.sl (.pair (.sl yR) .unit))),(32,YI),(37,YI)] }
def f3_l38_outs:List (Ex × Ann):=[((.exit 8),{ env:=[(18,.ty (.sl (.pair (.sl yR) .unit))),(32,YI)] }),(.ret,{ env:=[(10,.ty .bool)] })]
def f3_l38 (t18:(List ((List Yr) × Unit))) (t32:Int):Nat→Int→Option (outDen f3_l38_outs)
 | 0,_=>none
 | k + 1,t37 =>
 bif (decide (t37 < (t18.length:Int))) then
 bif (inR t32 t18.length) then
 bif (inR t37 t18.length) then
 (f22 (at_ (.pair (.sl yR) .unit) t18 t32) (at_ (.pair (.sl yR) .unit) t18 t37)).bind fun y50 =>
 bif (inR t32 t18.length) then
 bif (inR t37 t18.length) then
 (f23 (at_ (.pair (.sl yR) .unit) t18 t32) (at_ (.pair (.sl yR) .unit) t18 t37)).bind fun y51 =>
 bif (decide (y50.2.1 ≠ y51.2.1)) then
 some (.inr ((false,()),(),()))
 else
 (f13 y50.1 y51.1).bind fun y52 =>
 bif (!y52.1) then
 some (.inr ((false,()),(),()))
 else
 bif (inR t32 t18.length) then
 bif (inR t37 t18.length) then
 (f24 (at_ (.pair (.sl yR) .unit) t18 t32) (at_ (.pair (.sl yR) .unit) t18 t37)).bind fun y53 =>
 bif (inR t32 t18.length) then
 bif (inR t37 t18.length) then
 (f13 (at_ (.pair (.sl yR) .unit) t18 t32) (at_ (.pair (.sl yR) .unit) t18 t37)).bind fun y54 =>
 bif (!(decide (y53.1 = y54.1))) then
 some (.inr ((false,()),(),()))
 else
 f3_l38 t18 t32 k (IntKind.wrap .i64 (t37 + 1))
 else none
 else none
 else none
 else none
 else none
 else none
 else none
 else none
 else
 some (.inl ((t18,t32,()),(),()))
def f3_l38_n (n:Nat) (x:f3_l38_head.den):=f3_l38 x.1.1 x.1.2.1 n x.1.2.2.1
def f3_l38_spec:LSpec:={ head:=f3_l38_head,outs:=f3_l38_outs,fn:=fun x=>f3_l38_n (((x.1.1.length:Int) - x.1.2.2.1).toNat + 1) x }
def f3_l31_head:Ann:={ env:=[(18,.ty (.sl (.pair (.sl yR) .unit))),(32,YI)] }
def f3_l31_outs:List (Ex × Ann):=[((.exit 6),{ env:=[] }),(.ret,{ env:=[(10,.ty .bool)] })]
def f3_l31:Nat→(List ((List Yr) × Unit))→Int→Option (outDen f3_l31_outs)
 | 0,_,_=>none
 | k + 1,t18,t32 =>
 bif (decide (t32 < (t18.length:Int))) then
 bif (inR t32 t18.length) then
 (f17 (at_ (.pair (.sl yR) .unit) t18 t32)).bind fun y43 =>
 bif (inR t32 t18.length) then
 (f18 (at_ (.pair (.sl yR) .unit) t18 t32)).bind fun y44 =>
 bif (decide (y43.2.1 ≠ y44.2.1)) then
 some (.inr ((false,()),(),()))
 else
 (f13 y43.1 y44.1).bind fun y45 =>
 bif (!y45.1) then
 some (.inr ((false,()),(),()))
 else
 bif (inR t32 t18.length) then
 (f19 (at_ (.pair (.sl yR) .unit) t18 t32)).bind fun y46 =>
 bif (inR t32 t18.length) then
 (f20 (at_ (.pair (.sl yR) .unit) t18 t32)).bind fun y47 =>
 bif (!(decide (y46.1 = y47.1))) then
 some (.inr ((false,()),(),()))
 else
 bif (inR t32 t18.length) then
 (f21 (at_ (.pair (.sl yR) .unit) t18 t32)).bind fun y48 =>
 bif (inR t32 t18.length) then
 let v49:(List Yr):=(at_ (.pair (.sl yR) .unit) t18 t32).1
 bif (decide (y48.1 ≠ (v49.length:Int))) then
 some (.inr ((false,()),(),()))
 else
 (f3_l38 t18 t32 (((t18.length:Int) - (0:Int)).toNat + 1) (0:Int)).bind fun o55 =>
 Sum.elim (fun o56 =>
 let u58:(List ((List Yr) × Unit)):=o56.1.1
 let u59:Int:=o56.1.2.1
 f3_l31 k u58 (IntKind.wrap .i64 (u59 + 1))) (fun o57 =>
 let u60:Bool:=o57.1.1
 some (.inr ((u60,()),(),()))) o55
 else none
 else none
 else none
 else none
 else none
 else none
 else
 some (.inl ((),(),()))
def f3_l31_n (n:Nat) (x:f3_l31_head.den):=f3_l31 n x.1.1 x.1.2.1
def f3_l31_spec:LSpec:={ head:=f3_l31_head,outs:=f3_l31_outs,fn:=fun x=>f3_l31_n (((x.1.1.length:Int) - x.1.2.1).toNat + 1) x }
def f3 (a0:(List (List Int))) (a1:(List (List Int))) (a2:(List (List Int))) (a3:((List Yr) × Unit)) (a4:Yc):Option (Bool × Unit) :=
 (f7 ).bind fun y1 =>
 bif (!y1.1) then
 some (false,())
 else
 (f8 a0).bind fun y2 =>
 (f8 a1).bind fun y3 =>
 (f8 a2).bind fun y4 =>
 (f9 y2.1 y3.1).bind fun y5 =>
 (f9 y3.1 y4.1).bind fun y6 =>
 bif (decide (y5.2.1 ≠ (0:Int))) then
 some (false,())
 else
 bif (decide (y6.2.1 ≠ (0:Int))) then
 some (false,())
 else
 (f10 a3).bind fun y7 =>
 (f11 a4).bind fun y8 =>
 let v9:Int:=(([y2.1,y3.1,y8.1]:List Yc).length:Int)
 (f3_l12 ((v9 - (0:Int)).toNat + 1) ([y5.1,y6.1,y7.1]:List ((List Yr) × Unit)) ([y2.1,y3.1,y8.1]:List Yc) v9 (0:Int) a4.1 y4.1.1).bind fun o39 =>
 Sum.elim (fun o40 =>
 let u42:(List ((List Yr) × Unit)):=o40.1.1
 (f3_l31 (((u42.length:Int) - (0:Int)).toNat + 1) u42 (0:Int)).bind fun o61 =>
 Sum.elim (fun o62 =>
 some (true,())) (fun o63 =>
 let u64:Bool:=o63.1.1
 some (u64,())) o61) (fun o41 =>
 let u65:Bool:=o41.1.1
 some (u65,())) o39
def f3_spec:PSpec:={ args:=[(.sl (.arr 4 yI)),(.sl (.arr 4 yI)),(.sl (.arr 4 yI)),(.pair (.sl yR) .unit),yC],res:=[.bool],fn:=fun x=>f3 x.1 x.2.1 x.2.2.1 x.2.2.2.1 x.2.2.2.2.1 }
noncomputable def f3_code:Code:=Tryz.f3.body.getD .skip
noncomputable def f3_env:Env0:={ C:=cfgF,P:=[(7,f7_spec),(8,f8_spec),(9,f9_spec),(10,f10_spec),(11,f11_spec),(12,f12_spec),(13,f13_spec),(14,f14_spec),(15,f15_spec),(16,f16_spec),(17,f17_spec),(18,f18_spec),(19,f19_spec),(20,f20_spec),(21,f21_spec),(22,f22_spec),(23,f23_spec),(24,f24_spec)],L:=[(⟨12,0,3,15⟩,f3_l15_spec),(⟨12,0,3,23⟩,f3_l23_spec),(⟨12,0,3,12⟩,f3_l12_spec),(⟨12,0,3,38⟩,f3_l38_spec),(⟨12,0,3,31⟩,f3_l31_spec)],F:=[(3,Tryz.f3)] }
theorem f3_l15_ok:LoopOK f3_env 12 3 0 (loopAt f3_code 15) f3_l15_spec :=
 loopOK_of (by kernel_rfl) f3_l15_n (fun x o h=>⟨_,h⟩) (fun x=>by kernel_rfl) (fun n x=>by kernel_rfl)
theorem f3_l23_ok:LoopOK f3_env 12 3 0 (loopAt f3_code 23) f3_l23_spec :=
 loopOK_of (by kernel_rfl) f3_l23_n (fun x o h=>⟨_,h⟩) (fun x=>by kernel_rfl) (fun n x=>by kernel_rfl)
theorem f3_l12_ok:LoopOK f3_env 12 3 0 (loopAt f3_code 12) f3_l12_spec :=
 loopOK_of (by kernel_rfl) f3_l12_n (fun x o h=>⟨_,h⟩) (fun x=>by kernel_rfl) (fun n x=>by kernel_rfl)
theorem f3_l38_ok:LoopOK f3_env 12 3 0 (loopAt f3_code 38) f3_l38_spec :=
 loopOK_of (by kernel_rfl) f3_l38_n (fun x o h=>⟨_,h⟩) (fun x=>by kernel_rfl) (fun n x=>by kernel_rfl)
theorem f3_l31_ok:LoopOK f3_env 12 3 0 (loopAt f3_code 31) f3_l31_spec :=
 loopOK_of (by kernel_rfl) f3_l31_n (fun x o h=>⟨_,h⟩) (fun x=>by kernel_rfl) (fun n x=>by kernel_rfl)
theorem f3_run:zR f3_env 3 Tryz.f3 f3_code f3_spec:=by intro x; kernel_rfl
theorem f3_envOK:zE f3_env:=zO cfgF_ok ⟨⟨f7_pure,f7_enter⟩,⟨f8_pure,f8_enter⟩,⟨f9_pure,f9_enter⟩,⟨f10_pure,f10_enter⟩,⟨f11_pure,f11_enter⟩,⟨f12_pure,f12_enter⟩,⟨f13_pure,f13_enter⟩,⟨f14_pure,f14_enter⟩,⟨f15_pure,f15_enter⟩,⟨f16_pure,f16_enter⟩,⟨f17_pure,f17_enter⟩,⟨f18_pure,f18_enter⟩,⟨f19_pure,f19_enter⟩,⟨f20_pure,f20_enter⟩,⟨f21_pure,f21_enter⟩,⟨f22_pure,f22_enter⟩,⟨f23_pure,f23_enter⟩,⟨f24_pure,f24_enter⟩,trivial⟩ trivial ⟨zK Tryz.func3,trivial⟩ ⟨⟨Tryz.f3,f3_code,rfl,rfl,f3_l15_ok⟩,⟨Tryz.f3,f3_code,rfl,rfl,f3_l23_ok⟩,⟨Tryz.f3,f3_code,rfl,rfl,f3_l12_ok⟩,⟨Tryz.f3,f3_code,rfl,rfl,f3_l38_ok⟩,⟨Tryz.f3,f3_code,rfl,rfl,f3_l31_ok⟩,trivial⟩
theorem f3_pure:zU 3 f3_spec:=zP f3_envOK Tryz.f3 f3_code f3_run
end
end Go.V.G
namespace Go.V.G
open Go.Proofs
open Go.V.K
theorem same_d (a:List Rl × Unit) (h:smD a.1):f13 a a = some (true,()):=by
 have:=f13_eq a.1 a.1 h
 simp only [decide_true] at this
 exact this
theorem same_c (a:Ct) (h:smC a):f16 a a = some (true,()):=by
 have:=f16_eq a a h h.1
 simp only [decide_true] at this
 exact this
theorem dif_smD {a b:Ct} (ha:smC a) (hb:smC b):∃ d z,f12 a b = some (d,z,())∧f9 a b = some (d,z,())∧smD d.1:=by
 rw [f12_eq a b ha hb,f9_eq a b ha hb]
 cases h1:validC a with
 | false=>exact ⟨_,_,rfl,rfl,by simp [smD]⟩
 | true =>
  cases h2:validC b with
  | false=>exact ⟨_,_,rfl,rfl,by simp [smD]⟩
  | true =>
   exact ⟨_,_,rfl,rfl,okD_sm (okD_la ((validC_iff ha.1).1 h1) ((validC_iff hb.1).1 h2))⟩
theorem patch_smC {a:Ct} (ha:smC a) {d:List Rl} (hd:smD d):∃ c z,f14 a (d,()) = some (c,z,())∧smC c:=by
 have h0:smC (([[],[],[],[],[],[],[],[]]:List (List Nm)),()):=⟨rfl,fun l hl=>by
  have:l = []:=by simpa using hl
  subst this
  exact ⟨by simp,by simp⟩⟩
 have h:=f14_eq a ha d hd (f19_eq d hd) validD_iff.1
 cases h1:validC a with
 | false =>
  rw [h1] at h
  exact ⟨_,_,h,h0⟩
 | true =>
  have hc:=(validC_iff ha.1).1 h1
  rcases patch_eq hc hd with ⟨p1,_,p⟩ | ⟨_,p⟩
  ·exact ⟨_,_,p,okC_sm (aft_okC hc p1)⟩
  ·exact ⟨_,_,p,h0⟩
theorem inv_smD {d:List Rl} (hd:smD d):∃ c z,f17 (d,()) = some (c,z,())∧f18 (d,()) = some (c,z,())∧smD c.1:=by
 rw [f17_eq d hd,f18_eq d hd]
 cases validD d with
 | false=>exact ⟨_,_,rfl,rfl,by simp [smD]⟩
 | true=>exact ⟨_,_,rfl,rfl,inv_sm hd⟩
theorem comp_okD {d e:List Rl} (hd:okD d) (he:okD e):smD (comp d e):=by
 refine ⟨Nat.le_trans (List.length_filterMap_le _ _) (by rw [keys_len]; decide),fun r hr=>?_⟩
 obtain ⟨k,_,h⟩:=List.mem_filterMap.1 hr
 unfold cmp1 at h
 split at h
 ·cases h
 ·rename_i x h1 _; cases h; exact fd_sm (okD_sm hd) h1
 ·rename_i y _ h1; cases h; exact fd_sm (okD_sm he) h1
 ·rename_i x y h1 h2
  split at h
  ·cases h
  ·cases h
   exact ⟨(fd_sm (okD_sm hd) h1).1,(fd_sm (okD_sm he) h2).2⟩
theorem comp_smD {d e:List Rl} (hd:smD d) (he:smD e):∃ c z,f22 (d,()) (e,()) = some (c,z,())∧smD c.1:=by
 rw [f22_eq d e hd he]
 cases h1:validD d with
 | false=>exact ⟨_,_,rfl,by simp [smD]⟩
 | true =>
  cases h2:validD e with
  | false=>exact ⟨_,_,rfl,by simp [smD]⟩
  | true =>
   cases clash d e with
   | true=>exact ⟨_,_,rfl,by simp [smD]⟩
   | false=>exact ⟨_,_,rfl,comp_okD (validD_iff.1 h1) (validD_iff.1 h2)⟩
abbrev LD:=List (List Rl × Unit)
abbrev LC:=List Ct
def okAll (l:LD):Prop:=l.length = 3∧∀ d∈l,smD d.1
theorem okAll_at {l:LD} (h:okAll l) (j:Nat) (hj:j < 3):smD (at_ tD l (j:Int)).1:=by
 rw [atN tD l j (by rw [h.1]; exact hj)]
 exact h.2 _ (List.getElem_mem _)
theorem f3_diffs (ds:LD) (ps:LC) (n i:Int) (qs:LC) (h:qs.length = 2) (hq:∀ q∈qs,smC q) (o c p:List (List Nm)) (hp:smC (p,())):∀ (m j k:Nat),j + m = 2→m < k →
  f3_l15 ds ps n i qs 2 o c p k (j:Int) = some (.inl ((ds,ps,n,i,()),(),((o,()),(c,()),(p,()),()))):=by
 intro m
 induction m with
 | zero =>
  intro j k h1 h2
  obtain ⟨k,rfl⟩:∃ q,k = q + 1:=⟨k - 1,by omega⟩
  conv=>lhs; unfold f3_l15
  have e:decide ((j:Int) < 2) = false:=by simp; omega
  simp only [e,cond_false]
 | succ m ih =>
  intro j k h1 h2
  obtain ⟨k,rfl⟩:∃ q,k = q + 1:=⟨k - 1,by omega⟩
  conv=>lhs; unfold f3_l15
  have e:decide ((j:Int) < 2) = true:=by simp; omega
  have hj:j < qs.length:=by omega
  have hm:smC (at_ tC qs (j:Int)):=by rw [atN tC qs j hj]; exact hq _ (List.getElem_mem _)
  obtain ⟨d,z,g1,g2,g3⟩:=dif_smD hp hm
  simp only [e,cond_true,inRN,hj,decide_true]
  refine bind_step g1 ?_
  refine bind_step g2 ?_
  show (bif decide (z ≠ z) then _ else _) = _
  rw [show decide (z ≠ z) = false from by simp,cond_false]
  refine bind_step (same_d d g3) ?_
  show f3_l15 ds ps n i qs 2 o c p k (IntKind.wrap .i64 ((j:Int) + 1)) = _
  rw [wS j (by omega)]
  exact ih (j + 1) k (by omega) (by omega)
theorem f3_patches (ds:LD) (hd:okAll ds) (ps:LC) (n i:Int) (o c p:List (List Nm)) (hp:smC (p,())):∀ (m j k:Nat),j + m = 3→m < k →
  f3_l23 ds ps n i o c p k (j:Int) = some (.inl ((ds,ps,n,i,()),(),((o,()),(c,()),()))):=by
 intro m
 induction m with
 | zero =>
  intro j k h1 h2
  obtain ⟨k,rfl⟩:∃ q,k = q + 1:=⟨k - 1,by omega⟩
  conv=>lhs; unfold f3_l23
  have e:¬ j < ds.length:=by rw [hd.1]; omega
  simp only [Int.ofNat_lt,e,decide_false,cond_false]
 | succ m ih =>
  intro j k h1 h2
  obtain ⟨k,rfl⟩:∃ q,k = q + 1:=⟨k - 1,by omega⟩
  conv=>lhs; unfold f3_l23
  have hj:j < ds.length:=by rw [hd.1]; omega
  have hm:=okAll_at hd j (by omega)
  obtain ⟨r,z,g1,g3⟩:=patch_smC hp hm
  have g2:=(f15_eq (p,()) hp _ hm).trans g1
  simp only [Int.ofNat_lt,inRN,hj,decide_true,cond_true]
  refine bind_step g1 ?_
  refine bind_step g2 ?_
  show (bif decide (z ≠ z) then _ else _) = _
  rw [show decide (z ≠ z) = false from by simp,cond_false]
  refine bind_step (same_c r g3) ?_
  show f3_l23 ds ps n i o c p k (IntKind.wrap .i64 ((j:Int) + 1)) = _
  rw [wS j (by omega)]
  exact ih (j + 1) k (by omega) (by omega)
theorem f3_certs (ds:LD) (hd:okAll ds) (ps:LC) (h3:ps.length = 3) (hp:∀ p∈ps,smC p) (o c:List (List Nm)) (hc:smC (c,())):∀ (m j k:Nat),j + m = 3→m < k →
  f3_l12 k ds ps 3 (j:Int) o c = some (.inl ((ds,()),(),())):=by
 intro m
 induction m with
 | zero =>
  intro j k h1 h2
  obtain ⟨k,rfl⟩:∃ q,k = q + 1:=⟨k - 1,by omega⟩
  conv=>lhs; unfold f3_l12
  have e:decide ((j:Int) < 3) = false:=by simp; omega
  simp only [e,cond_false]
 | succ m ih =>
  intro j k h1 h2
  obtain ⟨k,rfl⟩:∃ q,k = q + 1:=⟨k - 1,by omega⟩
  conv=>lhs; unfold f3_l12
  have e:decide ((j:Int) < 3) = true:=by simp; omega
  have hj:j < ps.length:=by omega
  have hm:smC (at_ tC ps (j:Int)):=by rw [atN tC ps j hj]; exact hp _ (List.getElem_mem _)
  obtain ⟨w,w1,w2⟩:=f11_eq (o,())
  simp only [e,cond_true,inRN,hj,decide_true]
  refine bind_step w1 ?_
  refine bind_step (f3_diffs ds ps 3 (j:Int) [(c,()),w] rfl (by
   intro q hq
   rcases List.mem_cons.1 hq with rfl | hq
   ·exact hc
   ·rw [List.mem_singleton.1 hq]; exact w2) o c (at_ tC ps (j:Int)).1 hm 2 0 _ rfl (show 2 < (((2:Nat):Int) - 0).toNat + 1 from by decide)) ?_
  refine bind_step (f3_patches ds hd ps 3 (j:Int) o c (at_ tC ps (j:Int)).1 hm 3 0 (((ds.length:Int) - (0:Int)).toNat + 1) rfl (by rw [hd.1]; decide)) ?_
  show f3_l12 k ds ps 3 (IntKind.wrap .i64 ((j:Int) + 1)) o c = _
  rw [wS j (by omega)]
  exact ih (j + 1) k (by omega) (by omega)
theorem f3_pairs (ds:LD) (hd:okAll ds) (i:Nat) (hi:i < 3):∀ (m j k:Nat),j + m = 3→m < k →
  f3_l38 ds (i:Int) k (j:Int) = some (.inl ((ds,(i:Int),()),(),())):=by
 intro m
 induction m with
 | zero =>
  intro j k h1 h2
  obtain ⟨k,rfl⟩:∃ q,k = q + 1:=⟨k - 1,by omega⟩
  conv=>lhs; unfold f3_l38
  have e:¬ j < ds.length:=by rw [hd.1]; omega
  simp only [Int.ofNat_lt,e,decide_false,cond_false]
 | succ m ih =>
  intro j k h1 h2
  obtain ⟨k,rfl⟩:∃ q,k = q + 1:=⟨k - 1,by omega⟩
  conv=>lhs; unfold f3_l38
  have hj:j < ds.length:=by rw [hd.1]; omega
  have hi':i < ds.length:=by rw [hd.1]; omega
  have ha:=okAll_at hd i hi
  have hb:=okAll_at hd j (by omega)
  obtain ⟨r,z,g1,g3⟩:=comp_smD ha hb
  have g2:=(f23_eq _ _ ha hb).trans g1
  simp only [Int.ofNat_lt,inRN,hj,hi',decide_true,cond_true]
  refine bind_step g1 ?_
  refine bind_step g2 ?_
  show (bif decide (z ≠ z) then _ else _) = _
  rw [show decide (z ≠ z) = false from by simp,cond_false]
  refine bind_step (same_d r g3) ?_
  simp only [Bool.not_true,cond_false]
  refine bind_step (f24_eq _ _ ha) ?_
  refine bind_step (f13_eq _ _ ha) ?_
  show (bif !(decide (_ = _)) then _ else f3_l38 ds (i:Int) k (IntKind.wrap .i64 ((j:Int) + 1))) = _
  rw [zT rfl,wS j (by omega)]
  exact ih (j + 1) k (by omega) (by omega)
theorem f3_deltas (ds:LD) (hd:okAll ds):∀ (m j k:Nat),j + m = 3→m < k →
  f3_l31 k ds (j:Int) = some (.inl ((),(),())):=by
 intro m
 induction m with
 | zero =>
  intro j k h1 h2
  obtain ⟨k,rfl⟩:∃ q,k = q + 1:=⟨k - 1,by omega⟩
  conv=>lhs; unfold f3_l31
  have e:¬ j < ds.length:=by rw [hd.1]; omega
  simp only [Int.ofNat_lt,e,decide_false,cond_false]
 | succ m ih =>
  intro j k h1 h2
  obtain ⟨k,rfl⟩:∃ q,k = q + 1:=⟨k - 1,by omega⟩
  conv=>lhs; unfold f3_l31
  have hj:j < ds.length:=by rw [hd.1]; omega
  have ha:=okAll_at hd j (by omega)
  obtain ⟨r,z,g1,g2,g3⟩:=inv_smD ha
  simp only [Int.ofNat_lt,inRN,hj,decide_true,cond_true]
  refine bind_step g1 ?_
  refine bind_step g2 ?_
  show (bif decide (z ≠ z) then _ else _) = _
  rw [show decide (z ≠ z) = false from by simp,cond_false]
  refine bind_step (same_d r g3) ?_
  simp only [Bool.not_true,cond_false]
  refine bind_step (f19_eq _ ha) ?_
  refine bind_step (f20_eq _ ha) ?_
  simp only [decide_true,Bool.not_true,cond_false]
  refine bind_step (f:=_) (rfl:f21 _ = _) ?_
  simp only [ne_eq,not_true_eq_false,decide_false,cond_false]
  refine bind_step (f3_pairs ds hd j (by omega) 3 0 (((ds.length:Int) - (0:Int)).toNat + 1) rfl (by rw [hd.1]; decide)) ?_
  show f3_l31 k ds (IntKind.wrap .i64 ((j:Int) + 1)) = _
  rw [wS j (by omega)]
  exact ih (j + 1) k (by omega) (by omega)
theorem f3_eq (x y z:List (List Int)) (d:List Rl × Unit) (o:Ct) (hx:iRows x) (hy:iRows y) (hz:iRows z):f3 x y z d o = some (true,()):=by
 obtain ⟨a,h1,ha⟩:=f8_eq x hx
 obtain ⟨b,h2,hb⟩:=f8_eq y hy
 obtain ⟨c,h3,hc⟩:=f8_eq z hz
 obtain ⟨r,h4,hr⟩:=f10_eq d.1
 obtain ⟨w,h5,hw⟩:=f11_eq o
 have dab:f9 a b = some ((dif (la a) (la b),()),(0:Int),()):=by
  rw [f9_eq a b (okC_sm ha) (okC_sm hb),validC_ok ha,validC_ok hb]; rfl
 have dbc:f9 b c = some ((dif (la b) (la c),()),(0:Int),()):=by
  rw [f9_eq b c (okC_sm hb) (okC_sm hc),validC_ok hb,validC_ok hc]; rfl
 have hall:okAll [(dif (la a) (la b),()),(dif (la b) (la c),()),(r,())]:=by
  refine ⟨rfl,fun d hd=>?_⟩
  simp only [List.mem_cons,List.not_mem_nil,or_false] at hd
  rcases hd with rfl | rfl | rfl
  ·exact okD_sm (okD_la ha hb)
  ·exact okD_sm (okD_la hb hc)
  ·exact hr
 unfold f3
 refine bind_step sane_eq ?_
 refine bind_step h1 ?_
 refine bind_step h2 ?_
 refine bind_step h3 ?_
 refine bind_step dab ?_
 refine bind_step dbc ?_
 refine bind_step h4 ?_
 refine bind_step h5 ?_
 refine bind_step (f3_certs _ hall [a,b,w] rfl (by
  intro p hp
  simp only [List.mem_cons,List.not_mem_nil,or_false] at hp
  rcases hp with rfl | rfl | rfl
  ·exact okC_sm ha
  ·exact okC_sm hb
  ·exact hw) o.1 c.1 (okC_sm hc) 3 0 4 rfl (by decide)) ?_
 refine bind_step (f3_deltas _ hall 3 0 4 rfl (by decide)) ?_
 rfl
theorem f3_all (x:tysDen f3_spec.args) (h:tysOk f3_spec.args x):f3_spec.fn x = some (true,()):=by
 obtain ⟨x,y,z,d,o,u⟩:=x
 obtain ⟨h1,h2,h3,_⟩:=h
 exact f3_eq x y z d o (iRows_of h1) (iRows_of h2) (iRows_of h3)
end Go.V.G
