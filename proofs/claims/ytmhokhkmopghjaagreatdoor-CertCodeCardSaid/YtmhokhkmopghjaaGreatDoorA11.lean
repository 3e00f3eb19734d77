/- Part of the proof. -/
import Derived.KernelRfl
import Derived.Test.YtmhokhkmopghjaaGreatDoorA10
set_option linter.all false
set_option linter.unusedVariables false
set_option linter.unusedSectionVars false
set_option linter.unusedSimpArgs false
namespace Go.V.G
open Go.Proofs
noncomputable def f128c:Code:=Tryz.f128.body.getD .skip
noncomputable def f128e:Env0:={ C:=cfg,P:=[],L:=[],F:=[(61,Tryz.f61),(87,Tryz.f87),(96,Tryz.f96),(101,Tryz.f101),(111,Tryz.f111),(118,Tryz.f118),(128,Tryz.f128),(143,Tryz.f143),(144,Tryz.f144),(145,Tryz.f145),(146,Tryz.f146),(147,Tryz.f147),(148,Tryz.f148),(149,Tryz.f149),(150,Tryz.f150),(151,Tryz.f151),(152,Tryz.f152),(153,Tryz.f153),(154,Tryz.f154),(181,Tryz.f181),(182,Tryz.f182),(188,Tryz.f188),(189,Tryz.f189),(202,Tryz.f202),(226,Tryz.f226),(227,Tryz.f227),(228,Tryz.f228),(229,Tryz.f229),(230,Tryz.f230),(231,Tryz.f231),(245,Tryz.f245),(246,Tryz.f246),(247,Tryz.f247),(248,Tryz.f248),(249,Tryz.f249),(250,Tryz.f250),(253,Tryz.f253),(291,Tryz.f291),(292,Tryz.f292),(296,Tryz.f296)],fuel:=64,vary:=true,tot:=[(143,[4]),(145,[4]),(181,[6,7]),(229,[4])] }
def f128_a0:tysDen [yG]:=(([((3:Int),(0:Int),())],[],[],()),())
def f128_r0:tysDen [(.sl yN),.int .i64]:=([((3:Int),[],())],(0:Int),())
theorem f128_run0:runF f128e 128 Tryz.f128 f128c [yG] [(.sl yN),.int .i64] f128_a0 = some f128_r0:=by kernel_rfl
def f128s:PSpec:={ args:=[yG],res:=[(.sl yN),.int .i64],fn:=fun x=>bif zaw [yG] x f128_a0 then some f128_r0 else none }
theorem f128n:zQ 128:=zN Tryz.func128
theorem f128k:zE f128e:=zO zce trivial trivial ⟨zK Tryz.func61,zK Tryz.func87,zK Tryz.func96,zK Tryz.func101,zK Tryz.func111,zK Tryz.func118,zK Tryz.func128,zK Tryz.func143,zK Tryz.func144,zK Tryz.func145,zK Tryz.func146,zK Tryz.func147,zK Tryz.func148,zK Tryz.func149,zK Tryz.func150,zK Tryz.func151,zK Tryz.func152,zK Tryz.func153,zK Tryz.func154,zK Tryz.func181,zK Tryz.func182,zK Tryz.func188,zK Tryz.func189,zK Tryz.func202,zK Tryz.func226,zK Tryz.func227,zK Tryz.func228,zK Tryz.func229,zK Tryz.func230,zK Tryz.func231,zK Tryz.func245,zK Tryz.func246,zK Tryz.func247,zK Tryz.func248,zK Tryz.func249,zK Tryz.func250,zK Tryz.func253,zK Tryz.func291,zK Tryz.func292,zK Tryz.func296,trivial⟩ trivial
theorem f128p:zbh Tryz.prog cfg 128 f128s:=zaX f128k (fn:=Tryz.f128) (c:=f128c) rfl rfl f128s (fun x y h=>by
 simp only [f128s] at h
 cases h0:zaw [yG] x f128_a0
 case true =>
  rw [h0,cond_true] at h
  cases h
  rw [zaD h0]
  exact f128_run0
 rw [h0,cond_false] at h
 cases h)
end Go.V.G
namespace Go.V.G
open Go.Proofs
noncomputable def f131c:Code:=Tryz.f131.body.getD .skip
noncomputable def f131e:Env0:={ C:=cfg,P:=[],L:=[],F:=[(87,Tryz.f87),(96,Tryz.f96),(101,Tryz.f101),(111,Tryz.f111),(118,Tryz.f118),(131,Tryz.f131),(143,Tryz.f143),(144,Tryz.f144),(145,Tryz.f145),(146,Tryz.f146),(147,Tryz.f147),(148,Tryz.f148),(149,Tryz.f149),(150,Tryz.f150),(151,Tryz.f151),(152,Tryz.f152),(153,Tryz.f153),(154,Tryz.f154),(166,Tryz.f166),(191,Tryz.f191),(202,Tryz.f202),(226,Tryz.f226),(227,Tryz.f227),(228,Tryz.f228),(229,Tryz.f229),(230,Tryz.f230),(231,Tryz.f231),(256,Tryz.f256),(257,Tryz.f257),(258,Tryz.f258),(274,Tryz.f274),(291,Tryz.f291),(292,Tryz.f292),(295,Tryz.f295),(297,Tryz.f297),(298,Tryz.f298),(299,Tryz.f299),(300,Tryz.f300),(338,Tryz.f338),(339,Tryz.f339),(340,Tryz.f340),(341,Tryz.f341),(342,Tryz.f342),(343,Tryz.f343),(344,Tryz.f344),(345,Tryz.f345),(348,Tryz.f348),(363,Tryz.f363),(364,Tryz.f364),(367,Tryz.f367),(368,Tryz.f368),(369,Tryz.f369),(376,Tryz.f376)],fuel:=64,vary:=true,tot:=[(143,[4]),(145,[4]),(229,[4]),(258,[22]),(299,[12])] }
def f131_a0:tysDen [yG]:=(([((3:Int),(0:Int),())],[],[],()),())
def f131_r0:tysDen [(.sl yN),.int .i64]:=([((3:Int),[3,0,-1,-1,0],())],(0:Int),())
theorem f131_run0:runF f131e 131 Tryz.f131 f131c [yG] [(.sl yN),.int .i64] f131_a0 = some f131_r0:=by kernel_rfl
def f131s:PSpec:={ args:=[yG],res:=[(.sl yN),.int .i64],fn:=fun x=>bif zaw [yG] x f131_a0 then some f131_r0 else none }
theorem f131n:zQ 131:=zN Tryz.func131
theorem f131k:zE f131e:=zO zce trivial trivial ⟨zK Tryz.func87,zK Tryz.func96,zK Tryz.func101,zK Tryz.func111,zK Tryz.func118,zK Tryz.func131,zK Tryz.func143,zK Tryz.func144,zK Tryz.func145,zK Tryz.func146,zK Tryz.func147,zK Tryz.func148,zK Tryz.func149,zK Tryz.func150,zK Tryz.func151,zK Tryz.func152,zK Tryz.func153,zK Tryz.func154,zK Tryz.func166,zK Tryz.func191,zK Tryz.func202,zK Tryz.func226,zK Tryz.func227,zK Tryz.func228,zK Tryz.func229,zK Tryz.func230,zK Tryz.func231,zK Tryz.func256,zK Tryz.func257,zK Tryz.func258,zK Tryz.func274,zK Tryz.func291,zK Tryz.func292,zK Tryz.func295,zK Tryz.func297,zK Tryz.func298,zK Tryz.func299,zK Tryz.func300,zK Tryz.func338,zK Tryz.func339,zK Tryz.func340,zK Tryz.func341,zK Tryz.func342,zK Tryz.func343,zK Tryz.func344,zK Tryz.func345,zK Tryz.func348,zK Tryz.func363,zK Tryz.func364,zK Tryz.func367,zK Tryz.func368,zK Tryz.func369,zK Tryz.func376,trivial⟩ trivial
theorem f131p:zbh Tryz.prog cfg 131 f131s:=zaX f131k (fn:=Tryz.f131) (c:=f131c) rfl rfl f131s (fun x y h=>by
 simp only [f131s] at h
 cases h0:zaw [yG] x f131_a0
 case true =>
  rw [h0,cond_true] at h
  cases h
  rw [zaD h0]
  exact f131_run0
 rw [h0,cond_false] at h
 cases h)
end Go.V.G
namespace Go.V.G
open Go.Proofs
noncomputable def f134c:Code:=Tryz.f134.body.getD .skip
def f265_l18xh:Ann:={ env:=[(1,cP 24013001),(3,cP 24013003),(4,cP 24013004),(7,YI),(63,YI),(66,YI)],stk:=[[(1,cP 24001),(2,.cst .nils),(3,YI),(4,YI)],[(1,cP 1),(2,.cst .nils),(3,YI)]],bxs:=[(24013001,.var [.ty (.sl yV),.ty (.sl yD),.ty (.sl yI)]),(24013003,.var [cP 24013015]),(24013004,.var [.cst (.mp 24013016)]),(24001,.var [.ty (.sl yV),.ty (.sl yD),.ty (.sl yI)]),(1,.var [.ty (.sl yV),.ty (.sl yD),.ty (.sl yI)]),(24013015,.var [.ty (.arr 25 (.arr 49 yI)),.ty (.arr 25 (.arr 49 yI)),.cst .nils,.cst .nils]),(24013016,.map yI yI)] }
def f265_l18xo:List (Ex × Ann):=[((.exit 5),{ env:=[(1,cP 24013001),(3,cP 24013003),(4,cP 24013004),(63,YI)],stk:=[[(1,cP 24001),(2,.cst .nils),(3,YI),(4,YI)],[(1,cP 1),(2,.cst .nils),(3,YI)]],bxs:=[(24013001,.var [.ty (.sl yV),.ty (.sl yD),.ty (.sl yI)]),(24013003,.var [cP 24013015]),(24013004,.var [.cst (.mp 24013016)]),(24001,.var [.ty (.sl yV),.ty (.sl yD),.ty (.sl yI)]),(1,.var [.ty (.sl yV),.ty (.sl yD),.ty (.sl yI)]),(24013015,.var [.ty (.arr 25 (.arr 49 yI)),.ty (.arr 25 (.arr 49 yI)),.cst .nils,.cst .nils]),(24013016,.map yI yI)] })]
def f265_l18x (t7:Int) (t63:Int) (k0t3:Int) (k0t4:Int) (k1t3:Int) (b24013001g0:(List Yv)) (b24013001g1:(List Yd)) (b24013001g2:(List Int)) (b24001g0:(List Yv)) (b24001g1:(List Yd)) (b24001g2:(List Int)) (b1g0:(List Yv)) (b1g1:(List Yd)) (b1g2:(List Int)) (b24013015g0:(List (List Int))) (m24013016:(List (Int × Int))):Nat→Int→(List (List Int))→Option (outDen f265_l18xo)
 | 0,_,_=>none
 | k + 1,t66,b24013015g1 =>
 bif (decide (t66 < (49:Int))) then
 bif (inR t7 25) then bif (inR t66 49) then f265_l18x t7 t63 k0t3 k0t4 k1t3 b24013001g0 b24013001g1 b24013001g2 b24001g0 b24001g1 b24001g2 b1g0 b1g1 b1g2 b24013015g0 m24013016 k (IntKind.wrap .i64 (t66 + 1)) (b24013015g1.set (Int.toNat t7) ((at_ (.arr 49 yI) b24013015g1 t7).set (Int.toNat t66) (-1:Int))) else none else none
 else
 some ((t63,()),((k0t3,k0t4,()),(k1t3,()),()),((b24013001g0,b24013001g1,b24013001g2,()),(),(),(b24001g0,b24001g1,b24001g2,()),(b1g0,b1g1,b1g2,()),(b24013015g0,b24013015g1,()),m24013016,()))
def f265_l18x_n (n:Nat) (x:f265_l18xh.den):=f265_l18x x.1.1 x.1.2.1 x.2.1.1.1 x.2.1.1.2.1 x.2.1.2.1.1 x.2.2.1.1 x.2.2.1.2.1 x.2.2.1.2.2.1 x.2.2.2.2.2.1.1 x.2.2.2.2.2.1.2.1 x.2.2.2.2.2.1.2.2.1 x.2.2.2.2.2.2.1.1 x.2.2.2.2.2.2.1.2.1 x.2.2.2.2.2.2.1.2.2.1 x.2.2.2.2.2.2.2.1.1 x.2.2.2.2.2.2.2.2.1 n x.1.2.2.1 x.2.2.2.2.2.2.2.1.2.1
def f265_l18xs:LSpec:={ head:=f265_l18xh,outs:=f265_l18xo,fn:=fun x=>f265_l18x_n (((49:Int) - x.1.2.2.1).toNat + 1) x }
def f265_l15xh:Ann:={ env:=[(1,cP 24013001),(3,cP 24013003),(4,cP 24013004),(63,YI)],stk:=[[(1,cP 24001),(2,.cst .nils),(3,YI),(4,YI)],[(1,cP 1),(2,.cst .nils),(3,YI)]],bxs:=[(24013001,.var [.ty (.sl yV),.ty (.sl yD),.ty (.sl yI)]),(24013003,.var [cP 24013015]),(24013004,.var [.cst (.mp 24013016)]),(24001,.var [.ty (.sl yV),.ty (.sl yD),.ty (.sl yI)]),(1,.var [.ty (.sl yV),.ty (.sl yD),.ty (.sl yI)]),(24013015,.var [.ty (.arr 25 (.arr 49 yI)),.ty (.arr 25 (.arr 49 yI)),.cst .nils,.cst .nils]),(24013016,.map yI yI)] }
def f265_l15xo:List (Ex × Ann):=[((.exit 3),{ env:=[(1,cP 24013001),(3,cP 24013003),(4,cP 24013004)],stk:=[[(1,cP 24001),(2,.cst .nils),(3,YI),(4,YI)],[(1,cP 1),(2,.cst .nils),(3,YI)]],bxs:=[(24013001,.var [.ty (.sl yV),.ty (.sl yD),.ty (.sl yI)]),(24013003,.var [cP 24013015]),(24013004,.var [.cst (.mp 24013016)]),(24001,.var [.ty (.sl yV),.ty (.sl yD),.ty (.sl yI)]),(1,.var [.ty (.sl yV),.ty (.sl yD),.ty (.sl yI)]),(24013015,.var [.ty (.arr 25 (.arr 49 yI)),.ty (.arr 25 (.arr 49 yI)),.cst .nils,.cst .nils]),(24013016,.map yI yI)] })]
def f265_l15x:Nat→Int→Int→Int→Int→(List Yv)→(List Yd)→(List Int)→(List Yv)→(List Yd)→(List Int)→(List Yv)→(List Yd)→(List Int)→(List (List Int))→(List (List Int))→(List (Int × Int))→Option (outDen f265_l15xo)
 | 0,_,_,_,_,_,_,_,_,_,_,_,_,_,_,_,_=>none
 | k + 1,t63,k0t3,k0t4,k1t3,b24013001g0,b24013001g1,b24013001g2,b24001g0,b24001g1,b24001g2,b1g0,b1g1,b1g2,b24013015g0,b24013015g1,m24013016 =>
 bif (decide (t63 < (25:Int))) then
 (f265_l18x t63 t63 k0t3 k0t4 k1t3 b24013001g0 b24013001g1 b24013001g2 b24001g0 b24001g1 b24001g2 b1g0 b1g1 b1g2 b24013015g0 m24013016 (((49:Int) - (0:Int)).toNat + 1) (0:Int) b24013015g1).bind fun o303 =>
 let u304:Int:=o303.1.1
 let u305:Int:=o303.2.1.1.1
 let u306:Int:=o303.2.1.1.2.1
 let u307:Int:=o303.2.1.2.1.1
 let u308:(List Yv):=o303.2.2.1.1
 let u309:(List Yd):=o303.2.2.1.2.1
 let u310:(List Int):=o303.2.2.1.2.2.1
 let u311:(List Yv):=o303.2.2.2.2.2.1.1
 let u312:(List Yd):=o303.2.2.2.2.2.1.2.1
 let u313:(List Int):=o303.2.2.2.2.2.1.2.2.1
 let u314:(List Yv):=o303.2.2.2.2.2.2.1.1
 let u315:(List Yd):=o303.2.2.2.2.2.2.1.2.1
 let u316:(List Int):=o303.2.2.2.2.2.2.1.2.2.1
 let u317:(List (List Int)):=o303.2.2.2.2.2.2.2.1.1
 let u318:(List (List Int)):=o303.2.2.2.2.2.2.2.1.2.1
 let u319:(List (Int × Int)):=o303.2.2.2.2.2.2.2.2.1
 f265_l15x k (IntKind.wrap .i64 (u304 + 1)) u305 u306 u307 u308 u309 u310 u311 u312 u313 u314 u315 u316 u317 u318 u319
 else
 some ((),((k0t3,k0t4,()),(k1t3,()),()),((b24013001g0,b24013001g1,b24013001g2,()),(),(),(b24001g0,b24001g1,b24001g2,()),(b1g0,b1g1,b1g2,()),(b24013015g0,b24013015g1,()),m24013016,()))
def f265_l15x_n (n:Nat) (x:f265_l15xh.den):=f265_l15x n x.1.1 x.2.1.1.1 x.2.1.1.2.1 x.2.1.2.1.1 x.2.2.1.1 x.2.2.1.2.1 x.2.2.1.2.2.1 x.2.2.2.2.2.1.1 x.2.2.2.2.2.1.2.1 x.2.2.2.2.2.1.2.2.1 x.2.2.2.2.2.2.1.1 x.2.2.2.2.2.2.1.2.1 x.2.2.2.2.2.2.1.2.2.1 x.2.2.2.2.2.2.2.1.1 x.2.2.2.2.2.2.2.1.2.1 x.2.2.2.2.2.2.2.2.1
def f265_l15xs:LSpec:={ head:=f265_l15xh,outs:=f265_l15xo,fn:=fun x=>f265_l15x_n (((25:Int) - x.1.1).toNat + 1) x }
noncomputable def f134_code_265:Code:=Tryz.f265.body.getD .skip
noncomputable def f134e:Env0:={ C:=cfg,P:=[],L:=[(⟨10,24013000,265,18⟩,f265_l18xs),(⟨10,24013000,265,15⟩,f265_l15xs)],F:=[(87,Tryz.f87),(96,Tryz.f96),(101,Tryz.f101),(111,Tryz.f111),(118,Tryz.f118),(134,Tryz.f134),(143,Tryz.f143),(144,Tryz.f144),(145,Tryz.f145),(146,Tryz.f146),(147,Tryz.f147),(148,Tryz.f148),(149,Tryz.f149),(150,Tryz.f150),(151,Tryz.f151),(152,Tryz.f152),(153,Tryz.f153),(154,Tryz.f154),(195,Tryz.f195),(196,Tryz.f196),(197,Tryz.f197),(198,Tryz.f198),(199,Tryz.f199),(202,Tryz.f202),(205,Tryz.f205),(226,Tryz.f226),(227,Tryz.f227),(228,Tryz.f228),(229,Tryz.f229),(230,Tryz.f230),(231,Tryz.f231),(241,Tryz.f241),(265,Tryz.f265),(266,Tryz.f266),(267,Tryz.f267),(268,Tryz.f268),(277,Tryz.f277),(291,Tryz.f291),(292,Tryz.f292),(294,Tryz.f294),(295,Tryz.f295),(303,Tryz.f303),(304,Tryz.f304),(305,Tryz.f305),(323,Tryz.f323),(324,Tryz.f324),(329,Tryz.f329),(330,Tryz.f330),(331,Tryz.f331),(332,Tryz.f332),(333,Tryz.f333),(334,Tryz.f334),(335,Tryz.f335),(338,Tryz.f338),(339,Tryz.f339),(362,Tryz.f362),(363,Tryz.f363),(364,Tryz.f364),(365,Tryz.f365),(366,Tryz.f366),(375,Tryz.f375)],fuel:=64,vary:=true,tot:=[(143,[4]),(145,[4]),(205,[9]),(229,[4]),(265,[26]),(266,[2,3,8]),(303,[5])] }
theorem f265_l18xy:zan f134e 10 265 24013000 (zao f134_code_265 18) f265_l18xs :=
 zae (by kernel_rfl) f265_l18x_n (fun x o h=>⟨_,h⟩) (fun x=>by kernel_rfl) (fun n x=>by kernel_rfl)
theorem f265_l15xy:zan f134e 10 265 24013000 (zao f134_code_265 15) f265_l15xs :=
 zae (by kernel_rfl) f265_l15x_n (fun x o h=>⟨_,h⟩) (fun x=>by kernel_rfl) (fun n x=>by kernel_rfl)
def f134_a0:tysDen [yG]:=(([((3:Int),(0:Int),())],[],[],()),())
def f134_r0:tysDen [(.sl yN),.int .i64]:=([((3:Int),[-1,0,0],())],(0:Int),())
theorem f134_run0:runF f134e 134 Tryz.f134 f134c [yG] [(.sl yN),.int .i64] f134_a0 = some f134_r0:=by kernel_rfl
def f134s:PSpec:={ args:=[yG],res:=[(.sl yN),.int .i64],fn:=fun x=>bif zaw [yG] x f134_a0 then some f134_r0 else none }
theorem f134n:zQ 134:=zN Tryz.func134
theorem f134k:zE f134e:=zO zce trivial trivial ⟨zK Tryz.func87,zK Tryz.func96,zK Tryz.func101,zK Tryz.func111,zK Tryz.func118,zK Tryz.func134,zK Tryz.func143,zK Tryz.func144,zK Tryz.func145,zK Tryz.func146,zK Tryz.func147,zK Tryz.func148,zK Tryz.func149,zK Tryz.func150,zK Tryz.func151,zK Tryz.func152,zK Tryz.func153,zK Tryz.func154,zK Tryz.func195,zK Tryz.func196,zK Tryz.func197,zK Tryz.func198,zK Tryz.func199,zK Tryz.func202,zK Tryz.func205,zK Tryz.func226,zK Tryz.func227,zK Tryz.func228,zK Tryz.func229,zK Tryz.func230,zK Tryz.func231,zK Tryz.func241,zK Tryz.func265,zK Tryz.func266,zK Tryz.func267,zK Tryz.func268,zK Tryz.func277,zK Tryz.func291,zK Tryz.func292,zK Tryz.func294,zK Tryz.func295,zK Tryz.func303,zK Tryz.func304,zK Tryz.func305,zK Tryz.func323,zK Tryz.func324,zK Tryz.func329,zK Tryz.func330,zK Tryz.func331,zK Tryz.func332,zK Tryz.func333,zK Tryz.func334,zK Tryz.func335,zK Tryz.func338,zK Tryz.func339,zK Tryz.func362,zK Tryz.func363,zK Tryz.func364,zK Tryz.func365,zK Tryz.func366,zK Tryz.func375,trivial⟩ ⟨⟨Tryz.f265,f134_code_265,rfl,rfl,f265_l18xy⟩,⟨Tryz.f265,f134_code_265,rfl,rfl,f265_l15xy⟩,trivial⟩
theorem f134p:zbh Tryz.prog cfg 134 f134s:=zaX f134k (fn:=Tryz.f134) (c:=f134c) rfl rfl f134s (fun x y h=>by
 simp only [f134s] at h
 cases h0:zaw [yG] x f134_a0
 case true =>
  rw [h0,cond_true] at h
  cases h
  rw [zaD h0]
  exact f134_run0
 rw [h0,cond_false] at h
 cases h)
end Go.V.G
namespace Go.V.G
open Go.Proofs
noncomputable def f137c:Code:=Tryz.f137.body.getD .skip
noncomputable def f137e:Env0:={ C:=cfg,P:=[],L:=[],F:=[(87,Tryz.f87),(96,Tryz.f96),(101,Tryz.f101),(111,Tryz.f111),(118,Tryz.f118),(137,Tryz.f137),(143,Tryz.f143),(144,Tryz.f144),(145,Tryz.f145),(146,Tryz.f146),(147,Tryz.f147),(148,Tryz.f148),(149,Tryz.f149),(150,Tryz.f150),(151,Tryz.f151),(152,Tryz.f152),(153,Tryz.f153),(154,Tryz.f154),(202,Tryz.f202),(204,Tryz.f204),(205,Tryz.f205),(206,Tryz.f206),(207,Tryz.f207),(208,Tryz.f208),(209,Tryz.f209),(210,Tryz.f210),(211,Tryz.f211),(216,Tryz.f216),(217,Tryz.f217),(226,Tryz.f226),(227,Tryz.f227),(228,Tryz.f228),(229,Tryz.f229),(230,Tryz.f230),(231,Tryz.f231),(270,Tryz.f270),(271,Tryz.f271),(272,Tryz.f272),(273,Tryz.f273),(274,Tryz.f274),(275,Tryz.f275),(276,Tryz.f276),(277,Tryz.f277),(278,Tryz.f278),(291,Tryz.f291),(292,Tryz.f292),(295,Tryz.f295),(306,Tryz.f306),(307,Tryz.f307),(308,Tryz.f308),(309,Tryz.f309),(310,Tryz.f310),(311,Tryz.f311),(312,Tryz.f312),(313,Tryz.f313),(314,Tryz.f314),(315,Tryz.f315),(316,Tryz.f316),(317,Tryz.f317),(318,Tryz.f318),(319,Tryz.f319),(320,Tryz.f320),(321,Tryz.f321),(322,Tryz.f322),(323,Tryz.f323),(324,Tryz.f324),(325,Tryz.f325),(326,Tryz.f326),(338,Tryz.f338),(339,Tryz.f339),(349,Tryz.f349),(350,Tryz.f350),(351,Tryz.f351),(352,Tryz.f352),(353,Tryz.f353),(354,Tryz.f354),(355,Tryz.f355),(356,Tryz.f356),(357,Tryz.f357),(358,Tryz.f358),(361,Tryz.f361),(363,Tryz.f363),(364,Tryz.f364),(370,Tryz.f370),(371,Tryz.f371),(372,Tryz.f372),(373,Tryz.f373),(374,Tryz.f374),(377,Tryz.f377),(378,Tryz.f378),(379,Tryz.f379)],fuel:=64,vary:=true,tot:=[(137,[4]),(143,[4]),(145,[4]),(205,[9]),(229,[4]),(276,[5]),(306,[27,28]),(349,[2])] }
def f137_a0:tysDen [yG]:=(([((3:Int),(0:Int),())],[],[],()),())
def f137_r0:tysDen [(.sl yN),.int .i64]:=([((3:Int),[-1,0],())],(0:Int),())
theorem f137_run0:runF f137e 137 Tryz.f137 f137c [yG] [(.sl yN),.int .i64] f137_a0 = some f137_r0:=by kernel_rfl
def f137s:PSpec:={ args:=[yG],res:=[(.sl yN),.int .i64],fn:=fun x=>bif zaw [yG] x f137_a0 then some f137_r0 else none }
theorem f137n:zQ 137:=zN Tryz.func137
theorem f137k:zE f137e:=zO zce trivial trivial ⟨zK Tryz.func87,zK Tryz.func96,zK Tryz.func101,zK Tryz.func111,zK Tryz.func118,zK Tryz.func137,zK Tryz.func143,zK Tryz.func144,zK Tryz.func145,zK Tryz.func146,zK Tryz.func147,zK Tryz.func148,zK Tryz.func149,zK Tryz.func150,zK Tryz.func151,zK Tryz.func152,zK Tryz.func153,zK Tryz.func154,zK Tryz.func202,zK Tryz.func204,zK Tryz.func205,zK Tryz.func206,zK Tryz.func207,zK Tryz.func208,zK Tryz.func209,zK Tryz.func210,zK Tryz.func211,zK Tryz.func216,zK Tryz.func217,zK Tryz.func226,zK Tryz.func227,zK Tryz.func228,zK Tryz.func229,zK Tryz.func230,zK Tryz.func231,zK Tryz.func270,zK Tryz.func271,zK Tryz.func272,zK Tryz.func273,zK Tryz.func274,zK Tryz.func275,zK Tryz.func276,zK Tryz.func277,zK Tryz.func278,zK Tryz.func291,zK Tryz.func292,zK Tryz.func295,zK Tryz.func306,zK Tryz.func307,zK Tryz.func308,zK Tryz.func309,zK Tryz.func310,zK Tryz.func311,zK Tryz.func312,zK Tryz.func313,zK Tryz.func314,zK Tryz.func315,zK Tryz.func316,zK Tryz.func317,zK Tryz.func318,zK Tryz.func319,zK Tryz.func320,zK Tryz.func321,zK Tryz.func322,zK Tryz.func323,zK Tryz.func324,zK Tryz.func325,zK Tryz.func326,zK Tryz.func338,zK Tryz.func339,zK Tryz.func349,zK Tryz.func350,zK Tryz.func351,zK Tryz.func352,zK Tryz.func353,zK Tryz.func354,zK Tryz.func355,zK Tryz.func356,zK Tryz.func357,zK Tryz.func358,zK Tryz.func361,zK Tryz.func363,zK Tryz.func364,zK Tryz.func370,zK Tryz.func371,zK Tryz.func372,zK Tryz.func373,zK Tryz.func374,zK Tryz.func377,zK Tryz.func378,zK Tryz.func379,trivial⟩ trivial
theorem f137p:zbh Tryz.prog cfg 137 f137s:=zaX f137k (fn:=Tryz.f137) (c:=f137c) rfl rfl f137s (fun x y h=>by
 simp only [f137s] at h
 cases h0:zaw [yG] x f137_a0
 case true =>
  rw [h0,cond_true] at h
  cases h
  rw [zaD h0]
  exact f137_run0
 rw [h0,cond_false] at h
 cases h)
end Go.V.G
namespace Go.V.G
open Go.Proofs
noncomputable def f140c:Code:=Tryz.f140.body.getD .skip
noncomputable def f140e:Env0:={ C:=cfg,P:=[],L:=[],F:=[(61,Tryz.f61),(87,Tryz.f87),(96,Tryz.f96),(101,Tryz.f101),(111,Tryz.f111),(118,Tryz.f118),(140,Tryz.f140),(143,Tryz.f143),(144,Tryz.f144),(145,Tryz.f145),(146,Tryz.f146),(147,Tryz.f147),(148,Tryz.f148),(149,Tryz.f149),(150,Tryz.f150),(151,Tryz.f151),(152,Tryz.f152),(153,Tryz.f153),(154,Tryz.f154),(202,Tryz.f202),(219,Tryz.f219),(220,Tryz.f220),(221,Tryz.f221),(222,Tryz.f222),(225,Tryz.f225),(226,Tryz.f226),(227,Tryz.f227),(228,Tryz.f228),(229,Tryz.f229),(230,Tryz.f230),(231,Tryz.f231),(256,Tryz.f256),(282,Tryz.f282),(283,Tryz.f283),(284,Tryz.f284),(285,Tryz.f285),(286,Tryz.f286),(290,Tryz.f290),(291,Tryz.f291),(292,Tryz.f292),(295,Tryz.f295),(297,Tryz.f297),(338,Tryz.f338),(339,Tryz.f339),(340,Tryz.f340),(341,Tryz.f341),(342,Tryz.f342),(343,Tryz.f343),(344,Tryz.f344),(345,Tryz.f345),(363,Tryz.f363),(364,Tryz.f364),(367,Tryz.f367),(368,Tryz.f368),(369,Tryz.f369),(376,Tryz.f376)],fuel:=64,vary:=true,tot:=[(140,[15]),(143,[4]),(145,[4]),(229,[4])] }
def f140_a0:tysDen [yG]:=(([((3:Int),(0:Int),())],[],[],()),())
def f140_r0:tysDen [(.sl yN),.int .i64]:=([((3:Int),[0,-1,0],())],(0:Int),())
theorem f140_run0:runF f140e 140 Tryz.f140 f140c [yG] [(.sl yN),.int .i64] f140_a0 = some f140_r0:=by kernel_rfl
def f140s:PSpec:={ args:=[yG],res:=[(.sl yN),.int .i64],fn:=fun x=>bif zaw [yG] x f140_a0 then some f140_r0 else none }
theorem f140n:zQ 140:=zN Tryz.func140
theorem f140k:zE f140e:=zO zce trivial trivial ⟨zK Tryz.func61,zK Tryz.func87,zK Tryz.func96,zK Tryz.func101,zK Tryz.func111,zK Tryz.func118,zK Tryz.func140,zK Tryz.func143,zK Tryz.func144,zK Tryz.func145,zK Tryz.func146,zK Tryz.func147,zK Tryz.func148,zK Tryz.func149,zK Tryz.func150,zK Tryz.func151,zK Tryz.func152,zK Tryz.func153,zK Tryz.func154,zK Tryz.func202,zK Tryz.func219,zK Tryz.func220,zK Tryz.func221,zK Tryz.func222,zK Tryz.func225,zK Tryz.func226,zK Tryz.func227,zK Tryz.func228,zK Tryz.func229,zK Tryz.func230,zK Tryz.func231,zK Tryz.func256,zK Tryz.func282,zK Tryz.func283,zK Tryz.func284,zK Tryz.func285,zK Tryz.func286,zK Tryz.func290,zK Tryz.func291,zK Tryz.func292,zK Tryz.func295,zK Tryz.func297,zK Tryz.func338,zK Tryz.func339,zK Tryz.func340,zK Tryz.func341,zK Tryz.func342,zK Tryz.func343,zK Tryz.func344,zK Tryz.func345,zK Tryz.func363,zK Tryz.func364,zK Tryz.func367,zK Tryz.func368,zK Tryz.func369,zK Tryz.func376,trivial⟩ trivial
theorem f140p:zbh Tryz.prog cfg 140 f140s:=zaX f140k (fn:=Tryz.f140) (c:=f140c) rfl rfl f140s (fun x y h=>by
 simp only [f140s] at h
 cases h0:zaw [yG] x f140_a0
 case true =>
  rw [h0,cond_true] at h
  cases h
  rw [zaD h0]
  exact f140_run0
 rw [h0,cond_false] at h
 cases h)
end Go.V.G
namespace Go.V.G
open Go.Proofs
noncomputable def f75c:Code:=Tryz.f66.body.getD .skip
noncomputable def f75e:Env0:={ C:=cfg,P:=[(122,f122s),(125,f125s),(128,f128s),(131,f131s),(134,f134s),(137,f137s),(140,f140s)],L:=[],F:=[(66,Tryz.f66),(77,Tryz.f77),(87,Tryz.f87),(90,Tryz.f90),(96,Tryz.f96),(101,Tryz.f101),(110,Tryz.f110),(118,Tryz.f118),(123,Tryz.f123),(124,Tryz.f124),(126,Tryz.f126),(127,Tryz.f127),(129,Tryz.f129),(130,Tryz.f130),(132,Tryz.f132),(133,Tryz.f133),(135,Tryz.f135),(136,Tryz.f136),(138,Tryz.f138),(139,Tryz.f139),(141,Tryz.f141),(142,Tryz.f142),(153,Tryz.f153),(164,Tryz.f164),(165,Tryz.f165),(166,Tryz.f166),(172,Tryz.f172),(174,Tryz.f174),(175,Tryz.f175),(176,Tryz.f176),(177,Tryz.f177),(178,Tryz.f178),(179,Tryz.f179),(180,Tryz.f180),(183,Tryz.f183),(184,Tryz.f184),(185,Tryz.f185),(186,Tryz.f186),(187,Tryz.f187),(188,Tryz.f188),(189,Tryz.f189),(190,Tryz.f190),(192,Tryz.f192),(193,Tryz.f193),(194,Tryz.f194),(198,Tryz.f198),(200,Tryz.f200),(201,Tryz.f201),(202,Tryz.f202),(203,Tryz.f203),(212,Tryz.f212),(213,Tryz.f213),(214,Tryz.f214),(215,Tryz.f215),(216,Tryz.f216),(217,Tryz.f217),(218,Tryz.f218),(223,Tryz.f223),(224,Tryz.f224),(225,Tryz.f225),(234,Tryz.f234),(235,Tryz.f235),(239,Tryz.f239),(240,Tryz.f240),(241,Tryz.f241),(242,Tryz.f242),(243,Tryz.f243),(244,Tryz.f244),(251,Tryz.f251),(252,Tryz.f252),(253,Tryz.f253),(254,Tryz.f254),(255,Tryz.f255),(256,Tryz.f256),(257,Tryz.f257),(259,Tryz.f259),(260,Tryz.f260),(261,Tryz.f261),(262,Tryz.f262),(263,Tryz.f263),(264,Tryz.f264),(269,Tryz.f269),(274,Tryz.f274),(279,Tryz.f279),(280,Tryz.f280),(281,Tryz.f281),(287,Tryz.f287),(288,Tryz.f288),(289,Tryz.f289),(290,Tryz.f290),(294,Tryz.f294),(295,Tryz.f295),(297,Tryz.f297),(301,Tryz.f301),(302,Tryz.f302),(327,Tryz.f327),(329,Tryz.f329),(330,Tryz.f330),(331,Tryz.f331),(332,Tryz.f332),(333,Tryz.f333),(334,Tryz.f334),(335,Tryz.f335),(338,Tryz.f338),(339,Tryz.f339),(340,Tryz.f340),(341,Tryz.f341),(342,Tryz.f342),(343,Tryz.f343),(344,Tryz.f344),(345,Tryz.f345),(362,Tryz.f362),(363,Tryz.f363),(364,Tryz.f364),(365,Tryz.f365),(366,Tryz.f366),(367,Tryz.f367),(368,Tryz.f368),(369,Tryz.f369),(375,Tryz.f375),(376,Tryz.f376)],fuel:=64,vary:=true,tot:=[(126,[14]),(129,[27,31]),(192,[12]),(223,[9])] }
def f75_a0:tysDen [.int .i64,yG]:=((1:Int),([((3:Int),(0:Int),())],[],[],()),())
def f75_r0:tysDen [(.sl yN),.int .i64]:=([((3:Int),[3,0,-1],())],(0:Int),())
theorem f75_run0:runF f75e 66 Tryz.f66 f75c [.int .i64,yG] [(.sl yN),.int .i64] f75_a0 = some f75_r0:=by kernel_rfl
def f75_a1:tysDen [.int .i64,yG]:=((2:Int),([((3:Int),(0:Int),())],[],[],()),())
def f75_r1:tysDen [(.sl yN),.int .i64]:=([((3:Int),[3,0,-1,0,-1,0,0],())],(0:Int),())
theorem f75_run1:runF f75e 66 Tryz.f66 f75c [.int .i64,yG] [(.sl yN),.int .i64] f75_a1 = some f75_r1:=by kernel_rfl
def f75_a2:tysDen [.int .i64,yG]:=((3:Int),([((3:Int),(0:Int),())],[],[],()),())
def f75_r2:tysDen [(.sl yN),.int .i64]:=([((3:Int),[],())],(0:Int),())
theorem f75_run2:runF f75e 66 Tryz.f66 f75c [.int .i64,yG] [(.sl yN),.int .i64] f75_a2 = some f75_r2:=by kernel_rfl
def f75_a3:tysDen [.int .i64,yG]:=((4:Int),([((3:Int),(0:Int),())],[],[],()),())
def f75_r3:tysDen [(.sl yN),.int .i64]:=([((3:Int),[3,0,-1,-1,0],())],(0:Int),())
theorem f75_run3:runF f75e 66 Tryz.f66 f75c [.int .i64,yG] [(.sl yN),.int .i64] f75_a3 = some f75_r3:=by kernel_rfl
def f75_a4:tysDen [.int .i64,yG]:=((5:Int),([((3:Int),(0:Int),())],[],[],()),())
def f75_r4:tysDen [(.sl yN),.int .i64]:=([((3:Int),[-1,0,0],())],(0:Int),())
theorem f75_run4:runF f75e 66 Tryz.f66 f75c [.int .i64,yG] [(.sl yN),.int .i64] f75_a4 = some f75_r4:=by kernel_rfl
def f75_a5:tysDen [.int .i64,yG]:=((6:Int),([((3:Int),(0:Int),())],[],[],()),())
def f75_r5:tysDen [(.sl yN),.int .i64]:=([((3:Int),[-1,0],())],(0:Int),())
theorem f75_run5:runF f75e 66 Tryz.f66 f75c [.int .i64,yG] [(.sl yN),.int .i64] f75_a5 = some f75_r5:=by kernel_rfl
def f75_a6:tysDen [.int .i64,yG]:=((7:Int),([((3:Int),(0:Int),())],[],[],()),())
def f75_r6:tysDen [(.sl yN),.int .i64]:=([((3:Int),[0,-1,0],())],(0:Int),())
theorem f75_run6:runF f75e 66 Tryz.f66 f75c [.int .i64,yG] [(.sl yN),.int .i64] f75_a6 = some f75_r6:=by kernel_rfl
def f75_a7:tysDen [.int .i64,yG]:=((1:Int),([],[],[(1:Int)],()),())
def f75_r7:tysDen [(.sl yN),.int .i64]:=([],(150:Int),())
theorem f75_run7:runF f75e 66 Tryz.f66 f75c [.int .i64,yG] [(.sl yN),.int .i64] f75_a7 = some f75_r7:=by kernel_rfl
def f75s:PSpec:={ args:=[.int .i64,yG],res:=[(.sl yN),.int .i64],fn:=fun x=>bif zaw [.int .i64,yG] x f75_a0 then some f75_r0 else bif zaw [.int .i64,yG] x f75_a1 then some f75_r1 else bif zaw [.int .i64,yG] x f75_a2 then some f75_r2 else bif zaw [.int .i64,yG] x f75_a3 then some f75_r3 else bif zaw [.int .i64,yG] x f75_a4 then some f75_r4 else bif zaw [.int .i64,yG] x f75_a5 then some f75_r5 else bif zaw [.int .i64,yG] x f75_a6 then some f75_r6 else bif zaw [.int .i64,yG] x f75_a7 then some f75_r7 else none }
theorem f75n:zQ 66:=zN Tryz.func66
theorem f75k:zE f75e:=zO zce ⟨⟨f122p,f122n⟩,⟨f125p,f125n⟩,⟨f128p,f128n⟩,⟨f131p,f131n⟩,⟨f134p,f134n⟩,⟨f137p,f137n⟩,⟨f140p,f140n⟩,trivial⟩ trivial ⟨zK Tryz.func66,zK Tryz.func77,zK Tryz.func87,zK Tryz.func90,zK Tryz.func96,zK Tryz.func101,zK Tryz.func110,zK Tryz.func118,zK Tryz.func123,zK Tryz.func124,zK Tryz.func126,zK Tryz.func127,zK Tryz.func129,zK Tryz.func130,zK Tryz.func132,zK Tryz.func133,zK Tryz.func135,zK Tryz.func136,zK Tryz.func138,zK Tryz.func139,zK Tryz.func141,zK Tryz.func142,zK Tryz.func153,zK Tryz.func164,zK Tryz.func165,zK Tryz.func166,zK Tryz.func172,zK Tryz.func174,zK Tryz.func175,zK Tryz.func176,zK Tryz.func177,zK Tryz.func178,zK Tryz.func179,zK Tryz.func180,zK Tryz.func183,zK Tryz.func184,zK Tryz.func185,zK Tryz.func186,zK Tryz.func187,zK Tryz.func188,zK Tryz.func189,zK Tryz.func190,zK Tryz.func192,zK Tryz.func193,zK Tryz.func194,zK Tryz.func198,zK Tryz.func200,zK Tryz.func201,zK Tryz.func202,zK Tryz.func203,zK Tryz.func212,zK Tryz.func213,zK Tryz.func214,zK Tryz.func215,zK Tryz.func216,zK Tryz.func217,zK Tryz.func218,zK Tryz.func223,zK Tryz.func224,zK Tryz.func225,zK Tryz.func234,zK Tryz.func235,zK Tryz.func239,zK Tryz.func240,zK Tryz.func241,zK Tryz.func242,zK Tryz.func243,zK Tryz.func244,zK Tryz.func251,zK Tryz.func252,zK Tryz.func253,zK Tryz.func254,zK Tryz.func255,zK Tryz.func256,zK Tryz.func257,zK Tryz.func259,zK Tryz.func260,zK Tryz.func261,zK Tryz.func262,zK Tryz.func263,zK Tryz.func264,zK Tryz.func269,zK Tryz.func274,zK Tryz.func279,zK Tryz.func280,zK Tryz.func281,zK Tryz.func287,zK Tryz.func288,zK Tryz.func289,zK Tryz.func290,zK Tryz.func294,zK Tryz.func295,zK Tryz.func297,zK Tryz.func301,zK Tryz.func302,zK Tryz.func327,zK Tryz.func329,zK Tryz.func330,zK Tryz.func331,zK Tryz.func332,zK Tryz.func333,zK Tryz.func334,zK Tryz.func335,zK Tryz.func338,zK Tryz.func339,zK Tryz.func340,zK Tryz.func341,zK Tryz.func342,zK Tryz.func343,zK Tryz.func344,zK Tryz.func345,zK Tryz.func362,zK Tryz.func363,zK Tryz.func364,zK Tryz.func365,zK Tryz.func366,zK Tryz.func367,zK Tryz.func368,zK Tryz.func369,zK Tryz.func375,zK Tryz.func376,trivial⟩ trivial
theorem f75p:zbh Tryz.prog cfg 66 f75s:=zaX f75k (fn:=Tryz.f66) (c:=f75c) rfl rfl f75s (fun x y h=>by
 simp only [f75s] at h
 cases h0:zaw [.int .i64,yG] x f75_a0
 case true =>
  rw [h0,cond_true] at h
  cases h
  rw [zaD h0]
  exact f75_run0
 rw [h0,cond_false] at h
 cases h1:zaw [.int .i64,yG] x f75_a1
 case true =>
  rw [h1,cond_true] at h
  cases h
  rw [zaD h1]
  exact f75_run1
 rw [h1,cond_false] at h
 cases h2:zaw [.int .i64,yG] x f75_a2
 case true =>
  rw [h2,cond_true] at h
  cases h
  rw [zaD h2]
  exact f75_run2
 rw [h2,cond_false] at h
 cases h3:zaw [.int .i64,yG] x f75_a3
 case true =>
  rw [h3,cond_true] at h
  cases h
  rw [zaD h3]
  exact f75_run3
 rw [h3,cond_false] at h
 cases h4:zaw [.int .i64,yG] x f75_a4
 case true =>
  rw [h4,cond_true] at h
  cases h
  rw [zaD h4]
  exact f75_run4
 rw [h4,cond_false] at h
 cases h5:zaw [.int .i64,yG] x f75_a5
 case true =>
  rw [h5,cond_true] at h
  cases h
  rw [zaD h5]
  exact f75_run5
 rw [h5,cond_false] at h
 cases h6:zaw [.int .i64,yG] x f75_a6
 case true =>
  rw [h6,cond_true] at h
  cases h
  rw [zaD h6]
  exact f75_run6
 rw [h6,cond_false] at h
 cases h7:zaw [.int .i64,yG] x f75_a7
 case true =>
  rw [h7,cond_true] at h
  cases h
  rw [zaD h7]
  exact f75_run7
 rw [h7,cond_false] at h
 cases h)
end Go.V.G
namespace Go.V.G
open Go.Proofs
noncomputable def c32c:Code:=Tryz.f22.body.getD .skip
noncomputable def c32e:Env0:={ C:=cfg,P:=[(66,f75s)],L:=[],F:=[(22,Tryz.f22)],fuel:=64,vary:=true }
def zj3:tysDen [yG]:=(([((3:Int),(0:Int),())],[],[],()),())
def zlF:tysDen [yC,.int .i64]:=(([[],[((3:Int),[3,0,-1],())],[((3:Int),[3,0,-1,0,-1,0,0],())],[((3:Int),[],())],[((3:Int),[3,0,-1,-1,0],())],[((3:Int),[-1,0,0],())],[((3:Int),[-1,0],())],[((3:Int),[0,-1,0],())]],()),(0:Int),())
theorem zm1:runF c32e 22 Tryz.f22 c32c [yG] [yC,.int .i64] zj3 = some zlF:=by kernel_rfl
def zj4:tysDen [yG]:=(([],[],[(1:Int)],()),())
def zlG:tysDen [yC,.int .i64]:=((List.replicate 8 [],()),(160:Int),())
theorem zm2:runF c32e 22 Tryz.f22 c32c [yG] [yC,.int .i64] zj4 = some zlG:=by kernel_rfl
noncomputable def c32 (b0:Ty.den (yG)):Option (tysDen [yC,.int .i64]):=(fun x:tysDen [yG]=>bif zaw [yG] x zj3 then some zlF else bif zaw [yG] x zj4 then some zlG else none) (b0,())
noncomputable def c32s:PSpec:={ args:=[yG],res:=[yC,.int .i64],fn:=fun x=>c32 x.1 }
theorem c32n:zQ 22:=zN Tryz.func22
theorem c32k:zE c32e:=zO zce ⟨⟨f75p,f75n⟩,trivial⟩ trivial ⟨zK Tryz.func22,trivial⟩ trivial
theorem c32p:zbh Tryz.prog cfg 22 c32s:=zaX c32k (fn:=Tryz.f22) (c:=c32c) rfl rfl c32s (fun x y h=>by
 simp only [c32s,c32] at h
 change (bif zaw [yG] x zj3 then some zlF else bif zaw [yG] x zj4 then some zlG else none) = _ at h
 cases h0:zaw [yG] x zj3
 case true =>
  rw [h0,cond_true] at h
  cases h
  rw [zaD h0]
  exact zm1
 rw [h0,cond_false] at h
 cases h1:zaw [yG] x zj4
 case true =>
  rw [h1,cond_true] at h
  cases h
  rw [zaD h1]
  exact zm2
 rw [h1,cond_false] at h
 cases h)
end Go.V.G
namespace Go.V.G
open Go.Proofs
noncomputable section
def f7G (F12:tysDen f12s.args→Option (tysDen f12s.res)) (F13:tysDen f13s.args→Option (tysDen f13s.res)) (F14:tysDen f14s.args→Option (tysDen f14s.res)) (F16:tysDen f16s.args→Option (tysDen f16s.res)) (F17:tysDen f17s.args→Option (tysDen f17s.res)) (F19:tysDen f19s.args→Option (tysDen f19s.res)) (F21:tysDen f21s.args→Option (tysDen f21s.res)) (F22:tysDen f22s.args→Option (tysDen f22s.res)) (F24:tysDen f24s.args→Option (tysDen f24s.res)) (F26:tysDen f26s.args→Option (tysDen f26s.res)) (F27:tysDen f27s.args→Option (tysDen f27s.res)) (F28:tysDen f28s.args→Option (tysDen f28s.res)) (F29:tysDen f29s.args→Option (tysDen f29s.res)) (Fc30:tysDen c30s.args→Option (tysDen c30s.res)) (F31:tysDen f31s.args→Option (tysDen f31s.res)) (Fc32:tysDen c32s.args→Option (tysDen c32s.res)) (F33:tysDen f33s.args→Option (tysDen f33s.res)) (F34:tysDen f34s.args→Option (tysDen f34s.res)) (F35:tysDen f35s.args→Option (tysDen f35s.res)) (F36:tysDen f36s.args→Option (tysDen f36s.res)):Option (Bool × Unit) :=
 bif (inR (1:Int) 8) then
 bif (inR (1:Int) 8) then
 (F12 ((([[],([((1:Int),(([(1:Int),(0:Int),(-1:Int)]:List Int),()))]:List Yn),[],[],[],[],[],[]]:List (List Yn)),()),((([[],([((0:Int),(([(0:Int),(0:Int),(-1:Int)]:List Int),())),((1:Int),(([(0:Int),(1:Int),(4:Int)]:List Int),()))]:List Yn),[],[],[],[],[],[]]:List (List Yn)),()),()))).bind fun y1 =>
 (F14 ((([[],([((1:Int),(([(1:Int),(0:Int),(-1:Int)]:List Int),()))]:List Yn),[],[],[],[],[],[]]:List (List Yn)),()),((([((1:Int),(0,(false,([],(true,(([(0:Int),(0:Int),(-1:Int)]:List Int),())))))),((1:Int),((1:Int),(true,(([(1:Int),(0:Int),(-1:Int)]:List Int),(true,(([(0:Int),(1:Int),(4:Int)]:List Int),()))))))]:List Yr),()),()))).bind fun y2 =>
 (F17 (y1.1,())).bind fun y3 =>
 (F22 ((([((1:Int),(0,(false,([],(true,(([(0:Int),(0:Int),(-1:Int)]:List Int),())))))),((1:Int),((1:Int),(true,(([(1:Int),(0:Int),(-1:Int)]:List Int),(true,(([(0:Int),(1:Int),(4:Int)]:List Int),()))))))]:List Yr),()),(y3.1,()))).bind fun y4 =>
 (F22 ((([((1:Int),(0,(false,([],(true,(([(0:Int),(0:Int),(-1:Int)]:List Int),())))))),((1:Int),((1:Int),(true,(([(1:Int),(0:Int),(-1:Int)]:List Int),(true,(([(0:Int),(1:Int),(4:Int)]:List Int),()))))))]:List Yr),()),((([((1:Int),(0,(false,([],(true,(([(0:Int),(0:Int),(-1:Int)]:List Int),())))))),((1:Int),((1:Int),(true,(([(1:Int),(0:Int),(-1:Int)]:List Int),(true,(([(0:Int),(1:Int),(4:Int)]:List Int),()))))))]:List Yr),()),()))).bind fun y5 =>
 (F27 (([(1:Int),(0:Int),(-1:Int)]:List Int),())).bind fun y6 =>
 (F28 ((⟨#[6,2,0,1]⟩:ByteArray),())).bind fun y7 =>
 (F29 ((([((1:Int),(0,(false,([],(true,(([(0:Int),(0:Int),(-1:Int)]:List Int),())))))),((1:Int),((1:Int),(true,(([(1:Int),(0:Int),(-1:Int)]:List Int),(true,(([(0:Int),(1:Int),(4:Int)]:List Int),()))))))]:List Yr),()),())).bind fun y8 =>
 bif (catOk (⟨#[120]⟩:ByteArray) y8.1) then
 (Fc30 (((⟨#[120]⟩:ByteArray)++y8.1),((1:Int),()))).bind fun y9 =>
 (F31 ((([[],([((1:Int),(([(1:Int),(0:Int),(-1:Int)]:List Int),()))]:List Yn),[],[],[],[],[],[]]:List (List Yn)),()),())).bind fun y10 =>
 bif (decide (y1.2.1 ≠ (0:Int))) then
 some (false,())
 else
 bif (decide (y2.2.1 ≠ (0:Int))) then
 some (false,())
 else
 bif (decide (y3.2.1 ≠ (0:Int))) then
 some (false,())
 else
 bif (decide (y4.2.1 ≠ (0:Int))) then
 some (false,())
 else
 bif (decide (y5.2.1 ≠ (160:Int))) then
 some (false,())
 else
 bif (decide (y6.2.1 ≠ (0:Int))) then
 some (false,())
 else
 bif (decide (y7.2.1 ≠ (0:Int))) then
 some (false,())
 else
 bif (decide (y8.2.1 ≠ (0:Int))) then
 some (false,())
 else
 bif (decide (y9.2.2.1 ≠ (0:Int))) then
 some (false,())
 else
 bif (decide (y10.2.1 ≠ (0:Int))) then
 some (false,())
 else
 let v11:Bool:=(!(decide (y6.1 = (⟨#[6,2,0,1]⟩:ByteArray))))
 bif v11 then
 some (false,())
 else
 let v12:Bool:=(decide ((y4.1.1.length:Int) > (0:Int)))
 bif v12 then
 some (false,())
 else
 (Fc32 ((([((3:Int),(0,()))]:List Yv),([],([],()))),())).bind fun y13 =>
 (Fc32 (([],([],(([(1:Int)]:List Int),()))),())).bind fun y14 =>
 (F33 (([],([],([],()))),((([[],([((1:Int),(([(1:Int),(0:Int),(-1:Int)]:List Int),()))]:List Yn),[],[],[],[],[],[]]:List (List Yn)),()),()))).bind fun y15 =>
 bif (decide (y13.2.1 ≠ (0:Int))) then
 some (false,())
 else
 bif (decide (y14.2.1 ≠ (160:Int))) then
 some (false,())
 else
 bif (decide (y15.2.1 ≠ (0:Int))) then
 some (false,())
 else
 let v16:Bool:=(decide ((y15.1.size:Int) ≠ (32:Int)))
 bif v16 then
 some (false,())
 else
 bif (inR (1:Int) 8) then
 let v17:(List Yn):=(at_ (.sl yN) y13.1.1 (1:Int))
 let v18:Bool:=(decide ((v17.length:Int) ≠ (1:Int)))
 bif v18 then
 some (false,())
 else
 bif (inR (1:Int) 8) then
 let v19:Bool:=(decide (((at_ .str y10.1 (1:Int)).size:Int) ≠ (32:Int)))
 bif v19 then
 some (false,())
 else
 bif (inR (2:Int) 8) then
 (F34 ()).bind fun y20 =>
 let v21:Bool:=(!(decide ((at_ .str y10.1 (2:Int)) = y20.1)))
 bif v21 then
 some (false,())
 else
 (F13 (y1.1,((([((1:Int),(0,(false,([],(true,(([(0:Int),(0:Int),(-1:Int)]:List Int),())))))),((1:Int),((1:Int),(true,(([(1:Int),(0:Int),(-1:Int)]:List Int),(true,(([(0:Int),(1:Int),(4:Int)]:List Int),()))))))]:List Yr),()),()))).bind fun y22 =>
 bif y22.1 then
 (F16 (y2.1,((([[],([((0:Int),(([(0:Int),(0:Int),(-1:Int)]:List Int),())),((1:Int),(([(0:Int),(1:Int),(4:Int)]:List Int),()))]:List Yn),[],[],[],[],[],[]]:List (List Yn)),()),()))).bind fun y23 =>
 bif y23.1 then
 (F26 (y7.1,(([(1:Int),(0:Int),(-1:Int)]:List Int),()))).bind fun y24 =>
 bif y24.1 then
 let v25:Int:=(IntKind.wrap .i64 ((1:Int) + (y8.1.size:Int)))
 bif (decide (y9.2.1 = v25)) then
 (F13 (y9.1,((([((1:Int),(0,(false,([],(true,(([(0:Int),(0:Int),(-1:Int)]:List Int),())))))),((1:Int),((1:Int),(true,(([(1:Int),(0:Int),(-1:Int)]:List Int),(true,(([(0:Int),(1:Int),(4:Int)]:List Int),()))))))]:List Yr),()),()))).bind fun y26 =>
 bif y26.1 then
 (F21 (y1.1,())).bind fun y27 =>
 bif (decide (y27.1 = (2:Int))) then
 (F35 ((([[],([((1:Int),(([(1:Int),(0:Int),(-1:Int)]:List Int),()))]:List Yn),[],[],[],[],[],[]]:List (List Yn)),()),())).bind fun y28 =>
 bif y28.1 then
 (F19 (y1.1,())).bind fun y29 =>
 bif y29.1 then
 (F36 ((([[],([((0:Int),(([(0:Int),(0:Int),(-1:Int)]:List Int),())),((1:Int),(([(0:Int),(1:Int),(4:Int)]:List Int),()))]:List Yn),[],[],[],[],[],[]]:List (List Yn)),()),(y2.1,()))).bind fun y30 =>
 bif y30.1 then
 (F36 ((([[],([((1:Int),(([(1:Int),(0:Int),(-1:Int)]:List Int),()))]:List Yn),[],[],[],[],[],[]]:List (List Yn)),()),((([[],([((0:Int),(([(0:Int),(0:Int),(-1:Int)]:List Int),())),((1:Int),(([(0:Int),(1:Int),(4:Int)]:List Int),()))]:List Yn),[],[],[],[],[],[]]:List (List Yn)),()),()))).bind fun y31 =>
 bif (!y31.1) then
 (F24 (y1.1,((([((1:Int),(0,(false,([],(true,(([(0:Int),(0:Int),(-1:Int)]:List Int),())))))),((1:Int),((1:Int),(true,(([(1:Int),(0:Int),(-1:Int)]:List Int),(true,(([(0:Int),(1:Int),(4:Int)]:List Int),()))))))]:List Yr),()),()))).bind fun y32 =>
 bif y32.1 then
 (F24 (y1.1,(y4.1,()))).bind fun y33 =>
 some ((!y33.1),())
 else
 some (false,())
 else
 some (false,())
 else
 some (false,())
 else
 some (false,())
 else
 some (false,())
 else
 some (false,())
 else
 some (false,())
 else
 some (false,())
 else
 some (false,())
 else
 some (false,())
 else
 some (false,())
 else none
 else none
 else none
 else none
 else none
 else none
def f7:Option (Bool × Unit):=f7G f12s.fn f13s.fn f14s.fn f16s.fn f17s.fn f19s.fn f21s.fn f22s.fn f24s.fn f26s.fn f27s.fn f28s.fn f29s.fn c30s.fn f31s.fn c32s.fn f33s.fn f34s.fn f35s.fn f36s.fn
def f7s:PSpec:={ args:=[],res:=[.bool],fn:=fun x=>f7  }
noncomputable def f7c:Code:=Tryz.f4.body.getD .skip
noncomputable def f7_envG (F12:tysDen f12s.args→Option (tysDen f12s.res)) (F13:tysDen f13s.args→Option (tysDen f13s.res)) (F14:tysDen f14s.args→Option (tysDen f14s.res)) (F16:tysDen f16s.args→Option (tysDen f16s.res)) (F17:tysDen f17s.args→Option (tysDen f17s.res)) (F19:tysDen f19s.args→Option (tysDen f19s.res)) (F21:tysDen f21s.args→Option (tysDen f21s.res)) (F22:tysDen f22s.args→Option (tysDen f22s.res)) (F24:tysDen f24s.args→Option (tysDen f24s.res)) (F26:tysDen f26s.args→Option (tysDen f26s.res)) (F27:tysDen f27s.args→Option (tysDen f27s.res)) (F28:tysDen f28s.args→Option (tysDen f28s.res)) (F29:tysDen f29s.args→Option (tysDen f29s.res)) (Fc30:tysDen c30s.args→Option (tysDen c30s.res)) (F31:tysDen f31s.args→Option (tysDen f31s.res)) (Fc32:tysDen c32s.args→Option (tysDen c32s.res)) (F33:tysDen f33s.args→Option (tysDen f33s.res)) (F34:tysDen f34s.args→Option (tysDen f34s.res)) (F35:tysDen f35s.args→Option (tysDen f35s.res)) (F36:tysDen f36s.args→Option (tysDen f36s.res)):Env0:={ C:=cfgF,P:=[(5,{ args:=f12s.args,res:=f12s.res,fn:=F12 }),(7,{ args:=f29s.args,res:=f29s.res,fn:=F29 }),(9,{ args:=c30s.args,res:=c30s.res,fn:=Fc30 }),(10,{ args:=f13s.args,res:=f13s.res,fn:=F13 }),(13,{ args:=f27s.args,res:=f27s.res,fn:=F27 }),(15,{ args:=f28s.args,res:=f28s.res,fn:=F28 }),(17,{ args:=f26s.args,res:=f26s.res,fn:=F26 }),(18,{ args:=f14s.args,res:=f14s.res,fn:=F14 }),(19,{ args:=f17s.args,res:=f17s.res,fn:=F17 }),(20,{ args:=f22s.args,res:=f22s.res,fn:=F22 }),(21,{ args:=f31s.args,res:=f31s.res,fn:=F31 }),(22,{ args:=c32s.args,res:=c32s.res,fn:=Fc32 }),(23,{ args:=f33s.args,res:=f33s.res,fn:=F33 }),(24,{ args:=f34s.args,res:=f34s.res,fn:=F34 }),(25,{ args:=f16s.args,res:=f16s.res,fn:=F16 }),(26,{ args:=f21s.args,res:=f21s.res,fn:=F21 }),(27,{ args:=f35s.args,res:=f35s.res,fn:=F35 }),(28,{ args:=f19s.args,res:=f19s.res,fn:=F19 }),(29,{ args:=f36s.args,res:=f36s.res,fn:=F36 }),(30,{ args:=f24s.args,res:=f24s.res,fn:=F24 })],L:=[],F:=[(4,Tryz.f4)] }
theorem f7_runG (F12:tysDen f12s.args→Option (tysDen f12s.res)) (F13:tysDen f13s.args→Option (tysDen f13s.res)) (F14:tysDen f14s.args→Option (tysDen f14s.res)) (F16:tysDen f16s.args→Option (tysDen f16s.res)) (F17:tysDen f17s.args→Option (tysDen f17s.res)) (F19:tysDen f19s.args→Option (tysDen f19s.res)) (F21:tysDen f21s.args→Option (tysDen f21s.res)) (F22:tysDen f22s.args→Option (tysDen f22s.res)) (F24:tysDen f24s.args→Option (tysDen f24s.res)) (F26:tysDen f26s.args→Option (tysDen f26s.res)) (F27:tysDen f27s.args→Option (tysDen f27s.res)) (F28:tysDen f28s.args→Option (tysDen f28s.res)) (F29:tysDen f29s.args→Option (tysDen f29s.res)) (Fc30:tysDen c30s.args→Option (tysDen c30s.res)) (F31:tysDen f31s.args→Option (tysDen f31s.res)) (Fc32:tysDen c32s.args→Option (tysDen c32s.res)) (F33:tysDen f33s.args→Option (tysDen f33s.res)) (F34:tysDen f34s.args→Option (tysDen f34s.res)) (F35:tysDen f35s.args→Option (tysDen f35s.res)) (F36:tysDen f36s.args→Option (tysDen f36s.res)) (x:tysDen (f7s).args):runF (f7_envG F12 F13 F14 F16 F17 F19 F21 F22 F24 F26 F27 F28 F29 Fc30 F31 Fc32 F33 F34 F35 F36) 4 Tryz.f4 f7c (f7s).args (f7s).res x = f7G F12 F13 F14 F16 F17 F19 F21 F22 F24 F26 F27 F28 F29 Fc30 F31 Fc32 F33 F34 F35 F36:=by kernel_rfl
noncomputable def f7e:Env0:=f7_envG f12s.fn f13s.fn f14s.fn f16s.fn f17s.fn f19s.fn f21s.fn f22s.fn f24s.fn f26s.fn f27s.fn f28s.fn f29s.fn c30s.fn f31s.fn c32s.fn f33s.fn f34s.fn f35s.fn f36s.fn
theorem f7r (x:tysDen (f7s).args):runF f7e 4 Tryz.f4 f7c (f7s).args (f7s).res x = f7s.fn x:=f7_runG f12s.fn f13s.fn f14s.fn f16s.fn f17s.fn f19s.fn f21s.fn f22s.fn f24s.fn f26s.fn f27s.fn f28s.fn f29s.fn c30s.fn f31s.fn c32s.fn f33s.fn f34s.fn f35s.fn f36s.fn x
theorem f7n:zQ 4:=zN Tryz.func4
theorem f7k:zE f7e:=zO zaf ⟨⟨f12p,f12n⟩,⟨f29p,f29n⟩,⟨c30p,c30n⟩,⟨f13p,f13n⟩,⟨f27p,f27n⟩,⟨f28p,f28n⟩,⟨f26p,f26n⟩,⟨f14p,f14n⟩,⟨f17p,f17n⟩,⟨f22p,f22n⟩,⟨f31p,f31n⟩,⟨c32p,c32n⟩,⟨f33p,f33n⟩,⟨f34p,f34n⟩,⟨f16p,f16n⟩,⟨f21p,f21n⟩,⟨f35p,f35n⟩,⟨f19p,f19n⟩,⟨f36p,f36n⟩,⟨f24p,f24n⟩,trivial⟩ trivial ⟨zK Tryz.func4,trivial⟩ trivial
theorem f7p:zU 4 f7s:=zP f7k Tryz.f4 f7c f7r
end
end Go.V.G
namespace Go.V.G
open Go.Proofs
open Go.V.K
def CB:Ct:=([[],[((0:Int),[0,0,-1],()),((1:Int),[0,1,4],())],[],[],[],[],[],[]],())
def WANT:List Rl:=[((1:Int),(0:Int),false,[],true,[0,0,-1],()),((1:Int),(1:Int),true,[1,0,-1],true,[0,1,4],())]
def BACK:List Rl:=[((1:Int),(0:Int),true,[0,0,-1],false,[],()),((1:Int),(1:Int),true,[0,1,4],true,[1,0,-1],())]
def ET:ByteArray:=⟨#[4,2,0,0,2,6,0,0,1,2,2,2,6,2,0,1,2,6,0,2,8]⟩
def made:Ct:=([[],[((3:Int),[3,0,-1],())],[((3:Int),[3,0,-1,0,-1,0,0],())],[((3:Int),[],())],[((3:Int),[3,0,-1,-1,0],())],[((3:Int),[-1,0,0],())],[((3:Int),[-1,0],())],[((3:Int),[0,-1,0],())]],())
theorem zm3 (F12:tysDen f12s.args→Option (tysDen f12s.res)) (F13:tysDen f13s.args→Option (tysDen f13s.res)) (F14:tysDen f14s.args→Option (tysDen f14s.res)) (F16:tysDen f16s.args→Option (tysDen f16s.res)) (F17:tysDen f17s.args→Option (tysDen f17s.res)) (F19:tysDen f19s.args→Option (tysDen f19s.res)) (F21:tysDen f21s.args→Option (tysDen f21s.res)) (F22:tysDen f22s.args→Option (tysDen f22s.res)) (F24:tysDen f24s.args→Option (tysDen f24s.res)) (F26:tysDen f26s.args→Option (tysDen f26s.res)) (F27:tysDen f27s.args→Option (tysDen f27s.res)) (F28:tysDen f28s.args→Option (tysDen f28s.res)) (F29:tysDen f29s.args→Option (tysDen f29s.res)) (Fc30:tysDen c30s.args→Option (tysDen c30s.res)) (F31:tysDen f31s.args→Option (tysDen f31s.res)) (Fc32:tysDen c32s.args→Option (tysDen c32s.res)) (F33:tysDen f33s.args→Option (tysDen f33s.res)) (F34:tysDen f34s.args→Option (tysDen f34s.res)) (F35:tysDen f35s.args→Option (tysDen f35s.res)) (F36:tysDen f36s.args→Option (tysDen f36s.res))
  (r1 z w:ByteArray) (hr:r1.size = 32) (hw:w.size = 32)
  (h0:F12 (CA,CB,()) = some ((WANT,()),(0:Int),()))
  (h1:F14 (CA,(WANT,()),()) = some (CB,(0:Int),()))
  (h2:F17 ((WANT,()),()) = some ((BACK,()),(0:Int),()))
  (h3:F22 ((WANT,()),(BACK,()),()) = some (([],()),(0:Int),()))
  (h4:F22 ((WANT,()),(WANT,()),()) = some (([],()),(160:Int),()))
  (h5:F27 (([1,0,-1]:List Int),()) = some ((⟨#[6,2,0,1]⟩:ByteArray),(0:Int),()))
  (h6:F28 ((⟨#[6,2,0,1]⟩:ByteArray),()) = some (([1,0,-1]:List Int),(0:Int),()))
  (h7:F29 ((WANT,()),()) = some (ET,(0:Int),()))
  (h8:Fc30 ((⟨#[120]⟩:ByteArray)++ET,(1:Int),()) = some ((WANT,()),(22:Int),(0:Int),()))
  (h9:F31 (CA,()) = some ([(⟨#[]⟩:ByteArray),r1,z,z,z,z,z,z],(0:Int),()))
  (h10:Fc32 (([((3:Int),((0:Int),()))],[],[],()),()) = some (made,(0:Int),()))
  (h11:Fc32 (([],[],[(1:Int)],()),()) = some ((List.replicate 8 [],()),(160:Int),()))
  (h12:F33 (([],[],[],()),CA,()) = some (w,(0:Int),()))
  (h13:F34 () = some (z,()))
  (h14:F13 ((WANT,()),(WANT,()),()) = some (true,()))
  (h15:F16 (CB,CB,()) = some (true,()))
  (h16:F26 (([1,0,-1]:List Int),([1,0,-1]:List Int),()) = some (true,()))
  (h17:F21 ((WANT,()),()) = some ((2:Int),()))
  (h18:F35 (CA,()) = some (true,()))
  (h19:F19 ((WANT,()),()) = some (true,()))
  (h20:F36 (CB,CB,()) = some (true,()))
  (h21:F36 (CA,CB,()) = some (false,()))
  (h22:F24 ((WANT,()),(WANT,()),()) = some (true,()))
  (h23:F24 ((WANT,()),([],()),()) = some (false,())) :
  f7G F12 F13 F14 F16 F17 F19 F21 F22 F24 F26 F27 F28 F29 Fc30 F31 Fc32 F33 F34 F35 F36 = some (true,()):=by
 unfold f7G
 refine zaa h0 ?_
 refine zaa h1 ?_
 refine zaa h2 ?_
 refine zaa h3 ?_
 refine zaa h4 ?_
 refine zaa h5 ?_
 refine zaa h6 ?_
 refine zaa h7 ?_
 refine zaa h8 ?_
 refine zaa h9 ?_
 have c1:decide ((⟨#[6,2,0,1]⟩:ByteArray) = ⟨#[6,2,0,1]⟩) = true:=zT rfl
 show (bif !(decide ((⟨#[6,2,0,1]⟩:ByteArray) = ⟨#[6,2,0,1]⟩)) then some (false,()) else _) = _
 rw [c1,Bool.not_true,cond_false]
 refine zaa h10 ?_
 refine zaa h11 ?_
 refine zaa h12 ?_
 show (bif decide ((w.size:Int) ≠ 32) then some (false,()) else _) = _
 rw [zF (by omega),cond_false]
 show (bif decide ((r1.size:Int) ≠ 32) then some (false,()) else _) = _
 rw [zF (by omega),cond_false]
 refine zaa h13 ?_
 show (bif !(decide (z = z)) then some (false,()) else _) = _
 rw [zT rfl,Bool.not_true,cond_false]
 refine zaa h14 ?_
 refine zaa h15 ?_
 refine zaa h16 ?_
 refine zaa h14 ?_
 refine zaa h17 ?_
 refine zaa h18 ?_
 refine zaa h19 ?_
 refine zaa h20 ?_
 refine zaa h21 ?_
 refine zaa h22 ?_
 refine zaa h23 ?_
 rfl
theorem CB_sm:smC CB:=by
 simp [smC,smR,CB]
 rintro a b (⟨rfl,rfl⟩ | ⟨rfl,rfl⟩) <;> simp
theorem zcW:smD WANT:=by simp [smD,smRl,WANT,K.bf,K.af]
theorem zoh:smD BACK:=by simp [smD,smRl,BACK,K.bf,K.af]
theorem zm4:zcQ CB = true:=by kernel_rfl
theorem zck:validD WANT = true:=by kernel_rfl
theorem zkM:validD BACK = true:=by kernel_rfl
theorem zoV:dif (la CA) (la CB) = WANT:=by kernel_rfl
theorem fit_A:(kinds.all fun k=>zbp (la CA) WANT k) = true:=by kernel_rfl
theorem new_A:([] :: kinds.map (fun k=>za7 (la CA) WANT k):List (List Nm)) = CB.1:=by kernel_rfl
theorem zoi:clash WANT BACK = false:=by kernel_rfl
theorem zoj:clash WANT WANT = true:=by kernel_rfl
theorem zoW:comp WANT BACK = []:=by kernel_rfl
theorem s12:f12 CA CB = some ((WANT,()),(0:Int),()):=by
 rw [f12_eq CA CB CA_sm CB_sm,zhf,zm4,zoV]; rfl
theorem s14:f14 CA (WANT,()) = some (CB,(0:Int),()):=by
 rw [f14_eq CA CA_sm WANT zcW (f19_eq _ zcW) zbf.1,zhf,zck,fit_A,new_A]; rfl
theorem s17:f17 (WANT,()) = some ((BACK,()),(0:Int),()):=by
 rw [f17_eq WANT zcW,zck]; rfl
theorem s22a:f22 (WANT,()) (BACK,()) = some (([],()),(0:Int),()):=by
 rw [f22_eq WANT BACK zcW zoh,zck,zkM,zoi,zoW]; rfl
theorem s22b:f22 (WANT,()) (WANT,()) = some (([],()),(160:Int),()):=by
 rw [f22_eq WANT WANT zcW zcW,zck,zoj]; rfl
theorem s27:f27 [1,0,-1] = some ((⟨#[6,2,0,1]⟩:ByteArray),(0:Int),()):=by kernel_rfl
theorem s28:f28 (⟨#[6,2,0,1]⟩:ByteArray) = some (([1,0,-1]:List Int),(0:Int),()):=by kernel_rfl
theorem s29:f29 (WANT,()) = some (ET,(0:Int),()):=by
 unfold f29
 rw [f19_eq WANT zcW,zck,Option.bind_some]
 kernel_rfl
theorem s30:c30 ((⟨#[120]⟩:ByteArray)++ET) (1:Int) = some ((WANT,()),(22:Int),(0:Int),()):=by kernel_rfl
theorem s32a:c32 ([((3:Int),((0:Int),()))],[],[],()) = some (made,(0:Int),()):=by kernel_rfl
theorem s32b:c32 ([],[],[(1:Int)],()) = some ((List.replicate 8 [],()),(160:Int),()):=by kernel_rfl
theorem s13:f13 (WANT,()) (WANT,()) = some (true,()):=by rw [f13_eq WANT WANT zcW]; simp
theorem s16:f16 CB CB = some (true,()):=by rw [f16_eq CB CB CB_sm CB_sm.1]; simp
theorem s26:f26 [1,0,-1] [1,0,-1] = some (true,()):=by rw [f26_eq _ _ (by simp)]; simp
theorem s21:f21 (WANT,()) = some ((2:Int),()):=by kernel_rfl
theorem s19:f19 (WANT,()) = some (true,()):=by rw [f19_eq WANT zcW,zck]
theorem s36a:f36 CB CB = some (true,()):=by kernel_rfl
theorem s36b:f36 CA CB = some (false,()):=by kernel_rfl
theorem s24a:f24 (WANT,()) (WANT,()) = some (true,()):=by kernel_rfl
theorem s24b:f24 (WANT,()) ([],()) = some (false,()):=by kernel_rfl
theorem sp27 (l:List Int) (r:Option (tysDen f27s.res)) (h:f27 l = r):f27s.fn (l,()) = r:=h
theorem sp28 (l:ByteArray) (r:Option (tysDen f28s.res)) (h:f28 l = r):f28s.fn (l,()) = r:=h
theorem sp29 (l:List Rl × Unit) (r:Option (tysDen f29s.res)) (h:f29 l = r):f29s.fn (l,()) = r:=h
theorem sp30 (l:ByteArray) (n:Int) (r:Option (tysDen c30s.res)) (h:c30 l n = r):c30s.fn (l,n,()) = r:=h
theorem sp26 (l n:List Int) (r:Option (tysDen f26s.res)) (h:f26 l n = r):f26s.fn (l,n,()) = r:=h
theorem sp31 (l:Ct) (r:Option (tysDen f31s.res)) (h:f31 l = r):f31s.fn (l,()) = r:=h
theorem sp32 (l:Ty.den (yG)) (r:Option (tysDen c32s.res)) (h:c32 l = r):c32s.fn (l,()) = r:=h
theorem sp33 (a:List Yv × (List Yd × (List Int × Unit))) (l:Ct) (r:Option (tysDen f33s.res)) (h:f33 a l = r):f33s.fn (a,l,()) = r:=h
theorem sp34 (r:Option (tysDen f34s.res)) (h:f34 = r):f34s.fn () = r:=h
theorem zok:f7 = some (true,()):=by
 obtain ⟨w,hw1,hw2⟩:=f33_CA
 exact zm3 f12s.fn f13s.fn f14s.fn f16s.fn f17s.fn f19s.fn f21s.fn f22s.fn f24s.fn f26s.fn f27s.fn f28s.fn f29s.fn c30s.fn f31s.fn c32s.fn f33s.fn f34s.fn f35s.fn f36s.fn R1 TR.zeroD w zlC hw2
  s12 s14 s17 s22a s22b (sp27 _ _ s27) (sp28 _ _ s28) (sp29 _ _ s29) (sp30 _ _ _ s30) (sp31 _ _ f31_CA) (sp32 _ _ s32a) (sp32 _ _ s32b) (sp33 _ _ _ hw1) (sp34 _ TR.zero_eq.2) s13 s16 (sp26 _ _ _ s26) s21 f35_CA s19 s36a s36b s24a s24b
end Go.V.G
namespace Go.V.G
open Go.Proofs
def zig (n:Int):Nat:=if n < 0 then (-2 * n - 1).toNat else (2 * n).toNat
def zag (z:Nat):Int:=if z % 2 = 1 then -((z / 2:Nat):Int) - 1 else ((z / 2:Nat):Int)
theorem zol (n:Int):zag (zig n) = n:=by
 unfold zag zig
 split <;> split <;> omega
theorem zhg (z:Nat):zig (zag z) = z:=by
 unfold zag zig
 split <;> split <;> omega
def grp (z:Nat):List Int:=if h:z < 128 then [(z:Int)] else ((z % 128 + 128:Nat):Int) :: grp (z / 128)
 termination_by z
 decreasing_by omega
theorem zgF {z:Nat} (h:z < 128):grp z = [(z:Int)]:=by rw [grp,dif_pos h]
theorem zj5 {z:Nat} (h:¬ z < 128):grp z = ((z % 128 + 128:Nat):Int) :: grp (z / 128):=by rw [grp,dif_neg h]
def enc (n:Int):ByteArray:=ofBytes (grp (zig n))
def maxI:Int:=4611686018427387903
theorem wrap_u64 (n:Int) (h0:0≤n) (h1:n < 18446744073709551616):IntKind.wrap .u64 n = n:=by
 simp [IntKind.wrap,IntKind.bits,IntKind.signed]
 omega
theorem wrap_u8 (n:Int) (h0:0≤n) (h1:n < 256):IntKind.wrap .u8 n = n:=by
 simp [IntKind.wrap,IntKind.bits,IntKind.signed]
 omega
theorem zoX (z:Nat) (h:z < 2 ^ 64):andV .u64 (z:Int) 127 = ((z % 128:Nat):Int):=by
 unfold andV
 have e:(BitVec.ofInt IntKind.u64.bits (z:Int) &&& BitVec.ofInt IntKind.u64.bits 127).toNat = z % 128:=by
  have h127:(BitVec.ofInt 64 127).toNat = 127:=by decide
  show (BitVec.ofInt 64 (z:Int) &&& BitVec.ofInt 64 127).toNat = _
  rw [BitVec.toNat_and,h127,BitVec.ofInt_natCast,BitVec.toNat_ofNat,Nat.mod_eq_of_lt h]
  exact Nat.and_two_pow_sub_one_eq_mod z 7
 rw [e,wrap_u64 _ (by omega) (by omega)]
theorem or128 (z:Nat) (h:z < 128):orV .u8 (z:Int) 128 = ((z + 128:Nat):Int):=by
 unfold orV
 have e:(BitVec.ofInt IntKind.u8.bits (z:Int) ||| BitVec.ofInt IntKind.u8.bits 128).toNat = z + 128:=by
  show (BitVec.ofInt 8 (z:Int) ||| BitVec.ofInt 8 128).toNat = _
  have h128:(BitVec.ofInt 8 128).toNat = 128:=by decide
  rw [BitVec.toNat_or,h128,BitVec.ofInt_natCast,BitVec.toNat_ofNat,Nat.mod_eq_of_lt (by omega),Nat.or_comm]
  have:=Nat.two_pow_add_eq_or_of_lt (i:=7) (b:=z) (by omega) 1
  simpa [Nat.add_comm] using this.symm
 rw [e,wrap_u8 _ (by omega) (by omega)]
theorem shr7 (z:Nat):shrV .u64 (z:Int) 7 = ((z / 128:Nat):Int):=by
 unfold shrV
 rw [Int.fdiv_eq_ediv_of_nonneg _ (by decide)]
 rfl
theorem v5_eq (z:Nat) (h:z < 2 ^ 64):IntKind.wrap .u8 (andV .u64 (z:Int) 127) = ((z % 128:Nat):Int):=by
 rw [zoX z h,wrap_u8 _ (by omega) (by omega)]
theorem zj6 {n:Int} (h1:-maxI≤n) (h2:n≤maxI):zig n < 2 ^ 63:=by
 unfold zig maxI at *
 split <;> omega
theorem zom {n:Int} (h1:-maxI≤n) (h2:n≤maxI):xorV .u64 (shlV .u64 (IntKind.wrap .u64 n) 1) (IntKind.wrap .u64 (shrV .i64 n 63)) = (zig n:Int):=by
 unfold maxI at *
 have hsh:∀ x:Int,shlV .u64 x 1 = IntKind.wrap .u64 (x * 2):=fun x=>rfl
 have hsr:shrV .i64 n 63 = n / 9223372036854775808:=by
  unfold shrV
  rw [Int.fdiv_eq_ediv_of_nonneg _ (by decide)]
  rfl
 rw [hsh,hsr]
 by_cases hn:n < 0
 ·have e1:n / 9223372036854775808 = -1:=by omega
  have e2:IntKind.wrap .u64 n = n + 18446744073709551616:=by simp [IntKind.wrap,IntKind.bits,IntKind.signed]; omega
  have e3:IntKind.wrap .u64 ((n + 18446744073709551616) * 2) = 2 * n + 18446744073709551616:=by simp [IntKind.wrap,IntKind.bits,IntKind.signed]; omega
  have e4:IntKind.wrap .u64 (-1) = 18446744073709551615:=by decide
  rw [e1,e2,e3,e4]
  obtain ⟨m,hm⟩:∃ m:Nat,2 * n + 18446744073709551616 = (m:Int):=⟨(2 * n + 18446744073709551616).toNat,by omega⟩
  rw [hm]
  have hm64:m < 2 ^ 64:=by omega
  unfold xorV
  have e:(BitVec.ofInt IntKind.u64.bits (m:Int) ^^^ BitVec.ofInt IntKind.u64.bits 18446744073709551615).toNat = 2 ^ 64 - 1 - m:=by
   show (BitVec.ofInt 64 (m:Int) ^^^ BitVec.ofInt 64 18446744073709551615).toNat = _
   have ha:BitVec.ofInt 64 18446744073709551615 = BitVec.allOnes 64:=by decide
   rw [ha,BitVec.xor_allOnes,BitVec.toNat_not,BitVec.ofInt_natCast,BitVec.toNat_ofNat,Nat.mod_eq_of_lt hm64]
  rw [e,wrap_u64 _ (by omega) (by omega)]
  unfold zig
  rw [if_pos hn]
  omega
 ·have e1:n / 9223372036854775808 = 0:=by omega
  have e2:IntKind.wrap .u64 n = n:=wrap_u64 n (by omega) (by omega)
  have e3:IntKind.wrap .u64 (n * 2) = n * 2:=wrap_u64 _ (by omega) (by omega)
  have e4:IntKind.wrap .u64 0 = 0:=by decide
  rw [e1,e2,e3,e4]
  obtain ⟨m,hm⟩:∃ m:Nat,n * 2 = (m:Int):=⟨(n * 2).toNat,by omega⟩
  rw [hm]
  have hm64:m < 2 ^ 64:=by omega
  unfold xorV
  have e:(BitVec.ofInt IntKind.u64.bits (m:Int) ^^^ BitVec.ofInt IntKind.u64.bits 0).toNat = m:=by
   show (BitVec.ofInt 64 (m:Int) ^^^ BitVec.ofInt 64 0).toNat = _
   have ha:BitVec.ofInt 64 0 = 0#64:=by decide
   rw [ha,BitVec.xor_zero,BitVec.ofInt_natCast,BitVec.toNat_ofNat,Nat.mod_eq_of_lt hm64]
  rw [e,wrap_u64 _ (by omega) (by omega)]
  unfold zig
  rw [if_neg hn]
  omega
def zaj (s:ByteArray):List Nat:=s.data.toList.map (·.toNat)
theorem zm5:∀ (z:Nat),∀ x∈grp z,0≤x∧x < 256:=by
 intro z
 induction z using Nat.strongRecOn with
 | ind z ih =>
  intro x hx
  by_cases h:z < 128
  ·rw [zgF h,List.mem_singleton] at hx
   omega
  ·rw [zj5 h,List.mem_cons] at hx
   rcases hx with rfl | hx
   ·omega
   ·exact ih (z / 128) (by omega) x hx
theorem zlH (l:List Int) (h:∀ x∈l,0≤x∧x < 256):zaj (ofBytes l) = l.map Int.toNat:=by
 unfold zaj ofBytes
 simp only [List.map_map]
 apply List.map_congr_left
 intro x hx
 obtain ⟨h0,h1⟩:=h x hx
 simp
 omega
theorem zbe (a b:ByteArray):zaj (a++b) = zaj a++zaj b:=by
 unfold zaj
 simp
theorem zax (s:ByteArray):(zaj s).length = s.size:=by unfold zaj; simp
theorem zbl {a b:ByteArray} (h:zaj a = zaj b):a = b:=by
 unfold zaj at h
 have:a.data.toList = b.data.toList:=(List.map_inj_right (fun x y e=>UInt8.toNat_inj.1 e)).1 h
 obtain ⟨⟨a⟩⟩:=a
 obtain ⟨⟨b⟩⟩:=b
 simp only at this
 rw [this]
def grpN (z:Nat):List Nat:=if h:z < 128 then [z] else (z % 128 + 128) :: grpN (z / 128)
 termination_by z
 decreasing_by omega
theorem zcX {z:Nat} (h:z < 128):grpN z = [z]:=by rw [grpN,dif_pos h]
theorem zeJ {z:Nat} (h:¬ z < 128):grpN z = (z % 128 + 128) :: grpN (z / 128):=by rw [grpN,dif_neg h]
theorem zlI (z:Nat):(grp z).map Int.toNat = grpN z:=by
 induction z using Nat.strongRecOn with
 | ind z ih =>
  by_cases h:z < 128
  ·rw [zgF h,zcX h]; rfl
  ·rw [zj5 h,zeJ h,List.map_cons,ih (z / 128) (by omega)]; rfl
theorem zcI (n:Int):zaj (enc n) = grpN (zig n):=by
 unfold enc
 rw [zlH _ (zm5 _),zlI]
theorem zm6:∀ (m z:Nat),z < 128 ^ (m + 1)→(grpN z).length≤m + 1:=by
 intro m
 induction m with
 | zero=>intro z h; rw [zcX (by simpa using h)]; simp
 | succ m ih =>
  intro z h
  by_cases hz:z < 128
  ·rw [zcX hz]; simp
  ·rw [zeJ hz,List.length_cons]
   have:=ih (z / 128) (by rw [Nat.div_lt_iff_lt_mul (by decide),← Nat.pow_succ]; exact h)
   omega
theorem zhh {n:Int} (h1:-maxI≤n) (h2:n≤maxI):(enc n).size≤9:=by
 rw [← zax,zcI]
 exact zm6 8 _ (by have:=zj6 h1 h2; omega)
theorem zon (n:Int):0 < (enc n).size:=by
 rw [← zax,zcI]
 by_cases h:zig n < 128
 ·rw [zcX h]; simp
 ·rw [zeJ h]; simp
def rd:Nat→List Nat→Option (List Nat)
 | 0,_=>none
 | _ + 1,[]=>none
 | k + 1,b :: bs=>if 128≤b then (rd k bs).map (b :: ·) else some [b]
def val:List Nat→Nat
 | []=>0
 | b :: p=>b % 128 + 128 * val p
def dec (bs:List Nat):Option (Int × Nat) :=
 match rd 9 bs with
 | some p=>if grpN (val p) = p∧-maxI≤zag (val p) then some (zag (val p),p.length) else none
 | none=>none
theorem zoo:∀ (m z:Nat) (t:List Nat),z < 128 ^ (m + 1)→rd (m + 1) (grpN z++t) = some (grpN z):=by
 intro m
 induction m with
 | zero =>
  intro z t h
  have hz:z < 128:=by simpa using h
  rw [zcX hz]
  simp only [List.cons_append,List.nil_append,rd]
  rw [if_neg (by omega)]
 | succ m ih =>
  intro z t h
  by_cases hz:z < 128
  ·rw [zcX hz]
   simp only [List.cons_append,List.nil_append,rd]
   rw [if_neg (by omega)]
  ·rw [zeJ hz]
   simp only [List.cons_append]
   rw [rd,if_pos (by omega),ih (z / 128) t (by rw [Nat.div_lt_iff_lt_mul (by decide),← Nat.pow_succ]; exact h)]
   rfl
theorem zm7:∀ (z:Nat),val (grpN z) = z:=by
 intro z
 induction z using Nat.strongRecOn with
 | ind z ih =>
  by_cases h:z < 128
  ·rw [zcX h]; simp only [val]; omega
  ·rw [zeJ h]; simp only [val]; rw [ih (z / 128) (by omega)]; omega
theorem zop {n:Int} (h1:-maxI≤n) (h2:n≤maxI) (t:List Nat):dec (grpN (zig n)++t) = some (n,(grpN (zig n)).length):=by
 have hz:=zj6 h1 h2
 unfold dec
 rw [zoo 8 _ t (by omega)]
 simp only [zm7,zol]
 rw [if_pos ⟨trivial,h1⟩]
theorem zdX:∀ {k:Nat} {bs p:List Nat},rd k bs = some p→p ≠ []∧p.length≤k∧∃ t,bs = p++t
 | 0,_,_,h=>nomatch h
 | _ + 1,[],_,h=>nomatch h
 | k + 1,b :: bs,p,h=>by
  simp only [rd] at h
  split at h
  ·obtain ⟨q,h1,rfl⟩:=Option.map_eq_some_iff.1 h
   obtain ⟨_,h3,t,h4⟩:=zdX h1
   exact ⟨by simp,by simp; omega,t,by rw [h4]; rfl⟩
  ·cases h
   exact ⟨by simp,by simp,bs,rfl⟩
theorem zhi {bs:List Nat} {n:Int} {k:Nat} (h:dec bs = some (n,k)):-maxI≤n∧k = (grpN (zig n)).length∧∃ t,bs = grpN (zig n)++t:=by
 unfold dec at h
 split at h
 ·rename_i p hp
  split at h
  ·rename_i hc
   simp only [Option.some.injEq,Prod.mk.injEq] at h
   obtain ⟨rfl,rfl⟩:=h
   obtain ⟨_,_,t,ht⟩:=zdX hp
   exact ⟨hc.2,by rw [zhg,hc.1],t,by rw [zhg,hc.1]; exact ht⟩
  ·cases h
 ·cases h
theorem znS:∀ (p:List Nat),val p < 128 ^ p.length
 | []=>by simp [val]
 | b :: p=>by
  have:=znS p
  simp only [val,List.length_cons,Nat.pow_succ]
  omega
theorem zoY {bs : List Nat} {n : Int} {k : Nat} (h : dec bs = some (n, k)) : n ≤ maxI := by
  unfold dec at h
  split at h
  · rename_i p hp
    split at h
    · simp only [Option.some.injEq, Prod.mk.injEq] at h
      obtain ⟨rfl, rfl⟩ := h
      have h1 := znS p
      have h2 := (zdX hp).2.1
      have h3 : 128 ^ p.length ≤ 128 ^ 9 := Nat.pow_le_pow_right (by decide) h2
      have h4 : val p < 2 ^ 63 := by have : (128 : Nat) ^ 9 = 2 ^ 63 := by decide
                                     omega
      unfold zag maxI
      split <;> omega
    · cases h
  · cases h
theorem canon:∀ {k:Nat} {bs p:List Nat},rd k bs = some p→(∀ b∈bs,b < 256)→(grpN (val p) = p ↔ (p.length = 1 ∨ p.getLast? ≠ some 0)):=by
 intro k
 induction k with
 | zero=>intro bs p h; cases h
 | succ k ih =>
  intro bs p h hb
  cases bs with
  | nil=>cases h
  | cons b bs =>
   simp only [rd] at h
   split at h
   ·rename_i h128
    obtain ⟨q,h1,rfl⟩:=Option.map_eq_some_iff.1 h
    have hq:=(zdX h1).1
    have hi:=ih h1 (fun x hx=>hb x (List.mem_cons_of_mem _ hx))
    have hb256:=hb b (List.mem_cons_self ..)
    have hlast:(b :: q).getLast? = q.getLast?:=by
     cases q with
     | nil=>exact (hq rfl).elim
     | cons c q=>simp [List.getLast?_cons_cons]
    have hlen:(b :: q).length ≠ 1:=by
     cases q with
     | nil=>exact (hq rfl).elim
     | cons c q=>simp
    rw [hlast]
    simp only [val]
    by_cases hv:val q = 0
    ·-- all is nothing
     have hne:grpN (b % 128 + 128 * val q) ≠ b :: q:=by
      rw [hv,zcX (by omega)]
      intro e
      simp only [List.cons.injEq] at e
      exact hq e.2.symm
     have hz:q.getLast? = some 0:=by
      have aux:∀ l:List Nat,l ≠ []→val l = 0→(∀ x,l.getLast? = some x→x < 128)→l.getLast? = some 0:=by
       intro l
       induction l with
       | nil=>intro h; exact (h rfl).elim
       | cons c l ih2 =>
        intro _ hv hx
        cases l with
        | nil =>
         have:=hx c rfl
         simp only [val] at hv
         simp; omega
        | cons d l =>
         rw [List.getLast?_cons_cons] at hx ⊢
         simp only [val] at hv
         exact ih2 (by simp) (by simp only [val]; omega) hx
      refine aux q hq hv ?_
      have last:∀ {k:Nat} {bs p:List Nat},rd k bs = some p→∀ x,p.getLast? = some x→x < 128:=by
       intro k
       induction k with
       | zero=>intro bs p h; cases h
       | succ k ih3 =>
        intro bs p h x hx
        cases bs with
        | nil=>cases h
        | cons b bs =>
         simp only [rd] at h
         split at h
         ·obtain ⟨q,h1,rfl⟩:=Option.map_eq_some_iff.1 h
          refine ih3 h1 x ?_
          cases q with
          | nil=>exact ((zdX h1).1 rfl).elim
          | cons c q=>simpa [List.getLast?_cons_cons] using hx
         ·cases h
          simp at hx
          omega
      exact last h1
     exact ⟨fun e=>(hne e).elim,fun e=>(e.elim hlen (fun e=>e hz)).elim⟩
    ·have hge:¬ (b % 128 + 128 * val q) < 128:=by omega
     rw [zeJ hge]
     have e1:(b % 128 + 128 * val q) % 128 + 128 = b:=by omega
     have e2:(b % 128 + 128 * val q) / 128 = val q:=by omega
     rw [e1,e2,List.cons.injEq]
     simp only [true_and,hi]
     constructor
     ·rintro (h1' | h1')
      ·right
       match q,h1' with
       | [c],_ =>
        simp only [val] at hv
        simp
        intro hc
        subst hc
        simp at hv
      ·exact .inr h1'
     ·rintro (h1' | h1')
      ·exact (hlen h1').elim
      ·exact .inr h1'
   ·rename_i h128
    cases h
    have:val [b] = b:=by simp only [val]; omega
    rw [this,zcX (by omega)]
    simp
def encs:List Int→ByteArray
 | []=>⟨#[]⟩
 | n :: l=>enc n++encs l
def zaC (n:Int):Prop:=-maxI≤n∧n≤maxI
theorem zfC:∀ (l:List Int),zaj (encs l) = l.flatMap fun n=>grpN (zig n)
 | []=>rfl
 | n :: l=>by
  simp only [encs,zbe,zcI,zfC l,List.flatMap_cons]
theorem zcg:∀ (a b:List Int),encs (a++b) = encs a++encs b
 | [],b=>by simp [encs]; rfl
 | n :: a,b=>by
  simp only [List.cons_append,encs,zcg a b]
  exact zbl (by simp only [zbe,List.append_assoc])
theorem zaJ:∀ (l:List Int),(∀ n∈l,zaC n)→(encs l).size≤9 * l.length
 | [],_=>by simp [encs]; rfl
 | n :: l,h=>by
  have hn:=h n (List.mem_cons_self ..)
  have h1:=zhh hn.1 hn.2
  have h2:=zaJ l (fun m hm=>h m (List.mem_cons_of_mem _ hm))
  have h3:(enc n++encs l).size = (enc n).size + (encs l).size:=by simp
  simp only [encs,List.length_cons,h3]
  omega
theorem zaP (a b:ByteArray) (h:a.size + b.size≤1000000):catOk a b = true:=by
 unfold catOk
 simp
 omega
end Go.V.G
namespace Go.V.G
open Go.Proofs
theorem zlJ (s:ByteArray) (q:Int):∀ (k z:Nat) (r:List Int),z < 128 ^ (k + 1)→z < 2 ^ 64→r.length + k≤1000 →
  ∃ o,f119_l0x s q (k + 1) (z:Int) r = some o∧o.2.2.2.2.1 = r++grp z:=by
 intro k
 induction k with
 | zero =>
  intro z r h h64 hr
  have hz:z < 128:=by simpa using h
  have e1:decide ((z:Int) < 128) = true:=by simp; omega
  have hl:∀ x:Int,decide (r.length + ([x]:List Int).length≤zac) = true:=fun x=>by simp [zac]; omega
  unfold f119_l0x
  simp only [e1,Bool.not_true,cond_false,cond_true,hl,v5_eq z h64]
  refine ⟨_,rfl,?_⟩
  rw [zgF hz,Nat.mod_eq_of_lt hz]
 | succ k ih =>
  intro z r h h64 hr
  have hl:∀ x:Int,decide (r.length + ([x]:List Int).length≤zac) = true:=fun x=>by simp [zac]; omega
  by_cases hz:z < 128
  ·have e1:decide ((z:Int) < 128) = true:=by simp; omega
   unfold f119_l0x
   simp only [e1,Bool.not_true,cond_false,cond_true,hl,v5_eq z h64]
   refine ⟨_,rfl,?_⟩
   rw [zgF hz,Nat.mod_eq_of_lt hz]
  ·have e1:decide ((z:Int) < 128) = false:=by simp; omega
   have hlt:z / 128 < 128 ^ (k + 1):=by
    rw [Nat.div_lt_iff_lt_mul (by decide),← Nat.pow_succ]
    exact h
   obtain ⟨o,h1,h2⟩:=ih (z / 128) (r++[((z % 128 + 128:Nat):Int)]) hlt (by omega) (by simp; omega)
   unfold f119_l0x
   simp only [e1,Bool.not_false,cond_false,cond_true,hl,v5_eq z h64,or128 (z % 128) (by omega),shr7]
   refine ⟨o,h1,?_⟩
   rw [h2,zj5 hz]
   simp
theorem f87_eq {n:Int} (h1:-maxI≤n) (h2:n≤maxI):f87 n = some (enc n,0,()):=by
 have hz:=zj6 h1 h2
 have e1:decide (n < -4611686018427387903) = false:=by unfold maxI at *; simp; omega
 have e2:decide (n > 4611686018427387903) = false:=by unfold maxI at *; simp; omega
 obtain ⟨o,h3,h4⟩:=zlJ (⟨#[]⟩:ByteArray) 0 9 (zig n) [] (by omega) (by omega) (by simp)
 unfold f87
 simp only [e1,e2,cond_false,zom h1 h2]
 rw [h3,Option.bind_some,h4]
 rfl
theorem zoq (b:Nat) (h:b < 256):IntKind.wrap .u64 (andV .u8 (b:Int) 127) = ((b % 128:Nat):Int):=by
 unfold andV
 have e:(BitVec.ofInt IntKind.u8.bits (b:Int) &&& BitVec.ofInt IntKind.u8.bits 127).toNat = b % 128:=by
  have h127:(BitVec.ofInt 8 127).toNat = 127:=by decide
  show (BitVec.ofInt 8 (b:Int) &&& BitVec.ofInt 8 127).toNat = _
  rw [BitVec.toNat_and,h127,BitVec.ofInt_natCast,BitVec.toNat_ofNat,Nat.mod_eq_of_lt (by omega)]
  exact Nat.and_two_pow_sub_one_eq_mod b 7
 rw [e,wrap_u8 _ (by omega) (by omega),wrap_u64 _ (by omega) (by omega)]
theorem and1 (z:Nat) (h:z < 2 ^ 64):andV .u64 (z:Int) 1 = ((z % 2:Nat):Int):=by
 unfold andV
 have e:(BitVec.ofInt IntKind.u64.bits (z:Int) &&& BitVec.ofInt IntKind.u64.bits 1).toNat = z % 2:=by
  have h1:(BitVec.ofInt 64 1).toNat = 1:=by decide
  show (BitVec.ofInt 64 (z:Int) &&& BitVec.ofInt 64 1).toNat = _
  rw [BitVec.toNat_and,h1,BitVec.ofInt_natCast,BitVec.toNat_ofNat,Nat.mod_eq_of_lt h]
  exact Nat.and_two_pow_sub_one_eq_mod z 1
 rw [e,wrap_u64 _ (by omega) (by omega)]
theorem zi6 (i:Nat):(2:Nat) ^ (7 * i) = 128 ^ i:=by rw [Nat.pow_mul]
theorem znT {i:Nat} (h:i≤8):(128:Nat) ^ i≤72057594037927936:=by
 have:=Nat.pow_le_pow_right (n:=128) (by decide) h
 exact Nat.le_trans this (by decide)
theorem mul_lt (c i:Nat) (hc:c < 128) (hi:i≤8):c * 128 ^ i < 9223372036854775808:=by
 have h1:=znT hi
 have h2:c * 128 ^ i≤127 * 72057594037927936:=Nat.mul_le_mul (by omega) h1
 omega
theorem shl7 (c i:Nat) (hc:c < 128) (hi:i≤8):shlV .u64 (c:Int) ((7 * i:Nat):Int) = ((c * 128 ^ i:Nat):Int):=by
 unfold shlV
 have e1:min (((7 * i:Nat):Int).toNat) IntKind.u64.bits = 7 * i:=by
  show min (((7 * i:Nat):Int).toNat) 64 = 7 * i
  rw [Int.toNat_natCast]
  omega
 rw [e1]
 have e2:(c:Int) * 2 ^ (7 * i) = ((c * 128 ^ i:Nat):Int):=by
  rw [← zi6]
  push_cast
  rfl
 rw [e2]
 have:=mul_lt c i hc hi
 exact wrap_u64 _ (by omega) (by omega)
theorem zoZ (z c i:Nat) (hz:z < 128 ^ i) (hc:c < 128) (hi:i≤8):orV .u64 (z:Int) ((c * 128 ^ i:Nat):Int) = ((z + c * 128 ^ i:Nat):Int):=by
 unfold orV
 have hm:=mul_lt c i hc hi
 have hp:=znT hi
 have hsum:z + c * 128 ^ i < 9223372036854775808:=by
  have h1:z + c * 128 ^ i < 128 ^ i + c * 128 ^ i:=by omega
  have h2:128 ^ i + c * 128 ^ i = (c + 1) * 128 ^ i:=by rw [Nat.add_mul,Nat.one_mul,Nat.add_comm]
  have h3:(c + 1) * 128 ^ i≤128 * 72057594037927936:=Nat.mul_le_mul (by omega) hp
  omega
 have e:(BitVec.ofInt IntKind.u64.bits (z:Int) ||| BitVec.ofInt IntKind.u64.bits ((c * 128 ^ i:Nat):Int)).toNat = z + c * 128 ^ i:=by
  show (BitVec.ofInt 64 (z:Int) ||| BitVec.ofInt 64 ((c * 128 ^ i:Nat):Int)).toNat = _
  rw [BitVec.toNat_or,BitVec.ofInt_natCast,BitVec.ofInt_natCast,BitVec.toNat_ofNat,BitVec.toNat_ofNat,Nat.mod_eq_of_lt (by omega),Nat.mod_eq_of_lt (by omega),Nat.or_comm]
  have:=Nat.two_pow_add_eq_or_of_lt (i:=7 * i) (b:=z) (by rw [zi6]; exact hz) c
  rw [zi6,Nat.mul_comm] at this
  rw [← this,Nat.add_comm]
 rw [e,wrap_u64 _ (by omega) (by omega)]
theorem unzig (z:Nat) (h:z < 2 ^ 63):xorV .i64 (IntKind.wrap .i64 (shrV .u64 (z:Int) 1)) (IntKind.wrap .i64 (0 - IntKind.wrap .i64 (andV .u64 (z:Int) 1))) = zag z:=by
 have e1:shrV .u64 (z:Int) 1 = ((z / 2:Nat):Int):=by
  unfold shrV
  rw [Int.fdiv_eq_ediv_of_nonneg _ (by decide)]
  rfl
 rw [e1,and1 z (by omega),wrap_i64 _ (by omega) (by omega),wrap_i64 ((z % 2:Nat):Int) (by omega) (by omega)]
 have hm:z % 2 = 0 ∨ z % 2 = 1:=by omega
 have hb:(BitVec.ofInt 64 ((z / 2:Nat):Int)).toNat = z / 2:=by
  rw [BitVec.ofInt_natCast,BitVec.toNat_ofNat,Nat.mod_eq_of_lt (by omega)]
 rcases hm with hm | hm
 ·rw [hm]
  have e2:IntKind.wrap .i64 (0 - ((0:Nat):Int)) = 0:=by decide
  rw [e2]
  unfold xorV
  have e3:(BitVec.ofInt IntKind.i64.bits ((z / 2:Nat):Int) ^^^ BitVec.ofInt IntKind.i64.bits 0).toNat = z / 2:=by
   show (BitVec.ofInt 64 ((z / 2:Nat):Int) ^^^ BitVec.ofInt 64 0).toNat = _
   have ha:BitVec.ofInt 64 0 = 0#64:=by decide
   rw [ha,BitVec.xor_zero,hb]
  rw [e3,wrap_i64 _ (by omega) (by omega)]
  unfold zag
  rw [if_neg (by omega)]
 ·rw [hm]
  have e2:IntKind.wrap .i64 (0 - ((1:Nat):Int)) = -1:=by decide
  rw [e2]
  unfold xorV
  have e3:(BitVec.ofInt IntKind.i64.bits ((z / 2:Nat):Int) ^^^ BitVec.ofInt IntKind.i64.bits (-1)).toNat = 2 ^ 64 - 1 - z / 2:=by
   show (BitVec.ofInt 64 ((z / 2:Nat):Int) ^^^ BitVec.ofInt 64 (-1)).toNat = _
   have ha:BitVec.ofInt 64 (-1) = BitVec.allOnes 64:=by decide
   rw [ha,BitVec.xor_allOnes,BitVec.toNat_not,hb]
  rw [e3]
  have e4:IntKind.wrap .i64 ((2 ^ 64 - 1 - z / 2:Nat):Int) = -((z / 2:Nat):Int) - 1:=by
   simp [IntKind.wrap,IntKind.bits,IntKind.signed]
   omega
  rw [e4]
  unfold zag
  rw [if_pos hm]
theorem zh8 (s:ByteArray) (i:Nat) (h:i < s.size):byteAt s (i:Int) = ((zaj s)[i]'(by rw [zax]; exact h):Nat):=by
 unfold byteAt zaj
 rw [Int.toNat_natCast,List.getElem_map,List.getD_eq_getElem?_getD,List.getElem?_eq_getElem (by simpa using h)]
 rfl
theorem nb_lt (s:ByteArray):∀ b∈zaj s,b < 256:=by
 intro b hb
 obtain ⟨x,_,rfl⟩:=List.mem_map.1 hb
 exact x.toNat_lt
theorem zm8 (s:ByteArray) (hs:s.size≤1099511627776) (a:Nat) (ha:a≤s.size):∀ (j i z:Nat),i + j = 9→z < 128 ^ i →
  f90_l5 s (a:Int) (j + 1) (z:Int) (i:Int) = match rd j ((zaj s).drop (a + i)) with
   | none=>some (.inl ((),(),()))
   | some p=>if (p.getLast? = some 0∧i + p.length ≠ 1) ∨ zag (z + 128 ^ i * val p) < -maxI then some (.inl ((),(),()))
     else some (.inr ((zag (z + 128 ^ i * val p),((a + i + p.length:Nat):Int),0,()),(),())):=by
 intro j
 induction j with
 | zero =>
  intro i z hi hz
  have:i = 9:=by omega
  subst this
  unfold f90_l5
  rfl
 | succ j ih =>
  intro i z hi hz
  have e0:decide ((i:Int) < 9) = true:=by simp; omega
  have e1:IntKind.wrap .i64 ((a:Int) + (i:Int)) = ((a + i:Nat):Int):=by rw [wrap_i64 _ (by omega) (by omega)]; omega
  unfold f90_l5
  simp only [e0,cond_true,e1]
  by_cases hsz:a + i < s.size
  ·have e2:decide (((a + i:Nat):Int) ≥ (s.size:Int)) = false:=by simp; omega
   have e3:inR ((a + i:Nat):Int) s.size = true:=by unfold inR; simp; omega
   have e4:IntKind.wrap .i64 (7 * (i:Int)) = ((7 * i:Nat):Int):=by rw [wrap_i64 _ (by omega) (by omega)]; omega
   have e5:decide (0≤((7 * i:Nat):Int)) = true:=by simp; omega
   obtain ⟨b,hb⟩:∃ b,(zaj s)[a + i]'(by rw [zax]; exact hsz) = b:=⟨_,rfl⟩
   have hb256:b < 256:=by rw [← hb]; exact nb_lt s _ (List.getElem_mem _)
   have hdrop:(zaj s).drop (a + i) = b :: (zaj s).drop (a + (i + 1)):=by
    rw [List.drop_eq_getElem_cons (by rw [zax]; exact hsz),hb,Nat.add_assoc]
   simp only [e2,e3,e4,e5,cond_false,cond_true,zh8 s _ hsz,hb,zoq b hb256,shl7 (b % 128) i (by omega) (by omega),zoZ z (b % 128) i hz (by omega) (by omega)]
   rw [hdrop]
   have hz':z + b % 128 * 128 ^ i < 128 ^ (i + 1):=by
    have h1:z + b % 128 * 128 ^ i < (b % 128 + 1) * 128 ^ i:=by rw [Nat.add_mul]; omega
    have h2:(b % 128 + 1) * 128 ^ i≤128 * 128 ^ i:=Nat.mul_le_mul_right _ (by omega)
    rw [Nat.pow_succ,Nat.mul_comm (128 ^ i)]
    omega
   by_cases h128:128≤b
   ·have e6:decide ((b:Int) ≥ 128) = true:=by simp; omega
    have e7:IntKind.wrap .i64 ((i:Int) + 1) = ((i + 1:Nat):Int):=by rw [wrap_i64 _ (by omega) (by omega)]; omega
    simp only [e6,cond_true,e7,ih (i + 1) (z + b % 128 * 128 ^ i) (by omega) hz']
    rw [rd,if_pos h128]
    cases hr:rd j ((zaj s).drop (a + (i + 1))) with
    | none=>rfl
    | some p =>
     have hp:=(zdX hr).1
     simp only [Option.map_some]
     have hv:z + b % 128 * 128 ^ i + 128 ^ (i + 1) * val p = z + 128 ^ i * val (b :: p):=by
      simp only [val]
      rw [Nat.pow_succ,Nat.mul_add,Nat.add_assoc,Nat.mul_comm (b % 128),Nat.mul_assoc]
     have hl:(b :: p).getLast? = p.getLast?:=by
      cases p with
      | nil=>exact (hp rfl).elim
      | cons c p=>simp [List.getLast?_cons_cons]
     have hlen:a + (i + 1) + p.length = a + i + (b :: p).length:=by simp; omega
     have hlen2:i + 1 + p.length = i + (b :: p).length:=by simp; omega
     rw [hv,hl,hlen,hlen2]
   ·have e6:decide ((b:Int) ≥ 128) = false:=by simp; omega
    have hlt63:z + b % 128 * 128 ^ i < 2 ^ 63:=by
     have h3:(128:Nat) ^ (i + 1)≤128 ^ 9:=Nat.pow_le_pow_right (by decide) (by omega)
     have h4:(128:Nat) ^ 9 = 2 ^ 63:=by decide
     omega
    have hv:z + b % 128 * 128 ^ i = z + 128 ^ i * val [b]:=by simp only [val]; rw [Nat.mul_zero,Nat.add_zero,Nat.mul_comm]
    have e8:IntKind.wrap .i64 (((a + i:Nat):Int) + 1) = ((a + i + 1:Nat):Int):=by rw [wrap_i64 _ (by omega) (by omega)]; omega
    simp only [e6,cond_false,unzig _ hlt63,e8]
    rw [rd,if_neg h128]
    simp only [List.getLast?_singleton,Option.some.injEq,List.length_singleton,← hv]
    generalize zag (z + b % 128 * 128 ^ i) = n
    by_cases hb0:b = 0
    ·subst hb0
     by_cases hi0:i = 0
     ·subst hi0
      by_cases hn:n < -4611686018427387903
      ·simp [hn,maxI]
      ·simp [hn,maxI]
     ·have hpos:0 < i:=by omega
      simp [hpos,hi0]
    ·have hbz:¬ ((b:Int) = 0):=by omega
     by_cases hn:n < -4611686018427387903
     ·simp [hn,maxI,hb0,hbz]
     ·simp [hn,maxI,hb0,hbz]
  ·have e2:decide (((a + i:Nat):Int) ≥ (s.size:Int)) = true:=by simp; omega
   have hdrop:(zaj s).drop (a + i) = []:=List.drop_of_length_le (by rw [zax]; omega)
   simp only [e2,cond_true,hdrop]
   rfl
theorem f90_eq (s : ByteArray) (hs : s.size ≤ 1099511627776) (a : Nat) (ha : a ≤ s.size) :
    f90 s (a : Int) = match dec ((zaj s).drop a) with
      | some (n, k) => some (n, ((a + k : Nat) : Int), 0, ())
      | none => some (0, 0, 10, ()) := by
  have e1 : decide ((a : Int) < 0) = false := by simp
  have e2 : decide ((a : Int) > (s.size : Int)) = false := by simp; omega
  have h := zm8 s hs a ha 9 0 0 rfl (by decide)
  unfold f90
  simp only [e1, e2, cond_false]
  have h' : f90_l5 s (a : Int) (((9 : Int) - (0 : Int)).toNat + 1) (0 : Int) (0 : Int) = _ := h
  rw [h']
  simp only [Nat.add_zero, Nat.zero_add, Nat.pow_zero, Nat.one_mul]
  unfold dec
  cases hr : rd 9 ((zaj s).drop a) with
  | none => rfl
  | some p =>
    have hb : ∀ b ∈ (zaj s).drop a, b < 256 := fun b hb => nb_lt s b (List.mem_of_mem_drop hb)
    have hc := canon hr hb
    simp only
    by_cases h1 : grpN (val p) = p
    · have h1' := hc.1 h1
      by_cases h2 : -maxI ≤ zag (val p)
      · rw [if_neg (by rintro (⟨h3, h4⟩ | h3); · exact h1'.elim h4 (fun h => h h3)
                       · omega), if_pos ⟨h1, h2⟩]
        rfl
      · rw [if_pos (.inr (by omega)), if_neg (fun h => h2 h.2)]
        rfl
    · have h3 : p.getLast? = some 0 ∧ p.length ≠ 1 := by
        refine Classical.byContradiction fun hn => h1 (hc.2 ?_)
        by_cases h4 : p.length = 1
        · exact .inl h4
        · exact .inr fun h5 => hn ⟨h5, h4⟩
      rw [if_pos (.inl h3), if_neg (fun h => h1 h.1)]
      rfl
theorem f90_out (s:ByteArray) (a:Int) (ha:a < 0 ∨ (s.size:Int) < a):f90 s a = some (0,0,2,()):=by
 unfold f90
 by_cases h:a < 0
 ·simp only [zT h,cond_true]
 ·have:a > (s.size:Int):=by omega
  simp only [zF h,zT this,cond_true,cond_false]
theorem zh9:∀ (l:List Int),(∀ n∈l,zaC n)→zcH l = some (encs l)
 | [],_=>rfl
 | n :: l,h=>by
  have hn:=h n (List.mem_cons_self ..)
  have hsz:=zhh hn.1 hn.2
  simp only [zcH,f87_eq hn.1 hn.2,Option.bind_some,zT (show (enc n).size≤100 by omega),cond_true,zh9 l (fun m hm=>h m (List.mem_cons_of_mem _ hm))]
  rfl
theorem f66_eq (l:List Int) (h:∀ n∈l,zaC n) (hl:l.length≤1000):f66 l = some (encs l,()):=by
 unfold f66
 rw [zT hl,cond_true,zh9 l h,Option.bind_some]
end Go.V.G
namespace Go.V.G
open Go.Proofs
theorem f600_eq {n:Int} (h1:-maxI≤n) (h2:n≤maxI):f600 n = some ((zig n:Int),()):=by
 unfold f600 maxI at *
 by_cases hn:n < 0
 ·have e1:IntKind.wrap .i64 (0 - n) = -n:=by rw [wrap_i64 _ (by omega) (by omega)]; omega
  simp only [zT hn,cond_true,e1]
  rw [wrap_u64 (-n) (by omega) (by omega),wrap_u64 (-n * 2) (by omega) (by omega),wrap_u64 _ (by omega) (by omega)]
  unfold zig
  rw [if_pos hn]
  congr 2
  omega
 ·simp only [zF hn,cond_false]
  rw [wrap_u64 n (by omega) (by omega),wrap_u64 _ (by omega) (by omega)]
  unfold zig
  rw [if_neg hn]
  congr 2
  omega
theorem f584_loop:∀ (m k z:Nat) (r:List Int),z < 128 ^ (m + 1)→z < k→z < 2 ^ 63→r.length + m≤1000 →
  ∃ (t:Nat) (l:List Int),f584_l5 k (z:Int) r = some (((t:Int),()),(),(l,()))∧t < 128∧l.length≤1000∧l++[(t:Int)] = r++grp z:=by
 intro m
 induction m with
 | zero =>
  intro k z r h hk hz hr
  obtain ⟨k,rfl⟩:∃ j,k = j + 1:=⟨k - 1,by omega⟩
  have hlt:z < 128:=by simpa using h
  have e1:decide ((z:Int) ≥ 128) = false:=by simp; omega
  unfold f584_l5
  simp only [e1,cond_false]
  exact ⟨z,r,rfl,hlt,by omega,by rw [zgF hlt]⟩
 | succ m ih =>
  intro k z r h hk hz hr
  obtain ⟨k,rfl⟩:∃ j,k = j + 1:=⟨k - 1,by omega⟩
  by_cases hlt:z < 128
  ·have e1:decide ((z:Int) ≥ 128) = false:=by simp; omega
   unfold f584_l5
   simp only [e1,cond_false]
   exact ⟨z,r,rfl,hlt,by omega,by rw [zgF hlt]⟩
  ·have e1:decide ((z:Int) ≥ 128) = true:=by simp; omega
   have em:Int.tmod (z:Int) 128 = ((z % 128:Nat):Int):=rfl
   have ed:Int.tdiv (z:Int) 128 = ((z / 128:Nat):Int):=rfl
   have hl:∀ x:Int,decide (r.length + ([x]:List Int).length≤zac) = true:=fun x=>by simp [zac]; omega
   have w1:IntKind.wrap .u64 (((z % 128:Nat):Int) + 128) = ((z % 128 + 128:Nat):Int):=by rw [wrap_u64 _ (by omega) (by omega)]; rfl
   have w2:IntKind.wrap .u8 ((z % 128 + 128:Nat):Int) = ((z % 128 + 128:Nat):Int):=wrap_u8 _ (by omega) (by omega)
   have w3:IntKind.wrap .u64 ((z / 128:Nat):Int) = ((z / 128:Nat):Int):=wrap_u64 _ (by omega) (by omega)
   have hlt':z / 128 < 128 ^ (m + 1):=by
    rw [Nat.div_lt_iff_lt_mul (by decide),← Nat.pow_succ]
    exact h
   obtain ⟨t,l,h1,h2,h3,h4⟩:=ih k (z / 128) (r++[((z % 128 + 128:Nat):Int)]) hlt' (by omega) (by omega) (by simp; omega)
   unfold f584_l5
   simp only [e1,cond_true,em,ed,w1,w2,w3,hl]
   refine ⟨t,l,h1,h2,h3,?_⟩
   rw [h4,zj5 hlt]
   simp
theorem f584_eq {n:Int} (h1:-maxI≤n) (h2:n≤maxI):f584 n = some (enc n,0,()):=by
 have hz:=zj6 h1 h2
 have e1:decide (n < -4611686018427387903) = false:=by unfold maxI at *; simp; omega
 have e2:decide (n > 4611686018427387903) = false:=by unfold maxI at *; simp; omega
 obtain ⟨t,l,h3,h4,h5,h6⟩:=f584_loop 9 (zig n + 1) (zig n) [] (by omega) (by omega) hz (by simp)
 have hl:∀ x:Int,decide (l.length + ([x]:List Int).length≤zac) = true:=fun x=>by simp [zac]; omega
 unfold f584
 simp only [e1,e2,cond_false,f600_eq h1 h2,Option.bind_some,Int.toNat_natCast,h3]
 show (bif decide (l.length + ([IntKind.wrap .u8 (t:Int)]:List Int).length≤zac) then some (ofBytes (l++([IntKind.wrap .u8 (t:Int)]:List Int)),(0:Int),()) else none) = _
 rw [wrap_u8 (t:Int) (by omega) (by omega),hl,cond_true,h6,List.nil_append]
 rfl
theorem f584_bad {n:Int} (h:¬ (-maxI≤n∧n≤maxI)):f584 n = some (⟨#[]⟩,10,()):=by
 unfold f584 maxI at *
 by_cases hlt:n < -4611686018427387903
 ·simp only [zT hlt,cond_true]
 ·have hgt:n > 4611686018427387903:=by omega
  simp only [zF hlt,zT hgt,cond_true,cond_false]
theorem zkN (s:ByteArray) (a e:Nat) (h1:a≤e) (h2:e≤s.size):zaj (cutS s (some (a:Int)) (some (e:Int))) = ((zaj s).drop a).take (e - a):=by
 unfold cutS zaj cutHi
 simp only [Option.getD_some,Int.toNat_natCast,ByteArray.data_extract,Array.toList_extract,List.extract_eq_take_drop,List.map_take,List.map_drop]
theorem zlK (s:ByteArray) (hs:s.size≤1099511627776) (a:Nat) (ha:a≤s.size):∀ (j i z:Nat),i + j = 9→z < 128 ^ i →
  f550_l5 s (a:Int) (j + 1) (z:Int) (i:Int) = match rd j ((zaj s).drop (a + i)) with
   | none=>some (.inl ((),(),()))
   | some p=>if -maxI≤zag (z + 128 ^ i * val p)∧enc (zag (z + 128 ^ i * val p)) = cutS s (some (a:Int)) (some ((a + i + p.length:Nat):Int)) then some (.inr ((zag (z + 128 ^ i * val p),((a + i + p.length:Nat):Int),0,()),(),()))
     else some (.inr ((0,0,10,()),(),())):=by
 intro j
 induction j with
 | zero =>
  intro i z hi hz
  have:i = 9:=by omega
  subst this
  unfold f550_l5
  rfl
 | succ j ih =>
  intro i z hi hz
  have e0:decide ((i:Int) < 9) = true:=by simp; omega
  have e1:IntKind.wrap .i64 ((a:Int) + (i:Int)) = ((a + i:Nat):Int):=by rw [wrap_i64 _ (by omega) (by omega)]; omega
  unfold f550_l5
  simp only [e0,cond_true,e1]
  by_cases hsz:a + i < s.size
  ·have e2:decide (((a + i:Nat):Int) < (s.size:Int)) = true:=by simp; omega
   have e3:inR ((a + i:Nat):Int) s.size = true:=by unfold inR; simp; omega
   have e4:IntKind.wrap .i64 (7 * (i:Int)) = ((7 * i:Nat):Int):=by rw [wrap_i64 _ (by omega) (by omega)]; omega
   have e5:decide (0≤((7 * i:Nat):Int)) = true:=by simp; omega
   obtain ⟨b,hb⟩:∃ b,(zaj s)[a + i]'(by rw [zax]; exact hsz) = b:=⟨_,rfl⟩
   have hb256:b < 256:=by rw [← hb]; exact nb_lt s _ (List.getElem_mem _)
   have hdrop:(zaj s).drop (a + i) = b :: (zaj s).drop (a + (i + 1)):=by
    rw [List.drop_eq_getElem_cons (by rw [zax]; exact hsz),hb,Nat.add_assoc]
   have w1:IntKind.wrap .u64 (b:Int) = (b:Int):=wrap_u64 _ (by omega) (by omega)
   have w2:Int.tmod (b:Int) 128 = ((b % 128:Nat):Int):=rfl
   have hlt64:z + b % 128 * 128 ^ i < 2 ^ 63:=by
    have h1:z + b % 128 * 128 ^ i < (b % 128 + 1) * 128 ^ i:=by rw [Nat.add_mul]; omega
    have h2:(b % 128 + 1) * 128 ^ i≤128 * 128 ^ i:=Nat.mul_le_mul_right _ (by omega)
    have h3:(128:Nat) ^ (i + 1)≤128 ^ 9:=Nat.pow_le_pow_right (by decide) (by omega)
    have h4:(128:Nat) ^ 9 = 2 ^ 63:=by decide
    rw [Nat.pow_succ,Nat.mul_comm] at h3
    omega
   have w3:IntKind.wrap .u64 ((z:Int) + ((b % 128 * 128 ^ i:Nat):Int)) = ((z + b % 128 * 128 ^ i:Nat):Int):=by
    have:(z:Int) + ((b % 128 * 128 ^ i:Nat):Int) = ((z + b % 128 * 128 ^ i:Nat):Int):=by push_cast; rfl
    rw [this,wrap_u64 _ (by omega) (by omega)]
   simp only [e2,e3,e4,e5,cond_true,zh8 s _ hsz,hb,w1,w2,shl7 (b % 128) i (by omega) (by omega),w3]
   rw [hdrop]
   have hz':z + b % 128 * 128 ^ i < 128 ^ (i + 1):=by
    have h1:z + b % 128 * 128 ^ i < (b % 128 + 1) * 128 ^ i:=by rw [Nat.add_mul]; omega
    have h2:(b % 128 + 1) * 128 ^ i≤128 * 128 ^ i:=Nat.mul_le_mul_right _ (by omega)
    rw [Nat.pow_succ,Nat.mul_comm (128 ^ i)]
    omega
   by_cases h128:128≤b
   ·have e6:decide ((b:Int) ≥ 128) = true:=by simp; omega
    have e7:IntKind.wrap .i64 ((i:Int) + 1) = ((i + 1:Nat):Int):=by rw [wrap_i64 _ (by omega) (by omega)]; omega
    simp only [e6,cond_true,e7,ih (i + 1) (z + b % 128 * 128 ^ i) (by omega) hz']
    rw [rd,if_pos h128]
    cases hr:rd j ((zaj s).drop (a + (i + 1))) with
    | none=>rfl
    | some p =>
     simp only [Option.map_some]
     have hv:z + b % 128 * 128 ^ i + 128 ^ (i + 1) * val p = z + 128 ^ i * val (b :: p):=by
      simp only [val]
      rw [Nat.pow_succ,Nat.mul_add,Nat.add_assoc,Nat.mul_comm (b % 128),Nat.mul_assoc]
     have hlen:a + (i + 1) + p.length = a + i + (b :: p).length:=by simp; omega
     rw [hv,hlen]
   ·have e6:decide ((b:Int) ≥ 128) = false:=by simp; omega
    have hv:z + b % 128 * 128 ^ i = z + 128 ^ i * val [b]:=by simp only [val]; rw [Nat.mul_zero,Nat.add_zero,Nat.mul_comm]
    have e8:IntKind.wrap .i64 (((a + i:Nat):Int) + 1) = ((a + i + 1:Nat):Int):=by rw [wrap_i64 _ (by omega) (by omega)]; omega
    simp only [e6,cond_false,e8]
    rw [rd,if_neg h128]
    simp only [List.length_singleton,← hv]
    generalize hZ:z + b % 128 * 128 ^ i = Z at hlt64 ⊢
    have d1:Int.tdiv (Z:Int) 2 = ((Z / 2:Nat):Int):=rfl
    have d2:Int.tmod (Z:Int) 2 = ((Z % 2:Nat):Int):=rfl
    have d3:IntKind.wrap .u64 ((Z / 2:Nat):Int) = ((Z / 2:Nat):Int):=wrap_u64 _ (by omega) (by omega)
    have d4:IntKind.wrap .i64 ((Z / 2:Nat):Int) = ((Z / 2:Nat):Int):=wrap_i64 _ (by omega) (by omega)
    have ec:cutOk s.size (some (a:Int)) (some ((a + i + 1:Nat):Int)) = true:=by simp only [cutOk,Bool.and_eq_true,decide_eq_true_eq]; omega
    have fin:∀ n:Int,n = zag Z→n≤maxI →
      ((f584 n).bind fun y=>bif decide (y.2.1 ≠ (0:Int)) then some (.inr (((0:Int),(0:Int),(10:Int),()),(),())) else bif cutOk s.size (some (a:Int)) (some ((a + i + 1:Nat):Int)) then
       (bif !(decide (y.1 = (cutS s (some (a:Int)) (some ((a + i + 1:Nat):Int))))) then some (.inr (((0:Int),(0:Int),(10:Int),()),(),())) else some (.inr ((n,((a + i + 1:Nat):Int),(0:Int),()),(),()))) else none:Option (outDen f550_l5o))
      = if -maxI≤zag Z∧enc (zag Z) = cutS s (some (a:Int)) (some ((a + i + 1:Nat):Int)) then some (.inr ((zag Z,((a + i + 1:Nat):Int),0,()),(),())) else some (.inr ((0,0,10,()),(),())):=by
     intro n hn hle
     subst hn
     by_cases h1:-maxI≤zag Z
     ·rw [f584_eq h1 hle,Option.bind_some]
      simp only [ne_eq,not_true_eq_false,decide_false,cond_false,ec,cond_true]
      by_cases h2:enc (zag Z) = cutS s (some (a:Int)) (some ((a + i + 1:Nat):Int))
      ·rw [if_pos ⟨h1,h2⟩,zT h2]
       rfl
      ·rw [if_neg (fun h=>h2 h.2),zF h2]
       rfl
     ·rw [f584_bad (fun h=>h1 h.1),Option.bind_some,if_neg (fun h=>h1 h.1)]
      rfl
    have hm:Z % 2 = 0 ∨ Z % 2 = 1:=by omega
    rcases hm with hm | hm
    ·have hz0:((Z / 2:Nat):Int) = zag Z:=by unfold zag; rw [if_neg (by omega)]
     have e9:decide (((Z % 2:Nat):Int) = 1) = false:=by simp; omega
     simp only [d1,d2,d3,d4,e9,cond_false]
     rw [hz0]
     exact fin _ rfl (by rw [← hz0]; unfold maxI; omega)
    ·have e9:decide (((Z % 2:Nat):Int) = 1) = true:=by simp; omega
     have d5:IntKind.wrap .i64 (0 - ((Z / 2:Nat):Int)) = -((Z / 2:Nat):Int):=by rw [wrap_i64 _ (by omega) (by omega)]; omega
     have d6:IntKind.wrap .i64 (-((Z / 2:Nat):Int) - 1) = -((Z / 2:Nat):Int) - 1:=wrap_i64 _ (by omega) (by omega)
     have hz1:-((Z / 2:Nat):Int) - 1 = zag Z:=by unfold zag; rw [if_pos hm]
     simp only [d1,d2,d3,d4,d5,d6,e9,cond_true]
     rw [hz1]
     exact fin _ rfl (by rw [← hz1]; unfold maxI; omega)
  ·have e2:decide (((a + i:Nat):Int) < (s.size:Int)) = false:=by simp; omega
   have hdrop:(zaj s).drop (a + i) = []:=List.drop_of_length_le (by rw [zax]; omega)
   simp only [e2,cond_false,hdrop]
   rfl
theorem f550_eq (s:ByteArray) (hs:s.size≤1099511627776) (a:Nat) (ha:a≤s.size) :
  f550 s (a:Int) = match dec ((zaj s).drop a) with
   | some (n,k)=>some (n,((a + k:Nat):Int),0,())
   | none=>some (0,0,10,()):=by
 have e1:decide ((a:Int) < 0) = false:=by simp
 have e2:decide ((a:Int) > (s.size:Int)) = false:=by simp; omega
 have h:=zlK s hs a ha 9 0 0 rfl (by decide)
 unfold f550
 simp only [e1,e2,cond_false]
 have h':f550_l5 s (a:Int) (((9:Int) - (0:Int)).toNat + 1) (0:Int) (0:Int) = _:=h
 rw [h']
 simp only [Nat.add_zero,Nat.zero_add,Nat.pow_zero,Nat.one_mul]
 unfold dec
 cases hr:rd 9 ((zaj s).drop a) with
 | none=>rfl
 | some p =>
  obtain ⟨_,_,t,ht⟩:=zdX hr
  have hle:a + p.length≤s.size:=by
   have:=congrArg List.length ht
   rw [List.length_drop,zax,List.length_append] at this
   omega
  have hiff:enc (zag (val p)) = cutS s (some (a:Int)) (some ((a + p.length:Nat):Int)) ↔ grpN (val p) = p:=by
   have hcut:zaj (cutS s (some (a:Int)) (some ((a + p.length:Nat):Int))) = p:=by
    rw [zkN s a _ (by omega) hle,ht,Nat.add_sub_cancel_left,List.take_left']
    rfl
   constructor
   ·intro e
    have h2:=hcut
    rw [← e,zcI,zhg] at h2
    exact h2
   ·intro e
    refine zbl ?_
    rw [hcut,zcI,zhg,e]
  simp only [hiff]
  by_cases h1:grpN (val p) = p∧-maxI≤zag (val p)
  ·rw [if_pos ⟨h1.2,h1.1⟩,if_pos h1]
   rfl
  ·rw [if_neg (fun h=>h1 ⟨h.2,h.1⟩),if_neg h1]
   rfl
end Go.V.G
namespace Go.V.G
open Go.Proofs
open Go.V.K
abbrev Bs:=List Nat
def nE (n:Int):Bs:=grpN (zig n)
def nEs (l:List Int):Bs:=l.flatMap nE
theorem zbj (n:Int) (l:List Int):nEs (n :: l) = nE n++nEs l:=by simp [nEs]
theorem zcC (a b:List Int):nEs (a++b) = nEs a++nEs b:=by simp [nEs]
theorem zor:nEs [] = []:=rfl
def num (bs:Bs):Option (Int × Bs) :=
 match dec bs with
 | some (n,k)=>some (n,bs.drop k)
 | none=>none
theorem zcY {bs:Bs} {n:Int} {t:Bs}:num bs = some (n,t) ↔ zaC n∧bs = nE n++t:=by
 constructor
 ·intro h
  unfold num at h
  split at h
  ·rename_i m k e
   simp only [Option.some.injEq,Prod.mk.injEq] at h
   obtain ⟨rfl,rfl⟩:=h
   obtain ⟨h1,h2,u,h3⟩:=zhi e
   refine ⟨⟨h1,zoY e⟩,?_⟩
   rw [h3,h2]
   simp [nE]
  ·cases h
 ·rintro ⟨h,rfl⟩
  unfold num nE
  rw [zop h.1 h.2]
  simp
def numR (lo hi:Int) (bs:Bs):Option (Int × Bs) :=
 match num bs with
 | some (n,t)=>if lo≤n∧n≤hi then some (n,t) else none
 | none=>none
theorem zbx {lo hi:Int} (h1:-maxI≤lo) (h2:hi≤maxI) {bs:Bs} {n:Int} {t:Bs}:numR lo hi bs = some (n,t) ↔ (lo≤n∧n≤hi)∧bs = nE n++t:=by
 constructor
 ·intro h
  unfold numR at h
  split at h
  ·rename_i m u e
   split at h
   ·rename_i hr
    simp only [Option.some.injEq,Prod.mk.injEq] at h
    obtain ⟨rfl,rfl⟩:=h
    exact ⟨hr,(zcY.1 e).2⟩
   ·cases h
  ·cases h
 ·rintro ⟨h,rfl⟩
  have:num (nE n++t) = some (n,t):=zcY.2 ⟨⟨by have:=h.1; omega,by have:=h.2; omega⟩,rfl⟩
  unfold numR
  rw [this]
  simp [h]
def maxN:Int:=1152921504606846976
theorem zhj:-maxI≤-maxN∧maxN≤maxI:=by unfold maxN maxI; omega
def nums:Nat→Bs→Option (List Int × Bs)
 | 0,bs=>some ([],bs)
 | k + 1,bs=>match numR (-maxN) maxN bs with
  | some (n,t)=>match nums k t with
   | some (l,u)=>some (n :: l,u)
   | none=>none
  | none=>none
theorem zby:∀ {k:Nat} {bs:Bs} {l:List Int} {t:Bs},nums k bs = some (l,t) ↔ (l.length = k∧∀ n∈l,-maxN≤n∧n≤maxN)∧bs = nEs l++t
 | 0,bs,l,t=>by
  simp only [nums,Option.some.injEq,Prod.mk.injEq]
  constructor
  ·rintro ⟨rfl,rfl⟩
   exact ⟨⟨rfl,by simp⟩,rfl⟩
  ·rintro ⟨⟨h,_⟩,rfl⟩
   have:l = []:=List.eq_nil_of_length_eq_zero h
   subst this
   exact ⟨rfl,rfl⟩
 | k + 1,bs,l,t=>by
  simp only [nums]
  constructor
  ·intro h
   split at h
   ·rename_i n u e
    split at h
    ·rename_i m v e2
     simp only [Option.some.injEq,Prod.mk.injEq] at h
     obtain ⟨rfl,rfl⟩:=h
     obtain ⟨g1,rfl⟩:=(zbx zhj.1 zhj.2).1 e
     obtain ⟨⟨g2,g3⟩,rfl⟩:=zby.1 e2
     refine ⟨⟨by simp [g2],fun x hx=>?_⟩,by rw [zbj,List.append_assoc]⟩
     rcases List.mem_cons.1 hx with rfl | hx
     ·exact g1
     ·exact g3 x hx
    ·cases h
   ·cases h
  ·rintro ⟨⟨h1,h2⟩,rfl⟩
   cases l with
   | nil=>simp at h1
   | cons n l =>
    have e1:numR (-maxN) maxN (nEs (n :: l)++t) = some (n,nEs l++t):=(zbx zhj.1 zhj.2).2 ⟨h2 n (by simp),by rw [zbj,List.append_assoc]⟩
    have e2:nums k (nEs l++t) = some (l,t):=zby.2 ⟨⟨by simpa using h1,fun x hx=>h2 x (by simp [hx])⟩,rfl⟩
    rw [e1]
    simp only [e2]
def lab (bs:Bs):Option (List Int × Bs) :=
 match numR 0 64 bs with
 | some (n,t)=>nums n.toNat t
 | none=>none
def labI (l:List Int):List Int:=(l.length:Int) :: l
theorem zfD {bs:Bs} {l:List Int} {t:Bs}:lab bs = some (l,t) ↔ okL l∧bs = nEs (labI l)++t:=by
 have b0:-maxI≤(0:Int):=by unfold maxI; omega
 have b1:(64:Int)≤maxI:=by unfold maxI; omega
 unfold lab
 constructor
 ·intro h
  split at h
  ·rename_i n u e
   obtain ⟨g1,rfl⟩:=(zbx b0 b1).1 e
   obtain ⟨⟨g2,g3⟩,rfl⟩:=zby.1 h
   refine ⟨⟨by omega,fun n hn=>by have:=g3 n hn; unfold maxN at this; omega⟩,?_⟩
   unfold labI
   rw [zbj,List.append_assoc,g2,show ((n.toNat:Nat):Int) = n by omega]
  ·cases h
 ·rintro ⟨⟨h1,h2⟩,rfl⟩
  have e1:numR 0 64 (nEs (labI l)++t) = some ((l.length:Int),nEs l++t):=(zbx b0 b1).2 ⟨⟨by omega,by omega⟩,by unfold labI; rw [zbj,List.append_assoc]⟩
  rw [e1]
  simp only
  exact zby.2 ⟨⟨by omega,fun n hn=>by have:=h2 n hn; unfold maxN; omega⟩,rfl⟩
def may (bs:Bs):Option (Lb × Bs) :=
 match numR 0 1 bs with
 | some (n,t)=>if n = 0 then some ((false,[]),t) else (match lab t with
  | some (l,u)=>some ((true,l),u)
  | none=>none)
 | none=>none
def mayI (m:Lb):List Int:=if m.1 then 1 :: labI m.2 else [0]
theorem zcZ {bs:Bs} {m:Lb} {t:Bs}:may bs = some (m,t) ↔ okM m∧bs = nEs (mayI m)++t:=by
 have b0:-maxI≤(0:Int):=by unfold maxI; omega
 have b1:(1:Int)≤maxI:=by unfold maxI; omega
 obtain ⟨h,l⟩:=m
 unfold may
 constructor
 ·intro e
  split at e
  ·rename_i n u e1
   obtain ⟨g1,rfl⟩:=(zbx b0 b1).1 e1
   split at e
   ·rename_i hn
    simp only [Option.some.injEq,Prod.mk.injEq] at e
    obtain ⟨⟨rfl,rfl⟩,rfl⟩:=e
    subst hn
    exact ⟨⟨⟨by simp,by simp⟩,fun _=>rfl⟩,by simp [mayI,nEs]⟩
   ·rename_i hn
    split at e
    ·rename_i l' v e2
     simp only [Option.some.injEq,Prod.mk.injEq] at e
     obtain ⟨⟨rfl,rfl⟩,rfl⟩:=e
     obtain ⟨g2,rfl⟩:=zfD.1 e2
     have:n = 1:=by omega
     subst this
     exact ⟨⟨g2,fun h=>by cases h⟩,by simp only [mayI,if_true]; rw [zbj,List.append_assoc]⟩
    ·cases e
  ·cases e
 ·rintro ⟨⟨g1,g2⟩,rfl⟩
  cases h with
  | false =>
   have:l = []:=g2 rfl
   subst this
   have e1:numR 0 1 (nEs (mayI (false,[]))++t) = some (0,t):=(zbx b0 b1).2 ⟨⟨by omega,by omega⟩,by simp [mayI,nEs]⟩
   rw [e1]
   simp
  | true =>
   have e1:numR 0 1 (nEs (mayI (true,l))++t) = some (1,nEs (labI l)++t):=(zbx b0 b1).2 ⟨⟨by omega,by omega⟩,by simp only [mayI,if_true]; rw [zbj,List.append_assoc]⟩
   have e2:lab (nEs (labI l)++t) = some (l,t):=zfD.2 ⟨g1,rfl⟩
   rw [e1]
   simp only [e2]
   simp
def rel1 (bs:Bs):Option (Rl × Bs) :=
 match numR 1 7 bs with
 | some (k,t)=>match numR 0 23 t with
  | some (i,t)=>match may t with
   | some (a,t)=>match may t with
    | some (b,t)=>some (mkR (k,i) a b,t)
    | none=>none
   | none=>none
  | none=>none
 | none=>none
def relI (r:Rl):List Int:=r.1 :: r.2.1 :: (mayI (bf r)++mayI (af r))
def okS (r:Rl):Prop:=kOf r∈keys∧okM (bf r)∧okM (af r)
theorem zhk {bs:Bs} {r:Rl} {t:Bs}:rel1 bs = some (r,t) ↔ okS r∧bs = nEs (relI r)++t:=by
 have b0:-maxI≤(0:Int):=by unfold maxI; omega
 have b1:-maxI≤(1:Int):=by unfold maxI; omega
 have b2:(7:Int)≤maxI:=by unfold maxI; omega
 have b3:(23:Int)≤maxI:=by unfold maxI; omega
 unfold rel1
 constructor
 ·intro e
  split at e
  ·rename_i k u1 e1
   obtain ⟨g1,rfl⟩:=(zbx b1 b2).1 e1
   split at e
   ·rename_i i u2 e2
    obtain ⟨g2,rfl⟩:=(zbx b0 b3).1 e2
    split at e
    ·rename_i a u3 e3
     obtain ⟨g3,rfl⟩:=zcZ.1 e3
     split at e
     ·rename_i b u4 e4
      obtain ⟨g4,rfl⟩:=zcZ.1 e4
      simp only [Option.some.injEq,Prod.mk.injEq] at e
      obtain ⟨rfl,rfl⟩:=e
      refine ⟨⟨zda.2 ⟨g1,g2.1,by have:=g2.2; show i < 24; omega⟩,g3,g4⟩,?_⟩
      simp only [relI,zn0,zn1,zbj,zcC,List.append_assoc]
      rfl
     ·cases e
    ·cases e
   ·cases e
  ·cases e
 ·rintro ⟨⟨g1,g2,g3⟩,rfl⟩
  have g:=zda.1 g1
  have e1:numR 1 7 (nEs (relI r)++t) = some (r.1,nE r.2.1++(nEs (mayI (bf r))++(nEs (mayI (af r))++t))):=(zbx b1 b2).2 ⟨g.1,by simp only [relI,zbj,zcC,List.append_assoc]⟩
  have e2:numR 0 23 (nE r.2.1++(nEs (mayI (bf r))++(nEs (mayI (af r))++t))) = some (r.2.1,nEs (mayI (bf r))++(nEs (mayI (af r))++t)):=(zbx b0 b3).2 ⟨⟨g.2.1,by have:r.2.1 < 24:=g.2.2; omega⟩,rfl⟩
  have e3:may (nEs (mayI (bf r))++(nEs (mayI (af r))++t)) = some (bf r,nEs (mayI (af r))++t):=zcZ.2 ⟨g2,rfl⟩
  have e4:may (nEs (mayI (af r))++t) = some (af r,t):=zcZ.2 ⟨g3,rfl⟩
  rw [e1]
  simp only [e2,e3,e4]
  rfl
def rels:Nat→Bs→Option (List Rl × Bs)
 | 0,bs=>some ([],bs)
 | k + 1,bs=>match rel1 bs with
  | some (r,t)=>match rels k t with
   | some (l,u)=>some (r :: l,u)
   | none=>none
  | none=>none
def relsI (d:List Rl):List Int:=d.flatMap relI
theorem zcw:∀ {k:Nat} {bs:Bs} {d:List Rl} {t:Bs},rels k bs = some (d,t) ↔ (d.length = k∧∀ r∈d,okS r)∧bs = nEs (relsI d)++t
 | 0,bs,d,t=>by
  simp only [rels,Option.some.injEq,Prod.mk.injEq]
  constructor
  ·rintro ⟨rfl,rfl⟩
   exact ⟨⟨rfl,by simp⟩,rfl⟩
  ·rintro ⟨⟨h,_⟩,rfl⟩
   have:d = []:=List.eq_nil_of_length_eq_zero h
   subst this
   exact ⟨rfl,rfl⟩
 | k + 1,bs,d,t=>by
  simp only [rels]
  constructor
  ·intro h
   split at h
   ·rename_i r u e
    split at h
    ·rename_i m v e2
     simp only [Option.some.injEq,Prod.mk.injEq] at h
     obtain ⟨rfl,rfl⟩:=h
     obtain ⟨g1,rfl⟩:=zhk.1 e
     obtain ⟨⟨g2,g3⟩,rfl⟩:=zcw.1 e2
     refine ⟨⟨by simp [g2],fun x hx=>?_⟩,by simp only [relsI,List.flatMap_cons,zcC,List.append_assoc]⟩
     rcases List.mem_cons.1 hx with rfl | hx
     ·exact g1
     ·exact g3 x hx
    ·cases h
   ·cases h
  ·rintro ⟨⟨h1,h2⟩,rfl⟩
   cases d with
   | nil=>simp at h1
   | cons r d =>
    have e1:rel1 (nEs (relsI (r :: d))++t) = some (r,nEs (relsI d)++t):=zhk.2 ⟨h2 r (by simp),by simp only [relsI,List.flatMap_cons,zcC,List.append_assoc]⟩
    have e2:rels k (nEs (relsI d)++t) = some (d,t):=zcw.2 ⟨⟨by simpa using h1,fun x hx=>h2 x (by simp [hx])⟩,rfl⟩
    rw [e1]
    simp only [e2]
def del (bs:Bs):Option (List Rl × Bs) :=
 match numR 0 168 bs with
 | some (n,t)=>rels n.toNat t
 | none=>none
def delI (d:List Rl):List Int:=(d.length:Int) :: relsI d
theorem zlL {bs:Bs} {d:List Rl} {t:Bs}:del bs = some (d,t) ↔ (d.length≤168∧∀ r∈d,okS r)∧bs = nEs (delI d)++t:=by
 have b0:-maxI≤(0:Int):=by unfold maxI; omega
 have b1:(168:Int)≤maxI:=by unfold maxI; omega
 unfold del
 constructor
 ·intro h
  split at h
  ·rename_i n u e
   obtain ⟨g1,rfl⟩:=(zbx b0 b1).1 e
   obtain ⟨⟨g2,g3⟩,rfl⟩:=zcw.1 h
   refine ⟨⟨by omega,g3⟩,?_⟩
   unfold delI
   rw [zbj,List.append_assoc,g2,show ((n.toNat:Nat):Int) = n by omega]
  ·cases h
 ·rintro ⟨⟨h1,h2⟩,rfl⟩
  have e1:numR 0 168 (nEs (delI d)++t) = some ((d.length:Int),nEs (relsI d)++t):=(zbx b0 b1).2 ⟨⟨by omega,by omega⟩,by unfold delI; rw [zbj,List.append_assoc]⟩
  rw [e1]
  simp only
  exact zcw.2 ⟨⟨by omega,h2⟩,rfl⟩
theorem okD_S {d:List Rl} (h:okD d):∀ r∈d,okS r:=fun r hr=>⟨(h.1 r hr).1,(h.1 r hr).2.1,(h.1 r hr).2.2.1⟩
end Go.V.G
namespace Go.V.G
open Go.Proofs
open Go.V.K
def P (s:ByteArray) (t:Bs):Int:=((s.size - t.length:Nat):Int)
theorem zj7 {l t:Bs} (h:t <:+ l):l.drop (l.length - t.length) = t:=by
 obtain ⟨p,rfl⟩:=h
 rw [List.length_append,Nat.add_sub_cancel,List.drop_left]
theorem zi7 {l t:Bs} (h:t <:+ l):t.length≤l.length:=by
 obtain ⟨p,rfl⟩:=h
 rw [List.length_append]
 omega
theorem zdY {t u:Bs} {n:Int} (h:num t = some (n,u)):u <:+ t:=by
 obtain ⟨_,rfl⟩:=zcY.1 h
 exact List.suffix_append _ _
theorem f90_num (s:ByteArray) (hs:s.size≤1099511627776) {t:Bs} (ht:t <:+ zaj s) :
  f90 s (P s t) = match num t with
   | some (n,u)=>some (n,P s u,0,())
   | none=>some (0,0,10,()):=by
 have hl:=zi7 ht
 rw [zax] at hl
 have h:=f90_eq s hs (s.size - t.length) (by omega)
 have e:(zaj s).drop (s.size - t.length) = t:=by
  have:=zj7 ht
  rw [zax] at this
  exact this
 rw [e] at h
 unfold P
 rw [h]
 unfold num
 cases hd:dec t with
 | none=>rfl
 | some x =>
  obtain ⟨n,k⟩:=x
  obtain ⟨_,hk,u,hu⟩:=zhi hd
  have:k≤t.length:=by rw [hu,List.length_append]; omega
  simp only [Option.some.injEq,Prod.mk.injEq,List.length_drop,true_and,and_true]
  omega
theorem rd_eq {R:Type} {s:ByteArray} (hs:s.size≤1099511627776) {t:Bs} (ht:t <:+ zaj s) (lo hi:Int) (A:Option R) (K:Int × Int × Int × Unit→Option R) :
  ((f90 s (P s t)).bind fun y=>bif decide (y.2.2.1 = (0:Int)) then (bif decide (y.1 ≥ lo) then (bif (!(decide (y.1≤hi))) then A else K y) else A) else A) =
   match numR lo hi t with
   | some (n,u)=>K (n,P s u,0,())
   | none=>A:=by
 rw [f90_num s hs ht]
 unfold numR
 cases h:num t with
 | none=>rfl
 | some x =>
  obtain ⟨n,u⟩:=x
  simp only [Option.bind_some,decide_true,cond_true]
  by_cases h1:lo≤n
  ·have e1:decide (n ≥ lo) = true:=zT h1
   by_cases h2:n≤hi
   ·simp only [e1,h2,decide_true,cond_true,Bool.not_true,cond_false,h1,and_self,if_true]
   ·simp only [e1,zF h2,cond_true,Bool.not_false,h2,and_false,if_false]
    try rfl
  ·have e1:decide (n ≥ lo) = false:=zF h1
   simp only [e1,cond_false,h1,false_and,if_false]
   try rfl
theorem za5 {lo hi:Int} {t u:Bs} {n:Int} (h:numR lo hi t = some (n,u)):u <:+ t:=by
 unfold numR at h
 split at h
 ·rename_i m v e
  split at h
  ·simp only [Option.some.injEq,Prod.mk.injEq] at h
   obtain ⟨rfl,rfl⟩:=h
   exact zdY e
  ·cases h
 ·cases h
theorem zj8 {k:Nat} {t u:Bs} {l:List Int} (h:nums k t = some (l,u)):u <:+ t:=by
 obtain ⟨_,rfl⟩:=zby.1 h
 exact List.suffix_append _ _
theorem f68_l3x_eq (t5:Int) (k0t0:ByteArray) (b8g0:ByteArray) (b3g0:Int) (hs:b8g0.size≤1099511627776) (h64:t5≤64):∀ (m j k:Nat) (t:Bs) (r:List Int),t <:+ zaj b8g0→((j + m:Nat):Int) = t5→m < k→r.length = j →
  (∃ l u,nums m t = some (l,u)∧f68_l3x t5 k0t0 b8g0 b3g0 k (j:Int) (P b8g0 t) r = (some (.inl ((),((k0t0,()),(),(),()),((r++l),(),(b3g0,()),(b8g0,(P b8g0 u),()),()))):Option (outDen f68_l3xo))) ∨
  (nums m t = none∧∃ p:Int,f68_l3x t5 k0t0 b8g0 b3g0 k (j:Int) (P b8g0 t) r = (some (.inr ((),((k0t0,()),(),(),()),((),(b3g0,()),(b8g0,p,()),()))):Option (outDen f68_l3xo))):=by
 intro m
 induction m with
 | zero =>
  intro j k t r ht h1 h2 h3
  obtain ⟨k,rfl⟩:∃ q,k = q + 1:=⟨k - 1,by omega⟩
  refine .inl ⟨[],t,rfl,?_⟩
  unfold f68_l3x
  have e:decide ((j:Int) < t5) = false:=by simp; omega
  simp only [e,cond_false,List.append_nil]
 | succ m ih =>
  intro j k t r ht h1 h2 h3
  obtain ⟨k,rfl⟩:∃ q,k = q + 1:=⟨k - 1,by omega⟩
  have e:decide ((j:Int) < t5) = true:=by simp; omega
  have ea:∀ x:Int,decide (r.length + ([x]:List Int).length≤zac) = true:=fun x=>zaV (by simp; omega)
  have hstep:f68_l3x t5 k0t0 b8g0 b3g0 (k + 1) (j:Int) (P b8g0 t) r = match numR (-maxN) maxN t with
   | some (n,u)=>f68_l3x t5 k0t0 b8g0 b3g0 k ((j + 1:Nat):Int) (P b8g0 u) (r++[n])
   | none=>(some (.inr ((),((k0t0,()),(),(),()),((),(b3g0,()),(b8g0,(P b8g0 t),()),()))):Option (outDen f68_l3xo)):=by
   conv=>lhs; unfold f68_l3x
   simp only [e,cond_true]
   refine (rd_eq hs ht (-maxN) maxN _ _).trans ?_
   cases hn:numR (-maxN) maxN t with
   | none=>rfl
   | some x =>
    obtain ⟨n,u⟩:=x
    simp only [ea,cond_true,wS j (by omega)]
  rw [hstep]
  simp only [nums]
  cases hn:numR (-maxN) maxN t with
  | none=>exact .inr ⟨rfl,_,rfl⟩
  | some x =>
   obtain ⟨n,u⟩:=x
   rcases ih (j + 1) k u (r++[n]) ((za5 hn).trans ht) (by omega) (by omega) (by simp [h3]) with ⟨l,v,g1,g2⟩ | ⟨g1,p,g2⟩
   ·refine .inl ⟨n :: l,v,by simp only [g1],?_⟩
    refine g2.trans ?_
    rw [List.append_assoc]
    rfl
   ·exact .inr ⟨by simp only [g1],p,g2⟩
theorem f68_l3w_eq (t5:Int) (k1t16:Int) (k1t17:Int) (k1t28:(List Int)) (k1t29:(Bool × ((List Int) × Unit))) (b14g0:ByteArray) (b31031002g0:Bool) (b5g0:Int) (b6g0:Int) (b8g0:(List Int)) (b9g0:Bool) (b9g1:(List Int)) (r34:(List Yr)) (hs:b14g0.size≤1099511627776) (h64:t5≤64):∀ (m j k:Nat) (t:Bs) (r:List Int),t <:+ zaj b14g0→((j + m:Nat):Int) = t5→m < k→r.length = j →
  (∃ l u,nums m t = some (l,u)∧f68_l3w t5 k1t16 k1t17 k1t28 k1t29 b14g0 b31031002g0 b5g0 b6g0 b8g0 b9g0 b9g1 r34 k (j:Int) (P b14g0 t) r = (some (.inl ((),((),(k1t16,k1t17,k1t28,k1t29,()),(),(),()),((r++l),(b31031002g0,()),(),(b5g0,()),(b6g0,()),(b14g0,(P b14g0 u),()),(b8g0,()),(b9g0,b9g1,()),r34,()))):Option (outDen f68_l3wo))) ∨
  (nums m t = none∧∃ p:Int,f68_l3w t5 k1t16 k1t17 k1t28 k1t29 b14g0 b31031002g0 b5g0 b6g0 b8g0 b9g0 b9g1 r34 k (j:Int) (P b14g0 t) r = (some (.inr ((),((),(k1t16,k1t17,k1t28,k1t29,()),(),(),()),((b31031002g0,()),(),(b5g0,()),(b6g0,()),(b14g0,p,()),(b8g0,()),(b9g0,b9g1,()),r34,()))):Option (outDen f68_l3wo))):=by
 intro m
 induction m with
 | zero =>
  intro j k t r ht h1 h2 h3
  obtain ⟨k,rfl⟩:∃ q,k = q + 1:=⟨k - 1,by omega⟩
  refine .inl ⟨[],t,rfl,?_⟩
  unfold f68_l3w
  have e:decide ((j:Int) < t5) = false:=by simp; omega
  simp only [e,cond_false,List.append_nil]
 | succ m ih =>
  intro j k t r ht h1 h2 h3
  obtain ⟨k,rfl⟩:∃ q,k = q + 1:=⟨k - 1,by omega⟩
  have e:decide ((j:Int) < t5) = true:=by simp; omega
  have ea:∀ x:Int,decide (r.length + ([x]:List Int).length≤zac) = true:=fun x=>zaV (by simp; omega)
  have hstep:f68_l3w t5 k1t16 k1t17 k1t28 k1t29 b14g0 b31031002g0 b5g0 b6g0 b8g0 b9g0 b9g1 r34 (k + 1) (j:Int) (P b14g0 t) r = match numR (-maxN) maxN t with
   | some (n,u)=>f68_l3w t5 k1t16 k1t17 k1t28 k1t29 b14g0 b31031002g0 b5g0 b6g0 b8g0 b9g0 b9g1 r34 k ((j + 1:Nat):Int) (P b14g0 u) (r++[n])
   | none=>(some (.inr ((),((),(k1t16,k1t17,k1t28,k1t29,()),(),(),()),((b31031002g0,()),(),(b5g0,()),(b6g0,()),(b14g0,(P b14g0 t),()),(b8g0,()),(b9g0,b9g1,()),r34,()))):Option (outDen f68_l3wo)):=by
   conv=>lhs; unfold f68_l3w
   simp only [e,cond_true]
   refine (rd_eq hs ht (-maxN) maxN _ _).trans ?_
   cases hn:numR (-maxN) maxN t with
   | none=>rfl
   | some x =>
    obtain ⟨n,u⟩:=x
    simp only [ea,cond_true,wS j (by omega)]
  rw [hstep]
  simp only [nums]
  cases hn:numR (-maxN) maxN t with
  | none=>exact .inr ⟨rfl,_,rfl⟩
  | some x =>
   obtain ⟨n,u⟩:=x
   rcases ih (j + 1) k u (r++[n]) ((za5 hn).trans ht) (by omega) (by omega) (by simp [h3]) with ⟨l,v,g1,g2⟩ | ⟨g1,p,g2⟩
   ·refine .inl ⟨n :: l,v,by simp only [g1],?_⟩
    refine g2.trans ?_
    rw [List.append_assoc]
    rfl
   ·exact .inr ⟨by simp only [g1],p,g2⟩
theorem f68_l3y_eq (t5:Int) (k1t16:Int) (k1t17:Int) (k1t28:(List Int)) (b14g0:ByteArray) (b23031002g0:Bool) (b5g0:Int) (b6g0:Int) (b8g0:(List Int)) (b9g0:Bool) (b9g1:(List Int)) (r34:(List Yr)) (hs:b14g0.size≤1099511627776) (h64:t5≤64):∀ (m j k:Nat) (t:Bs) (r:List Int),t <:+ zaj b14g0→((j + m:Nat):Int) = t5→m < k→r.length = j →
  (∃ l u,nums m t = some (l,u)∧f68_l3y t5 k1t16 k1t17 k1t28 b14g0 b23031002g0 b5g0 b6g0 b8g0 b9g0 b9g1 r34 k (j:Int) (P b14g0 t) r = (some (.inl ((),((),(k1t16,k1t17,k1t28,()),(),(),()),((r++l),(b23031002g0,()),(),(b5g0,()),(b6g0,()),(b14g0,(P b14g0 u),()),(b8g0,()),(b9g0,b9g1,()),r34,()))):Option (outDen f68_l3yo))) ∨
  (nums m t = none∧∃ p:Int,f68_l3y t5 k1t16 k1t17 k1t28 b14g0 b23031002g0 b5g0 b6g0 b8g0 b9g0 b9g1 r34 k (j:Int) (P b14g0 t) r = (some (.inr ((),((),(k1t16,k1t17,k1t28,()),(),(),()),((b23031002g0,()),(),(b5g0,()),(b6g0,()),(b14g0,p,()),(b8g0,()),(b9g0,b9g1,()),r34,()))):Option (outDen f68_l3yo))):=by
 intro m
 induction m with
 | zero =>
  intro j k t r ht h1 h2 h3
  obtain ⟨k,rfl⟩:∃ q,k = q + 1:=⟨k - 1,by omega⟩
  refine .inl ⟨[],t,rfl,?_⟩
  unfold f68_l3y
  have e:decide ((j:Int) < t5) = false:=by simp; omega
  simp only [e,cond_false,List.append_nil]
 | succ m ih =>
  intro j k t r ht h1 h2 h3
  obtain ⟨k,rfl⟩:∃ q,k = q + 1:=⟨k - 1,by omega⟩
  have e:decide ((j:Int) < t5) = true:=by simp; omega
  have ea:∀ x:Int,decide (r.length + ([x]:List Int).length≤zac) = true:=fun x=>zaV (by simp; omega)
  have hstep:f68_l3y t5 k1t16 k1t17 k1t28 b14g0 b23031002g0 b5g0 b6g0 b8g0 b9g0 b9g1 r34 (k + 1) (j:Int) (P b14g0 t) r = match numR (-maxN) maxN t with
   | some (n,u)=>f68_l3y t5 k1t16 k1t17 k1t28 b14g0 b23031002g0 b5g0 b6g0 b8g0 b9g0 b9g1 r34 k ((j + 1:Nat):Int) (P b14g0 u) (r++[n])
   | none=>(some (.inr ((),((),(k1t16,k1t17,k1t28,()),(),(),()),((b23031002g0,()),(),(b5g0,()),(b6g0,()),(b14g0,(P b14g0 t),()),(b8g0,()),(b9g0,b9g1,()),r34,()))):Option (outDen f68_l3yo)):=by
   conv=>lhs; unfold f68_l3y
   simp only [e,cond_true]
   refine (rd_eq hs ht (-maxN) maxN _ _).trans ?_
   cases hn:numR (-maxN) maxN t with
   | none=>rfl
   | some x =>
    obtain ⟨n,u⟩:=x
    simp only [ea,cond_true,wS j (by omega)]
  rw [hstep]
  simp only [nums]
  cases hn:numR (-maxN) maxN t with
  | none=>exact .inr ⟨rfl,_,rfl⟩
  | some x =>
   obtain ⟨n,u⟩:=x
   rcases ih (j + 1) k u (r++[n]) ((za5 hn).trans ht) (by omega) (by omega) (by simp [h3]) with ⟨l,v,g1,g2⟩ | ⟨g1,p,g2⟩
   ·refine .inl ⟨n :: l,v,by simp only [g1],?_⟩
    refine g2.trans ?_
    rw [List.append_assoc]
    rfl
   ·exact .inr ⟨by simp only [g1],p,g2⟩
theorem f68_l3z_eq (t5:Int) (k1t16:Int) (k1t17:Int) (b14g0:ByteArray) (b25002g0:Bool) (b5g0:Int) (b6g0:Int) (b8g0:(List Int)) (r34:(List Yr)) (hs:b14g0.size≤1099511627776) (h64:t5≤64):∀ (m j k:Nat) (t:Bs) (r:List Int),t <:+ zaj b14g0→((j + m:Nat):Int) = t5→m < k→r.length = j →
  (∃ l u,nums m t = some (l,u)∧f68_l3z t5 k1t16 k1t17 b14g0 b25002g0 b5g0 b6g0 b8g0 r34 k (j:Int) (P b14g0 t) r = (some (.inl ((),((),(k1t16,k1t17,()),(),(),()),((r++l),(b25002g0,()),(),(b5g0,()),(b6g0,()),(b14g0,(P b14g0 u),()),(b8g0,()),r34,()))):Option (outDen f68_l3zo))) ∨
  (nums m t = none∧∃ p:Int,f68_l3z t5 k1t16 k1t17 b14g0 b25002g0 b5g0 b6g0 b8g0 r34 k (j:Int) (P b14g0 t) r = (some (.inr ((),((),(k1t16,k1t17,()),(),(),()),((b25002g0,()),(),(b5g0,()),(b6g0,()),(b14g0,p,()),(b8g0,()),r34,()))):Option (outDen f68_l3zo))):=by
 intro m
 induction m with
 | zero =>
  intro j k t r ht h1 h2 h3
  obtain ⟨k,rfl⟩:∃ q,k = q + 1:=⟨k - 1,by omega⟩
  refine .inl ⟨[],t,rfl,?_⟩
  unfold f68_l3z
  have e:decide ((j:Int) < t5) = false:=by simp; omega
  simp only [e,cond_false,List.append_nil]
 | succ m ih =>
  intro j k t r ht h1 h2 h3
  obtain ⟨k,rfl⟩:∃ q,k = q + 1:=⟨k - 1,by omega⟩
  have e:decide ((j:Int) < t5) = true:=by simp; omega
  have ea:∀ x:Int,decide (r.length + ([x]:List Int).length≤zac) = true:=fun x=>zaV (by simp; omega)
  have hstep:f68_l3z t5 k1t16 k1t17 b14g0 b25002g0 b5g0 b6g0 b8g0 r34 (k + 1) (j:Int) (P b14g0 t) r = match numR (-maxN) maxN t with
   | some (n,u)=>f68_l3z t5 k1t16 k1t17 b14g0 b25002g0 b5g0 b6g0 b8g0 r34 k ((j + 1:Nat):Int) (P b14g0 u) (r++[n])
   | none=>(some (.inr ((),((),(k1t16,k1t17,()),(),(),()),((b25002g0,()),(),(b5g0,()),(b6g0,()),(b14g0,(P b14g0 t),()),(b8g0,()),r34,()))):Option (outDen f68_l3zo)):=by
   conv=>lhs; unfold f68_l3z
   simp only [e,cond_true]
   refine (rd_eq hs ht (-maxN) maxN _ _).trans ?_
   cases hn:numR (-maxN) maxN t with
   | none=>rfl
   | some x =>
    obtain ⟨n,u⟩:=x
    simp only [ea,cond_true,wS j (by omega)]
  rw [hstep]
  simp only [nums]
  cases hn:numR (-maxN) maxN t with
  | none=>exact .inr ⟨rfl,_,rfl⟩
  | some x =>
   obtain ⟨n,u⟩:=x
   rcases ih (j + 1) k u (r++[n]) ((za5 hn).trans ht) (by omega) (by omega) (by simp [h3]) with ⟨l,v,g1,g2⟩ | ⟨g1,p,g2⟩
   ·refine .inl ⟨n :: l,v,by simp only [g1],?_⟩
    refine g2.trans ?_
    rw [List.append_assoc]
    rfl
   ·exact .inr ⟨by simp only [g1],p,g2⟩
end Go.V.G
namespace Go.V.G
open Go.Proofs
open Go.V.K
theorem zlM {R:Type} {a b c:Option R} (h1:a = c) (h2:b = c):same a b = c:=by rw [h1,h2,zaI]
theorem zch {lo hi:Int} {t u:Bs} {n:Int} (h:numR lo hi t = some (n,u)):lo≤n∧n≤hi:=by
 unfold numR at h
 split at h
 ·split at h
  ·rename_i m v e hr
   simp only [Option.some.injEq,Prod.mk.injEq] at h
   obtain ⟨rfl,rfl⟩:=h
   exact hr
  ·cases h
 ·cases h
theorem zcx {t:Bs} (h:numR 0 1 t = none):may t = none:=by unfold may; rw [h]
theorem zdw {t u:Bs} (h:numR 0 1 t = some (0,u)):may t = some ((false,[]),u):=by unfold may; rw [h]; rfl
theorem zeK {t u v:Bs} {m:Int} {l:List Int} (h:numR 0 1 t = some (m,u)) (hm:¬ m = 0) (hl:lab u = some (l,v)):may t = some ((true,l),v):=by
 unfold may
 rw [h]
 simp only [hm,if_false,hl]
theorem zbu {t u:Bs} {m:Int} (h:numR 0 1 t = some (m,u)) (hm:¬ m = 0) (hl:lab u = none):may t = none:=by
 unfold may
 rw [h]
 simp only [hm,if_false,hl]
theorem zci {t:Bs} (h:numR 0 64 t = none):lab t = none:=by unfold lab; rw [h]
theorem zbz {t u:Bs} {c:Int} (h:numR 0 64 t = some (c,u)):lab t = nums c.toNat u:=by unfold lab; rw [h]
abbrev dNo (z1 z2:Int) (r:List Rl):Option (outDen f30_l5o):=some (.inr ((),((),(),()),((),(z1,()),(z2,()),r,())))
set_option maxHeartbeats 4000000 in
theorem f30_round (k:Nat) (n z1 z2:Int) (s:ByteArray) (hs:s.size≤1099511627776) (j:Nat) (hj:j≤1000) (hn:(j:Int) < n) {t:Bs} (ht:t <:+ zaj s) (r:List Rl) (hr:r.length≤1000) :
  f30_l5 (k + 1) n (j:Int) z1 z2 s (P s t) r = match rel1 t with
   | some (x,u)=>f30_l5 k n ((j + 1:Nat):Int) z1 z2 s (P s u) (r++[x])
   | none=>dNo z1 z2 r:=by
 have ea:∀ x:Rl,decide (r.length + ([x]:List Rl).length≤zac) = true:=fun x=>zaV (by simp; omega)
 have hz:([]:List Int).length≤1000000:=by simp
 conv=>lhs; unfold f30_l5
 have e:decide ((j:Int) < n) = true:=zT hn
 simp only [e,cond_true]
 refine (rd_eq hs ht 1 7 _ _).trans ?_
 unfold rel1
 cases h1:numR 1 7 t with
 | none=>rfl
 | some x1 =>
 obtain ⟨kd,t1⟩:=x1
 have ht1:=(za5 h1).trans ht
 dsimp only
 refine (rd_eq hs ht1 0 23 _ _).trans ?_
 cases h2:numR 0 23 t1 with
 | none=>rfl
 | some x2 =>
 obtain ⟨i,t2⟩:=x2
 have ht2:=(za5 h2).trans ht1
 dsimp only
 refine (rd_eq hs ht2 0 1 _ _).trans ?_
 cases h3:numR 0 1 t2 with
 | none =>
  rw [zcx h3]
 | some x3 =>
 obtain ⟨a,u⟩:=x3
 have hu:=(za5 h3).trans ht2
 dsimp only
 by_cases ez:a = 0
 ·subst ez
  rw [zdw h3]
  simp only [decide_true,cond_true]
  refine zlM ?_ ?_
  ·simp only [zat]
   refine (rd_eq hs hu 0 1 _ _).trans ?_
   cases g1:numR 0 1 u with
   | none =>
    rw [zcx g1]
    try rfl
   | some x =>
   obtain ⟨m,u1⟩:=x
   have hu1:=(za5 g1).trans hu
   dsimp only
   by_cases em:m = 0
   ·subst em
    rw [zdw g1]
    simp only [decide_true,cond_true,zat,f45_eq _ _ _ _ _ _ hz hz,Option.bind_some,ea,wS j (by omega)]
    try rfl
   ·simp only [em,decide_false,cond_false]
    refine (rd_eq hs hu1 0 64 _ _).trans ?_
    cases g2:numR 0 64 u1 with
    | none =>
     rw [zbu g1 em (zci g2)]
     try rfl
    | some y =>
    obtain ⟨c,u2⟩:=y
    have hu2:=(za5 g2).trans hu1
    have hc:=zch g2
    dsimp only
    rcases f68_l3w_eq c n (j:Int) [kd,i] (false,([],())) s false z1 z2 [kd,i] false [] r hs hc.2 c.toNat 0 ((c - (0:Int)).toNat + 1) u2 [] hu2 (by omega) (by omega) rfl with ⟨l,v,q1,q2⟩ | ⟨q1,p,q2⟩
    ·have hl:=(zby.1 q1).1.1
     rw [zeK g1 em ((zbz g2).trans q1)]
     refine zaa q2 ?_
     simp only [Sum.elim_inl,List.nil_append,zat,f45_eq _ _ _ _ _ _ hz (show l.length≤1000000 by omega),Option.bind_some,ea,cond_true,wS j (by omega)]
     try rfl
    ·rw [zbu g1 em ((zbz g2).trans q1)]
     refine zaa q2 ?_
     simp only [Sum.elim_inr]
     try rfl
  ·simp only [zat]
   refine (rd_eq hs hu 0 1 _ _).trans ?_
   cases g1:numR 0 1 u with
   | none =>
    rw [zcx g1]
    try rfl
   | some x =>
   obtain ⟨m,u1⟩:=x
   have hu1:=(za5 g1).trans hu
   dsimp only
   by_cases em:m = 0
   ·subst em
    rw [zdw g1]
    simp only [decide_true,cond_true,zat,f45_eq _ _ _ _ _ _ hz hz,Option.bind_some,ea,wS j (by omega)]
    try rfl
   ·simp only [em,decide_false,cond_false]
    refine (rd_eq hs hu1 0 64 _ _).trans ?_
    cases g2:numR 0 64 u1 with
    | none =>
     rw [zbu g1 em (zci g2)]
     try rfl
    | some y =>
    obtain ⟨c,u2⟩:=y
    have hu2:=(za5 g2).trans hu1
    have hc:=zch g2
    dsimp only
    rcases f68_l3y_eq c n (j:Int) [kd,i] s false z1 z2 [kd,i] false [] r hs hc.2 c.toNat 0 ((c - (0:Int)).toNat + 1) u2 [] hu2 (by omega) (by omega) rfl with ⟨l,v,q1,q2⟩ | ⟨q1,p,q2⟩
    ·have hl:=(zby.1 q1).1.1
     rw [zeK g1 em ((zbz g2).trans q1)]
     refine zaa q2 ?_
     simp only [Sum.elim_inl,List.nil_append,zat,f45_eq _ _ _ _ _ _ hz (show l.length≤1000000 by omega),Option.bind_some,ea,cond_true,wS j (by omega)]
     try rfl
    ·rw [zbu g1 em ((zbz g2).trans q1)]
     refine zaa q2 ?_
     simp only [Sum.elim_inr]
     try rfl
 ·simp only [ez,decide_false,cond_false]
  refine (rd_eq hs hu 0 64 _ _).trans ?_
  cases h4:numR 0 64 u with
  | none =>
   rw [zbu h3 ez (zci h4)]
  | some x4 =>
  obtain ⟨c0,w0⟩:=x4
  have hw0:=(za5 h4).trans hu
  have hc0:=zch h4
  dsimp only
  rcases f68_l3z_eq c0 n (j:Int) s false z1 z2 [kd,i] r hs hc0.2 c0.toNat 0 ((c0 - (0:Int)).toNat + 1) w0 [] hw0 (by omega) (by omega) rfl with ⟨l0,w,q1,q2⟩ | ⟨q1,p,q2⟩
  ·have hl0:l0.length≤1000000:=by have:=(zby.1 q1).1.1; omega
   have hw:=(zj8 q1).trans hw0
   rw [zeK h3 ez ((zbz h4).trans q1)]
   refine zaa q2 ?_
   simp only [Sum.elim_inl,List.nil_append]
   clear q1 q2 hw0 h4 h3 hu
   revert hw
   clear u
   generalize w = u
   intro hu
   refine zlM ?_ ?_
   ·simp only [zat]
    refine (rd_eq hs hu 0 1 _ _).trans ?_
    cases g1:numR 0 1 u with
    | none =>
     rw [zcx g1]
     try rfl
    | some x =>
    obtain ⟨m,u1⟩:=x
    have hu1:=(za5 g1).trans hu
    dsimp only
    by_cases em:m = 0
    ·subst em
     rw [zdw g1]
     simp only [decide_true,cond_true,zat,f45_eq _ _ _ _ _ _ hl0 hz,Option.bind_some,ea,wS j (by omega)]
     try rfl
    ·simp only [em,decide_false,cond_false]
     refine (rd_eq hs hu1 0 64 _ _).trans ?_
     cases g2:numR 0 64 u1 with
     | none =>
      rw [zbu g1 em (zci g2)]
      try rfl
     | some y =>
     obtain ⟨c,u2⟩:=y
     have hu2:=(za5 g2).trans hu1
     have hc:=zch g2
     dsimp only
     rcases f68_l3w_eq c n (j:Int) [kd,i] (true,(l0,())) s false z1 z2 [kd,i] true l0 r hs hc.2 c.toNat 0 ((c - (0:Int)).toNat + 1) u2 [] hu2 (by omega) (by omega) rfl with ⟨l,v,q1,q2⟩ | ⟨q1,p,q2⟩
     ·have hl:=(zby.1 q1).1.1
      rw [zeK g1 em ((zbz g2).trans q1)]
      refine zaa q2 ?_
      simp only [Sum.elim_inl,List.nil_append,zat,f45_eq _ _ _ _ _ _ hl0 (show l.length≤1000000 by omega),Option.bind_some,ea,cond_true,wS j (by omega)]
      try rfl
     ·rw [zbu g1 em ((zbz g2).trans q1)]
      refine zaa q2 ?_
      simp only [Sum.elim_inr]
      try rfl
   ·simp only [zat]
    refine (rd_eq hs hu 0 1 _ _).trans ?_
    cases g1:numR 0 1 u with
    | none =>
     rw [zcx g1]
     try rfl
    | some x =>
    obtain ⟨m,u1⟩:=x
    have hu1:=(za5 g1).trans hu
    dsimp only
    by_cases em:m = 0
    ·subst em
     rw [zdw g1]
     simp only [decide_true,cond_true,zat,f45_eq _ _ _ _ _ _ hl0 hz,Option.bind_some,ea,wS j (by omega)]
     try rfl
    ·simp only [em,decide_false,cond_false]
     refine (rd_eq hs hu1 0 64 _ _).trans ?_
     cases g2:numR 0 64 u1 with
     | none =>
      rw [zbu g1 em (zci g2)]
      try rfl
     | some y =>
     obtain ⟨c,u2⟩:=y
     have hu2:=(za5 g2).trans hu1
     have hc:=zch g2
     dsimp only
     rcases f68_l3y_eq c n (j:Int) [kd,i] s false z1 z2 [kd,i] true l0 r hs hc.2 c.toNat 0 ((c - (0:Int)).toNat + 1) u2 [] hu2 (by omega) (by omega) rfl with ⟨l,v,q1,q2⟩ | ⟨q1,p,q2⟩
     ·have hl:=(zby.1 q1).1.1
      rw [zeK g1 em ((zbz g2).trans q1)]
      refine zaa q2 ?_
      simp only [Sum.elim_inl,List.nil_append,zat,f45_eq _ _ _ _ _ _ hl0 (show l.length≤1000000 by omega),Option.bind_some,ea,cond_true,wS j (by omega)]
      try rfl
     ·rw [zbu g1 em ((zbz g2).trans q1)]
      refine zaa q2 ?_
      simp only [Sum.elim_inr]
      try rfl
  ·rw [zbu h3 ez ((zbz h4).trans q1)]
   refine zaa q2 ?_
   rfl
theorem f30_loop (n z1 z2:Int) (s:ByteArray) (hs:s.size≤1099511627776) (hn:n≤168):∀ (m j k:Nat) (t:Bs) (r:List Rl),t <:+ zaj s→((j + m:Nat):Int) = n→m < k→r.length = j →
  (∃ d u,rels m t = some (d,u)∧f30_l5 k n (j:Int) z1 z2 s (P s t) r = some (.inl ((),((),(),()),((),(z1,()),(z2,()),(s,P s u,()),r++d,())))) ∨
  (rels m t = none∧∃ r',f30_l5 k n (j:Int) z1 z2 s (P s t) r = dNo z1 z2 r'):=by
 intro m
 induction m with
 | zero =>
  intro j k t r ht h1 h2 h3
  obtain ⟨k,rfl⟩:∃ q,k = q + 1:=⟨k - 1,by omega⟩
  refine .inl ⟨[],t,rfl,?_⟩
  unfold f30_l5
  have e:decide ((j:Int) < n) = false:=by simp; omega
  simp only [e,cond_false,List.append_nil]
 | succ m ih =>
  intro j k t r ht h1 h2 h3
  obtain ⟨k,rfl⟩:∃ q,k = q + 1:=⟨k - 1,by omega⟩
  rw [f30_round k n z1 z2 s hs j (by omega) (by omega) ht r (by omega)]
  simp only [rels]
  cases hx:rel1 t with
  | none=>exact .inr ⟨rfl,r,rfl⟩
  | some x =>
   obtain ⟨x,u⟩:=x
   have hu:u <:+ t:=by
    obtain ⟨_,rfl⟩:=zhk.1 hx
    exact List.suffix_append _ _
   rcases ih (j + 1) k u (r++[x]) (hu.trans ht) (by omega) (by omega) (by simp [h3]) with ⟨d,v,g1,g2⟩ | ⟨g1,r',g2⟩
   ·refine .inl ⟨x :: d,v,by simp only [g1],?_⟩
    refine g2.trans ?_
    rw [List.append_assoc]
    rfl
   ·exact .inr ⟨by simp only [g1],r',g2⟩
end Go.V.G
namespace Go.V.G
open Go.Proofs
open Go.V.K
theorem P_all (s:ByteArray):P s (zaj s) = 0:=by unfold P; rw [zax]; simp
theorem znU (s:ByteArray) (a:Nat) (ha:a≤s.size):P s ((zaj s).drop a) = (a:Int):=by
 unfold P
 rw [List.length_drop,zax]
 omega
theorem P_end {s:ByteArray} {t:Bs} (ht:t <:+ zaj s):P s t = (s.size:Int) ↔ t = []:=by
 have:=zi7 ht
 rw [zax] at this
 unfold P
 constructor
 ·intro h
  exact List.eq_nil_of_length_eq_zero (by omega)
 ·rintro rfl
  simp
def dNone:Option ((List Rl × Unit) × Int × Int × Unit):=some (([],()),(0:Int),(160:Int),())
def decD (s:ByteArray) (a:Int):Option ((List Rl × Unit) × Int × Int × Unit) :=
 if 0≤a∧a≤(s.size:Int) then
  match del ((zaj s).drop a.toNat) with
  | some (d,u)=>if validD d = true then some ((d,()),P s u,(0:Int),()) else dNone
  | none=>dNone
 else dNone
theorem zo0 {d:List Rl} (h:d.length≤168∧∀ r∈d,okS r):smD d:=⟨by omega,fun r hr=>by
 obtain ⟨_,h1,h2⟩:=h.2 r hr
 exact ⟨Nat.le_trans h1.1.1 (by decide),Nat.le_trans h2.1.1 (by decide)⟩⟩
theorem f30_eq (s:ByteArray) (hs:s.size≤1099511627776) (a:Int):f30 s a = decD s a:=by
 unfold decD
 by_cases ha:0≤a∧a≤(s.size:Int)
 ·rw [if_pos ha]
  obtain ⟨b,rfl⟩:∃ b:Nat,a = (b:Int):=⟨a.toNat,by omega⟩
  have hb:b≤s.size:=by omega
  rw [Int.toNat_natCast]
  have ht:(zaj s).drop b <:+ zaj s:=List.drop_suffix _ _
  rw [← znU s b hb]
  generalize (zaj s).drop b = t at ht
  unfold f30
  refine (rd_eq hs ht 0 168 _ _).trans ?_
  unfold del
  cases h:numR 0 168 t with
  | none=>rfl
  | some x =>
   obtain ⟨n,u⟩:=x
   have hr:=zch h
   have hu:=(za5 h).trans ht
   dsimp only
   rcases f30_loop n 0 0 s hs hr.2 n.toNat 0 ((n - (0:Int)).toNat + 1) u [] hu (by omega) (by omega) rfl with ⟨d,v,g1,g2⟩ | ⟨g1,r',g2⟩
   ·have hd:=(zcw.1 g1).1
    have hsm:smD d:=zo0 ⟨by omega,hd.2⟩
    refine zaa g2 ?_
    rw [g1]
    simp only [Sum.elim_inl,List.nil_append]
    refine zaa (f19_eq d hsm) ?_
    cases validD d <;> rfl
   ·refine zaa g2 ?_
    rw [g1]
    rfl
 ·rw [if_neg ha]
  unfold f30
  refine zaa (f90_out s a (by omega)) ?_
  rfl
def decL (s:ByteArray):Option (List Int × Int × Unit) :=
 match lab (zaj s) with
 | some (l,u)=>if u = [] then some (l,(0:Int),()) else some ([],(160:Int),())
 | none=>some ([],(160:Int),())
theorem zos {R:Type} {s:ByteArray} (hs:s.size≤1099511627776) (lo hi:Int) (A:Option R) (K:Int × Int × Int × Unit→Option R) :
  ((f90 s (0:Int)).bind fun y=>bif decide (y.2.2.1 = (0:Int)) then (bif decide (y.1 ≥ lo) then (bif (!(decide (y.1≤hi))) then A else K y) else A) else A) =
   match numR lo hi (zaj s) with
   | some (n,u)=>K (n,P s u,0,())
   | none=>A:=by
 have h:=rd_eq hs (List.suffix_refl (zaj s)) lo hi A K
 rw [P_all] at h
 exact h
theorem f28_eq (s:ByteArray) (hs:s.size≤1099511627776):f28 s = decL s:=by
 have ht:zaj s <:+ zaj s:=List.suffix_refl _
 unfold f28 decL
 refine (zos hs 0 64 _ _).trans ?_
 cases h:numR 0 64 (zaj s) with
 | none=>rw [zci h]
 | some x =>
  obtain ⟨n,u⟩:=x
  have hr:=zch h
  have hu:=(za5 h).trans ht
  rw [zbz h]
  dsimp only
  rcases f68_l3x_eq n s s 0 hs hr.2 n.toNat 0 ((n - (0:Int)).toNat + 1) u [] hu (by omega) (by omega) rfl with ⟨l,v,g1,g2⟩ | ⟨g1,p,g2⟩
  ·have hv:=(zj8 g1).trans hu
   refine zaa g2 ?_
   rw [g1]
   simp only [Sum.elim_inl,List.nil_append]
   by_cases hv0:v = []
   ·rw [zT ((P_end hv).2 hv0),if_pos hv0]
    rfl
   ·have:¬ P s v = (s.size:Int):=fun h=>hv0 ((P_end hv).1 h)
    rw [zF this,if_neg hv0]
    rfl
  ·refine zaa g2 ?_
   rw [g1]
   rfl
theorem zdk {l:List Int} (h:okL l):∀ n∈l,zaC n:=fun n hn=>by
 have:=h.2 n hn
 unfold zaC maxI
 omega
theorem zdx {l:List Int} (h:okL l):∀ n∈labI l,zaC n:=fun n hn=>by
 unfold labI at hn
 rcases List.mem_cons.1 hn with rfl | hn
 ·have:=h.1
  unfold zaC maxI
  omega
 ·exact zdk h n hn
theorem zbm (l:List Int):zaj (encs l) = nEs l:=zfC l
theorem f27_eq (l:List Int) (hl:l.length≤1000000):f27 l = if okLb l = true then some (encs (labI l),(0:Int),()) else some ((⟨#[]⟩:ByteArray),(160:Int),()):=by
 unfold f27
 refine zaa (f65_eq l hl) ?_
 cases h:okLb l with
 | false=>rfl
 | true =>
  have ho:=zb2.1 h
  simp only [Bool.not_true,cond_false,if_true]
  have hn:zaC (l.length:Int):=by have:=ho.1; unfold zaC maxI; omega
  refine zaa (f66_eq [(l.length:Int)] (by intro n h; rw [List.mem_singleton.1 h]; exact hn) (by simp)) ?_
  refine zaa (f66_eq l (zdk ho) (by have:=ho.1; omega)) ?_
  have e:encs [(l.length:Int)]++encs l = encs (labI l):=(zcg [(l.length:Int)] l).symm
  have h1:=zaJ [(l.length:Int)] (by intro n h; rw [List.mem_singleton.1 h]; exact hn)
  have h2:=zaJ l (zdk ho)
  have h3:=ho.1
  simp only [List.length_singleton] at h1
  show (bif catOk (encs [(l.length:Int)]) (encs l) then _ else none) = _
  rw [zaP _ _ (by omega),cond_true,e]
theorem zcl {m:Lb} (h:okM m):∀ n∈mayI m,zaC n:=fun n hn=>by
 unfold mayI at hn
 have h1:zaC 1:=by unfold zaC maxI; omega
 have h0:zaC 0:=by unfold zaC maxI; omega
 split at hn
 ·rcases List.mem_cons.1 hn with rfl | hn
  ·exact h1
  ·exact zdx h.1 n hn
 ·rw [List.mem_singleton.1 hn]; exact h0
theorem zdy {m:Lb} (h:okM m):(mayI m).length≤66:=by
 unfold mayI labI
 have:=h.1.1
 split <;> simp only [List.length_cons,List.length_nil] <;> omega
theorem f69_eq (m:Lb) (h:okM m):f69 (m.1,(m.2,())) = some (encs (mayI m),()):=by
 obtain ⟨b,l⟩:=m
 have h1:zaC 1:=by unfold zaC maxI; omega
 have h0:zaC 0:=by unfold zaC maxI; omega
 unfold f69 mayI
 cases b with
 | false =>
  simp only [Bool.not_false,cond_true,Bool.false_eq_true,if_false]
  exact zaa (f66_eq [(0:Int)] (by intro n h; rw [List.mem_singleton.1 h]; exact h0) (by simp)) rfl
 | true =>
  simp only [Bool.not_true,cond_false,if_true]
  have ho:okL l:=h.1
  have hl:=ho.1
  have e27:=f27_eq l (by omega)
  rw [zb2.2 ho,if_pos rfl] at e27
  refine zaa e27 ?_
  refine zaa (f66_eq [(1:Int)] (by intro n h; rw [List.mem_singleton.1 h]; exact h1) (by simp)) ?_
  have e:encs [(1:Int)]++encs (labI l) = encs (1 :: labI l):=(zcg [(1:Int)] (labI l)).symm
  have k1:=zaJ [(1:Int)] (by intro n h; rw [List.mem_singleton.1 h]; exact h1)
  have k2:=zaJ (labI l) (zdx ho)
  have k3:(labI l).length = l.length + 1:=rfl
  simp only [List.length_singleton] at k1
  show (bif catOk (encs [(1:Int)]) (encs (labI l)) then _ else none) = _
  rw [zaP _ _ (by omega),cond_true,e]
theorem zdz {r:Rl} (h:okS r):∀ n∈relI r,zaC n:=fun n hn=>by
 have hk:=zda.1 h.1
 unfold relI at hn
 rcases List.mem_cons.1 hn with rfl | hn
 ·have h1:1≤r.1:=hk.1.1
  have h2:r.1≤7:=hk.1.2
  unfold zaC maxI
  omega
 ·rcases List.mem_cons.1 hn with rfl | hn
  ·have h1:0≤r.2.1:=hk.2.1
   have h2:r.2.1 < 24:=hk.2.2
   unfold zaC maxI
   omega
  ·rcases List.mem_append.1 hn with hn | hn
   ·exact zcl h.2.1 n hn
   ·exact zcl h.2.2 n hn
theorem zj9 {r:Rl} (h:okS r):(relI r).length≤134:=by
 have h1:=zdy h.2.1
 have h2:=zdy h.2.2
 unfold relI
 simp only [List.length_cons,List.length_append]
 omega
theorem zi8 {d:List Rl} (h:∀ r∈d,okS r):∀ n∈relsI d,zaC n:=fun n hn=>by
 obtain ⟨r,hr,hn⟩:=List.mem_flatMap.1 hn
 exact zdz (h r hr) n hn
theorem zia:∀ {d:List Rl},(∀ r∈d,okS r)→(relsI d).length≤134 * d.length
 | [],_=>by simp [relsI]
 | r :: d,h=>by
  have h1:=zj9 (h r (by simp))
  have h2:=zia (d:=d) fun x hx=>h x (by simp [hx])
  have e:relsI (r :: d) = relI r++relsI d:=rfl
  rw [e,List.length_append,List.length_cons]
  omega
theorem f29_loop (d:List Rl) (hd:okD d):∀ (m j k:Nat) (s:ByteArray),j + m = d.length→m < k→s.size≤10 + 1206 * j →
  f29_l5 d (d.length:Int) k s (j:Int) = some ((s++encs (relsI (d.drop j)),()),(),()):=by
 intro m
 have hl:=zdW hd
 induction m with
 | zero =>
  intro j k s h1 h2 h3
  obtain ⟨k,rfl⟩:∃ q,k = q + 1:=⟨k - 1,by omega⟩
  unfold f29_l5
  have e:¬ j < d.length:=by omega
  simp only [Int.ofNat_lt,e,decide_false,cond_false]
  rw [List.drop_of_length_le (by omega)]
  have:s++encs (relsI []) = s:=zbl (by rw [zbe,zbm]; simp [relsI,nEs])
  rw [this]
  rfl
 | succ m ih =>
  intro j k s h1 h2 h3
  obtain ⟨k,rfl⟩:∃ q,k = q + 1:=⟨k - 1,by omega⟩
  have hj:j < d.length:=by omega
  have hr:=okD_S hd _ (List.getElem_mem hj)
  conv=>lhs; unfold f29_l5
  rw [List.drop_eq_getElem_cons hj]
  have hgen:(at_ tR d (j:Int):Rl) = d[j]:=atN tR d j hj
  simp only [Int.ofNat_lt,inRN,hj,decide_true,cond_true,hgen,wS j (by omega)]
  generalize d[j] = x at hr
  have hk:=zda.1 hr.1
  have s1:∀ n∈[x.1,x.2.1],zaC n:=fun n hn=>zdz hr n (by
   unfold relI
   simp only [List.mem_cons,List.not_mem_nil,or_false] at hn ⊢
   rcases hn with rfl | rfl
   ·exact .inl rfl
   ·exact .inr (.inl rfl))
  refine zaa (f66_eq [x.1,x.2.1] s1 (by simp)) ?_
  have e52:f52 x = some (((bf x).1,((bf x).2,())),()):=rfl
  have e53:f53 x = some (((af x).1,((af x).2,())),()):=rfl
  refine zaa e52 ?_
  refine zaa (f69_eq (bf x) hr.2.1) ?_
  have k1:=zaJ [x.1,x.2.1] s1
  have k2:=zaJ (mayI (bf x)) (zcl hr.2.1)
  have k3:=zaJ (mayI (af x)) (zcl hr.2.2)
  have k4:=zdy hr.2.1
  have k5:=zdy hr.2.2
  simp only [List.length_cons,List.length_nil] at k1
  show (bif catOk (encs [x.1,x.2.1]) (encs (mayI (bf x))) then _ else none) = _
  rw [zaP _ _ (by omega),cond_true]
  refine zaa e53 ?_
  refine zaa (f69_eq (af x) hr.2.2) ?_
  have ez:encs [x.1,x.2.1]++encs (mayI (bf x))++encs (mayI (af x)) = encs (relI x):=by
   rw [← zcg,← zcg]
   rfl
  have k6:=zaJ (relI x) (zdz hr)
  have k7:=zj9 hr
  show (bif catOk (encs [x.1,x.2.1]++encs (mayI (bf x))) (encs (mayI (af x))) then (bif catOk s (encs [x.1,x.2.1]++encs (mayI (bf x))++encs (mayI (af x))) then f29_l5 d (d.length:Int) k (s++(encs [x.1,x.2.1]++encs (mayI (bf x))++encs (mayI (af x)))) ((j + 1:Nat):Int) else none) else none) = _
  rw [ez,zaP _ _ (by rw [ByteArray.size_append]; omega),cond_true,zaP _ _ (by omega),cond_true]
  refine (ih (j + 1) k _ (by omega) (by omega) (by rw [ByteArray.size_append]; omega)).trans ?_
  have e:s++encs (relI x)++encs (relsI (d.drop (j + 1))) = s++encs (relsI (x :: d.drop (j + 1))):=zbl (by
   simp only [zbe,zbm,relsI,List.flatMap_cons,zcC,List.append_assoc])
  rw [e]
theorem f29_eq (d:List Rl) (h:smD d):f29 (d,()) = if validD d = true then some (encs (delI d),(0:Int),()) else some ((⟨#[]⟩:ByteArray),(160:Int),()):=by
 unfold f29
 refine zaa (f19_eq d h) ?_
 cases hv:validD d with
 | false=>rfl
 | true =>
  have hd:=zbf.1 hv
  have hl:=zdW hd
  simp only [Bool.not_true,cond_false,if_true]
  have hn:zaC (d.length:Int):=by unfold zaC maxI; omega
  have hs1:∀ n∈[(d.length:Int)],zaC n:=by intro n h; rw [List.mem_singleton.1 h]; exact hn
  refine zaa (f66_eq [(d.length:Int)] hs1 (by simp)) ?_
  have k1:=zaJ [(d.length:Int)] hs1
  simp only [List.length_singleton] at k1
  refine zaa (f29_loop d hd d.length 0 (((d.length:Int) - (0:Int)).toNat + 1) (encs [(d.length:Int)]) (by omega) (by omega) (by omega)) ?_
  have e:encs [(d.length:Int)]++encs (relsI d) = encs (delI d):=(zcg [(d.length:Int)] (relsI d)).symm
  rw [List.drop_zero,e]
end Go.V.G
