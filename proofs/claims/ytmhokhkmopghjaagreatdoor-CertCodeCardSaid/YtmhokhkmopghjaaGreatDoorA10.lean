/- Part of the proof. -/
import Derived.Shelf.Strings.Builder1
import Derived.Shelf.Strings.BuilderF
import Derived.Shelf.Strings.BuilderK
import Derived.Ground.Names2Prog
import Derived.WalkKit
import Derived.BigCall
import Derived.KernelRfl
import Derived.Shelf.Strings.OnBuilder
import Derived.Test.YtmhokhkmopghjaaGreatDoorA9
set_option linter.all false
set_option linter.unusedVariables false
set_option linter.unusedSectionVars false
set_option linter.unusedSimpArgs false
namespace Go.V.G
open Go.Proofs
open Go.V.K
def cmpG (d e:List Rl) (k:Int) (j:Nat):List Rl:=(cmp1 (fd d (k,(j:Int))) (fd e (k,(j:Int))) (k,(j:Int))).toList
def cmpP (d e:List Rl) (k:Int) (j:Nat):Option (List Rl):=if zdu (fd d (k,(j:Int))) (fd e (k,(j:Int))) = true then none else some (cmpG d e k j)
def cmpOk (d e:List Rl) (k:Int):Bool:=(List.range' 0 24).all fun j=>(cmpP d e k j).isSome
def zed (d e:List Rl) (k:Int):List Rl:=(List.range' 0 24).flatMap fun j=>(cmpP d e k j).getD []
theorem zjW {d e:List Rl} {k:Int} {j:Nat} {x:List Rl} (h:cmpP d e k j = some x):x.length≤1:=by
 unfold cmpP at h
 split at h
 ·cases h
 ·cases h
  exact zmF _
abbrev l4in (d e:List Rl) (q z:Int) (acc:List Rl):outDen f41_l4co:=.inl ((q,()),((),(),(),()),((),(),(),(z,()),d.map kv,e.map kv,acc,()))
abbrev l4no (z:Int) (acc:List Rl):outDen f41_l4co:=.inr ((),((),(),(),()),((),(z,()),acc,()))
theorem f44_ba (x y:Rl) (h:smRl x):f44 (x.2.2.1,(x.2.2.2.1,())) y.2.2.2.2 = some (decide (bf x = af y),()):=f44_eq _ _ h.1
theorem f44_ab (x y:Rl) (h:smRl x):f44 x.2.2.2.2 (y.2.2.1,(y.2.2.2.1,())) = some (decide (af x = bf y),()):=f44_eq _ _ h.2
theorem f45_ba (k i:Int) (x y:Rl) (hx:smRl x) (hy:smRl y):f45 [k,i] (x.2.2.1,(x.2.2.2.1,())) y.2.2.2.2 = some (mkR (k,i) (bf x) (af y),()):=f45_eq k i _ _ _ _ hx.1 hy.2
set_option maxHeartbeats 4000000 in
theorem crow (d e:List Rl) (hd:okD d) (he:okD e) (sd:smD d) (se:smD e) (q z:Int) (k:Nat) (hk:24 < k) (r:List Rl) (hr:r.length≤1000) :
  (cmpOk d e q = true∧f41_l4c q z (d.map kv) (e.map kv) k 0 r = some (l4in d e q z (r++zed d e q))) ∨
  (cmpOk d e q = false∧∃ acc:List Rl,f41_l4c q z (d.map kv) (e.map kv) k 0 r = some (l4no z acc)):=by
 have h:=zaM 24 (fun j (acc:List Rl)=>acc.length≤1000 + j) (zaR (cmpP d e q) (l4no z)) (l4in d e q z) (f41_l4c q z (d.map kv) (e.map kv)) (by
  intro k j acc hj hacc
  conv=>lhs; unfold f41_l4c
  by_cases e0:j < 24
  ·have e1:decide ((j:Int) < 24) = true:=by simp; omega
   obtain ⟨m1,m2⟩:=zcE (q,(j:Int)) d
   obtain ⟨n1,n2⟩:=zcE (q,(j:Int)) e
   refine Eq.trans ?_ (if_pos e0).symm
   have ea:decide (acc.length + 1≤zac) = true:=zaV (by omega)
   unfold zaR cmpP cmpG
   simp only [e1,cond_true,m1,n1]
   cases hf:fd d (q,(j:Int)) with
   | none =>
    simp only [Option.isSome_none,Bool.not_false,cond_true]
    cases hg:fd e (q,(j:Int)) with
    | none =>
     simp only [Option.isSome_none,Bool.not_false,cond_true,zaI,wS j (by omega)]
     simp [zdu,cmp1]
    | some y =>
     have hy:=fd_sm se hg
     have hne:=(he.1 y (zf6 hg).1).2.2.2
     have h44:=f44_ba y y hy
     rw [zF hne] at h44
     simp only [Option.isSome_some,Bool.not_true,cond_false,n2 y hg,f52,f53,Option.bind_some,h44,Bool.not_false,cond_true,f45_ba _ _ y y hy hy,List.length_singleton,ea,zaI,wS j (by omega)]
     have:mkR (q,(j:Int)) (bf y) (af y) = y:=by
      have:=(zf6 hg).2
      rw [← this]; rfl
     rw [this]
     simp only [zdu,cmp1,Bool.false_eq_true,if_false,Option.toList_some]
   | some x =>
    have hx:=fd_sm sd hf
    have hxe:=(hd.1 x (zf6 hf).1).2.2.2
    simp only [Option.isSome_some,Bool.not_true,cond_false]
    cases hg:fd e (q,(j:Int)) with
    | none =>
     have h44:=f44_ba x x hx
     rw [zF hxe] at h44
     simp only [Option.isSome_none,Bool.not_false,cond_true,m2 x hf,f52,f53,Option.bind_some,h44,f45_ba _ _ x x hx hx,List.length_singleton,ea,zaI,wS j (by omega)]
     have:mkR (q,(j:Int)) (bf x) (af x) = x:=by
      have:=(zf6 hf).2
      rw [← this]; rfl
     rw [this]
     simp only [zdu,cmp1,Bool.false_eq_true,if_false,Option.toList_some]
    | some y =>
     have hy:=fd_sm se hg
     simp only [Option.isSome_some,Bool.not_true,cond_false,m2 x hf,n2 y hg,f52,f53,Option.bind_some,f44_ab x y hx,f44_ba x y hx,f45_ba _ _ x y hx hy]
     by_cases c1:af x = bf y
     ·simp only [c1,decide_true,Bool.not_true,cond_false]
      by_cases c2:bf x = af y
      ·simp only [c2,decide_true,Bool.not_true,cond_false,zaI,wS j (by omega)]
       simp [zdu,cmp1,c1,c2]
      ·simp only [zF c2,Bool.not_false,cond_true,List.length_singleton,ea,zaI,wS j (by omega)]
       simp [zdu,cmp1,c1,c2]
     ·simp only [zF c1,Bool.not_false,cond_true,zaI]
      simp [zdu,c1]
  ·have e1:decide ((j:Int) < 24) = false:=by simp; omega
   simp only [e1,cond_false]
   exact (if_neg e0).symm) (fun j acc acc' _ h1 h2=>by
    unfold zaR at h2
    cases hp:cmpP d e q j with
    | none=>simp [hp] at h2
    | some x =>
     simp only [hp,Sum.inl.injEq] at h2
     subst h2
     have:=zjW hp
     rw [List.length_append]
     omega) 24 k 0 r (by omega) (by omega) hk (by omega)
 rcases zbA (cmpP d e q) (l4in d e q z) (l4no z) 24 0 r with ⟨h1,h2⟩ | ⟨h1,acc,h2⟩
 ·exact .inl ⟨h1,h.trans (congrArg some h2)⟩
 ·exact .inr ⟨h1,acc,h.trans (congrArg some h2)⟩
theorem zkH (d e:List Rl) (k:Int):(zed d e k).length≤24:=by
 unfold zed
 have:∀ (m j:Nat),((List.range' j m).flatMap fun j=>(cmpP d e k j).getD []).length≤m:=by
  intro m
  induction m with
  | zero=>intro j; simp
  | succ m ih =>
   intro j
   rw [List.range'_succ,List.flatMap_cons,List.length_append]
   have h1:=ih (j + 1)
   have h2:((cmpP d e k j).getD []).length≤1:=by
    cases h:cmpP d e k j with
    | none=>simp
    | some x=>exact zjW h
   omega
 exact this 24 0
abbrev l1in (z:Int) (acc:List Rl):outDen f41_l1yo:=.inl ((),((),(),(),()),((),(z,()),acc,()))
abbrev l1no (z:Int) (acc:List Rl):outDen f41_l1yo:=.inr ((),((),(),(),()),((),(z,()),acc,()))
theorem znK (d e:List Rl) (hd:okD d) (he:okD e) (sd:smD d) (se:smD e) (z:Int):∀ (m j k:Nat) (r:List Rl),j + m = 8→m < k→r.length≤24 * j →
  ((List.range' j m).all (fun q:Nat=>cmpOk d e (q:Int)) = true∧f41_l1y k (j:Int) z (d.map kv) (e.map kv) r = some (l1in z (r++(List.range' j m).flatMap (fun q:Nat=>zed d e (q:Int))))) ∨
  ((List.range' j m).all (fun q:Nat=>cmpOk d e (q:Int)) = false∧∃ acc:List Rl,f41_l1y k (j:Int) z (d.map kv) (e.map kv) r = some (l1no z acc))
 | _,_,0,_,_,h,_=>by omega
 | 0,j,k + 1,r,h,_,hr=>by
  refine .inl ⟨rfl,?_⟩
  have e1:decide ((j:Int)≤7) = false:=by simp; omega
  unfold f41_l1y
  simp only [e1,cond_false]
  simp
 | m + 1,j,k + 1,r,h,hk,hr=>by
  have e1:decide ((j:Int)≤7) = true:=by simp; omega
  rw [List.range'_succ,List.all_cons,List.flatMap_cons]
  rcases crow d e hd he sd se (j:Int) z (((24:Int) - 0).toNat + 1) (by decide) r (by omega) with ⟨h1,h2⟩ | ⟨h1,acc,h2⟩
  ·have step:f41_l1y (k + 1) (j:Int) z (d.map kv) (e.map kv) r = f41_l1y k ((j + 1:Nat):Int) z (d.map kv) (e.map kv) (r++zed d e j):=by
    conv=>lhs; unfold f41_l1y
    simp only [e1,cond_true]
    refine zaa h2 ?_
    rw [← wS j (by omega)]
    rfl
   have hl:=zkH d e (j:Int)
   rw [step,h1,Bool.true_and]
   rcases znK d e hd he sd se z m (j + 1) k (r++zed d e j) (by omega) (by omega) (by rw [List.length_append]; omega) with ⟨g1,g2⟩ | ⟨g1,acc,g2⟩
   ·exact .inl ⟨g1,by rw [g2,List.append_assoc]⟩
   ·exact .inr ⟨g1,acc,g2⟩
  ·refine .inr ⟨by rw [h1]; rfl,acc,?_⟩
   conv=>lhs; unfold f41_l1y
   simp only [e1,cond_true]
   refine zaa h2 ?_
   rfl
theorem zlq (d e:List Rl) (k:Int):cmpOk d e k = !(ids.any fun i=>zdu (fd d (k,i)) (fd e (k,i))):=by
 unfold cmpOk ids
 rw [List.any_map,List.not_any_eq_all_not,List.range_eq_range']
 congr 1
 funext j
 unfold cmpP
 simp only [Function.comp,Int.ofNat_eq_natCast]
 cases zdu (fd d (k,(j:Int))) (fd e (k,(j:Int))) <;> rfl
theorem cmpOk_all (d e:List Rl):(List.range' 1 7).all (fun q:Nat=>cmpOk d e (q:Int)) = !clash d e:=by
 unfold clash keys kinds
 rw [List.any_flatMap,List.any_map,List.not_any_eq_all_not]
 congr 1
 funext q
 rw [zlq]
 simp only [Function.comp,List.any_map,Int.ofNat_eq_natCast]
 rfl
theorem zlr {d e:List Rl} {k:Int} (h:cmpOk d e k = true):zed d e k = ids.filterMap fun i=>cmp1 (fd d (k,i)) (fd e (k,i)) (k,i):=by
 rw [← zn4 (fun i=>cmp1 (fd d (k,i)) (fd e (k,i)) (k,i))]
 unfold zed
 refine congrArg List.flatten (List.map_congr_left fun j hj=>?_)
 have h1:=List.all_eq_true.1 h j hj
 unfold cmpP at h1 ⊢
 cases hc:zdu (fd d (k,(j:Int))) (fd e (k,(j:Int))) with
 | true=>rw [hc] at h1; simp at h1
 | false=>simp [cmpG]
theorem zmQ {d e:List Rl} (h:(List.range' 1 7).all (fun q:Nat=>cmpOk d e (q:Int)) = true):(List.range' 1 7).flatMap (fun q:Nat=>zed d e (q:Int)) = comp d e:=by
 unfold comp
 rw [← zmD (fun k=>cmp1 (fd d k) (fd e k) k)]
 refine congrArg List.flatten (List.map_congr_left fun q hq=>?_)
 exact zlr (List.all_eq_true.1 h q hq)
theorem f49_gen (d:List Rl) (hd:okD d) (hl:d.length≤1000000) (k:Nat) (hk:d.length < k) :
  f49_l3 d (d.length:Int) k 0 [] = some ((),(),(d.map kv,())):=by
 have h:=zaM d.length (fun j m=>m = (d.take j).map kv) (fun j m=>(.inl ((d.take (j + 1)).map kv):List (List Int × Rl) ⊕ outDen f49_l3o)) (fun m=>((),(),(m,()))) (f49_l3 d (d.length:Int)) (by
  intro k j m hj hm
  conv=>lhs; unfold f49_l3
  by_cases e:j < d.length
  ·simp only [Int.ofNat_lt,inRN,e,decide_true,cond_true,zaI,f50_eq,Option.bind_some,wS j (by omega),if_true]
   rw [atN tR d j e,hm]
   have hset:=map_set (d.take j) d[j] (fun x hx=>by
    obtain ⟨i,hi,rfl⟩:=List.mem_iff_getElem.1 hx
    rw [List.length_take] at hi
    have h1:lt2 (kOf d[i]) (kOf d[j]):=List.pairwise_iff_getElem.1 hd.2 i j (by omega) e (by omega)
    rw [List.getElem_take]
    intro e2
    rw [e2] at h1
    exact zjH _ h1)
   rw [hset,← List.take_succ_eq_append_getElem e]
  ·simp only [Int.ofNat_lt,e,decide_false,cond_false,if_false]) (fun j m m' _ _ e=>by cases e; rfl) d.length k 0 [] (by omega) (by omega) hk (by simp)
 refine h.trans ?_
 have key:∀ (n j:Nat) (m:List (List Int × Rl)),j + n = d.length→m = (d.take j).map kv→rounds (fun j m=>(.inl ((d.take (j + 1)).map kv):List (List Int × Rl) ⊕ outDen f49_l3o)) (fun m=>((),(),(m,()))) n j m = ((),(),(d.map kv,())):=by
  intro n
  induction n with
  | zero =>
   intro j m h1 h2
   subst h2
   rw [List.take_of_length_le (by omega)]
   rfl
  | succ n ih =>
   intro j m h1 h2
   exact ih (j + 1) _ (by omega) rfl
 exact congrArg some (key d.length 0 [] (by omega) rfl)
theorem f49_eq (d:List Rl) (hd:okD d) (hl:d.length≤1000000):f49 d = some (d.map kv):=by
 unfold f49
 exact zaa (f49_gen d hd hl _ (by omega)) rfl
theorem f22_eq (d e:List Rl) (sd:smD d) (se:smD e) :
  f22 (d,()) (e,()) = if (validD d && validD e && !clash d e) = true then some ((comp d e,()),(0:Int),()) else some (([],()),(160:Int),()):=by
 unfold f22
 refine zaa (f19_eq d sd) ?_
 cases h1:validD d with
 | false=>simp
 | true =>
  simp only [cond_true,Bool.true_and]
  refine zaa (f19_eq e se) ?_
  cases h2:validD e with
  | false=>simp
  | true =>
   have hd:=zbf.1 h1
   have he:=zbf.1 h2
   simp only [f49_eq d hd sd.1,f49_eq e he se.1,Option.bind_some,zaI,Bool.not_true,cond_false,Bool.true_and]
   rw [← cmpOk_all]
   rcases znK d e hd he sd se 0 7 1 (((8:Int) - 1).toNat + 1) [] rfl (by decide) (by simp) with ⟨g1,g2⟩ | ⟨g1,acc,g2⟩
   ·rw [g1,if_pos rfl]
    rw [zmQ g1] at g2
    exact zaa g2 rfl
   ·rw [g1]
    exact zaa g2 rfl
end Go.V.G
namespace Go.V.K
end Go.V.K
namespace Go.V.G
open Go.Proofs
open Go.V.K
theorem zmR:keys.length = 168:=by kernel_rfl
theorem zdW {d:List Rl} (h:okD d):d.length≤168:=by
 rw [← zoJ h]
 exact Nat.le_trans (List.length_filterMap_le _ _) (by rw [zmR]; exact Nat.le_refl _)
theorem zjX {d:List Rl} (h:okD d):smD d:=by
 refine ⟨Nat.le_trans (zdW h) (by decide),fun r hr=>?_⟩
 have h1:=h.1 r hr
 exact ⟨Nat.le_trans h1.2.1.1.1 (by decide),Nat.le_trans h1.2.2.1.1.1 (by decide)⟩
theorem zhZ {c:Ct} (h:okC c):zcQ c = true:=(zk7 h.1).2 h
theorem zoQ {a b:Ct} (ha:okC a) (hb:okC b):okD (dif (la a) (la b)):=zoI (fun _ _ h=>la_ok ha h) (fun _ _ h=>la_ok hb h)
theorem zn9 {a b:Ct} (ha:okC a) (hb:okC b):f12 a b = some ((dif (la a) (la b),()),(0:Int),()):=by
 rw [f12_eq a b (zn6 ha) (zn6 hb),zhZ ha,zhZ hb]
 rfl
theorem zi1 {d:List Rl} (h:okD d):f13 (d,()) (d,()) = some (true,()):=by
 rw [f13_eq d d (zjX h)]
 simp
theorem zoa:okD []:=⟨by simp,by simp⟩
end Go.V.G
namespace Go.V.G
open Go.Proofs
theorem znL {x:Int} (h:(Ty.int .i64).ok x):i64 x:=h
theorem zjY {l:List (List Int)} (h:(Ty.sl (.arr 4 yI)).ok l):iRows l:=fun r hr v hv=>znL ((h.2 r hr).2 v hv)
end Go.V.G
namespace Go.Proofs
open Go.Shelf
def Tryz.lays166_ren : Ren :=
  { f := fun x => match x with
      | 166 => 80
      | 240 => 98
      | 276 => 120
      | 169 => 81
      | n => n,
    t := fun x => match x with
      | 70 => 126
      | 72 => 128
      | 37 => 41
      | 75 => 131
      | 80 => 68
      | 164 => 189
      | 127 => 162
      | n => n,
    g := fun n => n }
theorem Tryz.lays166 : Lays.n166 Tryz.prog Tryz.lays166_ren :=
  { mixed := by kernel_rfl, f166 := Tryz.func80.trans (congrArg some (by kernel_rfl)), f240 := Tryz.func98.trans (congrArg some (by kernel_rfl)), f276 := Tryz.func120.trans (congrArg some (by kernel_rfl)),
    t0 := Tryz.underlying0, a0 := Tryz.isAgg0, z0 := Tryz.sizeOf0, v0 := Tryz.zeroValue0, t3 := Tryz.underlying3, a3 := Tryz.isAgg3, z3 := Tryz.sizeOf3, v3 := Tryz.zeroValue3,
    t4 := Tryz.underlying4, a4 := Tryz.isAgg4, z4 := Tryz.sizeOf4, v4 := Tryz.zeroValue4, t9 := Tryz.underlying9, a9 := Tryz.isAgg9, z9 := Tryz.sizeOf9, v9 := Tryz.zeroValue9,
    t20 := Tryz.underlying20, a20 := Tryz.isAgg20, z20 := Tryz.sizeOf20, v20 := Tryz.zeroValue20, t37 := Tryz.underlying41, a37 := Tryz.isAgg41, z37 := Tryz.sizeOf41, v37 := Tryz.zeroValue41,
    t70 := Tryz.underlying126, a70 := Tryz.isAgg126, z70 := Tryz.sizeOf126, v70 := Tryz.zeroValue126, t72 := Tryz.underlying128, a72 := Tryz.isAgg128, z72 := Tryz.sizeOf128, v72 := Tryz.zeroValue128,
    t75 := Tryz.underlying131, a75 := Tryz.isAgg131, z75 := Tryz.sizeOf131, v75 := Tryz.zeroValue131, t164 := Tryz.underlying189, a164 := Tryz.isAgg189, z164 := Tryz.sizeOf189, v164 := Tryz.zeroValue189 }
theorem Tryz.lays169 : Lays.n169 Tryz.prog Tryz.lays166_ren :=
  { mixed := by kernel_rfl, f169 := Tryz.func81.trans (congrArg some (by kernel_rfl)),
    t0 := Tryz.underlying0, a0 := Tryz.isAgg0, z0 := Tryz.sizeOf0, v0 := Tryz.zeroValue0, t3 := Tryz.underlying3, a3 := Tryz.isAgg3, z3 := Tryz.sizeOf3, v3 := Tryz.zeroValue3,
    t9 := Tryz.underlying9, a9 := Tryz.isAgg9, z9 := Tryz.sizeOf9, v9 := Tryz.zeroValue9, t37 := Tryz.underlying41, a37 := Tryz.isAgg41, z37 := Tryz.sizeOf41, v37 := Tryz.zeroValue41,
    t70 := Tryz.underlying126, a70 := Tryz.isAgg126, z70 := Tryz.sizeOf126, v70 := Tryz.zeroValue126, t72 := Tryz.underlying128, a72 := Tryz.isAgg128, z72 := Tryz.sizeOf128, v72 := Tryz.zeroValue128,
    t127 := Tryz.underlying162, a127 := Tryz.isAgg162, z127 := Tryz.sizeOf162, v127 := Tryz.zeroValue162 }
theorem Tryz.builderExtra:Builder.Extra Tryz.prog Tryz.lays166_ren where
 sizeBuilder:=by kernel_rfl
 liesBuilder:=by kernel_rfl
 t5:=Tryz.underlying5
 a5:=Tryz.isAgg5
 z5:=Tryz.sizeOf5
 v5:=Tryz.zeroValue5
 infoByte:=by kernel_rfl
 cellsByte:=by kernel_rfl
 sizeByte:=by kernel_rfl
 neB5:=by decide
theorem Tryz.Builder_WriteString (B b:Nat) (bs:List Value) (s:ByteArray) (w:World) (h:Lib.IsBuilderF 128 5 B b bs w) (hlen:bs.length + s.size≤140737488355328) (hBw:B≤w.heap.size) :
  Calls Tryz.prog 80 #[.pointer (some ⟨b,0,none⟩),.string s] w fun e w'=>e = .returned (.tuple #[.int .i64 s.size,.nilIface])∧(Lib.BuilderAtF 128 5 B b (.pointer (some ⟨b,0,none⟩)) (bs++Lib.strCells s) w'∧RowKit.Below B w w'∧Lib.OthersKept 5 (some b) w w') :=
 Any.Builder_WriteString_k Tryz.lays166 Tryz.builderExtra B b bs s w h hlen hBw
theorem Tryz.Builder_String (B b:Nat) (l:List UInt8) (w:World) (h:Lib.IsBuilderF 128 5 B b (Lib.byteCells l) w) (hBw:B≤w.heap.size) :
  Calls Tryz.prog 81 #[.pointer (some ⟨b,0,none⟩)] w fun e w'=>e = .returned (.string ⟨l.toArray⟩)∧(Lib.IsBuilderF 128 5 B b (Lib.byteCells l) w'∧RowKit.Below B w w'∧Lib.OthersKept 5 (some b) w w') :=
 Any.Builder_String_any_k Tryz.lays169 Tryz.builderExtra B b l w h hBw
end Go.Proofs
namespace Go.V.G
def zcH:List Int→Option ByteArray
 | []=>some ⟨#[]⟩
 | n :: l=>(f87 n).bind fun y=>bif decide (y.1.size≤100) then (zcH l).bind fun r=>some (y.1++r) else none
end Go.V.G
namespace Go.Proofs
open Go.RowKit Go.V Go.V.G
theorem ze1 {fz:Nat→Nat→Option Value} (hG:zay cfg fz) {w:World} (hf:FzOK (.of fz) w) {n:Int} {y} (hy:f87 n = some y) :
  Calls Tryz.prog 79 #[.int .i64 n] w fun e w'=>e = .returned (.tuple #[.string y.1,.int .i64 y.2.1])∧Below w.heap.size w w':=by
 refine Calls.mono (f87p fz w #[.int .i64 n] (n,()) y hG hf ⟨⟨#[.int .i64 n],rfl,rfl⟩,rfl⟩ hy) ?_
 rintro e w' ⟨cs,fz',rfl,h1,h2,h3⟩
 refine ⟨?_,⟨h3.os,h3.tape,h3.output,h3.size,fun b hb=>h3.block b hb (V.not_owned _ _)⟩⟩
 match cs,h1 with
 | [c1,c2],⟨⟨a1,e1,e2⟩,⟨a2,e3,e4⟩,_⟩ =>
  have ha1:a1.toList = [.string y.1]:=e1
  have ha2:a2.toList = [.int .i64 y.2.1]:=e3
  have hc1:c1 = .string y.1:=by
   rw [e2]
   show a1.getD 0 undef = _
   rw [Array.getD_eq_getD_getElem?,← Array.getElem?_toList,ha1]
   rfl
  have hc2:c2 = .int .i64 y.2.1:=by
   rw [e4]
   show a2.getD 0 undef = _
   rw [Array.getD_eq_getD_getElem?,← Array.getElem?_toList,ha2]
   rfl
  rw [hc1,hc2]
  rfl
theorem zgy {w w':World} (hk:Below w.heap.size w w') {b:Nat} {o:Obj} (h:w.heap[b]? = some o):w'.heap[b]? = some o:=by
 rw [hk.block b (Array.getElem?_eq_some_iff.1 h).1,h]
theorem zee {B b:Nat} {bs:List Value} {w w':World} (h:Lib.IsBuilderF 128 5 B b bs w) (hk:Below w.heap.size w w'):Lib.IsBuilderF 128 5 B b bs w':=by
 have main:∀ p,Lib.BuilderAtF 128 5 B b p bs w→Lib.BuilderAtF 128 5 B b p bs w':=by
  rintro p ⟨h1,v,h2,⟨h3,h4⟩,h5⟩
  refine ⟨h1,v,zgy hk h2,⟨h3,?_⟩,h5⟩
  rcases h4 with h4 | ⟨g,cap,cur,fz,e1,e2,e3,e4⟩
  ·exact .inl h4
  ·exact .inr ⟨g,cap,cur,fz,e1,e2,zgy hk e3,e4⟩
 exact h.imp (main _) (main _)
theorem zdO (s:ByteArray):Lib.strCells s = Lib.byteCells s.data.toList:=rfl
theorem zef (a b:List UInt8):Lib.byteCells (a++b) = Lib.byteCells a++Lib.byteCells b:=by simp [Lib.byteCells]
theorem zeg (a:List UInt8):(Lib.byteCells a).length = a.length:=by simp [Lib.byteCells]
set_option maxHeartbeats 4000000 in
set_option maxRecDepth 1000000 in
theorem zls {fz:Nat→Nat→Option Value} (hG:zay cfg fz) (l:List Int) (base:Option Addr) (cap:Nat) (w:World) (hf:FzOK (.of fz) w) (hl:l.length≤1000) (s:ByteArray) (hs:zcH l = some s)
  (hb:∀ j (_:j < l.length),∃ blk off,base = some ⟨blk,off,none⟩∧blk < w.heap.size∧w.cell? ⟨blk,off + j,none⟩ = some (.int .i64 l[j])) :
  Calls Tryz.prog 38 #[.slice base l.length cap] w fun e w'=>e = .returned (.string s)∧Below w.heap.size w w':=by
 have hff:∀ wr,Below w.heap.size w wr→FzOK (.of fz) wr:=by
  intro wr hbw b o v e
  have:=hf b o v e
  exact this.same (hbw.block b this.lt)
 go_enter Tryz.func38,Tryz.ntmps38
 go_wp2
 go_loopw [10] (fun i wr=>∃ (k:Nat) (acc:List UInt8),k≤l.length∧i = .int .i64 k∧Lib.IsBuilderF 128 5 w.heap.size w.heap.size (Lib.byteCells acc) wr∧Below w.heap.size w wr∧acc.length≤100 * k∧∃ r,zcH (l.drop k) = some r∧acc++r.data.toList = s.data.toList) (fun i _=>l.length - (intOf i).toNat)
 case atStart =>
  exact ⟨0,[],Nat.zero_le _,rfl,Lib.IsBuilderF.of (Lib.fresh_isBuilder 128 5 w),(Below.refl _ w).alloc (Nat.le_refl _) _,by simp,s,by simpa using hs,by simp⟩
 case round =>
  obtain ⟨k,acc,hk,rfl,hI,hbw,hal,r,hr,hac⟩:=hrel
  have hsz:=hbw.size
  by_cases hlt:k < l.length
  ·obtain ⟨blk,off,rfl,hblk,hcell⟩:=hb k hlt
   have hcr:wr.cell? ⟨blk,off + k,none⟩ = some (.int .i64 l[k]):=by
    rw [← hcell]
    simp only [World.cell?,hbw.block blk hblk]
   rw [List.drop_eq_getElem_cons hlt] at hr
   simp only [zcH,Option.bind_eq_some_iff] at hr
   obtain ⟨y,hy,hr⟩:=hr
   cases h100:decide (y.1.size≤100) with
   | false=>rw [h100] at hr; cases hr
   | true =>
    rw [h100,cond_true,Option.bind_eq_some_iff] at hr
    obtain ⟨r',hr',hrr⟩:=hr
    have h100':=of_decide_eq_true h100
    go_wp2_with (go_at_call 79; refine (ze1 hG (hff _ hbw) hy).mono ?_)
    rintro e W1 ⟨rfl,b1⟩
    have hI1:=zee hI b1
    have hbw1:Below w.heap.size w W1:=hbw.trans ⟨b1.os,b1.tape,b1.output,b1.size,fun k hk=>b1.block k (by omega)⟩
    have hsz1:=hbw1.size
    have hlen:(Lib.byteCells acc).length + y.1.size≤140737488355328:=by rw [zeg]; omega
    go_wp2_with (go_at_call 80; refine (Tryz.Builder_WriteString w.heap.size w.heap.size _ y.1 _ hI1 hlen hsz1).mono ?_)
    rintro e W2 ⟨rfl,h1,b2,_⟩
    go_wp2
    go_roundw
    case rel =>
     have hwrap:IntKind.i64.wrap ((k:Int) + 1) = ((k + 1:Nat):Int):=by simp [IntKind.wrap,IntKind.bits,IntKind.signed] <;> omega
     refine ⟨k + 1,acc++y.1.data.toList,by omega,by first | (rw [hwrap]; done) | (simp only [hwrap]; done) | (simp <;> omega),?_,hbw1.trans b2,?_,r',hr',?_⟩
     ·rw [zef,← zdO]; exact Or.inr h1
     ·have:y.1.data.toList.length = y.1.size:=rfl
      rw [List.length_append,this]; omega
     ·simp only [Option.some.injEq] at hrr
      rw [← hac,← hrr]
      simp
    case measure =>
     simp [intOf]; omega
  ·go_wp2_with (go_at_call 81; refine (Tryz.Builder_String w.heap.size w.heap.size acc _ hI (by omega)).mono ?_)
   rintro e W1 ⟨rfl,_,b1,_⟩
   go_wp2
   go_ret
   have hk':k = l.length:=by omega
   subst hk'
   rw [List.drop_length] at hr
   simp only [zcH,Option.some.injEq] at hr
   subst hr
   simp only [List.append_nil] at hac
   exact ⟨by rw [hac]; simp,hbw.trans b1⟩
end Go.Proofs
namespace Go.V.G
open Go.Proofs
def f66 (a0:List Int):Option (ByteArray × Unit):=bif decide (a0.length≤1000) then (zcH a0).bind fun r=>some (r,()) else none
def f66s:PSpec:={ args:=[.sl (.int .i64)],res:=[.str],fn:=fun x=>f66 x.1 }
theorem zbI {fz:Nat→Nat→Option Value}:∀ {l:List Int} {cs:List Value},Elems (CR fz (.int .i64)) l cs→∀ j (h:j < l.length),cs[j]? = some (.int .i64 l[j])
 | [],_,_,j,h=>by simp at h
 | x :: l,cs,⟨c1,c2,e,h1,h2⟩,j,h=>by
  have h1':c1 = [.int .i64 x]:=h1
  subst h1'
  subst e
  cases j with
  | zero=>rfl
  | succ j=>simpa using zbI h2 j (by simpa using h)
theorem f66p:zbh Go.Proofs.Tryz.prog cfg 38 f66s:=by
 intro fz w args x y hG hf ha hy
 obtain ⟨l,u⟩:=x
 obtain ⟨s,u'⟩:=y
 change f66 l = some (s,u') at hy
 unfold f66 at hy
 cases hl:decide (List.length (α:=Int) l≤1000) with
 | false=>rw [hl] at hy; cases hy
 | true =>
  rw [hl,cond_true,Option.bind_eq_some_iff] at hy
  obtain ⟨s',hs,e⟩:=hy
  simp only [Option.some.injEq,Prod.mk.injEq] at e
  obtain ⟨rfl,_⟩:=e
  obtain ⟨al⟩:=args
  match al,ha with
  | [c],⟨⟨arr,e1,e2⟩,_⟩ =>
   obtain ⟨v,e3,hv⟩:=e1
   have hc:c = v:=by
    rw [e2]
    show arr.getD 0 undef = v
    rw [Array.getD_eq_getD_getElem?,← Array.getElem?_toList,e3]
    rfl
   subst hc
   have fin:∀ base cap,c = .slice base (List.length (α:=Int) l) cap→(∀ j (_:j < List.length (α:=Int) l),∃ blk off,base = some ⟨blk,off,none⟩∧blk < w.heap.size∧w.cell? ⟨blk,off + j,none⟩ = some (.int .i64 (l[j]:Int))) →
     Calls Go.Proofs.Tryz.prog 38 #[c] w fun e w'=>∃ cs fz',e = .returned (zdn cs)∧TVs fz' [.str] (s',u') cs∧FzOK (.of fz') w'∧Tr (.of fz) w (.of fz') w':=by
    intro base cap hc hb
    subst hc
    refine Calls.mono (zls hG l base cap w hf (of_decide_eq_true hl) s' hs hb) ?_
    rintro e w' ⟨rfl,hb⟩
    refine ⟨[.string s'],fz,rfl,⟨⟨#[.string s'],rfl,rfl⟩,rfl⟩,?_,⟨hb.os,hb.tape,hb.output,hb.size,fun _ _ _ h=>h,fun _ _ h=>.inl h,fun _ h=>.inl h,fun b hb' _=>hb.block b hb'⟩⟩
    intro b o v e
    have:=hf b o v e
    exact this.same (hb.block b this.lt)
   rcases hv with ⟨rfl,a0,rfl⟩ | ⟨blk,off,cap,cs,rfl,h1,h2,h3⟩
   ·exact fin a0 0 rfl (fun j h=>by simp at h)
   ·refine fin _ cap rfl (fun j h=>⟨blk,off,rfl,?_,(hf _ _ _ (h3 j _ (zbI h2 j h))).cell rfl⟩)
    exact (hf _ _ _ (h3 j _ (zbI h2 j h))).lt
theorem f66n:zaA Go.Proofs.Tryz.prog 38:=zez Go.Proofs.Tryz.func38 (by kernel_rfl)
end Go.V.G
namespace Go.V.G
open Go.Proofs
noncomputable section
def f27 (a0:(List Int)):Option (ByteArray × Int × Unit) :=
 (f65 a0).bind fun y1 =>
 bif (!y1.1) then
 some ((⟨#[]⟩:ByteArray),(160:Int),())
 else
 (f66 ([(a0.length:Int)]:List Int)).bind fun y2 =>
 (f66 a0).bind fun y3 =>
 bif (catOk y2.1 y3.1) then some ((y2.1++y3.1),(0:Int),()) else none
def f27s:PSpec:={ args:=[(.sl yI)],res:=[.str,yI],fn:=fun x=>f27 x.1 }
noncomputable def f27c:Code:=Tryz.f13.body.getD .skip
noncomputable def f27e:Env0:={ C:=cfgF,P:=[(38,f66s),(52,f65s)],L:=[],F:=[(13,Tryz.f13)] }
theorem f27r:zR f27e 13 Tryz.f13 f27c f27s:=by intro x; kernel_rfl
theorem f27n:zQ 13:=zN Tryz.func13
theorem f27k:zE f27e:=zO zaf ⟨⟨f66p,f66n⟩,⟨f65p,f65n⟩,trivial⟩ trivial ⟨zK Tryz.func13,trivial⟩ trivial
theorem f27p:zU 13 f27s:=zP f27k Tryz.f13 f27c f27r
def f69 (a0:(Bool × ((List Int) × Unit))):Option (ByteArray × Unit) :=
 bif (!a0.1) then
 (f66 ([(0:Int)]:List Int)).bind fun y1 =>
 some (y1.1,())
 else
 (f27 a0.2.1).bind fun y2 =>
 (f66 ([(1:Int)]:List Int)).bind fun y3 =>
 bif (catOk y3.1 y2.1) then some ((y3.1++y2.1),()) else none
def f69s:PSpec:={ args:=[(.pair .bool (.pair (.sl yI) .unit))],res:=[.str],fn:=fun x=>f69 x.1 }
noncomputable def f69c:Code:=Tryz.f40.body.getD .skip
noncomputable def f69e:Env0:={ C:=cfgF,P:=[(13,f27s),(38,f66s)],L:=[],F:=[(40,Tryz.f40)] }
theorem f69r:zR f69e 40 Tryz.f40 f69c f69s:=by intro x; kernel_rfl
theorem f69n:zQ 40:=zN Tryz.func40
theorem f69k:zE f69e:=zO zaf ⟨⟨f27p,f27n⟩,⟨f66p,f66n⟩,trivial⟩ trivial ⟨zK Tryz.func40,trivial⟩ trivial
theorem f69p:zU 40 f69s:=zP f69k Tryz.f40 f69c f69r
def f29_l5h:Ann:={ env:=[(4,.ty .str),(16,.ty (.sl yR)),(17,YI),(18,YI)] }
def f29_l5o:List (Ex × Ann):=[((.exit 0),{ env:=[(4,.ty .str)] })]
def f29_l5 (t16:(List Yr)) (t17:Int):Nat→ByteArray→Int→Option (outDen f29_l5o)
 | 0,_,_=>none
 | k + 1,t4,t18 =>
 bif (decide (t18 < t17)) then
 bif (inR t18 t16.length) then
 let v3:Int:=(at_ yR t16 t18).1
 let v4:Int:=(at_ yR t16 t18).2.1
 (f66 ([v3,v4]:List Int)).bind fun y5 =>
 (f52 (at_ yR t16 t18)).bind fun y6 =>
 (f69 y6.1).bind fun y7 =>
 bif (catOk y5.1 y7.1) then
 (f53 (at_ yR t16 t18)).bind fun y8 =>
 (f69 y8.1).bind fun y9 =>
 bif (catOk (y5.1++y7.1) y9.1) then bif (catOk t4 ((y5.1++y7.1)++y9.1)) then f29_l5 t16 t17 k (t4++((y5.1++y7.1)++y9.1)) (IntKind.wrap .i64 (t18 + 1)) else none else none
 else none
 else none
 else
 some ((t4,()),(),())
def f29_l5_n (n:Nat) (x:f29_l5h.den):=f29_l5 x.1.2.1 x.1.2.2.1 n x.1.1 x.1.2.2.2.1
def f29_l5s:LSpec:={ head:=f29_l5h,outs:=f29_l5o,fn:=fun x=>f29_l5_n ((x.1.2.2.1 - x.1.2.2.2.1).toNat + 1) x }
def f29 (a0:((List Yr) × Unit)):Option (ByteArray × Int × Unit) :=
 (f19 a0).bind fun y1 =>
 bif (!y1.1) then
 some ((⟨#[]⟩:ByteArray),(160:Int),())
 else
 (f66 ([(a0.1.length:Int)]:List Int)).bind fun y2 =>
 (f29_l5 a0.1 (a0.1.length:Int) (((a0.1.length:Int) - (0:Int)).toNat + 1) y2.1 (0:Int)).bind fun o10 =>
 let u11:ByteArray:=o10.1.1
 some (u11,(0:Int),())
def f29s:PSpec:={ args:=[(.pair (.sl yR) .unit)],res:=[.str,yI],fn:=fun x=>f29 x.1 }
noncomputable def f29c:Code:=Tryz.f7.body.getD .skip
noncomputable def f29e:Env0:={ C:=cfgF,P:=[(28,f19s),(38,f66s),(39,f52s),(40,f69s),(41,f53s)],L:=[(⟨12,0,7,5⟩,f29_l5s)],F:=[(7,Tryz.f7)] }
theorem f29_l5y:zan f29e 12 7 0 (zao f29c 5) f29_l5s :=
 zae (by kernel_rfl) f29_l5_n (fun x o h=>⟨_,h⟩) (fun x=>by kernel_rfl) (fun n x=>by kernel_rfl)
theorem f29r:zR f29e 7 Tryz.f7 f29c f29s:=by intro x; kernel_rfl
theorem f29n:zQ 7:=zN Tryz.func7
theorem f29k:zE f29e:=zO zaf ⟨⟨f19p,f19n⟩,⟨f66p,f66n⟩,⟨f52p,f52n⟩,⟨f69p,f69n⟩,⟨f53p,f53n⟩,trivial⟩ trivial ⟨zK Tryz.func7,trivial⟩ ⟨⟨Tryz.f7,f29c,rfl,rfl,f29_l5y⟩,trivial⟩
theorem f29p:zU 7 f29s:=zP f29k Tryz.f7 f29c f29r
def f73_l5h:Ann:={ env:=[(6,.cst (.row 43 .whole)),(25,.ty (.sl yN)),(26,YI),(27,YI)],bxs:=[(43,.row yE false)] }
def f73_l5o:List (Ex × Ann):=[((.exit 0),{ env:=[(6,.cst (.row 43 .whole))],bxs:=[(43,.row yE false)] })]
def f73_l5 (t25:(List Yn)) (t26:Int):Nat→Int→(List Ye)→Option (outDen f73_l5o)
 | 0,_,_=>none
 | k + 1,t27,r43 =>
 bif (decide (t27 < t26)) then
 bif (inR t27 t25.length) then
 let v3:(List Int):=(at_ yN t25 t27).2.1
 (f27 v3).bind fun y4 =>
 let v5:Int:=(at_ yN t25 t27).1
 bif (decide (r43.length + ([(v5,(y4.1,()))]:List Ye).length≤zac)) then f73_l5 t25 t26 k (IntKind.wrap .i64 (t27 + 1)) (r43++([(v5,(y4.1,()))]:List Ye)) else none
 else none
 else
 some ((),(),(r43,()))
def f73_l5_n (n:Nat) (x:f73_l5h.den):=f73_l5 x.1.1 x.1.2.1 n x.1.2.2.1 x.2.2.1
def f73_l5s:LSpec:={ thaws:=[.slot 6 43 yE],head:=f73_l5h,outs:=f73_l5o,fn:=fun x=>f73_l5_n ((x.1.2.1 - x.1.2.2.1).toNat + 1) x }
def f73 (a0:Yc) (a1:Int):Option ((List Ye) × Int × Unit) :=
 (f35 a0).bind fun y1 =>
 bif (!y1.1) then
 some ([],(160:Int),())
 else
 bif (decide (a1 < (1:Int))) then
 some ([],(160:Int),())
 else
 bif (decide (a1 > (7:Int))) then
 some ([],(160:Int),())
 else
 bif (inR a1 8) then
 let v2:(List Yn):=(at_ (.sl yN) a0.1 a1)
 (f73_l5 v2 (v2.length:Int) (((v2.length:Int) - (0:Int)).toNat + 1) (0:Int) []).bind fun o6 =>
 let u7:(List Ye):=o6.2.2.1
 some (u7,(0:Int),())
 else none
def f73s:PSpec:={ args:=[yC,yI],res:=[(.sl yE),yI],fn:=fun x=>f73 x.1 x.2.1 }
noncomputable def f73c:Code:=Tryz.f64.body.getD .skip
noncomputable def f73e:Env0:={ C:=cfgF,P:=[(13,f27s),(27,f35s)],L:=[(⟨12,0,64,5⟩,f73_l5s)],F:=[(64,Tryz.f64)] }
theorem f73_l5y:zan f73e 12 64 0 (zao f73c 5) f73_l5s :=
 zae (by kernel_rfl) f73_l5_n (fun x o h=>⟨_,h⟩) (fun x=>by kernel_rfl) (fun n x=>by kernel_rfl)
theorem f73r:zR f73e 64 Tryz.f64 f73c f73s:=by intro x; kernel_rfl
theorem f73n:zQ 64:=zN Tryz.func64
theorem f73k:zE f73e:=zO zaf ⟨⟨f27p,f27n⟩,⟨f35p,f35n⟩,trivial⟩ trivial ⟨zK Tryz.func64,trivial⟩ ⟨⟨Tryz.f64,f73c,rfl,rfl,f73_l5y⟩,trivial⟩
theorem f73p:zU 64 f73s:=zP f73k Tryz.f64 f73c f73r
def f31_l5h:Ann:={ env:=[(1,cP 1),(2,cP 2),(4,cP 4),(5,YI)],bxs:=[(1,.var [.ty (.arr 8 (.sl yN))]),(2,.var [.ty (.arr 8 .str)]),(4,.var [.ty (.arr 8 .str)])] }
def f31_l5o:List (Ex × Ann):=[((.exit 0),{ env:=[(2,cP 2),(4,cP 4)],bxs:=[(2,.var [.ty (.arr 8 .str)]),(4,.var [.ty (.arr 8 .str)])] })]
def f31_l5 (b1g0:(List (List Yn))) (b2g0:(List ByteArray)):Nat→Int→(List ByteArray)→Option (outDen f31_l5o)
 | 0,_,_=>none
 | k + 1,t5,b4g0 =>
 bif (decide (t5≤(7:Int))) then
 (f73 (b1g0,()) t5).bind fun y2 =>
 (f74 y2.1).bind fun y3 =>
 bif (inR t5 8) then f31_l5 b1g0 b2g0 k (IntKind.wrap .i64 (t5 + 1)) (b4g0.set (Int.toNat t5) y3.1) else none
 else
 some ((),(),((b2g0,()),(b4g0,()),()))
def f31_l5_n (n:Nat) (x:f31_l5h.den):=f31_l5 x.2.2.1.1 x.2.2.2.1.1 n x.1.1 x.2.2.2.2.1.1
def f31_l5s:LSpec:={ head:=f31_l5h,outs:=f31_l5o,fn:=fun x=>f31_l5_n (((8:Int) - x.1.1).toNat + 1) x }
def f31 (a0:Yc):Option ((List ByteArray) × Int × Unit) :=
 (f35 a0).bind fun y1 =>
 bif (!y1.1) then
 some ((List.replicate 8 (⟨#[]⟩:ByteArray)),(160:Int),())
 else
 (f31_l5 a0.1 (List.replicate 8 (⟨#[]⟩:ByteArray)) (((8:Int) - (1:Int)).toNat + 1) (1:Int) (List.replicate 8 (⟨#[]⟩:ByteArray))).bind fun o4 =>
 let u6:(List ByteArray):=o4.2.2.2.1.1
 some (u6,(0:Int),())
def f31s:PSpec:={ args:=[yC],res:=[(.arr 8 .str),yI],fn:=fun x=>f31 x.1 }
noncomputable def f31c:Code:=Tryz.f21.body.getD .skip
noncomputable def f31e:Env0:={ C:=cfgF,P:=[(27,f35s),(64,f73s),(65,f74s)],L:=[(⟨12,0,21,5⟩,f31_l5s)],F:=[(21,Tryz.f21)] }
theorem f31_l5y:zan f31e 12 21 0 (zao f31c 5) f31_l5s :=
 zae (by kernel_rfl) f31_l5_n (fun x o h=>⟨_,h⟩) (fun x=>by kernel_rfl) (fun n x=>by kernel_rfl)
theorem f31r:zR f31e 21 Tryz.f21 f31c f31s:=by intro x; kernel_rfl
theorem f31n:zQ 21:=zN Tryz.func21
theorem f31k:zE f31e:=zO zaf ⟨⟨f35p,f35n⟩,⟨f73p,f73n⟩,⟨f74p,f74n⟩,trivial⟩ trivial ⟨zK Tryz.func21,trivial⟩ ⟨⟨Tryz.f21,f31c,rfl,rfl,f31_l5y⟩,trivial⟩
theorem f31p:zU 21 f31s:=zP f31k Tryz.f21 f31c f31r
end
end Go.V.G
namespace Go.V
def zaw:(l:List Ty)→tysDen l→tysDen l→Bool
 | [],_,_=>true
 | T :: l,x,y=>T.deq x.1 y.1 && zaw l x.2 y.2
theorem zaD:∀ {l:List Ty} {x y:tysDen l},zaw l x y = true→x = y
 | [],_,_,_=>rfl
 | T :: l,x,y,h=>by
  simp only [zaw,Bool.and_eq_true] at h
  exact Prod.ext (Ty.deq_eq T _ _ h.1) (zaD h.2)
end Go.V
namespace Go.Proofs
open Go.Shelf
def Tryz.lays156_ren:Go.Shelf.Ren:=⟨fun | 156=>159 | 165=>232 | 166=>80 | 169=>81 | 240=>98 | 241=>293 | 276=>120 | 277=>328 | n=>n,fun | 31=>43 | 9=>9 | 3=>3 | 4=>4 | 0=>0 | 20=>20 | 72=>128 | 76=>132 | 70=>126 | 37=>41 | 75=>131 | 127=>162 | 164=>189 | 5=>5 | 80=>68 | n=>n,fun | n=>n⟩
theorem Tryz.lays156:Go.Proofs.Lays.n156 Tryz.prog Tryz.lays156_ren:={
 mixed:=by kernel_rfl,
 f156:=Tryz.func159.trans (congrArg some (by kernel_rfl)),
 f165:=Tryz.func232.trans (congrArg some (by kernel_rfl)),
 f166:=Tryz.func80.trans (congrArg some (by kernel_rfl)),
 f169:=Tryz.func81.trans (congrArg some (by kernel_rfl)),
 f240:=Tryz.func98.trans (congrArg some (by kernel_rfl)),
 f241:=Tryz.func293.trans (congrArg some (by kernel_rfl)),
 f276:=Tryz.func120.trans (congrArg some (by kernel_rfl)),
 f277:=Tryz.func328.trans (congrArg some (by kernel_rfl)),
 t0:=Tryz.underlying0,
 a0:=Tryz.isAgg0,
 z0:=Tryz.sizeOf0,
 v0:=Tryz.zeroValue0,
 t3:=Tryz.underlying3,
 a3:=Tryz.isAgg3,
 z3:=Tryz.sizeOf3,
 v3:=Tryz.zeroValue3,
 t4:=Tryz.underlying4,
 a4:=Tryz.isAgg4,
 z4:=Tryz.sizeOf4,
 v4:=Tryz.zeroValue4,
 t9:=Tryz.underlying9,
 a9:=Tryz.isAgg9,
 z9:=Tryz.sizeOf9,
 v9:=Tryz.zeroValue9,
 t20:=Tryz.underlying20,
 a20:=Tryz.isAgg20,
 z20:=Tryz.sizeOf20,
 v20:=Tryz.zeroValue20,
 t31:=Tryz.underlying43,
 a31:=Tryz.isAgg43,
 z31:=Tryz.sizeOf43,
 v31:=Tryz.zeroValue43,
 t37:=Tryz.underlying41,
 a37:=Tryz.isAgg41,
 z37:=Tryz.sizeOf41,
 v37:=Tryz.zeroValue41,
 t70:=Tryz.underlying126,
 a70:=Tryz.isAgg126,
 z70:=Tryz.sizeOf126,
 v70:=Tryz.zeroValue126,
 t72:=Tryz.underlying128,
 a72:=Tryz.isAgg128,
 z72:=Tryz.sizeOf128,
 v72:=Tryz.zeroValue128,
 t75:=Tryz.underlying131,
 a75:=Tryz.isAgg131,
 z75:=Tryz.sizeOf131,
 v75:=Tryz.zeroValue131,
 t76:=Tryz.underlying132,
 a76:=Tryz.isAgg132,
 z76:=Tryz.sizeOf132,
 v76:=Tryz.zeroValue132,
 t127:=Tryz.underlying162,
 a127:=Tryz.isAgg162,
 z127:=Tryz.sizeOf162,
 v127:=Tryz.zeroValue162,
 t164:=Tryz.underlying189,
 a164:=Tryz.isAgg189,
 z164:=Tryz.sizeOf189,
 v164:=Tryz.zeroValue189 }
theorem Tryz.builderExtra156:Builder.Extra Tryz.prog Tryz.lays156_ren where
 sizeBuilder:=by kernel_rfl
 liesBuilder:=by kernel_rfl
 t5:=Tryz.underlying5
 a5:=Tryz.isAgg5
 z5:=Tryz.sizeOf5
 v5:=Tryz.zeroValue5
 infoByte:=by kernel_rfl
 cellsByte:=by kernel_rfl
 sizeByte:=by kernel_rfl
 neB5:=by decide
theorem Tryz.strings_Join (bk o c:Nat) (xs:List ByteArray) (sep:ByteArray) (w:World) (hcells:∀ (j:Nat) x,xs[j]? = some x→w.cell? ⟨bk,o + j,none⟩ = some (.string x)) (hbk:bk < w.heap.size) (hN:xs.length≤140737488355328) (hcap:xs.length≤c) (hlen:(Lib.join (xs.map (·.data.toList)) sep.data.toList).length≤140737488355328) :
  Calls Tryz.prog 159 #[.slice (some ⟨bk,o,none⟩) xs.length c,.string sep] w fun e w'=>e = .returned (.string ⟨(Lib.join (xs.map (·.data.toList)) sep.data.toList).toArray⟩)∧RowKit.Below w.heap.size w w':=Any.strings_Join Tryz.lays156 Tryz.builderExtra156 bk o c xs sep w hcells hbk hN hcap hlen
theorem Tryz.strings_Join_none (a:Option Addr) (c:Nat) (sep:ByteArray) (w:World) :
  Calls Tryz.prog 159 #[.slice a 0 c,.string sep] w fun e w'=>e = .returned (.string ⟨#[]⟩)∧w' = w:=Any.strings_Join_none Tryz.lays156 Tryz.builderExtra156 a c sep w
end Go.Proofs
namespace Go.V.G
open Go.Proofs
def joinS (l:List ByteArray) (sep:ByteArray):ByteArray:=⟨(Lib.join (l.map (·.data.toList)) sep.data.toList).toArray⟩
def f159 (a0:List ByteArray) (a1:ByteArray):Option (ByteArray × Unit):=bif Nat.ble a0.length 100 && Nat.ble (Lib.join (a0.map (·.data.toList)) a1.data.toList).length 100000 then some (joinS a0 a1,()) else none
def f159s:PSpec:={ args:=[.sl .str,.str],res:=[.str],fn:=fun x=>f159 x.1 x.2.1 }
theorem zcU {fz:Nat→Nat→Option Value}:∀ {l:List ByteArray} {cs:List Value},Elems (CR fz .str) l cs→∀ (j:Nat) (x:ByteArray),l[j]? = some x→cs[j]? = some (Value.string x)
 | [],_,_,j,x,h=>by simp at h
 | y :: l,cs,⟨c1,c2,e,h1,h2⟩,j,x,h=>by
  have h1':c1 = [Value.string y]:=h1
  subst h1'
  subst e
  cases j with
  | zero=>simp at h; simp [h]
  | succ j=>simpa using zcU h2 j x (by simpa using h)
theorem f159p:zbh Go.Proofs.Tryz.prog cfg 159 f159s:=by
 intro fz w args x y hG hf ha hy
 obtain ⟨l,sep,u⟩:=x
 obtain ⟨s,u'⟩:=y
 change f159 l sep = some (s,u') at hy
 unfold f159 at hy
 cases hcd:(Nat.ble (List.length (α:=ByteArray) l) 100 && Nat.ble (Lib.join (List.map (fun x:ByteArray=>x.data.toList) l) (show ByteArray from sep).data.toList).length 100000) with
 | false=>rw [hcd] at hy; cases hy
 | true =>
  rw [hcd,cond_true] at hy
  simp only [Option.some.injEq,Prod.mk.injEq] at hy
  obtain ⟨rfl,_⟩:=hy
  rw [Bool.and_eq_true] at hcd
  have n1:=Nat.le_of_ble_eq_true hcd.1
  have n2:(Lib.join (List.map (fun x:ByteArray=>x.data.toList) l) (ByteArray.data sep).toList).length≤100000:=Nat.le_of_ble_eq_true hcd.2
  clear hcd
  obtain ⟨al⟩:=args
  have fin:∀ w',RowKit.Below w.heap.size w w'→∃ cs fz',Ending.returned (Value.string (joinS l sep)) = .returned (zdn cs)∧TVs fz' [.str] (joinS l sep,u') cs∧FzOK (.of fz') w'∧Tr (.of fz) w (.of fz') w':=by
   intro w' hb
   refine ⟨[.string (joinS l sep)],fz,rfl,⟨⟨#[.string (joinS l sep)],rfl,rfl⟩,rfl⟩,?_,⟨hb.os,hb.tape,hb.output,hb.size,fun _ _ _ h=>h,fun _ _ h=>.inl h,fun _ h=>.inl h,fun b hb' _=>hb.block b hb'⟩⟩
   intro b o v e
   have:=hf b o v e
   exact this.same (hb.block b this.lt)
  match al,ha with
  | [c,d],⟨⟨arr,e1,e2⟩,⟨arr2,g1,g2⟩,_⟩ =>
   have hd:d = .string sep:=by
    have g1':arr2.toList = [.string sep]:=g1
    rw [g2]
    show arr2.getD 0 undef = _
    rw [Array.getD_eq_getD_getElem?,← Array.getElem?_toList,g1']
    rfl
   subst hd
   obtain ⟨v,e3,hv⟩:=e1
   have hc:c = v:=by
    rw [e2]
    show arr.getD 0 undef = v
    rw [Array.getD_eq_getD_getElem?,← Array.getElem?_toList,e3]
    rfl
   subst hc
   rcases hv with ⟨h0,a0,hc⟩ | ⟨blk,off,cap,cs,hc,h1,h2,h3⟩
   ·have h0':l = []:=h0
    subst h0'
    subst hc
    refine Calls.mono (Tryz.strings_Join_none a0 0 sep w) ?_
    rintro e w' ⟨rfl,rfl⟩
    exact fin w' (RowKit.Below.refl _ _)
   ·subst hc
    by_cases hn:List.length (α:=ByteArray) l = 0
    ·have h0':l = []:=List.eq_nil_of_length_eq_zero hn
     subst h0'
     refine Calls.mono (Tryz.strings_Join_none _ cap sep w) ?_
     rintro e w' ⟨rfl,rfl⟩
     exact fin w' (RowKit.Below.refl _ _)
    ·have hcell:∀ (j:Nat) (x:ByteArray),(show List ByteArray from l)[j]? = some x→w.cell? ⟨blk,off + j,none⟩ = some (.string x):=fun j x hx=>(hf _ _ _ (h3 j _ (zcU h2 j x hx))).cell rfl
     have hlt:blk < w.heap.size:=by
      cases l with
      | nil=>exact absurd rfl hn
      | cons x l=>exact (hf _ _ _ (h3 0 _ (zcU h2 0 x rfl))).lt
     refine Calls.mono (Tryz.strings_Join blk off cap l sep w hcell hlt (by omega) h1 (by omega)) ?_
     rintro e w' ⟨rfl,hb⟩
     exact fin w' hb
theorem f159n:zaA Go.Proofs.Tryz.prog 159:=zez Go.Proofs.Tryz.func159 (by kernel_rfl)
end Go.V.G
namespace Go.Proofs
open Go.RowKit Go.V Go.V.G
set_option maxHeartbeats 4000000 in
set_option maxRecDepth 1000000 in
theorem zh0 {fz:Nat→Nat→Option Value} (hG:zay cfg fz) (l:List Int) (base:Option Addr) (cap:Nat) (w:World) (hf:FzOK (.of fz) w) (hl:l.length≤1000) (s:ByteArray) (hs:zcH l = some s)
  (hb:∀ j (_:j < l.length),∃ blk off,base = some ⟨blk,off,none⟩∧blk < w.heap.size∧w.cell? ⟨blk,off + j,none⟩ = some (.int .i64 l[j])) :
  Calls Tryz.prog 157 #[.slice base l.length cap] w fun e w'=>e = .returned (.string s)∧Below w.heap.size w w':=by
 have hff:∀ wr,Below w.heap.size w wr→FzOK (.of fz) wr:=by
  intro wr hbw b o v e
  have:=hf b o v e
  exact this.same (hbw.block b this.lt)
 go_enter Tryz.func157,Tryz.ntmps157
 go_wp2
 go_loopw [10] (fun i wr=>∃ (k:Nat) (acc:List UInt8),k≤l.length∧i = .int .i64 k∧Lib.IsBuilderF 128 5 w.heap.size w.heap.size (Lib.byteCells acc) wr∧Below w.heap.size w wr∧acc.length≤100 * k∧∃ r,zcH (l.drop k) = some r∧acc++r.data.toList = s.data.toList) (fun i _=>l.length - (intOf i).toNat)
 case atStart =>
  exact ⟨0,[],Nat.zero_le _,rfl,Lib.IsBuilderF.of (Lib.fresh_isBuilder 128 5 w),(Below.refl _ w).alloc (Nat.le_refl _) _,by simp,s,by simpa using hs,by simp⟩
 case round =>
  obtain ⟨k,acc,hk,rfl,hI,hbw,hal,r,hr,hac⟩:=hrel
  have hsz:=hbw.size
  by_cases hlt:k < l.length
  ·obtain ⟨blk,off,rfl,hblk,hcell⟩:=hb k hlt
   have hcr:wr.cell? ⟨blk,off + k,none⟩ = some (.int .i64 l[k]):=by
    rw [← hcell]
    simp only [World.cell?,hbw.block blk hblk]
   rw [List.drop_eq_getElem_cons hlt] at hr
   simp only [zcH,Option.bind_eq_some_iff] at hr
   obtain ⟨y,hy,hr⟩:=hr
   cases h100:decide (y.1.size≤100) with
   | false=>rw [h100] at hr; cases hr
   | true =>
    rw [h100,cond_true,Option.bind_eq_some_iff] at hr
    obtain ⟨r',hr',hrr⟩:=hr
    have h100':=of_decide_eq_true h100
    go_wp2_with (go_at_call 79; refine (ze1 hG (hff _ hbw) hy).mono ?_)
    rintro e W1 ⟨rfl,b1⟩
    have hI1:=zee hI b1
    have hbw1:Below w.heap.size w W1:=hbw.trans ⟨b1.os,b1.tape,b1.output,b1.size,fun k hk=>b1.block k (by omega)⟩
    have hsz1:=hbw1.size
    have hlen:(Lib.byteCells acc).length + y.1.size≤140737488355328:=by rw [zeg]; omega
    go_wp2_with (go_at_call 80; refine (Tryz.Builder_WriteString w.heap.size w.heap.size _ y.1 _ hI1 hlen hsz1).mono ?_)
    rintro e W2 ⟨rfl,h1,b2,_⟩
    go_wp2
    go_roundw
    case rel =>
     have hwrap:IntKind.i64.wrap ((k:Int) + 1) = ((k + 1:Nat):Int):=by simp [IntKind.wrap,IntKind.bits,IntKind.signed] <;> omega
     refine ⟨k + 1,acc++y.1.data.toList,by omega,by first | (rw [hwrap]; done) | (simp only [hwrap]; done) | (simp <;> omega),?_,hbw1.trans b2,?_,r',hr',?_⟩
     ·rw [zef,← zdO]; exact Or.inr h1
     ·have:y.1.data.toList.length = y.1.size:=rfl
      rw [List.length_append,this]; omega
     ·simp only [Option.some.injEq] at hrr
      rw [← hac,← hrr]
      simp
    case measure =>
     simp [intOf]; omega
  ·go_wp2_with (go_at_call 81; refine (Tryz.Builder_String w.heap.size w.heap.size acc _ hI (by omega)).mono ?_)
   rintro e W1 ⟨rfl,_,b1,_⟩
   go_wp2
   go_ret
   have hk':k = l.length:=by omega
   subst hk'
   rw [List.drop_length] at hr
   simp only [zcH,Option.some.injEq] at hr
   subst hr
   simp only [List.append_nil] at hac
   exact ⟨by rw [hac]; simp,hbw.trans b1⟩
end Go.Proofs
namespace Go.V.G
open Go.Proofs
def f157 (a0:List Int):Option (ByteArray × Unit):=bif decide (a0.length≤1000) then (zcH a0).bind fun r=>some (r,()) else none
def f157s:PSpec:={ args:=[.sl (.int .i64)],res:=[.str],fn:=fun x=>f157 x.1 }
theorem f157p:zbh Go.Proofs.Tryz.prog cfg 157 f157s:=by
 intro fz w args x y hG hf ha hy
 obtain ⟨l,u⟩:=x
 obtain ⟨s,u'⟩:=y
 change f157 l = some (s,u') at hy
 unfold f157 at hy
 cases hl:decide (List.length (α:=Int) l≤1000) with
 | false=>rw [hl] at hy; cases hy
 | true =>
  rw [hl,cond_true,Option.bind_eq_some_iff] at hy
  obtain ⟨s',hs,e⟩:=hy
  simp only [Option.some.injEq,Prod.mk.injEq] at e
  obtain ⟨rfl,_⟩:=e
  obtain ⟨al⟩:=args
  match al,ha with
  | [c],⟨⟨arr,e1,e2⟩,_⟩ =>
   obtain ⟨v,e3,hv⟩:=e1
   have hc:c = v:=by
    rw [e2]
    show arr.getD 0 undef = v
    rw [Array.getD_eq_getD_getElem?,← Array.getElem?_toList,e3]
    rfl
   subst hc
   have fin:∀ base cap,c = .slice base (List.length (α:=Int) l) cap→(∀ j (_:j < List.length (α:=Int) l),∃ blk off,base = some ⟨blk,off,none⟩∧blk < w.heap.size∧w.cell? ⟨blk,off + j,none⟩ = some (.int .i64 (l[j]:Int))) →
     Calls Go.Proofs.Tryz.prog 157 #[c] w fun e w'=>∃ cs fz',e = .returned (zdn cs)∧TVs fz' [.str] (s',u') cs∧FzOK (.of fz') w'∧Tr (.of fz) w (.of fz') w':=by
    intro base cap hc hb
    subst hc
    refine Calls.mono (zh0 hG l base cap w hf (of_decide_eq_true hl) s' hs hb) ?_
    rintro e w' ⟨rfl,hb⟩
    refine ⟨[.string s'],fz,rfl,⟨⟨#[.string s'],rfl,rfl⟩,rfl⟩,?_,⟨hb.os,hb.tape,hb.output,hb.size,fun _ _ _ h=>h,fun _ _ h=>.inl h,fun _ h=>.inl h,fun b hb' _=>hb.block b hb'⟩⟩
    intro b o v e
    have:=hf b o v e
    exact this.same (hb.block b this.lt)
   rcases hv with ⟨rfl,a0,rfl⟩ | ⟨blk,off,cap,cs,rfl,h1,h2,h3⟩
   ·exact fin a0 0 rfl (fun j h=>by simp at h)
   ·refine fin _ cap rfl (fun j h=>⟨blk,off,rfl,?_,(hf _ _ _ (h3 j _ (zbI h2 j h))).cell rfl⟩)
    exact (hf _ _ _ (h3 j _ (zbI h2 j h))).lt
theorem f157n:zaA Go.Proofs.Tryz.prog 157:=zez Go.Proofs.Tryz.func157 (by kernel_rfl)
end Go.V.G
namespace Go.V.G
open Go.Proofs
def q192 (a0:Int) (a1:Int):Option (Int × Unit) :=
 bif (decide (0≤a1)) then
  bif (decide (0≤(IntKind.wrap .i64 ((32:Int) - a1)))) then
   let v1:Int:=(shlV .u32 a0 (IntKind.wrap .i64 ((32:Int) - a1)))
   some ((orV .u32 (shrV .u32 a0 a1) v1),())
  else none
 else none
def q193 :Option ((List Int) × Unit) :=
 some (([(1116352408:Int),(1899447441:Int),(3049323471:Int),(3921009573:Int),(961987163:Int),(1508970993:Int),(2453635748:Int),(2870763221:Int),(3624381080:Int),(310598401:Int),(607225278:Int),(1426881987:Int),(1925078388:Int),(2162078206:Int),(2614888103:Int),(3248222580:Int),(3835390401:Int),(4022224774:Int),(264347078:Int),(604807628:Int),(770255983:Int),(1249150122:Int),(1555081692:Int),(1996064986:Int),(2554220882:Int),(2821834349:Int),(2952996808:Int),(3210313671:Int),(3336571891:Int),(3584528711:Int),(113926993:Int),(338241895:Int),(666307205:Int),(773529912:Int),(1294757372:Int),(1396182291:Int),(1695183700:Int),(1986661051:Int),(2177026350:Int),(2456956037:Int),(2730485921:Int),(2820302411:Int),(3259730800:Int),(3345764771:Int),(3516065817:Int),(3600352804:Int),(4094571909:Int),(275423344:Int),(430227734:Int),(506948616:Int),(659060556:Int),(883997877:Int),(958139571:Int),(1322822218:Int),(1537002063:Int),(1747873779:Int),(1955562222:Int),(2024104815:Int),(2227730452:Int),(2361852424:Int),(2428436474:Int),(2756734187:Int),(3204031479:Int),(3329325298:Int)]:List Int),())
def zh1:List (Ex × Ann):=[((.exit 0),{ env:=[(0,.ty .str),(3,.cst (.row 17 .whole))],stk:=[],bxs:=[(17,.row (.int .u8) false)] })]
def zeI (t0:ByteArray):Nat→Int→(List Int)→Option (outDen zh1)
 | 0,_,_=>none
 | k + 1,t4,r17 =>
  bif (decide (t4 < (t0.size:Int))) then
   bif (inR t4 t0.size) then bif (decide (r17.length + ([(byteAt t0 t4)]:List Int).length≤zac)) then zeI t0 k (IntKind.wrap .i64 (t4 + (1:Int))) (r17++([(byteAt t0 t4)]:List Int)) else none else none
  else
   some ((t0,()),(),(r17,()))
def zh2:List (Ex × Ann):=[((.exit 2),{ env:=[(0,.ty .str),(3,.cst (.row 17 .whole))],stk:=[],bxs:=[(17,.row (.int .u8) false)] })]
def zfB (t0:ByteArray):Nat→(List Int)→Option (outDen zh2)
 | 0,_=>none
 | k + 1,r17 =>
  let v4:Bool:=(decide ((Int.tmod (r17.length:Int) (64:Int)) ≠ (56:Int)))
  bif v4 then
   bif (decide (r17.length + ([(0:Int)]:List Int).length≤zac)) then zfB t0 k (r17++([(0:Int)]:List Int)) else none
  else
   some ((t0,()),(),(r17,()))
def zg8:List (Ex × Ann):=[((.exit 4),{ env:=[(3,.cst (.row 17 .whole))],stk:=[],bxs:=[(17,.row (.int .u8) false)] })]
def zfh (t0:ByteArray):Nat→Int→(List Int)→Option (outDen zg8)
 | 0,_,_=>none
 | k + 1,t5,r17 =>
  bif (decide (t5 ≥ (0:Int))) then
   let v8:Int:=(IntKind.wrap .i64 ((8:Int) * (t0.size:Int)))
   bif (decide (0≤(IntKind.wrap .i64 ((8:Int) * t5)))) then
    let v9:Int:=(shrV .i64 v8 (IntKind.wrap .i64 ((8:Int) * t5)))
    bif (decide (r17.length + ([(IntKind.wrap .u8 v9)]:List Int).length≤zac)) then zfh t0 k (IntKind.wrap .i64 (t5 - (1:Int))) (r17++([(IntKind.wrap .u8 v9)]:List Int)) else none
   else none
  else
   some ((),(),(r17,()))
def q138 (a0:ByteArray):Option ((List Int) × Unit) :=
 (zeI a0 (((a0.size:Int) - (0:Int)).toNat + 1) (0:Int) []).bind fun o1 =>
 let u2:ByteArray:=o1.1.1
 let u3:(List Int):=o1.2.2.1
 bif (decide (u3.length + ([(128:Int)]:List Int).length≤zac)) then
  (zfB u2 ((64:Nat)) (u3++([(128:Int)]:List Int))).bind fun o5 =>
  let u6:ByteArray:=o5.1.1
  let u7:(List Int):=o5.2.2.1
  (zfh u6 (((7:Int) + 1).toNat + 1) (7:Int) u7).bind fun o10 =>
  let u11:(List Int):=o10.2.2.1
  some (u11,())
 else none
def zh3:List (Ex × Ann):=[((.exit 0),{ env:=[(0,.ty (.sl (.int .u32))),(5,.cst (.row 58 .whole))],stk:=[],bxs:=[(58,.row (.int .u32) false)] })]
def zg9 (t0:(List Int)) (t1:(List Int)):Nat→Int→(List Int)→Option (outDen zh3)
 | 0,_,_=>none
 | k + 1,t6,r58 =>
  bif (decide (t6 < (16:Int))) then
   bif (inR (IntKind.wrap .i64 ((4:Int) * t6)) t1.length) then
    let v1:Int:=(at_ (.int .u8) t1 (IntKind.wrap .i64 ((4:Int) * t6)))
    let v2:Int:=(shlV .u32 (IntKind.wrap .u32 v1) (24:Int))
    let v3:Int:=(IntKind.wrap .i64 ((IntKind.wrap .i64 ((4:Int) * t6)) + (1:Int)))
    bif (inR v3 t1.length) then
     let v4:Int:=(IntKind.wrap .u32 (at_ (.int .u8) t1 v3))
     let v5:Int:=(IntKind.wrap .i64 ((IntKind.wrap .i64 ((4:Int) * t6)) + (2:Int)))
     bif (inR v5 t1.length) then
      let v6:Int:=(IntKind.wrap .u32 (at_ (.int .u8) t1 v5))
      let v7:Int:=(orV .u32 (orV .u32 v2 (shlV .u32 v4 (16:Int))) (shlV .u32 v6 (8:Int)))
      let v8:Int:=(IntKind.wrap .i64 ((IntKind.wrap .i64 ((4:Int) * t6)) + (3:Int)))
      bif (inR v8 t1.length) then
       let v9:Int:=(IntKind.wrap .u32 (at_ (.int .u8) t1 v8))
       bif (decide (r58.length + ([(orV .u32 v7 v9)]:List Int).length≤zac)) then zg9 t0 t1 k (IntKind.wrap .i64 (t6 + (1:Int))) (r58++([(orV .u32 v7 v9)]:List Int)) else none
      else none
     else none
    else none
   else none
  else
   some ((t0,()),(),(r58,()))
def zh4:List (Ex × Ann):=[((.exit 2),{ env:=[(0,.ty (.sl (.int .u32))),(5,.cst (.row 58 .whole))],stk:=[],bxs:=[(58,.row (.int .u32) false)] })]
def zha (t0:(List Int)):Nat→Int→(List Int)→Option (outDen zh4)
 | 0,_,_=>none
 | k + 1,t7,r58 =>
  bif (decide (t7 < (64:Int))) then
   bif (inR (IntKind.wrap .i64 (t7 - (15:Int))) r58.length) then
    let v13:Int:=(at_ (.int .u32) r58 (IntKind.wrap .i64 (t7 - (15:Int))))
    (q192 v13 (7:Int)).bind fun y14 =>
    bif (inR (IntKind.wrap .i64 (t7 - (15:Int))) r58.length) then
     let v15:Int:=(at_ (.int .u32) r58 (IntKind.wrap .i64 (t7 - (15:Int))))
     (q192 v15 (18:Int)).bind fun y16 =>
     bif (inR (IntKind.wrap .i64 (t7 - (15:Int))) r58.length) then
      let v17:Int:=(at_ (.int .u32) r58 (IntKind.wrap .i64 (t7 - (15:Int))))
      let v18:Int:=(xorV .u32 (xorV .u32 y14.1 y16.1) (shrV .u32 v17 (3:Int)))
      bif (inR (IntKind.wrap .i64 (t7 - (2:Int))) r58.length) then
       let v19:Int:=(at_ (.int .u32) r58 (IntKind.wrap .i64 (t7 - (2:Int))))
       (q192 v19 (17:Int)).bind fun y20 =>
       bif (inR (IntKind.wrap .i64 (t7 - (2:Int))) r58.length) then
        let v21:Int:=(at_ (.int .u32) r58 (IntKind.wrap .i64 (t7 - (2:Int))))
        (q192 v21 (19:Int)).bind fun y22 =>
        bif (inR (IntKind.wrap .i64 (t7 - (2:Int))) r58.length) then
         let v23:Int:=(at_ (.int .u32) r58 (IntKind.wrap .i64 (t7 - (2:Int))))
         let v24:Int:=(xorV .u32 (xorV .u32 y20.1 y22.1) (shrV .u32 v23 (10:Int)))
         bif (inR (IntKind.wrap .i64 (t7 - (16:Int))) r58.length) then
          let v25:Int:=(at_ (.int .u32) r58 (IntKind.wrap .i64 (t7 - (16:Int))))
          bif (inR (IntKind.wrap .i64 (t7 - (7:Int))) r58.length) then
           let v26:Int:=(at_ (.int .u32) r58 (IntKind.wrap .i64 (t7 - (7:Int))))
           let v27:Int:=(IntKind.wrap .u32 ((IntKind.wrap .u32 (v25 + v18)) + v26))
           bif (decide (r58.length + ([(IntKind.wrap .u32 (v27 + v24))]:List Int).length≤zac)) then zha t0 k (IntKind.wrap .i64 (t7 + (1:Int))) (r58++([(IntKind.wrap .u32 (v27 + v24))]:List Int)) else none
          else none
         else none
        else none
       else none
      else none
     else none
    else none
   else none
  else
   some ((t0,()),(),(r58,()))
def zhb:List (Ex × Ann):=[((.exit 4),{ env:=[(0,.ty (.sl (.int .u32))),(11,.ty (.sl (.int .u32)))],stk:=[],bxs:=[] })]
def zfi (t0:(List Int)) (t10:(List Int)) (r58:(List Int)):Nat→(List Int)→Int→Option (outDen zhb)
 | 0,_,_=>none
 | k + 1,t11,t12 =>
  bif (decide (t12 < (64:Int))) then
   bif (inR (0:Int) t11.length) then
    bif (inR (4:Int) t11.length) then
     bif (inR (7:Int) t11.length) then
      (q192 (at_ (.int .u32) t11 (4:Int)) (6:Int)).bind fun y32 =>
      (q192 (at_ (.int .u32) t11 (4:Int)) (11:Int)).bind fun y33 =>
      (q192 (at_ (.int .u32) t11 (4:Int)) (25:Int)).bind fun y34 =>
      let v35:Int:=(xorV .u32 (xorV .u32 y32.1 y33.1) y34.1)
      let v36:Int:=(IntKind.wrap .u32 ((at_ (.int .u32) t11 (7:Int)) + v35))
      bif (inR (5:Int) t11.length) then
       let v37:Int:=(andV .u32 (at_ (.int .u32) t11 (4:Int)) (at_ (.int .u32) t11 (5:Int)))
       let v38:Int:=(xorV .u32 (if IntKind.signed .u32 then -1 else IntKind.max .u32) (at_ (.int .u32) t11 (4:Int)))
       bif (inR (6:Int) t11.length) then
        let v39:Int:=(andV .u32 v38 (at_ (.int .u32) t11 (6:Int)))
        let v40:Int:=(IntKind.wrap .u32 (v36 + (xorV .u32 v37 v39)))
        bif (inR t12 t10.length) then
         let v41:Int:=(IntKind.wrap .u32 (v40 + (at_ (.int .u32) t10 t12)))
         bif (inR t12 r58.length) then
          let v42:Int:=(IntKind.wrap .u32 (v41 + (at_ (.int .u32) r58 t12)))
          (q192 (at_ (.int .u32) t11 (0:Int)) (2:Int)).bind fun y43 =>
          (q192 (at_ (.int .u32) t11 (0:Int)) (13:Int)).bind fun y44 =>
          (q192 (at_ (.int .u32) t11 (0:Int)) (22:Int)).bind fun y45 =>
          let v46:Int:=(xorV .u32 (xorV .u32 y43.1 y44.1) y45.1)
          bif (inR (1:Int) t11.length) then
           let v47:Int:=(andV .u32 (at_ (.int .u32) t11 (0:Int)) (at_ (.int .u32) t11 (1:Int)))
           bif (inR (2:Int) t11.length) then
            let v48:Int:=(andV .u32 (at_ (.int .u32) t11 (0:Int)) (at_ (.int .u32) t11 (2:Int)))
            bif (inR (1:Int) t11.length) then
             bif (inR (2:Int) t11.length) then
              let v49:Int:=(andV .u32 (at_ (.int .u32) t11 (1:Int)) (at_ (.int .u32) t11 (2:Int)))
              let v50:Int:=(IntKind.wrap .u32 (v46 + (xorV .u32 (xorV .u32 v47 v48) v49)))
              bif (inR (1:Int) t11.length) then
               bif (inR (2:Int) t11.length) then
                bif (inR (3:Int) t11.length) then
                 let v51:Int:=(IntKind.wrap .u32 ((at_ (.int .u32) t11 (3:Int)) + v42))
                 bif (inR (5:Int) t11.length) then bif (inR (6:Int) t11.length) then zfi t0 t10 r58 k ([(IntKind.wrap .u32 (v42 + v50)),(at_ (.int .u32) t11 (0:Int)),(at_ (.int .u32) t11 (1:Int)),(at_ (.int .u32) t11 (2:Int)),v51,(at_ (.int .u32) t11 (4:Int)),(at_ (.int .u32) t11 (5:Int)),(at_ (.int .u32) t11 (6:Int))]:List Int) (IntKind.wrap .i64 (t12 + (1:Int))) else none else none
                else none
               else none
              else none
             else none
            else none
           else none
          else none
         else none
        else none
       else none
      else none
     else none
    else none
   else none
  else
   some ((t0,t11,()),(),())
def zhc:List (Ex × Ann):=[((.exit 6),{ env:=[(17,.cst (.row 236 .whole))],stk:=[],bxs:=[(236,.row (.int .u32) false)] })]
def zhd (t0:(List Int)) (t11:(List Int)):Nat→Int→(List Int)→Option (outDen zhc)
 | 0,_,_=>none
 | k + 1,t18,r236 =>
  bif (decide (t18 < (8:Int))) then
   bif (inR t18 t0.length) then
    bif (inR t18 t11.length) then
     let v55:Int:=(IntKind.wrap .u32 ((at_ (.int .u32) t0 t18) + (at_ (.int .u32) t11 t18)))
     bif (decide (r236.length + ([v55]:List Int).length≤zac)) then zhd t0 t11 k (IntKind.wrap .i64 (t18 + (1:Int))) (r236++([v55]:List Int)) else none
    else none
   else none
  else
   some ((),(),(r236,()))
def q139 (a0:(List Int)) (a1:(List Int)):Option ((List Int) × Unit) :=
 (zg9 a0 a1 (((16:Int) - (0:Int)).toNat + 1) (0:Int) []).bind fun o10 =>
 let u11:(List Int):=o10.1.1
 let u12:(List Int):=o10.2.2.1
 (zha u11 (((64:Int) - (16:Int)).toNat + 1) (16:Int) u12).bind fun o28 =>
 let u29:(List Int):=o28.1.1
 let u30:(List Int):=o28.2.2.1
 (q193 ).bind fun y31 =>
 bif (decide (u29.length≤zac)) then
  (zfi u29 y31.1 u30 (((64:Int) - (0:Int)).toNat + 1) u29 (0:Int)).bind fun o52 =>
  let u53:(List Int):=o52.1.1
  let u54:(List Int):=o52.1.2.1
  (zhd u53 u54 (((8:Int) - (0:Int)).toNat + 1) (0:Int) []).bind fun o56 =>
  let u57:(List Int):=o56.2.2.1
  some (u57,())
 else none
def zi2:List (Ex × Ann):=[((.exit 0),{ env:=[(3,.ty (.sl (.int .u32)))],stk:=[],bxs:=[] })]
def zgz (t4:(List Int)):Nat→(List Int)→Int→Option (outDen zi2)
 | 0,_,_=>none
 | k + 1,t3,t5 =>
  bif (decide (t5 < (t4.length:Int))) then
   bif (cutOk t4.length (some t5) (some (IntKind.wrap .i64 (t5 + (64:Int))))) then
    let v2:(List Int):=((t4.take (Int.toNat (IntKind.wrap .i64 (t5 + (64:Int))))).drop (Int.toNat t5))
    (q139 t3 v2).bind fun y3 =>
    zgz t4 k y3.1 (IntKind.wrap .i64 (t5 + (64:Int)))
   else none
  else
   some ((t3,()),(),())
def zi3:List (Ex × Ann):=[((.exit 2),{ env:=[(6,.cst (.row 53 .whole))],stk:=[],bxs:=[(53,.row (.int .u8) false)] })]
def zjZ (t3:(List Int)):Nat→Int→(List Int)→Option (outDen zi3)
 | 0,_,_=>none
 | k + 1,t7,r53 =>
  bif (decide (t7 < (8:Int))) then
   bif (inR t7 t3.length) then
    let v6:Int:=(shrV .u32 (at_ (.int .u32) t3 t7) (24:Int))
    bif (inR t7 t3.length) then
     let v7:Int:=(shrV .u32 (at_ (.int .u32) t3 t7) (16:Int))
     bif (inR t7 t3.length) then
      let v8:Int:=(shrV .u32 (at_ (.int .u32) t3 t7) (8:Int))
      bif (inR t7 t3.length) then
       let v9:Int:=(IntKind.wrap .u8 (at_ (.int .u32) t3 t7))
       bif (decide (r53.length + ([(IntKind.wrap .u8 v6),(IntKind.wrap .u8 v7),(IntKind.wrap .u8 v8),v9]:List Int).length≤zac)) then zjZ t3 k (IntKind.wrap .i64 (t7 + (1:Int))) (r53++([(IntKind.wrap .u8 v6),(IntKind.wrap .u8 v7),(IntKind.wrap .u8 v8),v9]:List Int)) else none
      else none
     else none
    else none
   else none
  else
   some ((),(),(r53,()))
def q89 (a0:ByteArray):Option (ByteArray × Unit) :=
 (q138 a0).bind fun y1 =>
 (zgz y1.1 (((y1.1.length:Int) - (0:Int)).toNat + 1) ([(1779033703:Int),(3144134277:Int),(1013904242:Int),(2773480762:Int),(1359893119:Int),(2600822924:Int),(528734635:Int),(1541459225:Int)]:List Int) (0:Int)).bind fun o4 =>
 let u5:(List Int):=o4.1.1
 (zjZ u5 (((8:Int) - (0:Int)).toNat + 1) (0:Int) []).bind fun o10 =>
 let u11:(List Int):=o10.2.2.1
 some ((ofBytes u11),())
end Go.V.G
namespace Go.V.G
open Go.Proofs
theorem wrapS {x:Int} (h1:-9223372036854775808≤x) (h2:x≤9223372036854775807):IntKind.wrap .i64 x = x:=by
 unfold IntKind.wrap
 simp only [IntKind.signed,IntKind.bits,Bool.true_and,decide_eq_true_eq,show (2:Int) ^ 64 = 18446744073709551616 from rfl,show (2:Int) ^ (64 - 1) = 9223372036854775808 from rfl]
 split <;> omega
theorem zbg {i:Int} {n:Nat} (h1:0≤i) (h2:i < n):inR i n = true:=by
 unfold inR
 simp [h1,h2]
theorem decT {p:Prop} [Decidable p] (h:p):decide p = true:=zT h
theorem decF {p:Prop} [Decidable p] (h:¬ p):decide p = false:=zF h
theorem zlt {T:Ty} {l m:List T.den} {i:Int} (h:i.toNat < l.length):at_ T (l++m) i = at_ T l i:=by
 unfold at_
 rw [List.getD_eq_getElem?_getD,List.getD_eq_getElem?_getD,List.getElem?_append_left h]
theorem zbX (k:IntKind) (x y:Int):orV k x y = orV k y x:=by
 unfold orV
 rw [BitVec.or_comm]
theorem wrap_u32 (x:Int):IntKind.wrap .u32 x = x % 4294967296:=by
 unfold IntKind.wrap
 simp only [IntKind.signed,IntKind.bits]
 simp
theorem zcV (x y:Int):xorV .u32 0 (orV .u32 x y) = orV .u32 x y:=by
 unfold xorV orV
 simp only [wrap_u32,IntKind.bits]
 have hb:∀ b:BitVec 32,(BitVec.ofInt 32 0 ^^^ BitVec.ofInt 32 ((b.toNat:Int) % 4294967296)).toNat = b.toNat:=by
  intro b
  have h1:BitVec.ofInt 32 0 = 0#32:=rfl
  have hlt:=b.isLt
  have h2:((b.toNat:Int) % 4294967296) = b.toNat:=by omega
  rw [h1,BitVec.zero_xor,h2,BitVec.ofInt_natCast,BitVec.ofNat_toNat,BitVec.setWidth_eq]
 exact congrArg (fun n:Nat=>(n:Int) % 4294967296) (hb (BitVec.ofInt 32 x ||| BitVec.ofInt 32 y))
def rotr (x:Int) (n m:Int):Int:=orV .u32 (shrV .u32 x n) (shlV .u32 x m)
theorem znM (x:Int):(f162 x [7,18] = some (xorV .u32 (rotr x 7 25) (rotr x 18 14),()))∧(f162 x [17,19] = some (xorV .u32 (rotr x 17 15) (rotr x 19 13),())):=by
 constructor
 ·have h:f162 x [7,18] = some (xorV .u32 (xorV .u32 0 (orV .u32 (shlV .u32 x 25) (shrV .u32 x 7))) (orV .u32 (shlV .u32 x 14) (shrV .u32 x 18)),()):=by kernel_rfl
  rw [h,zcV,zbX,zbX .u32 (shlV .u32 x 14)]
  rfl
 ·have h:f162 x [17,19] = some (xorV .u32 (xorV .u32 0 (orV .u32 (shlV .u32 x 15) (shrV .u32 x 17))) (orV .u32 (shlV .u32 x 13) (shrV .u32 x 19)),()):=by kernel_rfl
  rw [h,zcV,zbX,zbX .u32 (shlV .u32 x 13)]
  rfl
theorem znN (x:Int):(f162 x [6,11,25] = some (xorV .u32 (xorV .u32 (rotr x 6 26) (rotr x 11 21)) (rotr x 25 7),()))∧(f162 x [2,13,22] = some (xorV .u32 (xorV .u32 (rotr x 2 30) (rotr x 13 19)) (rotr x 22 10),())):=by
 constructor
 ·have h:f162 x [6,11,25] = some (xorV .u32 (xorV .u32 (xorV .u32 0 (orV .u32 (shlV .u32 x 26) (shrV .u32 x 6))) (orV .u32 (shlV .u32 x 21) (shrV .u32 x 11))) (orV .u32 (shlV .u32 x 7) (shrV .u32 x 25)),()):=by kernel_rfl
  rw [h,zcV,zbX,zbX .u32 (shlV .u32 x 21),zbX .u32 (shlV .u32 x 7)]
  rfl
 ·have h:f162 x [2,13,22] = some (xorV .u32 (xorV .u32 (xorV .u32 0 (orV .u32 (shlV .u32 x 30) (shrV .u32 x 2))) (orV .u32 (shlV .u32 x 19) (shrV .u32 x 13))) (orV .u32 (shlV .u32 x 10) (shrV .u32 x 22)),()):=by kernel_rfl
  rw [h,zcV,zbX,zbX .u32 (shlV .u32 x 19),zbX .u32 (shlV .u32 x 10)]
  rfl
theorem zdP (x:Int):q192 x 7 = some (rotr x 7 25,())∧q192 x 18 = some (rotr x 18 14,())∧q192 x 17 = some (rotr x 17 15,())∧q192 x 19 = some (rotr x 19 13,()) ∧
  q192 x 6 = some (rotr x 6 26,())∧q192 x 11 = some (rotr x 11 21,())∧q192 x 25 = some (rotr x 25 7,())∧q192 x 2 = some (rotr x 2 30,())∧q192 x 13 = some (rotr x 13 19,())∧q192 x 22 = some (rotr x 22 10,()):=by
 refine ⟨?_,?_,?_,?_,?_,?_,?_,?_,?_,?_⟩ <;> kernel_rfl
theorem bindE {α β:Type} {o:Option α} {a:α} {f:α→Option β} {r:Option β} (h:o = some a) (h2:f a = r):o.bind f = r:=by rw [h]; exact h2
theorem rep_succ (n:Nat) (h:n < 64):List.replicate (64 - n) (0:Int) = 0 :: List.replicate (64 - (n + 1)) 0:=by
 have:64 - n = (64 - (n + 1)) + 1:=by omega
 rw [this,List.replicate_succ]
theorem set_mid (r s:List Int) (x y:Int) (n:Nat) (h:r.length = n):(r++y :: s).set n x = (r++[x])++s:=by
 subst h
 induction r with
 | nil=>rfl
 | cons a r ih=>simp
theorem znO (c h:List Int) (hc:c.length = 64):∀ (m n:Nat) (r:List Int),n + m = 16→r.length = n →
  ∃ r':List Int,r'.length = 16∧f161_l2 c (m + 1) n (r++List.replicate (64 - n) 0) = some ((),(),((r'++List.replicate 48 0,()),()))∧zg9 h c (m + 1) n r = some ((h,()),(),(r',()))
 | 0,n,r,hn,hr=>by
  have:n = 16:=by omega
  subst this
  refine ⟨r,hr,?_,?_⟩
  ·rfl
  ·rfl
 | m + 1,n,r,hn,hr=>by
  have hn':n < 16:=by omega
  have e0:IntKind.wrap .i64 ((4:Int) * (n:Int)) = 4 * n:=wrapS (by omega) (by omega)
  have e1:IntKind.wrap .i64 ((4:Int) * (n:Int) + 1) = 4 * n + 1:=wrapS (by omega) (by omega)
  have e2:IntKind.wrap .i64 ((4:Int) * (n:Int) + 2) = 4 * n + 2:=wrapS (by omega) (by omega)
  have e3:IntKind.wrap .i64 ((4:Int) * (n:Int) + 3) = 4 * n + 3:=wrapS (by omega) (by omega)
  have e4:IntKind.wrap .i64 ((n:Int) + 1) = ((n + 1:Nat):Int):=by rw [wrapS (by omega) (by omega)]; omega
  have i0:inR ((4:Int) * n) 64 = true:=zbg (by omega) (by omega)
  have i1:inR ((4:Int) * n + 1) 64 = true:=zbg (by omega) (by omega)
  have i2:inR ((4:Int) * n + 2) 64 = true:=zbg (by omega) (by omega)
  have i3:inR ((4:Int) * n + 3) 64 = true:=zbg (by omega) (by omega)
  have i4:inR (n:Int) 64 = true:=zbg (by omega) (by omega)
  obtain ⟨r',k1,k2,k3⟩:=znO c h hc m (n + 1) (r++[_]) (by omega) (by simp [hr])
  refine ⟨r',k1,?_,?_⟩
  ·rw [f161_l2]
   simp only [decT (show (n:Int) < 16 by omega),cond_true,e0,e1,e2,e3,e4,hc,i0,i1,i2,i3,i4,Int.toNat_natCast]
   rw [rep_succ n (by omega),set_mid _ _ _ _ n hr]
   exact k2
  ·rw [zg9]
   have l:(r.length + 1≤zac):=by rw [hr]; unfold zac; omega
   simp only [decT (show (n:Int) < 16 by omega),cond_true,e0,e1,e2,e3,e4,hc,i0,i1,i2,i3,List.length_singleton,decT l]
   exact k3
theorem zhe {l:List Int} {i:Int} {z:List Int} (h:i.toNat < l.length):at_ (.int .u32) (l++z) i = at_ (.int .u32) l i:=zlt (T:=.int .u32) h
theorem znP (h:List Int):∀ (m n:Nat) (r:List Int),n + m = 64→16≤n→r.length = n →
  ∃ r':List Int,r'.length = 64∧f161_l7 (m + 1) n (r++List.replicate (64 - n) 0) = some ((),(),((r',()),()))∧zha h (m + 1) n r = some ((h,()),(),(r',()))
 | 0,n,r,hn,h16,hr=>by
  have:n = 64:=by omega
  subst this
  refine ⟨r,hr,?_,?_⟩
  ·have:r++List.replicate (64 - 64) (0:Int) = r:=by simp
   rw [this]
   rfl
  ·rfl
 | m + 1,n,r,hn,h16,hr=>by
  have hn':n < 64:=by omega
  have e1:IntKind.wrap .i64 ((n:Int) - 15) = n - 15:=wrapS (by omega) (by omega)
  have e2:IntKind.wrap .i64 ((n:Int) - 2) = n - 2:=wrapS (by omega) (by omega)
  have e3:IntKind.wrap .i64 ((n:Int) - 16) = n - 16:=wrapS (by omega) (by omega)
  have e5:IntKind.wrap .i64 ((n:Int) - 7) = n - 7:=wrapS (by omega) (by omega)
  have e4:IntKind.wrap .i64 ((n:Int) + 1) = ((n + 1:Nat):Int):=by rw [wrapS (by omega) (by omega)]; rfl
  have i1:inR ((n:Int) - 15) 64 = true:=zbg (by omega) (by omega)
  have i2:inR ((n:Int) - 2) 64 = true:=zbg (by omega) (by omega)
  have i3:inR ((n:Int) - 16) 64 = true:=zbg (by omega) (by omega)
  have i5:inR ((n:Int) - 7) 64 = true:=zbg (by omega) (by omega)
  have i4:inR (n:Int) 64 = true:=zbg (by omega) (by omega)
  have j1:inR ((n:Int) - 15) n = true:=zbg (by omega) (by omega)
  have j2:inR ((n:Int) - 2) n = true:=zbg (by omega) (by omega)
  have j3:inR ((n:Int) - 16) n = true:=zbg (by omega) (by omega)
  have j5:inR ((n:Int) - 7) n = true:=zbg (by omega) (by omega)
  have a1:at_ (.int .u32) (r++List.replicate (64 - n) 0) ((n:Int) - 15) = at_ (.int .u32) r ((n:Int) - 15):=zhe (by omega)
  have a2:at_ (.int .u32) (r++List.replicate (64 - n) 0) ((n:Int) - 2) = at_ (.int .u32) r ((n:Int) - 2):=zhe (by omega)
  have a3:at_ (.int .u32) (r++List.replicate (64 - n) 0) ((n:Int) - 16) = at_ (.int .u32) r ((n:Int) - 16):=zhe (by omega)
  have a5:at_ (.int .u32) (r++List.replicate (64 - n) 0) ((n:Int) - 7) = at_ (.int .u32) r ((n:Int) - 7):=zhe (by omega)
  obtain ⟨r',k1,k2,k3⟩:=znP h m (n + 1) (r++[_]) (by omega) (by omega) (by simp [hr])
  refine ⟨r',k1,?_,?_⟩
  ·rw [f161_l7]
   simp only [decT (show (n:Int) < 64 by omega),cond_true,e1,e2,e3,e4,e5,i1,i2,i3,i4,i5,a1,a2,a3,a5,(znM _).1,(znM _).2,Option.bind_some,Int.toNat_natCast]
   rw [rep_succ n (by omega),set_mid _ _ _ _ n hr]
   exact k2
  ·rw [zha]
   have l:(r.length + 1≤zac):=by rw [hr]; unfold zac; omega
   simp only [decT (show (n:Int) < 64 by omega),cond_true,e1,e2,e3,e4,e5,hr,j1,j2,j3,j5,(zdP _).1,(zdP _).2.1,(zdP _).2.2.1,(zdP _).2.2.2.1,Option.bind_some,List.length_singleton]
   rw [hr] at l
   simp only [decT l,cond_true]
   exact k3
theorem eight {l:List Int} (h:l.length = 8):∃ a b c d e f g i,l = [a,b,c,d,e,f,g,i]:=by
 match l,h with
 | [a,b,c,d,e,f,g,i],_=>exact ⟨a,b,c,d,e,f,g,i,rfl⟩
theorem zgA (h K b3 w:List Int) (hK:K.length = 64) (hw:w.length = 64):∀ (m n:Nat) (v:List Int),n + m = 64→v.length = 8 →
  ∃ v':List Int,v'.length = 8∧f116_l3 K b3 w (m + 1) n v = some ((),((),()),((b3,()),(v',()),()))∧zfi h K w (m + 1) v n = some ((h,v',()),(),())
 | 0,n,v,hn,hv=>by
  have:n = 64:=by omega
  subst this
  exact ⟨v,hv,rfl,rfl⟩
 | m + 1,n,v,hn,hv=>by
  have hn':n < 64:=by omega
  obtain ⟨a,b,c,d,e,f,g,i,rfl⟩:=eight hv
  have e4:IntKind.wrap .i64 ((n:Int) + 1) = ((n + 1:Nat):Int):=by rw [wrapS (by omega) (by omega)]; rfl
  have i4:inR (n:Int) 64 = true:=zbg (by omega) (by omega)
  obtain ⟨v',k1,k2,k3⟩:=zgA h K b3 w hK hw m (n + 1) [_,a,b,c,_,e,f,g] (by omega) rfl
  refine ⟨v',k1,?_,?_⟩
  ·rw [f116_l3]
   simp only [decT (show (n:Int) < 64 by omega),cond_true,i4,(znN _).1,(znN _).2,Option.bind_some,e4]
   exact k2
  ·rw [zfi]
   simp only [decT (show (n:Int) < 64 by omega),cond_true,hK,hw,i4,(zdP _).2.2.2.2.1,(zdP _).2.2.2.2.2.1,(zdP _).2.2.2.2.2.2.1,(zdP _).2.2.2.2.2.2.2.1,(zdP _).2.2.2.2.2.2.2.2.1,(zdP _).2.2.2.2.2.2.2.2.2,Option.bind_some,e4]
   exact k3
theorem added (h v:List Int) (hh:h.length = 8) (hv:v.length = 8):∃ r:List Int,r.length = 8∧f116_l12 v 9 0 h = some ((),((),()),((r,()),()))∧zhd h v 9 0 [] = some ((),(),(r,())):=by
 obtain ⟨a,b,c,d,e,f,g,i,rfl⟩:=eight hh
 obtain ⟨a',b',c',d',e',f',g',i',rfl⟩:=eight hv
 exact ⟨[IntKind.wrap .u32 (a + a'),IntKind.wrap .u32 (b + b'),IntKind.wrap .u32 (c + c'),IntKind.wrap .u32 (d + d'),IntKind.wrap .u32 (e + e'),IntKind.wrap .u32 (f + f'),IntKind.wrap .u32 (g + g'),IntKind.wrap .u32 (i + i')],rfl,by kernel_rfl,by kernel_rfl⟩
theorem zmS (h c:List Int) (hh:h.length = 8) (hc:c.length = 64):∃ r:List Int,r.length = 8∧f116 c h = some ((),((r,()),()))∧q139 h c = some (r,()):=by
 obtain ⟨w1,a1,a2,a3⟩:=znO c h hc 16 0 [] rfl rfl
 obtain ⟨w2,b1,b2,b3⟩:=znP h 48 16 w1 rfl (Nat.le_refl _) a1
 obtain ⟨v,c1,c2,c3⟩:=zgA h zbn h w2 (by kernel_rfl) b1 64 0 h rfl hh
 obtain ⟨r,d1,d2,d3⟩:=added h v hh c1
 refine ⟨r,d1,?_,?_⟩
 ·have e82:f161 c = some (w2,()):=by
   unfold f161
   exact bindE a2 (bindE b2 rfl)
  unfold f116
  exact bindE e82 (bindE c2 (bindE d2 rfl))
 ·unfold q139
  have e87:q193 = some (zbn,()):=by kernel_rfl
  have l:h.length≤zac:=by rw [hh]; unfold zac; omega
  refine bindE a3 (bindE b3 (bindE e87 ?_))
  show (bif decide (h.length≤zac) then _ else none) = _
  rw [decT l]
  exact bindE c3 (bindE d3 rfl)
theorem zh5 (b:List Int) (hb:b.length≤zac):∀ (m k n:Nat) (h:List Int),n + 64 * m = b.length→m < k→h.length = 8 →
  ∃ r:List Int,r.length = 8∧f160_l1x b 64 k n h = some ((),((),(),()),((),(r,()),()))∧zgz b k h n = some ((r,()),(),())
 | 0,0,n,h,_,hk,_=>by omega
 | 0,k + 1,n,h,hn,_,hh=>by
  refine ⟨h,hh,?_,?_⟩
  ·rw [f160_l1x]; rw [decF (by omega)]; rfl
  ·rw [zgz]; rw [decF (by omega)]; rfl
 | m + 1,0,n,h,_,hk,_=>by omega
 | m + 1,k + 1,n,h,hn,hk,hh=>by
  have hlim:b.length≤1073741824:=hb
  have e4:IntKind.wrap .i64 ((n:Int) + 64) = ((n + 64:Nat):Int):=by rw [wrapS (by omega) (by omega)]; rfl
  have hc:((b.take (n + 64)).drop n).length = 64:=by rw [List.length_drop,List.length_take]; omega
  obtain ⟨h',q1,q2,q3⟩:=zmS h _ hh hc
  obtain ⟨r,k1,k2,k3⟩:=zh5 b hb m k (n + 64) h' (by omega) (by omega) q1
  have dl:((b.drop n).length:Int) = ((b.length - n:Nat):Int):=by rw [List.length_drop]
  refine ⟨r,k1,?_,?_⟩
  ·rw [f160_l1x]
   have c1:cutOk b.length (some (n:Int)) none = true:=by unfold cutOk; simp; omega
   have c2:cutOk b.length (some (n:Int)) (some ((n + 64:Nat):Int)) = true:=by unfold cutOk; simp only [Bool.and_eq_true,decide_eq_true_eq]; omega
   have c3:(if ((b.length - n:Nat):Int) < 64 then ((b.length - n:Nat):Int) else 64) = 64:=by split <;> omega
   simp only [decT (show (n:Int) < b.length by omega),cond_true,c1,Int.toNat_natCast,dl,c3,e4,c2,decide_true,Bool.and_self,q2,Option.bind_some]
   exact k2
  ·rw [zgz]
   have c2:cutOk b.length (some (n:Int)) (some ((n + 64:Nat):Int)) = true:=by unfold cutOk; simp only [Bool.and_eq_true,decide_eq_true_eq]; omega
   simp only [decT (show (n:Int) < b.length by omega),cond_true,Int.toNat_natCast,e4,c2,q3,Option.bind_some]
   exact k3
theorem zoR (h:List Int) (hh:h.length = 8):∃ r:List Int,r.length = 32∧f117 h = some (ofBytes r,())∧zjZ h 9 0 [] = some ((),(),(r,())):=by
 obtain ⟨a,b,c,d,e,f,g,i,rfl⟩:=eight hh
 have hx:∃ r:List Int,zjZ [a,b,c,d,e,f,g,i] 9 0 [] = some ((),(),(r,()))∧r.length = 32∧f117 [a,b,c,d,e,f,g,i] = some (ofBytes r,()):=by
  refine ⟨[IntKind.wrap .u8 (shrV .u32 a 24),IntKind.wrap .u8 (shrV .u32 a 16),IntKind.wrap .u8 (shrV .u32 a 8),IntKind.wrap .u8 a,IntKind.wrap .u8 (shrV .u32 b 24),IntKind.wrap .u8 (shrV .u32 b 16),IntKind.wrap .u8 (shrV .u32 b 8),IntKind.wrap .u8 b,
   IntKind.wrap .u8 (shrV .u32 c 24),IntKind.wrap .u8 (shrV .u32 c 16),IntKind.wrap .u8 (shrV .u32 c 8),IntKind.wrap .u8 c,IntKind.wrap .u8 (shrV .u32 d 24),IntKind.wrap .u8 (shrV .u32 d 16),IntKind.wrap .u8 (shrV .u32 d 8),IntKind.wrap .u8 d,
   IntKind.wrap .u8 (shrV .u32 e 24),IntKind.wrap .u8 (shrV .u32 e 16),IntKind.wrap .u8 (shrV .u32 e 8),IntKind.wrap .u8 e,IntKind.wrap .u8 (shrV .u32 f 24),IntKind.wrap .u8 (shrV .u32 f 16),IntKind.wrap .u8 (shrV .u32 f 8),IntKind.wrap .u8 f,
   IntKind.wrap .u8 (shrV .u32 g 24),IntKind.wrap .u8 (shrV .u32 g 16),IntKind.wrap .u8 (shrV .u32 g 8),IntKind.wrap .u8 g,IntKind.wrap .u8 (shrV .u32 i 24),IntKind.wrap .u8 (shrV .u32 i 16),IntKind.wrap .u8 (shrV .u32 i 8),IntKind.wrap .u8 i],by kernel_rfl,rfl,?_⟩
  have h0:∀ y:Int,shrV .u32 y 0 = y:=fun y=>by simp [shrV,IntKind.bits]
  have hz:f117 [a,b,c,d,e,f,g,i] = some (ofBytes [IntKind.wrap .u8 (shrV .u32 a 24),IntKind.wrap .u8 (shrV .u32 a 16),IntKind.wrap .u8 (shrV .u32 a 8),IntKind.wrap .u8 (shrV .u32 a 0),IntKind.wrap .u8 (shrV .u32 b 24),IntKind.wrap .u8 (shrV .u32 b 16),IntKind.wrap .u8 (shrV .u32 b 8),IntKind.wrap .u8 (shrV .u32 b 0),
   IntKind.wrap .u8 (shrV .u32 c 24),IntKind.wrap .u8 (shrV .u32 c 16),IntKind.wrap .u8 (shrV .u32 c 8),IntKind.wrap .u8 (shrV .u32 c 0),IntKind.wrap .u8 (shrV .u32 d 24),IntKind.wrap .u8 (shrV .u32 d 16),IntKind.wrap .u8 (shrV .u32 d 8),IntKind.wrap .u8 (shrV .u32 d 0),
   IntKind.wrap .u8 (shrV .u32 e 24),IntKind.wrap .u8 (shrV .u32 e 16),IntKind.wrap .u8 (shrV .u32 e 8),IntKind.wrap .u8 (shrV .u32 e 0),IntKind.wrap .u8 (shrV .u32 f 24),IntKind.wrap .u8 (shrV .u32 f 16),IntKind.wrap .u8 (shrV .u32 f 8),IntKind.wrap .u8 (shrV .u32 f 0),
   IntKind.wrap .u8 (shrV .u32 g 24),IntKind.wrap .u8 (shrV .u32 g 16),IntKind.wrap .u8 (shrV .u32 g 8),IntKind.wrap .u8 (shrV .u32 g 0),IntKind.wrap .u8 (shrV .u32 i 24),IntKind.wrap .u8 (shrV .u32 i 16),IntKind.wrap .u8 (shrV .u32 i 8),IntKind.wrap .u8 (shrV .u32 i 0)],()):=by kernel_rfl
  rw [hz]
  simp only [h0]
 obtain ⟨r,h1,h2,h3⟩:=hx
 exact ⟨r,h2,h3,h1⟩
theorem toBytes_length (s:ByteArray):(zau s).length = s.size:=by
 unfold zau
 rw [List.length_map]
 exact Array.length_toList
theorem zlu (s:ByteArray) (n:Nat) (h:n < s.size):(zau s)[n]? = some (byteAt s n):=by
 have hl:n < s.data.toList.length:=by rw [Array.length_toList]; exact h
 unfold zau byteAt
 rw [List.getElem?_map,List.getElem?_eq_getElem hl,Option.map_some,Int.toNat_natCast,List.getD_eq_getElem?_getD,List.getElem?_eq_getElem hl]
 rfl
theorem zlv (s:ByteArray) (hs:s.size≤1000000):∀ (m n:Nat),n + m = s.size→zeI s (m + 1) n ((zau s).take n) = some ((s,()),(),(zau s,()))
 | 0,n,hn=>by
  rw [zeI,decF (by omega)]
  have:(zau s).take n = zau s:=List.take_of_length_le (by rw [toBytes_length]; omega)
  rw [this]
  rfl
 | m + 1,n,hn=>by
  have e4:IntKind.wrap .i64 ((n:Int) + 1) = ((n + 1:Nat):Int):=by rw [wrapS (by omega) (by omega)]; rfl
  have hn2:n < (zau s).length:=by rw [toBytes_length]; omega
  have e5:(zau s).take n++[byteAt s n] = (zau s).take (n + 1):=by
   have h1:=zlu s n (by omega)
   rw [List.getElem?_eq_getElem hn2] at h1
   rw [List.take_succ_eq_append_getElem hn2,Option.some.inj h1]
  have l:((zau s).take n).length + 1≤zac:=by rw [List.length_take]; unfold zac; omega
  rw [zeI]
  simp only [decT (show (n:Int) < s.size by omega),cond_true,zbg (show (0:Int)≤n by omega) (show (n:Int) < s.size by omega),List.length_singleton,decT l,e4,e5]
  exact zlv s hs m (n + 1) (by omega)
theorem zoS (r:List Int):Int.tmod (r.length:Int) 64 = ((r.length % 64:Nat):Int):=rfl
theorem pad1 (s:ByteArray) (b3:List Int):∀ (k:Nat) (r:List Int),(120 - r.length % 64) % 64 < k→r.length + (120 - r.length % 64) % 64≤zac →
  ∃ r':List Int,r'.length = r.length + (120 - r.length % 64) % 64∧f97_l3 s b3 k r = some ((s,()),(),((b3,()),r',()))∧zfB s k r = some ((s,()),(),(r',()))
 | 0,r,hk,_=>by omega
 | k + 1,r,hk,hl=>by
  have ht:=zoS r
  by_cases h56:r.length % 64 = 56
  ·have hn:¬ Int.tmod (r.length:Int) 64 ≠ 56:=by omega
   refine ⟨r,by omega,?_,?_⟩
   ·rw [f97_l3,decF hn]; rfl
   ·rw [zfB,decF hn]; rfl
  ·have h1:Int.tmod (r.length:Int) 64 ≠ 56:=by omega
   have l:r.length + 1≤zac:=by omega
   have hlen:(r++[(0:Int)]).length = r.length + 1:=by simp
   obtain ⟨r',q1,q2,q3⟩:=pad1 s b3 k (r++[0]) (by rw [hlen]; omega) (by rw [hlen]; omega)
   refine ⟨r',by rw [q1,hlen]; omega,?_,?_⟩
   ·rw [f97_l3]
    simp only [decT h1,cond_true,List.length_singleton,decT l]
    exact q2
   ·rw [zfB]
    simp only [decT h1,cond_true,List.length_singleton,decT l]
    exact q3
theorem pad2 (s:ByteArray) (b3:List Int):∀ (m:Nat) (r:List Int),m≤8→r.length + m≤zac →
  ∃ r':List Int,r'.length = r.length + m∧f97_l6 s b3 (m + 1) ((m:Int) - 1) r = some ((),(),((b3,()),r',()))∧zfh s (m + 1) ((m:Int) - 1) r = some ((),(),(r',()))
 | 0,r,_,_=>⟨r,rfl,rfl,rfl⟩
 | m + 1,r,hm,hl=>by
  have e0:((m + 1:Nat):Int) - 1 = m:=by omega
  have e1:IntKind.wrap .i64 ((8:Int) * (m:Int)) = 8 * m:=wrapS (by omega) (by omega)
  have e2:IntKind.wrap .i64 ((m:Int) - 1) = m - 1:=wrapS (by omega) (by omega)
  have l:r.length + 1≤zac:=by omega
  obtain ⟨r',q1,q2,q3⟩:=pad2 s b3 m (r++[IntKind.wrap .u8 (shrV .i64 (IntKind.wrap .i64 ((8:Int) * (s.size:Int))) (8 * (m:Int)))]) (by omega) (by rw [List.length_append,List.length_singleton]; omega)
  refine ⟨r',by rw [q1,List.length_append,List.length_singleton]; omega,?_,?_⟩
  ·rw [f97_l6,e0]
   simp only [decT (show (m:Int) ≥ 0 by omega),cond_true,e1,decT (show (0:Int)≤8 * m by omega),List.length_singleton,decT l,e2]
   exact q2
  ·rw [zfh,e0]
   simp only [decT (show (m:Int) ≥ 0 by omega),cond_true,e1,decT (show (0:Int)≤8 * m by omega),List.length_singleton,decT l,e2]
   exact q3
theorem zoT (s:ByteArray) (hs:s.size≤1000000):∃ r:List Int,r.length = 32∧f97 s = some (ofBytes r,())∧q89 s = some (ofBytes r,()):=by
 have hb:=toBytes_length s
 obtain ⟨h0,hh0⟩:∃ h0:List Int,h0 = [(1779033703:Int),(3144134277:Int),(1013904242:Int),(2773480762:Int),(1359893119:Int),(2600822924:Int),(528734635:Int),(1541459225:Int)]:=⟨_,rfl⟩
 have l1:(zau s).length + 1≤zac:=by rw [hb]; unfold zac; omega
 have hl1:(zau s++[(128:Int)]).length = s.size + 1:=by rw [List.length_append,hb]; rfl
 obtain ⟨r1,a1,a2,a3⟩:=pad1 s h0 64 (zau s++[128]) (by omega) (by rw [hl1]; unfold zac; omega)
 rw [hl1] at a1
 obtain ⟨r2,b1,b2,b3⟩:=pad2 s h0 8 r1 (Nat.le_refl _) (by rw [a1]; unfold zac; omega)
 have hm:∃ m,0 + 64 * m = r2.length:=⟨r2.length / 64,by rw [b1,a1]; omega⟩
 obtain ⟨m,hm⟩:=hm
 obtain ⟨h,c1,c2,c3⟩:=zh5 r2 (by rw [b1,a1]; unfold zac; omega) m (r2.length + 1) 0 h0 hm (by omega) (by rw [hh0]; rfl)
 obtain ⟨r,d1,d2,d3⟩:=zoR h c1
 have ec:(((r2.length:Int) - 0).toNat + 1) = r2.length + 1:=by omega
 refine ⟨r,d1,?_,?_⟩
 ·unfold f97
  simp only [List.length_singleton]
  rw [decT l1,cond_true,← hh0]
  refine bindE a2 (bindE b2 ?_)
  show (f160_l1x r2 64 (((r2.length:Int) - 0).toNat + 1) 0 h0).bind _ = _
  rw [ec]
  refine bindE c2 ?_
  exact bindE d2 rfl
 ·have e71:q138 s = some (r2,()):=by
   unfold q138
   have k1:zeI s (((s.size:Int) - 0).toNat + 1) 0 [] = some ((s,()),(),(zau s,())):=by
    have:((s.size:Int) - 0).toNat + 1 = s.size + 1:=by omega
    rw [this]
    exact zlv s hs s.size 0 (by omega)
   refine bindE k1 ?_
   show (bif decide ((zau s).length + 1≤zac) then _ else none) = _
   rw [decT l1,cond_true]
   exact bindE a3 (bindE b3 rfl)
  unfold q89
  refine bindE e71 ?_
  show (zgz r2 (((r2.length:Int) - 0).toNat + 1) _ 0).bind _ = _
  rw [ec,← hh0]
  refine bindE c3 ?_
  exact bindE d3 rfl
end Go.V.G
namespace Go.V.G
open Go.Proofs
namespace TR
abbrev Ent:=Int × (ByteArray × Unit)
theorem ofBytes_size (r:List Int):(ofBytes r).size = r.length:=by
 unfold ofBytes
 show (List.toArray _).size = _
 rw [List.size_toArray,List.length_map]
def sha (s:ByteArray):ByteArray :=
 match f97 s with
 | some y=>y.1
 | none=>⟨#[]⟩
theorem sha_spec (s:ByteArray) (hs:s.size≤1000000):f97 s = some (sha s,())∧q89 s = some (sha s,())∧(sha s).size = 32:=by
 obtain ⟨r,h1,h2,h3⟩:=zoT s hs
 have e:sha s = ofBytes r:=by unfold sha; rw [h2]
 rw [e]
 exact ⟨h2,h3,by rw [ofBytes_size,h1]⟩
def zeroD:ByteArray:=ofBytes (List.replicate 32 0)
theorem zero_eq:f108 = some (zeroD,())∧f34 = some (zeroD,()):=by constructor <;> kernel_rfl
theorem zero_size:zeroD.size = 32:=by kernel_rfl
def emp:ByteArray:=⟨#[]⟩
structure Valid (l:List Ent):Prop where
 key:∀ e∈l,0≤e.1∧e.1 < 64
 val:∀ e∈l,e.2.1.size ≠ 0∧e.2.1.size≤65536
 asc:l.Pairwise (fun a b=>a.1 < b.1)
theorem zlw:∀ (l:List Ent) (lo:Int),(∀ e∈l,lo≤e.1∧e.1 < 64)→l.Pairwise (fun a b=>a.1 < b.1)→lo≤64→(l.length:Int)≤64 - lo
 | [],lo,_,_,h=>by simp; omega
 | e :: l,lo,hk,ha,hlo=>by
  have h0:=hk e (by simp)
  rw [List.pairwise_cons] at ha
  have:=zlw l (e.1 + 1) (fun x hx=>⟨by have:=ha.1 x hx; omega,(hk x (by simp [hx])).2⟩) ha.2 (by omega)
  simp only [List.length_cons]
  omega
theorem Valid.len {l:List Ent} (h:Valid l):l.length≤64:=by
 have:=zlw l 0 h.key h.asc (by omega)
 omega
def atK:List Ent→Int→ByteArray
 | [],_=>emp
 | e :: l,k=>if e.1 = k then e.2.1 else atK l k
theorem zh6 {T:Ty} {l:List T.den} {n:Nat} {x:T.den} (h:l[n]? = some x):at_ T l (n:Int) = x:=by
 unfold at_
 rw [Int.toNat_natCast,List.getD_eq_getElem?_getD,h]
 rfl
abbrev TE:Ty:=.pair yI (.pair .str .unit)
def kb (k:Int):ByteArray:=ofBytes [2 * k]
theorem zob:∀ n:Nat,n < 64→f87 n = some (kb n,0,())∧True:=by
 have h:(List.range 64).all (fun n=>(match f87 n with | some (s,e,_)=>decide (s = kb n) && decide (e = 0) | none=>false)) = true:=by kernel_rfl
 intro n hn
 have h1:=List.all_eq_true.1 h n (List.mem_range.2 hn)
 refine ⟨?_,trivial⟩
 split at h1
 ·rename_i s e u heq
  simp only [Bool.and_eq_true,decide_eq_true_eq] at h1
  rw [heq,h1.1,h1.2]
 ·cases h1
def leafS (k:Int) (v:ByteArray):ByteArray:=((⟨#[8]⟩:ByteArray)++kb k)++v
def leafD (k:Int) (v:ByteArray):ByteArray:=if v = emp then zeroD else sha (leafS k v)
def joinS (a b:ByteArray):ByteArray:=((⟨#[9]⟩:ByteArray)++a)++b
def joinD (a b:ByteArray):ByteArray:=if a = zeroD∧b = zeroD then zeroD else sha (joinS a b)
theorem zi4 (k:Int):(kb k).size = 1:=by unfold kb; rw [ofBytes_size]; rfl
theorem zgB (k:Int) (v:ByteArray):(leafS k v).size = v.size + 2:=by
 unfold leafS
 rw [ByteArray.size_append,ByteArray.size_append,zi4]
 show 1 + 1 + v.size = _
 omega
theorem zgC (a b:ByteArray):(joinS a b).size = a.size + b.size + 1:=by
 unfold joinS
 rw [ByteArray.size_append,ByteArray.size_append]
 show 1 + a.size + b.size = _
 omega
theorem catOk_of {x y:ByteArray} (h:x.size + y.size≤2000000):catOk x y = true:=by
 unfold catOk
 exact zT (by omega)
theorem f66_eq (k:Nat) (hk:k < 64) (v:ByteArray) (hv:v.size≤65536):f109 k v = some (leafD k v,()):=by
 unfold f109 leafD
 by_cases he:v = emp
 ·rw [if_pos he]
  have:decide (v = (⟨#[]⟩:ByteArray)) = true:=zT he
  rw [this,cond_true]
  exact bindE zero_eq.1 rfl
 ·rw [if_neg he]
  have:decide (v = (⟨#[]⟩:ByteArray)) = false:=zF he
  rw [this,cond_false]
  refine bindE (zob k hk).1 ?_
  show (bif catOk (⟨#[8]⟩:ByteArray) (kb k) then (bif catOk ((⟨#[8]⟩:ByteArray)++kb k) v then _ else none) else none) = _
  rw [catOk_of (by rw [zi4]; decide),catOk_of (by rw [ByteArray.size_append,zi4]; show 1 + 1 + v.size≤_; omega),cond_true,cond_true]
  exact bindE (sha_spec (leafS k v) (by rw [zgB]; omega)).1 rfl
theorem f67_eq (a b:ByteArray) (ha:a.size≤100) (hb:b.size≤100):f110 a b = some (joinD a b,()):=by
 have c1:catOk (⟨#[9]⟩:ByteArray) a = true:=catOk_of (by show 1 + a.size≤_; omega)
 have c2:catOk ((⟨#[9]⟩:ByteArray)++a) b = true:=catOk_of (by rw [ByteArray.size_append]; show 1 + a.size + b.size≤_; omega)
 have hs:=(sha_spec (joinS a b) (by rw [zgC]; omega)).1
 unfold f110 joinD
 refine bindE zero_eq.1 ?_
 show (bif decide (a = zeroD) then _ else _) = _
 by_cases h1:a = zeroD
 ·rw [decT h1,cond_true]
  refine bindE zero_eq.1 ?_
  show (bif decide (b = zeroD) then _ else _) = _
  by_cases h2:b = zeroD
  ·rw [decT h2,cond_true,if_pos ⟨h1,h2⟩]
   exact bindE zero_eq.1 rfl
  ·rw [decF h2,cond_false,if_neg (fun h=>h2 h.2),c1,c2,cond_true,cond_true]
   exact bindE hs rfl
 ·rw [decF h1,cond_false,if_neg (fun h=>h1 h.1),c1,c2,cond_true,cond_true]
  exact bindE hs rfl
theorem zkI (k:Int) (v:ByteArray) (hv:v.size≤65536):(leafD k v).size = 32:=by
 unfold leafD
 split
 ·exact zero_size
 ·exact (sha_spec _ (by rw [zgB]; omega)).2.2
theorem zkJ (a b:ByteArray) (ha:a.size≤100) (hb:b.size≤100):(joinD a b).size = 32:=by
 unfold joinD
 split
 ·exact zero_size
 ·exact (sha_spec _ (by rw [zgC]; omega)).2.2
def D (l:List Ent):Nat→Int→ByteArray
 | 0,low=>leafD low (atK l low)
 | h + 1,low=>joinD (D l h low) (D l h (low + 2 ^ h))
theorem zmT {l:List Ent} (hv:∀ e∈l,e.2.1.size≤65536) (k:Int):(atK l k).size≤65536:=by
 induction l with
 | nil=>show (0:Nat)≤_; omega
 | cons e l ih =>
  unfold atK
  split
  ·exact hv e (by simp)
  ·exact ih (fun x hx=>hv x (by simp [hx]))
theorem D_size {l:List Ent} (hv:∀ e∈l,e.2.1.size≤65536):∀ (h:Nat) (low:Int),(D l h low).size = 32
 | 0,low=>zkI _ _ (zmT hv low)
 | h + 1,low=>zkJ _ _ (by rw [D_size hv h low]; omega) (by rw [D_size hv h _]; omega)
end TR
end Go.V.G
namespace Go.V.G
open Go.Proofs
namespace TR
theorem zfj {α:Type} {l rest:List α} {n:Nat} {e:α} (h:l.drop n = e :: rest):n < l.length∧l[n]? = some e∧l.drop (n + 1) = rest:=by
 have hlt:n < l.length:=by
  have:=congrArg List.length h
  rw [List.length_drop,List.length_cons] at this
  omega
 refine ⟨hlt,?_,by rw [← List.drop_drop,h]; rfl⟩
 have:=congrArg (fun x=>x[0]?) h
 simpa using this
theorem zgD (n:Nat) (h:n≤1000000):IntKind.wrap .i64 ((n:Int) + 1) = ((n + 1:Nat):Int):=by rw [wrapS (by omega) (by omega)]; rfl
theorem keysOf (l:List Ent) (b:Bool) (hl:l.length≤1000000):∀ (rest:List Ent) (n m:Nat) (acc:List Int),l.drop n = rest→n≤l.length→rest.length < m→acc.length + rest.length≤1000000 →
  f105_l3_b5000 l l.length l b m n acc = some ((),((l,b,()),()),(acc++rest.map (·.1),()))
 | [],n,0,_,_,_,hm,_=>by simp at hm
 | [],n,m + 1,acc,hd,hn,_,_=>by
  have:l.length≤n:=List.drop_eq_nil_iff.1 hd
  rw [f105_l3_b5000,decF (by omega),List.map_nil,List.append_nil]
  rfl
 | e :: rest,n,0,_,_,_,hm,_=>by simp at hm
 | e :: rest,n,m + 1,acc,hd,hn,hm,ha=>by
  obtain ⟨hlt,hg,hd'⟩:=zfj hd
  have he:at_ TE l (n:Int) = e:=zh6 (T:=TE) hg
  have hi:inR (n:Int) l.length = true:=zbg (by omega) (by omega)
  simp only [List.length_cons] at hm ha
  have h42:f106 e = some (e.1,()):=rfl
  rw [f105_l3_b5000]
  simp only [decT (show (n:Int) < l.length by omega),cond_true,hi,he,h42,Option.bind_some,List.length_singleton,decT (show acc.length + 1≤zac by unfold zac; omega),zgD n (by omega)]
  rw [keysOf l b hl rest (n + 1) m (acc++[e.1]) hd' hlt (by omega) (by simp; omega)]
  rw [List.append_assoc]
  rfl
theorem zlx (ks:List Int) (hl:ks.length≤1000000) (hr:∀ k∈ks,0≤k∧k < 64) (ha:ks.Pairwise (· < ·)):∀ (rest:List Int) (n m:Nat),ks.drop n = rest→n≤ks.length→rest.length < m →
  f104_l2 ks ks ks.length m n = some (.inl ((),(),()))
 | [],n,0,_,_,hm=>by simp at hm
 | [],n,m + 1,hd,hn,_=>by
  have:ks.length≤n:=List.drop_eq_nil_iff.1 hd
  rw [f104_l2,decF (by omega)]
  rfl
 | k :: rest,n,0,_,_,hm=>by simp at hm
 | k :: rest,n,m + 1,hd,hn,hm=>by
  obtain ⟨hlt,hg,hd'⟩:=zfj hd
  have hk:at_ yI ks (n:Int) = k:=zh6 (T:=.int .i64) hg
  have hmem:k∈ks:=List.mem_of_getElem? hg
  have hkr:=hr k hmem
  have hi:inR (n:Int) ks.length = true:=zbg (by omega) (by omega)
  simp only [List.length_cons] at hm
  have ih:=zlx ks hl hr ha rest (n + 1) m hd' hlt (by omega)
  rw [f104_l2]
  simp only [decT (show (n:Int) < ks.length by omega),cond_true,hi,hk,decF (show ¬ k < 0 by omega),decF (show ¬ k ≥ 64 by omega),cond_false,zgD n (by omega)]
  cases n with
  | zero=>rw [decF (by omega)]; exact ih
  | succ n =>
   have hp:IntKind.wrap .i64 (((n + 1:Nat):Int) - 1) = (n:Int):=by rw [wrapS (by omega) (by omega)]; omega
   have hg2:ks[n]? = some ks[n]:=List.getElem?_eq_getElem (by omega)
   have hk2:at_ yI ks (n:Int) = ks[n]:=zh6 (T:=.int .i64) hg2
   have hlt2:ks[n] < k:=by
    have:=List.pairwise_iff_getElem.1 ha n (n + 1) (by omega) hlt (by omega)
    rw [List.getElem?_eq_getElem hlt] at hg
    rw [Option.some.inj hg] at this
    exact this
   rw [decT (by omega)]
   simp only [cond_true,hp,zbg (show (0:Int)≤n by omega) (show (n:Int) < ks.length by omega),hk2,decF (show ¬ k≤ks[n] by omega),cond_false]
   exact ih
theorem zh7 (l:List Ent) (hl:l.length≤1000000) (hv:∀ e∈l,e.2.1.size ≠ 0∧e.2.1.size≤65536) (a b c:Bool):∀ (rest:List Ent) (n m:Nat),l.drop n = rest→n≤l.length→rest.length < m →
  f121_l2x l l.length a b c m n = some (.inl ((),((a,()),(b,c,()),()),()))
 | [],n,0,_,_,hm=>by simp at hm
 | [],n,m + 1,hd,hn,_=>by
  have:l.length≤n:=List.drop_eq_nil_iff.1 hd
  rw [f121_l2x,decF (by omega)]
  rfl
 | e :: rest,n,0,_,_,hm=>by simp at hm
 | e :: rest,n,m + 1,hd,hn,hm=>by
  obtain ⟨hlt,hg,hd'⟩:=zfj hd
  have he:at_ TE l (n:Int) = e:=zh6 (T:=TE) hg
  have hi:inR (n:Int) l.length = true:=zbg (by omega) (by omega)
  have hve:=hv e (List.mem_of_getElem? hg)
  simp only [List.length_cons] at hm
  have h39:f103 e = some (false,()):=by
   unfold f103
   simp only [decF (show ¬ (e.2.1.size:Int) = 0 by omega),cond_false,decF (show ¬ (e.2.1.size:Int) > 65536 by omega)]
  rw [f121_l2x]
  simp only [decT (show (n:Int) < l.length by omega),cond_true,hi,he,h39,Option.bind_some,cond_false,zgD n (by omega)]
  exact zh7 l hl hv a b c rest (n + 1) m hd' hlt (by omega)
theorem len0 {α:Type} (l:List α):((l.length:Int) - 0).toNat + 1 = l.length + 1:=by omega
theorem f15_valid {l:List Ent} (h:Valid l):f91 l = some (true,()):=by
 have hl:=h.len
 have hk:=keysOf l false (by omega) l 0 (l.length + 1) [] rfl (by omega) (by omega) (by simp; omega)
 have hasc:(l.map (·.1)).Pairwise (· < ·):=by rw [List.pairwise_map]; exact h.asc
 have h40:f104 (l.map (·.1)) = some (true,()):=by
  unfold f104
  rw [len0]
  exact bindE (zlx (l.map (·.1)) (by simp; omega) (fun k hk=>by obtain ⟨e,he,rfl⟩:=List.mem_map.1 hk; exact h.key e he) hasc _ 0 _ rfl (by omega) (by simp)) rfl
 unfold f91
 rw [len0]
 refine bindE hk ?_
 refine bindE h40 ?_
 show (f121_l2x l l.length false false true (((l.length:Int) - 0).toNat + 1) 0).bind _ = _
 rw [len0]
 exact bindE (zh7 l (by omega) h.val false false true l 0 (l.length + 1) rfl (by omega) (by omega)) rfl
theorem at_set {l:List ByteArray} {n j:Nat} {x:ByteArray} (hn:n < l.length):at_ .str (l.set n x) (j:Int) = if n = j then x else at_ .str l (j:Int):=by
 unfold at_
 rw [Int.toNat_natCast,List.getD_eq_getElem?_getD,List.getElem?_set]
 by_cases h:n = j
 ·subst h; rw [if_pos rfl,if_pos rfl]; simp [hn]
 ·rw [if_neg h,if_neg h,List.getD_eq_getElem?_getD]
theorem zeros (l:List Ent) (s:ByteArray) (q:Int):∀ (m n:Nat) (b:List ByteArray),n + m = 64→b.length = 128→(∀ j,j < n→at_ .str b ((64 + j:Nat):Int) = zeroD) →
  ∃ b':List ByteArray,b'.length = 128∧(∀ j,j < 64→at_ .str b' ((64 + j:Nat):Int) = zeroD)∧f92_l3_b8000 l s q (m + 1) n b = some ((l,()),((s,q,()),()),((b',()),()))
 | 0,n,b,hn,hb,hz=>by
  have:n = 64:=by omega
  subst this
  exact ⟨b,hb,hz,rfl⟩
 | m + 1,n,b,hn,hb,hz=>by
  have e1:IntKind.wrap .i64 ((64:Int) + n) = ((64 + n:Nat):Int):=by rw [wrapS (by omega) (by omega)]; omega
  have i1:inR ((64 + n:Nat):Int) 128 = true:=zbg (by omega) (by omega)
  obtain ⟨b',k1,k2,k3⟩:=zeros l s q m (n + 1) (b.set (64 + n) zeroD) (by omega) (by simp [hb]) (fun j hj=>by
   rw [at_set (by omega)]
   split
   ·rfl
   ·exact hz j (by omega))
  refine ⟨b',k1,k2,?_⟩
  rw [f92_l3_b8000]
  simp only [decT (show (n:Int) < 64 by omega),cond_true,zero_eq.1,Option.bind_some,e1,i1,zgD n (by omega),Int.toNat_natCast]
  exact k3
theorem zmU (p:List Ent) (e:Ent) (j:Int) (hp:∀ x∈p,x.1 ≠ e.1):atK (p++[e]) j = if e.1 = j then e.2.1 else atK p j:=by
 induction p with
 | nil=>rfl
 | cons x p ih =>
  have hx:=hp x (by simp)
  have:=ih (fun y hy=>hp y (by simp [hy]))
  simp only [List.cons_append,atK]
  rw [this]
  by_cases h1:x.1 = j
  ·rw [if_pos h1,if_pos h1,if_neg (by omega)]
  ·rw [if_neg h1,if_neg h1]
theorem leaves {l:List Ent} (h:Valid l) (s:ByteArray) (q:Int):∀ (rest:List Ent) (n m:Nat) (b:List ByteArray),l.drop n = rest→n≤l.length→rest.length < m→b.length = 128 →
  (∀ j:Nat,j < 64→at_ .str b ((64 + j:Nat):Int) = leafD j (atK (l.take n) j)) →
  ∃ b':List ByteArray,b'.length = 128∧(∀ j:Nat,j < 64→at_ .str b' ((64 + j:Nat):Int) = leafD j (atK l j))∧f92_l8_b8000 l l.length s q m n b = some ((),((s,q,()),()),((b',()),()))
 | [],n,0,_,_,_,hm,_,_=>by simp at hm
 | [],n,m + 1,b,hd,hn,_,hb,hz=>by
  have hle:l.length≤n:=List.drop_eq_nil_iff.1 hd
  rw [List.take_of_length_le hle] at hz
  refine ⟨b,hb,hz,?_⟩
  rw [f92_l8_b8000,decF (by omega)]
  rfl
 | e :: rest,n,0,_,_,_,hm,_,_=>by simp at hm
 | e :: rest,n,m + 1,b,hd,hn,hm,hb,hz=>by
  obtain ⟨hlt,hg,hd'⟩:=zfj hd
  have hl:=h.len
  have he:at_ TE l (n:Int) = e:=zh6 (T:=TE) hg
  have hi:inR (n:Int) l.length = true:=zbg (by omega) (by omega)
  have hmem:e∈l:=List.mem_of_getElem? hg
  have hkey:=h.key e hmem
  have hval:=h.val e hmem
  obtain ⟨k,hk⟩:∃ k:Nat,e.1 = (k:Int):=⟨e.1.toNat,by omega⟩
  have hk64:k < 64:=by omega
  have e1:IntKind.wrap .i64 ((64:Int) + e.1) = ((64 + k:Nat):Int):=by rw [hk,wrapS (by omega) (by omega)]; omega
  have i1:inR ((64 + k:Nat):Int) 128 = true:=zbg (by omega) (by omega)
  have h66:=f66_eq k hk64 e.2.1 hval.2
  simp only [List.length_cons] at hm
  have htake:l.take (n + 1) = l.take n++[e]:=by
   rw [List.getElem?_eq_getElem hlt] at hg
   rw [List.take_succ_eq_append_getElem hlt,Option.some.inj hg]
  have hfresh:∀ x∈l.take n,x.1 ≠ e.1:=by
   intro x hx
   obtain ⟨i,hi2,hxi⟩:=List.mem_iff_getElem.1 hx
   rw [List.length_take] at hi2
   rw [List.getElem_take] at hxi
   have:=List.pairwise_iff_getElem.1 h.asc i n (by omega) hlt (by omega)
   rw [hxi] at this
   rw [List.getElem?_eq_getElem hlt] at hg
   rw [Option.some.inj hg] at this
   omega
  obtain ⟨b',k1,k2,k3⟩:=leaves h s q rest (n + 1) m (b.set (64 + k) (leafD k e.2.1)) hd' hlt (by omega) (by simp [hb]) (fun j hj=>by
   rw [at_set (by omega),htake,zmU _ _ _ hfresh]
   by_cases hjk:k = j
   ·subst hjk
    rw [if_pos rfl,if_pos hk]
   ·rw [if_neg (by omega),if_neg (by omega)]
    exact hz j hj)
  refine ⟨b',k1,k2,?_⟩
  rw [f92_l8_b8000]
  simp only [decT (show (n:Int) < l.length by omega),cond_true,hi,he]
  rw [hk] at e1 ⊢
  simp only [h66,Option.bind_some,e1,i1,cond_true,zgD n (by omega),Int.toNat_natCast]
  exact k3
def hgt (i:Nat):Nat:=6 - Nat.log2 i
theorem zly:∀ i:Nat,i < 64→1≤i→hgt i = hgt (2 * i) + 1∧hgt (2 * i + 1) = hgt (2 * i):=by
 have h:(List.range 64).all (fun i=>Nat.beq i 0 || (Nat.beq (hgt i) (hgt (2 * i) + 1) && Nat.beq (hgt (2 * i + 1)) (hgt (2 * i)))) = true:=by kernel_rfl
 intro i hi h1
 have:=List.all_eq_true.1 h i (List.mem_range.2 hi)
 simp only [Bool.or_eq_true,Bool.and_eq_true] at this
 rcases this with h | h
 ·have:=Nat.eq_of_beq_eq_true h; omega
 ·exact ⟨Nat.eq_of_beq_eq_true h.1,Nat.eq_of_beq_eq_true h.2⟩
theorem zmV:∀ j:Nat,j < 64→hgt (64 + j) = 0:=by
 have h:(List.range 64).all (fun i=>Nat.beq (hgt (64 + i)) 0) = true:=by kernel_rfl
 intro i hi
 exact Nat.eq_of_beq_eq_true (List.all_eq_true.1 h i (List.mem_range.2 hi))
def Nd (l:List Ent) (i:Nat):ByteArray:=D l (hgt i) ((i:Int) * 2 ^ hgt i - 64)
theorem zoc (l:List Ent) (j:Nat) (hj:j < 64):Nd l (64 + j) = leafD j (atK l j):=by
 unfold Nd
 rw [zmV j hj]
 have:(((64 + j:Nat):Int) * 2 ^ 0 - 64) = j:=by simp; omega
 rw [this]
 rfl
theorem zod (l:List Ent) (i:Nat) (h1:1≤i) (hi:i < 64):Nd l i = joinD (Nd l (2 * i)) (Nd l (2 * i + 1)):=by
 obtain ⟨e1,e2⟩:=zly i hi h1
 unfold Nd
 rw [e1,e2]
 have p:(2:Int) ^ (hgt (2 * i) + 1) = 2 ^ hgt (2 * i) * 2:=rfl
 have q1:((2 * i:Nat):Int) * 2 ^ hgt (2 * i) = (i:Int) * 2 ^ (hgt (2 * i) + 1):=by
  rw [p]
  have:((2 * i:Nat):Int) = (i:Int) * 2:=by omega
  rw [this,Int.mul_assoc,Int.mul_comm 2]
 have q2:((2 * i + 1:Nat):Int) * 2 ^ hgt (2 * i) = (i:Int) * 2 ^ (hgt (2 * i) + 1) + 2 ^ hgt (2 * i):=by
  have:((2 * i + 1:Nat):Int) = ((2 * i:Nat):Int) + 1:=by omega
  rw [this,Int.add_mul,q1,Int.one_mul]
 rw [q1,q2]
 show joinD _ _ = _
 congr 2
 omega
theorem zlz {l:List Ent} (hv:∀ e∈l,e.2.1.size≤65536) (i:Nat):(Nd l i).size = 32:=D_size hv _ _
theorem joins {l:List Ent} (hv:∀ e∈l,e.2.1.size≤65536) (s:ByteArray) (q:Int):∀ (i:Nat) (b:List ByteArray),i < 64→b.length = 128→(∀ j:Nat,i < j→j < 128→at_ .str b (j:Int) = Nd l j) →
  ∃ b':List ByteArray,b'.length = 128∧(∀ j:Nat,0 < j→j < 128→at_ .str b' (j:Int) = Nd l j)∧f92_l13_b8000 s q (i + 1) i b = some ((),((s,q,()),()),((b',()),()))
 | 0,b,_,hb,hz=>⟨b,hb,hz,rfl⟩
 | i + 1,b,hi,hb,hz=>by
  have e1:IntKind.wrap .i64 ((2:Int) * ((i + 1:Nat):Int)) = ((2 * (i + 1):Nat):Int):=by rw [wrapS (by omega) (by omega)]; omega
  have e2:IntKind.wrap .i64 (((2 * (i + 1):Nat):Int) + 1) = ((2 * (i + 1) + 1:Nat):Int):=zgD _ (by omega)
  have e3:IntKind.wrap .i64 (((i + 1:Nat):Int) - 1) = (i:Int):=by rw [wrapS (by omega) (by omega)]; omega
  have i1:inR ((2 * (i + 1):Nat):Int) 128 = true:=zbg (by omega) (by omega)
  have i2:inR ((2 * (i + 1) + 1:Nat):Int) 128 = true:=zbg (by omega) (by omega)
  have i3:inR ((i + 1:Nat):Int) 128 = true:=zbg (by omega) (by omega)
  have a1:=hz (2 * (i + 1)) (by omega) (by omega)
  have a2:=hz (2 * (i + 1) + 1) (by omega) (by omega)
  have h67:=f67_eq (Nd l (2 * (i + 1))) (Nd l (2 * (i + 1) + 1)) (by rw [zlz hv]; omega) (by rw [zlz hv]; omega)
  rw [← zod l (i + 1) (by omega) hi] at h67
  obtain ⟨b',k1,k2,k3⟩:=joins hv s q i (b.set (i + 1) (Nd l (i + 1))) (by omega) (by simp [hb]) (fun j hj hj2=>by
   rw [at_set (by omega)]
   split
   ·rename_i h; subst h; rfl
   ·exact hz j (by omega) hj2)
  refine ⟨b',k1,k2,?_⟩
  rw [f92_l13_b8000]
  simp only [decT (show ((i + 1:Nat):Int) > 0 by omega),cond_true,e1,e2,i1,i2,i3,a1,a2,h67,Option.bind_some,e3,Int.toNat_natCast]
  exact k3
theorem take0 (l:List Ent) (j:Int):atK (l.take 0) j = emp:=rfl
def rootD (l:List Ent):ByteArray:=D l 6 0
set_option maxRecDepth 100000 in
theorem f13_eq {l:List Ent} (h:Valid l):f74 l = some (rootD l,0,()):=by
 have hv:∀ e∈l,e.2.1.size≤65536:=fun e he=>(h.val e he).2
 obtain ⟨b1,a1,a2,a3⟩:=zeros l emp 0 64 0 (List.replicate 128 emp) rfl (by simp) (fun j hj=>by omega)
 obtain ⟨b2,c1,c2,c3⟩:=leaves h emp 0 l 0 (l.length + 1) b1 rfl (by omega) (by omega) a1 (fun j hj=>by rw [take0,a2 j hj]; unfold leafD; rw [if_pos rfl])
 obtain ⟨b3,d1,d2,d3⟩:=joins hv emp 0 63 b2 (by omega) c1 (fun j hj hj2=>by
  have:=c2 (j - 64) (by omega)
  have e:64 + (j - 64) = j:=by omega
  rw [e] at this
  rw [this,← zoc l (j - 64) (by omega),e])
 unfold f74
 refine bindE (f15_valid h) ?_
 simp only [Bool.not_true,cond_false]
 rw [show ((64:Int) - 0).toNat + 1 = 64 + 1 from rfl]
 refine bindE (show f92_l3_b8000 l ⟨#[]⟩ 0 (64 + 1) 0 (List.replicate 128 ⟨#[]⟩) = some ((l,()),((emp,0,()),()),((b1,()),())) from a3) ?_
 simp only
 rw [len0]
 refine bindE c3 ?_
 simp only
 rw [show (63:Int).toNat + 1 = 63 + 1 from rfl]
 refine bindE (show f92_l13_b8000 emp 0 (63 + 1) 63 b2 = some ((),((emp,0,()),()),((b3,()),())) from d3) ?_
 simp only
 have hr:at_ .str b3 (1:Int) = rootD l:=by
  have:=d2 1 (by omega) (by omega)
  rw [show ((1:Nat):Int) = 1 from rfl] at this
  rw [this]
  rfl
 show (bif inR (1:Int) 128 then some (at_ .str b3 1,(0:Int),()) else none) = _
 rw [hr]
 rfl
end TR
end Go.V.G
namespace Go.V.G
open Go.Proofs
def hdr:List Ye:=[((63:Int),(⟨#[0,0]⟩:ByteArray),())]
theorem zi5:∃ r,f74 hdr = some (r,0,())∧r.size = 32:=by
 have h:TR.Valid hdr:=⟨by simp [hdr],by simp [hdr]; decide,by simp [hdr]⟩
 exact ⟨_,TR.f13_eq h,TR.D_size (fun e he=>(h.val e he).2) _ _⟩
noncomputable def rootH:ByteArray:=Classical.choose zi5
theorem zmW:f74 hdr = some (rootH,0,()):=(Classical.choose_spec zi5).1
def zj0:tysDen [(.sl yE)]:=(hdr,())
noncomputable def zlA:tysDen [.str,.int .i64]:=(rootH,(0:Int),())
theorem zmX (l:List Ye) (r:ByteArray) (h:f74 l = some (r,0,())):f74s.fn (l,()) = some (r,(0:Int),()):=h
theorem zoe:f74s.fn zj0 = some zlA:=zmX hdr rootH zmW
noncomputable def c74s:PSpec:={ args:=[(.sl yE)],res:=[.str,.int .i64],fn:=fun x=>bif zaw [(.sl yE)] x zj0 then some zlA else none }
theorem c74p:zbh Tryz.prog cfg 65 c74s:=fun fz w args x y hG hf ha hy=>f74p fz w args x y hG hf ha (by
 change (bif zaw [(.sl yE)] x zj0 then some zlA else none) = some y at hy
 cases h0:zaw [(.sl yE)] x zj0
 case true =>
  rw [h0,cond_true] at hy
  rw [zaD h0]
  exact zoe.trans hy
 rw [h0,cond_false] at hy
 exact absurd hy (by simp))
theorem c74n:zQ 65:=zN Tryz.func65
noncomputable def c76c:Code:=Tryz.f67.body.getD .skip
noncomputable def c76e:Env0:={ C:=cfg,P:=[(157,f157s),(65,c74s)],L:=[],F:=[(67,Tryz.f67),(87,Tryz.f87),(91,Tryz.f91),(96,Tryz.f96),(101,Tryz.f101),(111,Tryz.f111),(112,Tryz.f112),(118,Tryz.f118),(143,Tryz.f143),(144,Tryz.f144),(145,Tryz.f145),(146,Tryz.f146),(147,Tryz.f147),(148,Tryz.f148),(149,Tryz.f149),(150,Tryz.f150),(151,Tryz.f151),(152,Tryz.f152),(153,Tryz.f153),(154,Tryz.f154),(155,Tryz.f155),(156,Tryz.f156),(173,Tryz.f173),(202,Tryz.f202),(226,Tryz.f226),(227,Tryz.f227),(228,Tryz.f228),(229,Tryz.f229),(230,Tryz.f230),(231,Tryz.f231),(291,Tryz.f291),(292,Tryz.f292)],fuel:=70,vary:=true,tot:=[(143,[4]),(145,[4]),(155,[3,11]),(229,[4])] }
def zj1:tysDen [yG]:=(([],[],[],()),())
noncomputable def zlB:tysDen [.str,.int .i64]:=(rootH,(0:Int),())
theorem zmY:runF c76e 67 Tryz.f67 c76c [yG] [.str,.int .i64] zj1 = some zlB:=by kernel_rfl
noncomputable def c76 (b0:Ty.den (yG)):Option (tysDen [.str,.int .i64]):=(fun x:tysDen [yG]=>bif zaw [yG] x zj1 then some zlB else none) (b0,())
noncomputable def c76s:PSpec:={ args:=[yG],res:=[.str,.int .i64],fn:=fun x=>c76 x.1 }
theorem c76n:zQ 67:=zN Tryz.func67
theorem c76k:zE c76e:=zO zce ⟨⟨f157p,f157n⟩,⟨c74p,c74n⟩,trivial⟩ trivial ⟨zK Tryz.func67,zK Tryz.func87,zK Tryz.func91,zK Tryz.func96,zK Tryz.func101,zK Tryz.func111,zK Tryz.func112,zK Tryz.func118,zK Tryz.func143,zK Tryz.func144,zK Tryz.func145,zK Tryz.func146,zK Tryz.func147,zK Tryz.func148,zK Tryz.func149,zK Tryz.func150,zK Tryz.func151,zK Tryz.func152,zK Tryz.func153,zK Tryz.func154,zK Tryz.func155,zK Tryz.func156,zK Tryz.func173,zK Tryz.func202,zK Tryz.func226,zK Tryz.func227,zK Tryz.func228,zK Tryz.func229,zK Tryz.func230,zK Tryz.func231,zK Tryz.func291,zK Tryz.func292,trivial⟩ trivial
theorem c76p:zbh Tryz.prog cfg 67 c76s:=zaX c76k (fn:=Tryz.f67) (c:=c76c) rfl rfl c76s (fun x y h=>by
 simp only [c76s,c76] at h
 change (bif zaw [yG] x zj1 then some zlB else none) = _ at h
 cases h0:zaw [yG] x zj1
 case true =>
  rw [h0,cond_true] at h
  cases h
  rw [zaD h0]
  exact zmY
 rw [h0,cond_false] at h
 cases h)
end Go.V.G
namespace Go.V.G
open Go.Proofs
noncomputable section
def f95 (a0:ByteArray):Option (ByteArray × Unit) :=
 (f159 ([a0]:List ByteArray) (⟨#[]⟩:ByteArray)).bind fun y1 =>
 bif (catOk (⟨#[0]⟩:ByteArray) y1.1) then
 (f97 ((⟨#[0]⟩:ByteArray)++y1.1)).bind fun y2 =>
 some (y2.1,())
 else none
def f95s:PSpec:={ args:=[.str],res:=[.str],fn:=fun x=>f95 x.1 }
noncomputable def f95c:Code:=Tryz.f92.body.getD .skip
noncomputable def f95e:Env0:={ C:=cfgF,P:=[(94,f97s),(159,f159s)],L:=[],F:=[(92,Tryz.f92),(113,Tryz.f113),(158,Tryz.f158)] }
theorem f95r:zR f95e 92 Tryz.f92 f95c f95s:=by intro x; kernel_rfl
theorem f95n:zQ 92:=zN Tryz.func92
theorem f95k:zE f95e:=zO zaf ⟨⟨f97p,f97n⟩,⟨f159p,f159n⟩,trivial⟩ trivial ⟨zK Tryz.func92,zK Tryz.func113,zK Tryz.func158,trivial⟩ trivial
theorem f95p:zU 92 f95s:=zP f95k Tryz.f92 f95c f95r
def f96 (a0:ByteArray) (a1:ByteArray):Option (ByteArray × Unit) :=
 (f159 ([a0,a1]:List ByteArray) (⟨#[]⟩:ByteArray)).bind fun y1 =>
 bif (catOk (⟨#[1]⟩:ByteArray) y1.1) then
 (f97 ((⟨#[1]⟩:ByteArray)++y1.1)).bind fun y2 =>
 some (y2.1,())
 else none
def f96s:PSpec:={ args:=[.str,.str],res:=[.str],fn:=fun x=>f96 x.1 x.2.1 }
noncomputable def f96c:Code:=Tryz.f93.body.getD .skip
noncomputable def f96e:Env0:={ C:=cfgF,P:=[(94,f97s),(159,f159s)],L:=[],F:=[(93,Tryz.f93),(113,Tryz.f113),(158,Tryz.f158)] }
theorem f96r:zR f96e 93 Tryz.f93 f96c f96s:=by intro x; kernel_rfl
theorem f96n:zQ 93:=zN Tryz.func93
theorem f96k:zE f96e:=zO zaf ⟨⟨f97p,f97n⟩,⟨f159p,f159n⟩,trivial⟩ trivial ⟨zK Tryz.func93,zK Tryz.func113,zK Tryz.func158,trivial⟩ trivial
theorem f96p:zU 93 f96s:=zP f96k Tryz.f93 f96c f96r
def f77_l8h:Ann:={ env:=[(3,.cst (.row 21 .whole)),(4,.cst (.row 24 .whole)),(7,YI),(11,.ty (.sl .str)),(12,YI),(13,YI)],bxs:=[(21,.row .str false),(24,.row yI false)] }
def f77_l8o:List (Ex × Ann):=[((.exit 2),{ env:=[(3,.cst (.row 21 .whole)),(4,.cst (.row 24 .whole)),(11,.ty (.sl .str)),(12,YI),(13,YI)],bxs:=[(21,.row .str false),(24,.row yI false)] })]
def f77_l8 (t11:(List ByteArray)) (t12:Int) (t13:Int):Nat→Int→(List ByteArray)→(List Int)→Option (outDen f77_l8o)
 | 0,_,_,_=>none
 | k + 1,t7,r21,r24 =>
 bif (decide (t7 > (1:Int))) then
 bif (inR (IntKind.wrap .i64 (t7 - (2:Int))) r24.length) then
 let v3:Int:=(at_ yI r24 (IntKind.wrap .i64 (t7 - (2:Int))))
 bif (inR (IntKind.wrap .i64 (t7 - (1:Int))) r24.length) then
 let v4:Int:=(at_ yI r24 (IntKind.wrap .i64 (t7 - (1:Int))))
 bif (decide (v3 = v4)) then
 bif (cutOk r21.length none (some (IntKind.wrap .i64 (t7 - (2:Int))))) then
 bif (inR (IntKind.wrap .i64 (t7 - (2:Int))) r21.length) then
 let v5:ByteArray:=(at_ .str r21 (IntKind.wrap .i64 (t7 - (2:Int))))
 bif (inR (IntKind.wrap .i64 (t7 - (1:Int))) r21.length) then
 let v6:ByteArray:=(at_ .str r21 (IntKind.wrap .i64 (t7 - (1:Int))))
 (f96 v5 v6).bind fun y7 =>
 bif (decide (((r21.drop 0).take (zah r21.length none (some (IntKind.wrap .i64 (t7 - (2:Int)))))).length + ([y7.1]:List ByteArray).length≤zac)) then
 bif (cutOk r24.length none (some (IntKind.wrap .i64 (t7 - (2:Int))))) then
 bif (inR (IntKind.wrap .i64 (t7 - (1:Int))) r24.length) then
 let v8:Int:=(at_ yI r24 (IntKind.wrap .i64 (t7 - (1:Int))))
 bif (decide (((r24.drop 0).take (zah r24.length none (some (IntKind.wrap .i64 (t7 - (2:Int)))))).length + ([(IntKind.wrap .i64 ((2:Int) * v8))]:List Int).length≤zac)) then f77_l8 t11 t12 t13 k (IntKind.wrap .i64 (t7 - (1:Int))) (((r21.drop 0).take (zah r21.length none (some (IntKind.wrap .i64 (t7 - (2:Int))))))++([y7.1]:List ByteArray)) (((r24.drop 0).take (zah r24.length none (some (IntKind.wrap .i64 (t7 - (2:Int))))))++([(IntKind.wrap .i64 ((2:Int) * v8))]:List Int)) else none
 else none
 else none
 else none
 else none
 else none
 else none
 else
 some ((t11,t12,t13,()),(),(r21,r24,()))
 else none
 else none
 else
 some ((t11,t12,t13,()),(),(r21,r24,()))
def f77_l8_n (n:Nat) (x:f77_l8h.den):=f77_l8 x.1.2.1 x.1.2.2.1 x.1.2.2.2.1 n x.1.1 x.2.2.1 x.2.2.2.1
def f77_l8s:LSpec:={ head:=f77_l8h,outs:=f77_l8o,fn:=fun x=>f77_l8_n (x.1.1.toNat + 1) x }
def f77_l4h:Ann:={ env:=[(3,.cst (.row 21 .whole)),(4,.cst (.row 24 .whole)),(11,.ty (.sl .str)),(12,YI),(13,YI)],bxs:=[(21,.row .str false),(24,.row yI false)] }
def f77_l4o:List (Ex × Ann):=[((.exit 0),{ env:=[(3,.cst (.row 21 .whole))],bxs:=[(21,.row .str false)] })]
def f77_l4:Nat→(List ByteArray)→Int→Int→(List ByteArray)→(List Int)→Option (outDen f77_l4o)
 | 0,_,_,_,_,_=>none
 | k + 1,t11,t12,t13,r21,r24 =>
 bif (decide (t13 < t12)) then
 bif (inR t13 t11.length) then
 (f95 (at_ .str t11 t13)).bind fun y1 =>
 bif (decide (r21.length + ([y1.1]:List ByteArray).length≤zac)) then
 bif (decide (r24.length + ([(1:Int)]:List Int).length≤zac)) then
 let v2:Int:=((r24++([(1:Int)]:List Int)).length:Int)
 (f77_l8 t11 t12 t13 (v2.toNat + 1) v2 (r21++([y1.1]:List ByteArray)) (r24++([(1:Int)]:List Int))).bind fun o9 =>
 let u10:(List ByteArray):=o9.1.1
 let u11:Int:=o9.1.2.1
 let u12:Int:=o9.1.2.2.1
 let u13:(List ByteArray):=o9.2.2.1
 let u14:(List Int):=o9.2.2.2.1
 f77_l4 k u10 u11 (IntKind.wrap .i64 (u12 + 1)) u13 u14
 else none
 else none
 else none
 else
 some ((),(),(r21,()))
def f77_l4_n (n:Nat) (x:f77_l4h.den):=f77_l4 n x.1.1 x.1.2.1 x.1.2.2.1 x.2.2.1 x.2.2.2.1
def f77_l4s:LSpec:={ thaws:=[.slot 3 21 .str,.slot 4 24 yI],head:=f77_l4h,outs:=f77_l4o,fn:=fun x=>f77_l4_n ((x.1.2.1 - x.1.2.2.1).toNat + 1) x }
def f118_l1xh:Ann:={ env:=[(0,.cst (.yld 917)),(1,cP 89001),(3,YI)],stk:=[[(0,.cst (.yld 917))],[(8,cP 8)]],bxs:=[(917,.loop false 68 17 [(8,cP 8)]),(89001,.var [.dyn (.win 21)]),(8,.var [.ty .str]),(21,.row .str false)] }
def f118_l1xo:List (Ex × Ann):=[((.exit 0),{ env:=[],stk:=[[(0,.cst (.yld 917))],[(8,cP 8)]],bxs:=[(917,.loop false 68 17 [(8,cP 8)]),(8,.var [.ty .str])] })]
def f118_l1x (b89001g0:Nat) (r21:(List ByteArray)):Nat→Int→ByteArray→Option (outDen f118_l1xo)
 | 0,_,_=>none
 | k + 1,t3,b8g0 =>
 bif (decide (t3 ≥ (0:Int))) then
 bif (inR t3 b89001g0) then
 (f96 (at_ .str r21 (0 + t3)) b8g0).bind fun y22 =>
 f118_l1x b89001g0 r21 k (IntKind.wrap .i64 (t3 - (1:Int))) y22.1
 else none
 else
 some ((),((),(),()),((),(b8g0,()),()))
def f118_l1x_n (n:Nat) (x:f118_l1xh.den):=f118_l1x x.2.2.2.1.1 x.2.2.2.2.2.1 n x.1.1 x.2.2.2.2.1.1
def f118_l1xs:LSpec:={ head:=f118_l1xh,outs:=f118_l1xo,fn:=fun x=>f118_l1x_n ((x.1.1 + 1).toNat + 1) x }
def f77 (a0:(List ByteArray)):Option (ByteArray × Unit) :=
 (f77_l4 (((a0.length:Int) - (0:Int)).toNat + 1) a0 (a0.length:Int) (0:Int) [] []).bind fun o15 =>
 let u16:(List ByteArray):=o15.2.2.1
 let v17:Bool:=(decide ((u16.length:Int) = (0:Int)))
 bif v17 then
 (f97 (⟨#[]⟩:ByteArray)).bind fun y18 =>
 some (y18.1,())
 else
 let v19:Int:=(IntKind.wrap .i64 ((u16.length:Int) - (1:Int)))
 bif (inR v19 u16.length) then
 let v20:Int:=(IntKind.wrap .i64 ((u16.length:Int) - (1:Int)))
 bif (cutOk u16.length none (some v20)) then
 let v21:Int:=(((u16.drop 0).take (zah u16.length none (some v20))).length:Int)
 (f118_l1x (zah u16.length none (some v20)) u16 (((IntKind.wrap .i64 (v21 - (1:Int))) + 1).toNat + 1) (IntKind.wrap .i64 (v21 - (1:Int))) (at_ .str u16 v19)).bind fun o23 =>
 let u24:ByteArray:=o23.2.2.2.1.1
 some (u24,())
 else none
 else none
def f77s:PSpec:={ args:=[(.sl .str)],res:=[.str],fn:=fun x=>f77 x.1 }
noncomputable def f77c:Code:=Tryz.f68.body.getD .skip
noncomputable def f77_code_117:Code:=Tryz.f117.body.getD .skip
noncomputable def f77e:Env0:={ C:=cfgF,P:=[(92,f95s),(93,f96s),(94,f97s)],L:=[(⟨12,0,68,8⟩,f77_l8s),(⟨12,0,68,4⟩,f77_l4s),(⟨11,917000,117,1⟩,f118_l1xs)],F:=[(68,Tryz.f68),(95,Tryz.f95),(117,Tryz.f117)] }
theorem f77_l8y:zan f77e 12 68 0 (zao f77c 8) f77_l8s :=
 zae (by kernel_rfl) f77_l8_n (fun x o h=>⟨_,h⟩) (fun x=>by kernel_rfl) (fun n x=>by kernel_rfl)
theorem f77_l4y:zan f77e 12 68 0 (zao f77c 4) f77_l4s :=
 zae (by kernel_rfl) f77_l4_n (fun x o h=>⟨_,h⟩) (fun x=>by kernel_rfl) (fun n x=>by kernel_rfl)
theorem f118_l1xy:zan f77e 11 117 917000 (zao f77_code_117 1) f118_l1xs :=
 zae (by kernel_rfl) f118_l1x_n (fun x o h=>⟨_,h⟩) (fun x=>by kernel_rfl) (fun n x=>by kernel_rfl)
theorem f77r:zR f77e 68 Tryz.f68 f77c f77s:=by intro x; kernel_rfl
theorem f77n:zQ 68:=zN Tryz.func68
theorem f77k:zE f77e:=zO zaf ⟨⟨f95p,f95n⟩,⟨f96p,f96n⟩,⟨f97p,f97n⟩,trivial⟩ trivial ⟨zK Tryz.func68,zK Tryz.func95,zK Tryz.func117,trivial⟩ ⟨⟨Tryz.f68,f77c,rfl,rfl,f77_l8y⟩,⟨Tryz.f68,f77c,rfl,rfl,f77_l4y⟩,⟨Tryz.f117,f77_code_117,rfl,rfl,f118_l1xy⟩,trivial⟩
theorem f77p:zU 68 f77s:=zP f77k Tryz.f68 f77c f77r
def f33 (a0:((List Yv) × ((List Yd) × ((List Int) × Unit)))) (a1:Yc):Option (ByteArray × Int × Unit) :=
 (c76 a0).bind fun y1 =>
 (f31 a1).bind fun y2 =>
 bif (decide (y1.2.1 ≠ (0:Int))) then
 some ((⟨#[]⟩:ByteArray),(160:Int),())
 else
 bif (decide (y2.2.1 ≠ (0:Int))) then
 some ((⟨#[]⟩:ByteArray),(160:Int),())
 else
 bif (cutOk 8 (some (1:Int)) none) then
 bif (decide (([y1.1]:List ByteArray).length + ((y2.1.drop (Int.toNat (1:Int))).take (zah 8 (some (1:Int)) none)).length≤zac)) then
 (f77 (([y1.1]:List ByteArray)++((y2.1.drop (Int.toNat (1:Int))).take (zah 8 (some (1:Int)) none)))).bind fun y3 =>
 some (y3.1,(0:Int),())
 else none
 else none
def f33s:PSpec:={ args:=[yG,yC],res:=[.str,yI],fn:=fun x=>f33 x.1 x.2.1 }
noncomputable def f33c:Code:=Tryz.f23.body.getD .skip
noncomputable def f33e:Env0:={ C:=cfgF,P:=[(21,f31s),(67,c76s),(68,f77s)],L:=[],F:=[(23,Tryz.f23)] }
theorem f33r:zR f33e 23 Tryz.f23 f33c f33s:=by intro x; kernel_rfl
theorem f33n:zQ 23:=zN Tryz.func23
theorem f33k:zE f33e:=zO zaf ⟨⟨f31p,f31n⟩,⟨c76p,c76n⟩,⟨f77p,f77n⟩,trivial⟩ trivial ⟨zK Tryz.func23,trivial⟩ trivial
theorem f33p:zU 23 f33s:=zP f33k Tryz.f23 f33c f33r
end
end Go.V.G
namespace Go.V.G
open Go.Proofs
def znQ (L:ByteArray→Option (ByteArray × Unit)) (N:ByteArray→ByteArray→Option (ByteArray × Unit)) (t11:(List ByteArray)) (t12:Int) (t13:Int):Nat→Int→(List ByteArray)→(List Int)→Option (outDen f77_l8o)
 | 0,_,_,_=>none
 | k + 1,t7,r21,r24 =>
  bif (decide (t7 > (1:Int))) then
   bif (inR (IntKind.wrap .i64 (t7 - (2:Int))) r24.length) then
    let v3:Int:=(at_ yI r24 (IntKind.wrap .i64 (t7 - (2:Int))))
    bif (inR (IntKind.wrap .i64 (t7 - (1:Int))) r24.length) then
     let v4:Int:=(at_ yI r24 (IntKind.wrap .i64 (t7 - (1:Int))))
     bif (decide (v3 = v4)) then
      bif (cutOk r21.length none (some (IntKind.wrap .i64 (t7 - (2:Int))))) then
       bif (inR (IntKind.wrap .i64 (t7 - (2:Int))) r21.length) then
        let v5:ByteArray:=(at_ .str r21 (IntKind.wrap .i64 (t7 - (2:Int))))
        bif (inR (IntKind.wrap .i64 (t7 - (1:Int))) r21.length) then
         let v6:ByteArray:=(at_ .str r21 (IntKind.wrap .i64 (t7 - (1:Int))))
         (N v5 v6).bind fun y7 =>
         bif (decide (((r21.drop 0).take (zah r21.length none (some (IntKind.wrap .i64 (t7 - (2:Int)))))).length + ([y7.1]:List ByteArray).length≤zac)) then
          bif (cutOk r24.length none (some (IntKind.wrap .i64 (t7 - (2:Int))))) then
           bif (inR (IntKind.wrap .i64 (t7 - (1:Int))) r24.length) then
            let v8:Int:=(at_ yI r24 (IntKind.wrap .i64 (t7 - (1:Int))))
            bif (decide (((r24.drop 0).take (zah r24.length none (some (IntKind.wrap .i64 (t7 - (2:Int)))))).length + ([(IntKind.wrap .i64 ((2:Int) * v8))]:List Int).length≤zac)) then znQ L N t11 t12 t13 k (IntKind.wrap .i64 (t7 - (1:Int))) (((r21.drop 0).take (zah r21.length none (some (IntKind.wrap .i64 (t7 - (2:Int))))))++([y7.1]:List ByteArray)) (((r24.drop 0).take (zah r24.length none (some (IntKind.wrap .i64 (t7 - (2:Int))))))++([(IntKind.wrap .i64 ((2:Int) * v8))]:List Int)) else none
           else none
          else none
         else none
        else none
       else none
      else none
     else
      some ((t11,t12,t13,()),(),(r21,r24,()))
    else none
   else none
  else
   some ((t11,t12,t13,()),(),(r21,r24,()))
def znR (L:ByteArray→Option (ByteArray × Unit)) (N:ByteArray→ByteArray→Option (ByteArray × Unit)):Nat→(List ByteArray)→Int→Int→(List ByteArray)→(List Int)→Option (outDen f77_l4o)
 | 0,_,_,_,_,_=>none
 | k + 1,t11,t12,t13,r21,r24 =>
  bif (decide (t13 < t12)) then
   bif (inR t13 t11.length) then
    (L (at_ .str t11 t13)).bind fun y1 =>
    bif (decide (r21.length + ([y1.1]:List ByteArray).length≤zac)) then
     bif (decide (r24.length + ([(1:Int)]:List Int).length≤zac)) then
      let v2:Int:=((r24++([(1:Int)]:List Int)).length:Int)
      (znQ L N t11 t12 t13 (v2.toNat + 1) v2 (r21++([y1.1]:List ByteArray)) (r24++([(1:Int)]:List Int))).bind fun o9 =>
      let u10:(List ByteArray):=o9.1.1
      let u11:Int:=o9.1.2.1
      let u12:Int:=o9.1.2.2.1
      let u13:(List ByteArray):=o9.2.2.1
      let u14:(List Int):=o9.2.2.2.1
      znR L N k u10 u11 (IntKind.wrap .i64 (u12 + (1:Int))) u13 u14
     else none
    else none
   else none
  else
   some ((),(),(r21,()))
def zdj (L:ByteArray→Option (ByteArray × Unit)) (N:ByteArray→ByteArray→Option (ByteArray × Unit)) (b89001g0:Nat) (r21:(List ByteArray)):Nat→Int→ByteArray→Option (outDen f118_l1xo)
 | 0,_,_=>none
 | k + 1,t3,b8g0 =>
  bif (decide (t3 ≥ (0:Int))) then
   bif (inR t3 b89001g0) then
    (N (at_ .str r21 (0 + t3)) b8g0).bind fun y22 =>
    zdj L N b89001g0 r21 k (IntKind.wrap .i64 (t3 - (1:Int))) y22.1
   else none
  else
   some ((),((),(),()),((),(b8g0,()),()))
def g77 (L:ByteArray→Option (ByteArray × Unit)) (N:ByteArray→ByteArray→Option (ByteArray × Unit)) (a0:(List ByteArray)):Option (ByteArray × Unit) :=
 (znR L N (((a0.length:Int) - (0:Int)).toNat + 1) a0 (a0.length:Int) (0:Int) [] []).bind fun o15 =>
 let u16:(List ByteArray):=o15.2.2.1
 let v17:Bool:=(decide ((u16.length:Int) = (0:Int)))
 bif v17 then
  (f97 (⟨#[]⟩:ByteArray)).bind fun y18 =>
  some (y18.1,())
 else
  let v19:Int:=(IntKind.wrap .i64 ((u16.length:Int) - (1:Int)))
  bif (inR v19 u16.length) then
   let v20:Int:=(IntKind.wrap .i64 ((u16.length:Int) - (1:Int)))
   bif (cutOk u16.length none (some v20)) then
    let v21:Int:=(((u16.drop 0).take (zah u16.length none (some v20))).length:Int)
    (zdj L N (zah u16.length none (some v20)) u16 (((IntKind.wrap .i64 (v21 - (1:Int))) + 1).toNat + 1) (IntKind.wrap .i64 (v21 - (1:Int))) (at_ .str u16 v19)).bind fun o23 =>
    let u24:ByteArray:=o23.2.2.2.1.1
    some (u24,())
   else none
  else none
theorem zoU:f77 = g77 f95 f96:=by kernel_rfl
def pad32 (b:ByteArray):ByteArray:=⟨((List.range 32).map (fun i=>b.data.toList.getD i 0)).toArray⟩
theorem zbY (b:ByteArray) (h:b.size = 32):pad32 b = b:=by
 have hl:b.data.toList.length = 32:=h
 unfold pad32
 apply ByteArray.ext
 apply Array.toList_inj.1
 show (List.range 32).map (fun i=>b.data.toList.getD i 0) = b.data.toList
 apply List.ext_getElem
 ·simp [hl]
 ·intro i h1 h2
  simp only [List.getElem_map,List.getElem_range]
  rw [List.getD_eq_getElem?_getD,List.getElem?_eq_getElem h2]
  rfl
theorem zkK (b:ByteArray):(pad32 b).size = 32:=by kernel_rfl
def Lc (lf:ByteArray→ByteArray) (F:ByteArray→Option (ByteArray × Unit)) (s:ByteArray):Option (ByteArray × Unit):=bif Nat.beq s.size 32 then some (pad32 (lf s),()) else F s
def Nc (nd:ByteArray→ByteArray→ByteArray) (F:ByteArray→ByteArray→Option (ByteArray × Unit)) (a b:ByteArray):Option (ByteArray × Unit):=bif Nat.beq a.size 32 && Nat.beq b.size 32 then some (pad32 (nd a b),()) else F a b
theorem zof (lf:ByteArray→ByteArray) (nd:ByteArray→ByteArray→ByteArray) (F:ByteArray→Option (ByteArray × Unit)) (G:ByteArray→ByteArray→Option (ByteArray × Unit)) (a b c d e f g h:ByteArray) :
  g77 (Lc lf F) (Nc nd G) [pad32 a,pad32 b,pad32 c,pad32 d,pad32 e,pad32 f,pad32 g,pad32 h] =
   some (pad32 (nd (pad32 (nd (pad32 (nd (pad32 (lf (pad32 a))) (pad32 (lf (pad32 b))))) (pad32 (nd (pad32 (lf (pad32 c))) (pad32 (lf (pad32 d))))))) (pad32 (nd (pad32 (nd (pad32 (lf (pad32 e))) (pad32 (lf (pad32 f))))) (pad32 (nd (pad32 (lf (pad32 g))) (pad32 (lf (pad32 h)))))))),()):=by kernel_rfl
end Go.V.G
namespace Go.V.G
open Go.Proofs
open Go.V.K
theorem join_one (s:ByteArray) (h:s.size = 32):∃ r,f159 [s] ⟨#[]⟩ = some (r,())∧r.size = 32:=by
 have e:Lib.join ([s].map (·.data.toList)) (⟨#[]⟩:ByteArray).data.toList = s.data.toList:=by simp [Lib.join]
 have hl:s.data.toList.length = 32:=h
 refine ⟨joinS [s] ⟨#[]⟩,?_,?_⟩
 ·unfold f159
  rw [e,hl]
  rfl
 ·show (Lib.join ([s].map (·.data.toList)) (⟨#[]⟩:ByteArray).data.toList).toArray.size = 32
  rw [e,List.size_toArray,hl]
theorem zmZ (a b:ByteArray) (h:a.size = 32) (h':b.size = 32):∃ r,f159 [a,b] ⟨#[]⟩ = some (r,())∧r.size = 64:=by
 have e:Lib.join ([a,b].map (·.data.toList)) (⟨#[]⟩:ByteArray).data.toList = a.data.toList++b.data.toList:=by simp [Lib.join]
 have hl:(a.data.toList++b.data.toList).length = 64:=by
  rw [List.length_append]
  have h1:a.data.toList.length = 32:=h
  have h2:b.data.toList.length = 32:=h'
  omega
 refine ⟨joinS [a,b] ⟨#[]⟩,?_,?_⟩
 ·unfold f159
  rw [e,hl]
  rfl
 ·show (Lib.join ([a,b].map (·.data.toList)) (⟨#[]⟩:ByteArray).data.toList).toArray.size = 64
  rw [e,List.size_toArray,hl]
theorem sha32 (s:ByteArray) (hs:s.size≤1000000):∃ r,f97 s = some (r,())∧r.size = 32:=⟨_,(TR.sha_spec s hs).1,(TR.sha_spec s hs).2.2⟩
theorem f95_32 (s:ByteArray) (h:s.size = 32):∃ r,f95 s = some (r,())∧r.size = 32:=by
 obtain ⟨t,h1,h2⟩:=join_one s h
 have h3:((⟨#[0]⟩:ByteArray)++t).size = 33:=by rw [ByteArray.size_append,h2]; rfl
 obtain ⟨r,h4,h5⟩:=sha32 ((⟨#[0]⟩:ByteArray)++t) (by omega)
 refine ⟨r,?_,h5⟩
 unfold f95
 refine zaa h1 ?_
 show (bif catOk (⟨#[0]⟩:ByteArray) t then _ else none) = _
 rw [TR.catOk_of (by rw [h2]; decide),cond_true]
 exact zaa h4 rfl
theorem f96_32 (a b:ByteArray) (h:a.size = 32) (h':b.size = 32):∃ r,f96 a b = some (r,())∧r.size = 32:=by
 obtain ⟨t,h1,h2⟩:=zmZ a b h h'
 have h3:((⟨#[1]⟩:ByteArray)++t).size = 65:=by rw [ByteArray.size_append,h2]; rfl
 obtain ⟨r,h4,h5⟩:=sha32 ((⟨#[1]⟩:ByteArray)++t) (by omega)
 refine ⟨r,?_,h5⟩
 unfold f96
 refine zaa h1 ?_
 show (bif catOk (⟨#[1]⟩:ByteArray) t then _ else none) = _
 rw [TR.catOk_of (by rw [h2]; decide),cond_true]
 exact zaa h4 rfl
noncomputable def lf (s:ByteArray):ByteArray:=match f95 s with | some y=>y.1 | none=>⟨#[]⟩
noncomputable def nd (a b:ByteArray):ByteArray:=match f96 a b with | some y=>y.1 | none=>⟨#[]⟩
theorem f95_L:f95 = Lc lf f95:=by
 funext s
 unfold Lc
 cases hb:Nat.beq s.size 32 with
 | true =>
  obtain ⟨r,h1,h2⟩:=f95_32 s (Nat.eq_of_beq_eq_true hb)
  have e:lf s = r:=by unfold lf; rw [h1]
  rw [cond_true,e,zbY r h2,h1]
 | false=>rfl
theorem f96_N:f96 = Nc nd f96:=by
 funext a b
 unfold Nc
 cases hb:Nat.beq a.size 32 && Nat.beq b.size 32 with
 | true =>
  rw [Bool.and_eq_true] at hb
  obtain ⟨r,h1,h2⟩:=f96_32 a b (Nat.eq_of_beq_eq_true hb.1) (Nat.eq_of_beq_eq_true hb.2)
  have e:nd a b = r:=by unfold nd; rw [h1]
  rw [cond_true,e,zbY r h2,h1]
 | false=>rfl
theorem f77_32 (a b c d e f g h:ByteArray) (ha:a.size = 32) (hb:b.size = 32) (hc:c.size = 32) (hd:d.size = 32) (he:e.size = 32) (hf:f.size = 32) (hg:g.size = 32) (hh:h.size = 32) :
  ∃ r,f77 [a,b,c,d,e,f,g,h] = some (r,())∧r.size = 32:=by
 have h0:=zof lf nd f95 f96 a b c d e f g h
 rw [← f95_L,← f96_N,← zoU,zbY a ha,zbY b hb,zbY c hc,zbY d hd,zbY e he,zbY f hf,zbY g hg,zbY h hh] at h0
 exact ⟨_,h0,zkK _⟩
def CA:Ct:=([[],[((1:Int),[1,0,-1],())],[],[],[],[],[],[]],())
def ent1:List Ye:=[((1:Int),(⟨#[6,2,0,1]⟩:ByteArray),())]
theorem zgE:TR.Valid ent1:=⟨by simp [ent1],by simp [ent1]; decide,by simp [ent1]⟩
theorem D_nil:∀ (h:Nat) (low:Int),TR.D [] h low = TR.zeroD
 | 0,low=>by simp [TR.D,TR.leafD,TR.atK]
 | h + 1,low=>by simp [TR.D,TR.joinD,D_nil h]
theorem f74_nil:f74 [] = some (TR.zeroD,(0:Int),()):=by
 have h:TR.Valid []:=⟨by simp,by simp,by simp⟩
 have h1:=TR.f13_eq h
 rw [h1]
 unfold TR.rootD
 rw [D_nil]
noncomputable def R1:ByteArray:=TR.rootD ent1
theorem f74_ent:f74 ent1 = some (R1,(0:Int),()):=TR.f13_eq zgE
theorem zlC:R1.size = 32:=TR.D_size (fun e he=>(zgE.val e he).2) _ _
theorem CA_sm:smC CA:=by simp [smC,smR,CA]
theorem zhf:zcQ CA = true:=by kernel_rfl
theorem f35_CA:f35 CA = some (true,()):=by rw [f35_eq CA CA_sm,zhf]
theorem f73_CA1:f73 CA 1 = some (ent1,(0:Int),()):=by
 unfold f73
 refine zaa f35_CA ?_
 kernel_rfl
theorem f73_CA2:f73 CA 2 = some ([],(0:Int),()):=by
 unfold f73
 refine zaa f35_CA ?_
 kernel_rfl
theorem f73_CA3:f73 CA 3 = some ([],(0:Int),()):=by
 unfold f73
 refine zaa f35_CA ?_
 kernel_rfl
theorem f73_CA4:f73 CA 4 = some ([],(0:Int),()):=by
 unfold f73
 refine zaa f35_CA ?_
 kernel_rfl
theorem f73_CA5:f73 CA 5 = some ([],(0:Int),()):=by
 unfold f73
 refine zaa f35_CA ?_
 kernel_rfl
theorem f73_CA6:f73 CA 6 = some ([],(0:Int),()):=by
 unfold f73
 refine zaa f35_CA ?_
 kernel_rfl
theorem f73_CA7:f73 CA 7 = some ([],(0:Int),()):=by
 unfold f73
 refine zaa f35_CA ?_
 kernel_rfl
theorem f31_r (q:Int) (h1:decide (q≤7) = true) (h2:inR q 8 = true) (l:List Ye) (r:ByteArray) (h3:f73 (CA.1,()) q = some (l,(0:Int),())) (h4:f74 l = some (r,(0:Int),())) (k:Nat) (z b:List ByteArray) :
  f31_l5 CA.1 z (k + 1) q b = f31_l5 CA.1 z k (IntKind.wrap .i64 (q + 1)) (b.set q.toNat r):=by
 conv=>lhs; unfold f31_l5
 rw [h1,cond_true,h3,Option.bind_some,h4,Option.bind_some,h2,cond_true]
theorem f31_end (k:Nat) (z b:List ByteArray):f31_l5 CA.1 z (k + 1) 8 b = some ((),(),((z,()),(b,()),())):=by
 conv=>lhs; unfold f31_l5
 rfl
theorem f31_all (R Z:ByteArray) (h1:f74 ent1 = some (R,(0:Int),())) (h2:f74 [] = some (Z,(0:Int),())) (z:List ByteArray) :
  f31_l5 CA.1 z 8 1 [⟨#[]⟩,⟨#[]⟩,⟨#[]⟩,⟨#[]⟩,⟨#[]⟩,⟨#[]⟩,⟨#[]⟩,⟨#[]⟩] = some ((),(),((z,()),([(⟨#[]⟩:ByteArray),R,Z,Z,Z,Z,Z,Z],()),())):=by
 have w:∀ q:Nat,q < 8→IntKind.wrap .i64 ((q:Int) + 1) = ((q + 1:Nat):Int):=fun q h=>wS q (by omega)
 have w1:IntKind.wrap .i64 ((1:Int) + 1) = 2:=w 1 (by decide)
 have w2:IntKind.wrap .i64 ((2:Int) + 1) = 3:=w 2 (by decide)
 have w3:IntKind.wrap .i64 ((3:Int) + 1) = 4:=w 3 (by decide)
 have w4:IntKind.wrap .i64 ((4:Int) + 1) = 5:=w 4 (by decide)
 have w5:IntKind.wrap .i64 ((5:Int) + 1) = 6:=w 5 (by decide)
 have w6:IntKind.wrap .i64 ((6:Int) + 1) = 7:=w 6 (by decide)
 have w7:IntKind.wrap .i64 ((7:Int) + 1) = 8:=w 7 (by decide)
 rw [f31_r 1 (by decide) (by decide) ent1 R f73_CA1 h1,w1]
 rw [f31_r 2 (by decide) (by decide) [] Z f73_CA2 h2,w2]
 rw [f31_r 3 (by decide) (by decide) [] Z f73_CA3 h2,w3]
 rw [f31_r 4 (by decide) (by decide) [] Z f73_CA4 h2,w4]
 rw [f31_r 5 (by decide) (by decide) [] Z f73_CA5 h2,w5]
 rw [f31_r 6 (by decide) (by decide) [] Z f73_CA6 h2,w6]
 rw [f31_r 7 (by decide) (by decide) [] Z f73_CA7 h2,w7]
 rw [f31_end]
 rfl
theorem f31_CA:f31 CA = some ([(⟨#[]⟩:ByteArray),R1,TR.zeroD,TR.zeroD,TR.zeroD,TR.zeroD,TR.zeroD,TR.zeroD],(0:Int),()):=by
 have h:=f31_all R1 TR.zeroD f74_ent f74_nil (List.replicate 8 (⟨#[]⟩:ByteArray))
 have hr:[(⟨#[]⟩:ByteArray),⟨#[]⟩,⟨#[]⟩,⟨#[]⟩,⟨#[]⟩,⟨#[]⟩,⟨#[]⟩,⟨#[]⟩] = List.replicate 8 (⟨#[]⟩:ByteArray):=rfl
 have hn:((8:Int) - (1:Int)).toNat + 1 = 8:=by decide
 rw [hr] at h
 unfold f31
 rw [f35_CA,Option.bind_some,hn,h]
 rfl
theorem zog:c76 ([],[],[],()) = some (rootH,(0:Int),()):=by kernel_rfl
theorem zkL:rootH.size = 32:=(Classical.choose_spec zi5).2
theorem f33_gen (a0:List Yv × (List Yd × (List Int × Unit))) (a1:Ct) (root e r1 r2 r3 r4 r5 r6 r7 W:ByteArray) (h1:c76 a0 = some (root,(0:Int),())) (h2:f31 a1 = some ([e,r1,r2,r3,r4,r5,r6,r7],(0:Int),())) (h3:f77 [root,r1,r2,r3,r4,r5,r6,r7] = some (W,())):f33 a0 a1 = some (W,(0:Int),()):=by
 have e1:zah 8 (some (1:Int)) none = 7:=by decide
 have e2:cutOk 8 (some (1:Int)) none = true:=by decide
 have e3:decide (1 + 7≤zac) = true:=by decide
 unfold f33
 rw [h1,Option.bind_some,h2,Option.bind_some,e1,e2]
 show (bif decide (1 + 7≤zac) then (f77 [root,r1,r2,r3,r4,r5,r6,r7]).bind _ else none) = _
 rw [e3,cond_true,h3]
 rfl
theorem f33_CA:∃ r,f33 ([],[],[],()) CA = some (r,(0:Int),())∧r.size = 32:=by
 obtain ⟨r,h1,h2⟩:=f77_32 rootH R1 TR.zeroD TR.zeroD TR.zeroD TR.zeroD TR.zeroD TR.zeroD zkL zlC TR.zero_size TR.zero_size TR.zero_size TR.zero_size TR.zero_size TR.zero_size
 exact ⟨r,f33_gen _ _ _ _ _ _ _ _ _ _ _ _ zog f31_CA h1,h2⟩
end Go.V.G
namespace Go.V.G
open Go.Proofs
def zlD:tysDen [(.pair (.sl yR) .unit)]:=(([((1:Int),(0:Int),false,[],true,[0,0,-1],()),((1:Int),(1:Int),true,[1,0,-1],true,[0,1,4],())],()),())
def c19s:PSpec:={ args:=[(.pair (.sl yR) .unit)],res:=[.bool],fn:=fun x=>bif zaw [(.pair (.sl yR) .unit)] x zlD then some (true,()) else none }
theorem c19p:zbh Tryz.prog cfg 28 c19s:=fun fz w args x y hG hf ha hy=>f19p fz w args x y hG hf ha (by
 change (bif zaw [(.pair (.sl yR) .unit)] x zlD then some (true,()) else none) = some y at hy
 cases h0:zaw [(.pair (.sl yR) .unit)] x zlD
 case true =>
  rw [h0,cond_true] at hy
  cases hy
  rw [zaD h0]
  exact (f19_eq _ (by simp [smD,smRl,K.bf,K.af])).trans (congrArg (fun b=>some (b,())) (by decide))
 rw [h0,cond_false] at hy
 cases hy)
theorem c19n:zQ 28:=zN Tryz.func28
noncomputable def c30c:Code:=Tryz.f9.body.getD .skip
noncomputable def c30e:Env0:={ C:=cfg,P:=[(85,f90s),(28,c19s),(35,f45s)],L:=[],F:=[(9,Tryz.f9),(45,Tryz.f45),(46,Tryz.f46),(47,Tryz.f47),(48,Tryz.f48),(49,Tryz.f49),(55,Tryz.f55)],fuel:=70,vary:=true,tot:=[(9,[8]),(47,[1])] }
def zj2:tysDen [.str,.int .i64]:=((⟨#[120,4,2,0,0,2,6,0,0,1,2,2,2,6,2,0,1,2,6,0,2,8]⟩:ByteArray),(1:Int),())
def zlE:tysDen [(.pair (.sl yR) .unit),.int .i64,.int .i64]:=(([((1:Int),(0:Int),false,[],true,[0,0,-1],()),((1:Int),(1:Int),true,[1,0,-1],true,[0,1,4],())],()),(22:Int),(0:Int),())
theorem zm0:runF c30e 9 Tryz.f9 c30c [.str,.int .i64] [(.pair (.sl yR) .unit),.int .i64,.int .i64] zj2 = some zlE:=by kernel_rfl
noncomputable def c30 (b0:Ty.den (.str)) (b1:Ty.den yI):Option (tysDen [(.pair (.sl yR) .unit),.int .i64,.int .i64]):=(fun x:tysDen [.str,.int .i64]=>bif zaw [.str,.int .i64] x zj2 then some zlE else none) (b0,b1,())
noncomputable def c30s:PSpec:={ args:=[.str,.int .i64],res:=[(.pair (.sl yR) .unit),.int .i64,.int .i64],fn:=fun x=>c30 x.1 x.2.1 }
theorem c30n:zQ 9:=zN Tryz.func9
theorem c30k:zE c30e:=zO zce ⟨⟨f90p,f90n⟩,⟨c19p,c19n⟩,⟨f45p,f45n⟩,trivial⟩ trivial ⟨zK Tryz.func9,zK Tryz.func45,zK Tryz.func46,zK Tryz.func47,zK Tryz.func48,zK Tryz.func49,zK Tryz.func55,trivial⟩ trivial
theorem c30p:zbh Tryz.prog cfg 9 c30s:=zaX c30k (fn:=Tryz.f9) (c:=c30c) rfl rfl c30s (fun x y h=>by
 simp only [c30s,c30] at h
 change (bif zaw [.str,.int .i64] x zj2 then some zlE else none) = _ at h
 cases h0:zaw [.str,.int .i64] x zj2
 case true =>
  rw [h0,cond_true] at h
  cases h
  rw [zaD h0]
  exact zm0
 rw [h0,cond_false] at h
 cases h)
end Go.V.G
namespace Go.V.G
open Go.Proofs
noncomputable def f122c:Code:=Tryz.f122.body.getD .skip
noncomputable def f122e:Env0:={ C:=cfg,P:=[],L:=[],F:=[(87,Tryz.f87),(96,Tryz.f96),(101,Tryz.f101),(111,Tryz.f111),(118,Tryz.f118),(122,Tryz.f122),(143,Tryz.f143),(144,Tryz.f144),(145,Tryz.f145),(146,Tryz.f146),(147,Tryz.f147),(148,Tryz.f148),(149,Tryz.f149),(150,Tryz.f150),(151,Tryz.f151),(152,Tryz.f152),(153,Tryz.f153),(154,Tryz.f154),(163,Tryz.f163),(166,Tryz.f166),(173,Tryz.f173),(202,Tryz.f202),(226,Tryz.f226),(227,Tryz.f227),(228,Tryz.f228),(229,Tryz.f229),(230,Tryz.f230),(231,Tryz.f231),(291,Tryz.f291),(292,Tryz.f292)],fuel:=64,vary:=true,tot:=[(143,[4]),(145,[4]),(163,[18,28]),(229,[4])] }
def f122_a0:tysDen [yG]:=(([((3:Int),(0:Int),())],[],[],()),())
def f122_r0:tysDen [(.sl yN),.int .i64]:=([((3:Int),[3,0,-1],())],(0:Int),())
theorem f122_run0:runF f122e 122 Tryz.f122 f122c [yG] [(.sl yN),.int .i64] f122_a0 = some f122_r0:=by kernel_rfl
def f122_a1:tysDen [yG]:=(([],[],[(1:Int)],()),())
def f122_r1:tysDen [(.sl yN),.int .i64]:=([],(70:Int),())
theorem f122_run1:runF f122e 122 Tryz.f122 f122c [yG] [(.sl yN),.int .i64] f122_a1 = some f122_r1:=by kernel_rfl
def f122s:PSpec:={ args:=[yG],res:=[(.sl yN),.int .i64],fn:=fun x=>bif zaw [yG] x f122_a0 then some f122_r0 else bif zaw [yG] x f122_a1 then some f122_r1 else none }
theorem f122n:zQ 122:=zN Tryz.func122
theorem f122k:zE f122e:=zO zce trivial trivial ⟨zK Tryz.func87,zK Tryz.func96,zK Tryz.func101,zK Tryz.func111,zK Tryz.func118,zK Tryz.func122,zK Tryz.func143,zK Tryz.func144,zK Tryz.func145,zK Tryz.func146,zK Tryz.func147,zK Tryz.func148,zK Tryz.func149,zK Tryz.func150,zK Tryz.func151,zK Tryz.func152,zK Tryz.func153,zK Tryz.func154,zK Tryz.func163,zK Tryz.func166,zK Tryz.func173,zK Tryz.func202,zK Tryz.func226,zK Tryz.func227,zK Tryz.func228,zK Tryz.func229,zK Tryz.func230,zK Tryz.func231,zK Tryz.func291,zK Tryz.func292,trivial⟩ trivial
theorem f122p:zbh Tryz.prog cfg 122 f122s:=zaX f122k (fn:=Tryz.f122) (c:=f122c) rfl rfl f122s (fun x y h=>by
 simp only [f122s] at h
 cases h0:zaw [yG] x f122_a0
 case true =>
  rw [h0,cond_true] at h
  cases h
  rw [zaD h0]
  exact f122_run0
 rw [h0,cond_false] at h
 cases h1:zaw [yG] x f122_a1
 case true =>
  rw [h1,cond_true] at h
  cases h
  rw [zaD h1]
  exact f122_run1
 rw [h1,cond_false] at h
 cases h)
end Go.V.G
namespace Go.V.G
open Go.Proofs
noncomputable def f125c:Code:=Tryz.f125.body.getD .skip
noncomputable def f125e:Env0:={ C:=cfg,P:=[],L:=[],F:=[(61,Tryz.f61),(87,Tryz.f87),(96,Tryz.f96),(101,Tryz.f101),(111,Tryz.f111),(118,Tryz.f118),(125,Tryz.f125),(143,Tryz.f143),(144,Tryz.f144),(145,Tryz.f145),(146,Tryz.f146),(147,Tryz.f147),(148,Tryz.f148),(149,Tryz.f149),(150,Tryz.f150),(151,Tryz.f151),(152,Tryz.f152),(153,Tryz.f153),(154,Tryz.f154),(167,Tryz.f167),(168,Tryz.f168),(169,Tryz.f169),(170,Tryz.f170),(171,Tryz.f171),(172,Tryz.f172),(173,Tryz.f173),(202,Tryz.f202),(226,Tryz.f226),(227,Tryz.f227),(228,Tryz.f228),(229,Tryz.f229),(230,Tryz.f230),(231,Tryz.f231),(236,Tryz.f236),(237,Tryz.f237),(238,Tryz.f238),(239,Tryz.f239),(291,Tryz.f291),(292,Tryz.f292)],fuel:=64,vary:=true,tot:=[(125,[12]),(143,[4]),(145,[4]),(167,[17,19]),(229,[4])] }
def f125_a0:tysDen [yG]:=(([((3:Int),(0:Int),())],[],[],()),())
def f125_r0:tysDen [(.sl yN),.int .i64]:=([((3:Int),[3,0,-1,0,-1,0,0],())],(0:Int),())
theorem f125_run0:runF f125e 125 Tryz.f125 f125c [yG] [(.sl yN),.int .i64] f125_a0 = some f125_r0:=by kernel_rfl
def f125s:PSpec:={ args:=[yG],res:=[(.sl yN),.int .i64],fn:=fun x=>bif zaw [yG] x f125_a0 then some f125_r0 else none }
theorem f125n:zQ 125:=zN Tryz.func125
theorem f125k:zE f125e:=zO zce trivial trivial ⟨zK Tryz.func61,zK Tryz.func87,zK Tryz.func96,zK Tryz.func101,zK Tryz.func111,zK Tryz.func118,zK Tryz.func125,zK Tryz.func143,zK Tryz.func144,zK Tryz.func145,zK Tryz.func146,zK Tryz.func147,zK Tryz.func148,zK Tryz.func149,zK Tryz.func150,zK Tryz.func151,zK Tryz.func152,zK Tryz.func153,zK Tryz.func154,zK Tryz.func167,zK Tryz.func168,zK Tryz.func169,zK Tryz.func170,zK Tryz.func171,zK Tryz.func172,zK Tryz.func173,zK Tryz.func202,zK Tryz.func226,zK Tryz.func227,zK Tryz.func228,zK Tryz.func229,zK Tryz.func230,zK Tryz.func231,zK Tryz.func236,zK Tryz.func237,zK Tryz.func238,zK Tryz.func239,zK Tryz.func291,zK Tryz.func292,trivial⟩ trivial
theorem f125p:zbh Tryz.prog cfg 125 f125s:=zaX f125k (fn:=Tryz.f125) (c:=f125c) rfl rfl f125s (fun x y h=>by
 simp only [f125s] at h
 cases h0:zaw [yG] x f125_a0
 case true =>
  rw [h0,cond_true] at h
  cases h
  rw [zaD h0]
  exact f125_run0
 rw [h0,cond_false] at h
 cases h)
end Go.V.G
