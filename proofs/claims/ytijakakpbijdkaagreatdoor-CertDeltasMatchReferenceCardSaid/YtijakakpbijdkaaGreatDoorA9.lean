/- Part of the proof. -/
import Derived.KernelRfl
import Derived.Test.YtijakakpbijdkaaGreatDoorA8
set_option linter.all false
set_option linter.unusedVariables false
set_option linter.unusedSectionVars false
set_option linter.unusedSimpArgs false
namespace Go.V.G
open Go.Proofs
open Go.V.K
section
variable {R B:Type}
def optStep (P:Nat→Option (List B)) (bad:List B→R) (j:Nat) (acc:List B):List B ⊕ R :=
 match P j with
 | some x=>.inl (acc++x)
 | none=>.inr (bad acc)
theorem rounds_opt (P:Nat→Option (List B)) (good bad:List B→R):∀ (m j:Nat) (acc:List B),
  ((List.range' j m).all (fun j=>(P j).isSome) = true∧rounds (optStep P bad) good m j acc = good (acc++(List.range' j m).flatMap (fun j=>(P j).getD []))) ∨
  ((List.range' j m).all (fun j=>(P j).isSome) = false∧∃ acc',rounds (optStep P bad) good m j acc = bad acc')
 | 0,j,acc=>.inl ⟨rfl,by simp [rounds]⟩
 | m + 1,j,acc=>by
  simp only [rounds,optStep,List.range'_succ,List.all_cons,List.flatMap_cons]
  cases h:P j with
  | none=>exact .inr ⟨by simp,acc,rfl⟩
  | some x =>
   simp only [Option.isSome_some,Bool.true_and,Option.getD_some]
   rcases rounds_opt P good bad m (j + 1) (acc++x) with ⟨h1,h2⟩ | ⟨h1,h2⟩
   ·exact .inl ⟨h1,by rw [h2,List.append_assoc]⟩
   ·exact .inr ⟨h1,h2⟩
end
abbrev tK:Ty:=.arr 2 yI
def kv (r:Rl):List Int × Rl:=([r.1,r.2.1],r)
theorem key_eq (a b:Int × Int):keyEq tK [a.1,a.2] [b.1,b.2] = decide (b = a):=by
 show decide (([a.1,a.2]:List Int) = [b.1,b.2]) = _
 rw [decide_eq_decide]
 simp only [List.cons.injEq,and_true]
 constructor
 ·rintro ⟨h1,h2⟩; exact Prod.ext h1.symm h2.symm
 ·rintro rfl; exact ⟨rfl,rfl⟩
theorem map_has (k:Int × Int):∀ (d:List Rl),mapHas tK tR (d.map kv) [k.1,k.2] = (fd d k).isSome∧∀ r,fd d k = some r→mapGet tK tR (d.map kv) [k.1,k.2] = r
 | []=>⟨rfl,fun r h=>by cases h⟩
 | x :: d=>by
  have e:keyEq tK [k.1,k.2] [x.1,x.2.1] = decide (kOf x = k):=key_eq k (kOf x)
  have ih:=map_has k d
  simp only [List.map_cons,kv,mapHas,mapGet,e]
  unfold fd
  rw [List.find?_cons]
  cases hx:decide (kOf x = k) with
  | true=>exact ⟨rfl,fun r h=>by simp at h; exact h⟩
  | false=>exact ih
theorem map_set:∀ (d:List Rl) (r:Rl),(∀ x∈d,kOf x ≠ kOf r)→mapSet tK tR (d.map kv) [r.1,r.2.1] r = (d++[r]).map kv
 | [],r,_=>rfl
 | x :: d,r,h=>by
  have e:keyEq tK [r.1,r.2.1] [x.1,x.2.1] = false:=by
   have:=key_eq (kOf r) (kOf x)
   rw [zF (show ¬ kOf x = kOf r from h x (by simp))] at this
   exact this
  simp only [List.map_cons,kv,mapSet,e,cond_false,List.cons_append]
  exact congrArg _ (map_set d r fun y hy=>h y (by simp [hy]))
theorem f50_eq (r:Rl):f50 r = some ([r.1,r.2.1],()):=rfl
theorem f49_l3_eq (d:List Rl) (hd:okD d) (hl:d.length≤1000000) (b:List (List Nm)) (z:Int) (k:Nat) (hk:d.length < k) :
  f49_l3x d (d.length:Int) b z k 0 [] = some ((),((),(),(),()),(d.map kv,(b,()),(),(z,()),())):=by
 have h:=loop_rounds d.length (fun j m=>m = (d.take j).map kv) (fun j m=>(.inl ((d.take (j + 1)).map kv):List (List Int × Rl) ⊕ outDen f49_l3x_outs)) (fun m=>((),((),(),(),()),(m,(b,()),(),(z,()),()))) (f49_l3x d (d.length:Int) b z) (by
  intro k j m hj hm
  conv=>lhs; unfold f49_l3x
  by_cases e:j < d.length
  ·simp only [Int.ofNat_lt,inRN,e,decide_true,cond_true,same_self,f50_eq,Option.bind_some,wS j (by omega),if_true]
   rw [atN tR d j e,hm]
   have hset:=map_set (d.take j) d[j] (fun x hx=>by
    obtain ⟨i,hi,rfl⟩:=List.mem_iff_getElem.1 hx
    rw [List.length_take] at hi
    have h1:lt2 (kOf d[i]) (kOf d[j]):=List.pairwise_iff_getElem.1 hd.2 i j (by omega) e (by omega)
    rw [List.getElem_take]
    intro e2
    rw [e2] at h1
    exact lt2_irr _ h1)
   rw [hset,← List.take_succ_eq_append_getElem e]
  ·simp only [Int.ofNat_lt,e,decide_false,cond_false,if_false]) (fun j m m' _ _ e=>by cases e; rfl) d.length k 0 [] (by omega) (by omega) hk (by simp)
 refine h.trans ?_
 have key:∀ (n j:Nat) (m:List (List Int × Rl)),j + n = d.length→m = (d.take j).map kv→rounds (fun j m=>(.inl ((d.take (j + 1)).map kv):List (List Int × Rl) ⊕ outDen f49_l3x_outs)) (fun m=>((),((),(),(),()),(m,(b,()),(),(z,()),()))) n j m = ((),((),(),(),()),(d.map kv,(b,()),(),(z,()),())):=by
  intro n
  induction n with
  | zero =>
   intro j m h1 h2
   subst h2
   rw [List.take_of_length_le (by omega)]
   rfl
  | succ n ih =>
   intro j m h1 h2
   exact ih (j + 1) _ (by omega) rfl
 exact congrArg some (key d.length 0 [] (by omega) rfl)
def patch1 (A:Int→Int→Lb) (d:List Rl) (k i:Int):Option Lb :=
 match fd d (k,i) with
 | some r=>if A k i = bf r then some (af r) else none
 | none=>some (A k i)
def cell (i:Int) (m:Lb):List Nm:=if m.1 then [(i,m.2,())] else []
def patchR (A:Int→Int→Lb) (d:List Rl) (k:Int) (j:Nat):Option (List Nm):=(patch1 A d k j).map (cell j)
def rowFit (A:Int→Int→Lb) (d:List Rl) (k:Int):Bool:=(List.range' 0 24).all fun j=>(patchR A d k j).isSome
def rowNew (A:Int→Int→Lb) (d:List Rl) (k:Int):List Nm:=(List.range' 0 24).flatMap fun j=>(patchR A d k j).getD []
theorem fd_sm {d:List Rl} (h:smD d) {k:Int × Int} {r:Rl} (hr:fd d k = some r):smRl r:=h.2 r (fd_some hr).1
theorem row1 (a:Ct) (ha:smC a) (d:List Rl) (hs:smD d) (z:Int)  (k:Nat) (hk:24 < k) :
  (rowFit (la a) d 1 = true∧f41_l4b a.1 z (d.map kv) k 0 [] = some ((fun acc:List Nm=>((.inl ((),((),(),(),()),((a.1,()),(),(),(z,()),d.map kv,acc,()))):outDen f41_l4b_outs)) (rowNew (la a) d 1))) ∨
  (rowFit (la a) d 1 = false∧∃ acc:List Nm,f41_l4b a.1 z (d.map kv) k 0 [] = some ((.inr ((),((),(),(),()),((),(z,()),acc,()))):outDen f41_l4b_outs)):=by
 have h:=loop_rounds 24 (fun j (acc:List Nm)=>acc.length≤j) (optStep (patchR (la a) d 1) (fun acc=>((.inr ((),((),(),(),()),((),(z,()),acc,()))):outDen f41_l4b_outs))) (fun acc=>(.inl ((),((),(),(),()),((a.1,()),(),(),(z,()),d.map kv,acc,())))) (f41_l4b a.1 z (d.map kv)) (by
  intro k j acc hj hacc
  conv=>lhs; unfold f41_l4b
  by_cases e:j < 24
  ·have e1:decide ((j:Int) < 24) = true:=by simp; omega
   have e3:f43 (a.1,()) [(1:Int),(j:Int)] = some (((la a 1 j).1,((la a 1 j).2,())),()):=f43_eq a ha 1 (by decide) j
   obtain ⟨m1,m2⟩:=map_has ((1:Int),(j:Int)) d
   have i0:inR (0:Int) 2 = true:=by decide
   have i1:inR (1:Int) 2 = true:=by decide
   have i2:inR (1:Int) 8 = true:=by decide
   simp only [e1,cond_true,e3,Option.bind_some,same_self,eqGate_self,i0,i1,i2,m1]
   refine Eq.trans ?_ (if_pos e).symm
   have ea:decide (acc.length + 1≤appLim) = true:=sm_app (by omega)
   unfold optStep patchR patch1 cell
   cases hf:fd d ((1:Int),(j:Int)) with
   | none =>
    have eb:decide ((la a 1 j).2.length≤appLim) = true:=sm_app (la_sm ha _ _)
    simp only [Option.isSome_none,cond_false,Option.map_some,wS j (by omega),f54,eb,cond_true,Option.bind_some,List.length_singleton,ea]
    cases (la a 1 j).1 with
    | true=>rfl
    | false =>
     simp only [Bool.false_eq_true,if_false,cond_false,List.append_nil]
     rfl
   | some r =>
    have hr:=fd_sm hs hf
    simp only [Option.isSome_some,cond_true,m2 r hf,wS j (by omega)]
    simp only [f52,f53,Option.bind_some]
    rw [f44_mk _ _ _ _ (la_sm ha 1 j)]
    by_cases hb:la a 1 j = bf r
    ·have hb2:((la a 1 j).1,(la a 1 j).2) = (r.2.2.1,r.2.2.2.1):=hb
     have eb:decide (r.2.2.2.2.2.1.length≤appLim) = true:=sm_app hr.2
     simp only [hb2,decide_true,Option.bind_some,Bool.not_true,cond_false,f54,eb,cond_true,List.length_singleton,ea]
     rw [if_pos hb]
     show (bif r.2.2.2.2.1 then _ else _) = _
     simp only [Option.map_some,af]
     cases r.2.2.2.2.1 with
     | true=>rfl
     | false =>
      simp only [Bool.false_eq_true,if_false,cond_false,List.append_nil]
      rfl
    ·have hb2:((la a 1 j).1,(la a 1 j).2) ≠ (r.2.2.1,r.2.2.2.1):=hb
     simp only [hb2,decide_false,Option.bind_some,Bool.not_false,cond_true]
     rw [if_neg hb]
     rfl
  ·have e1:decide ((j:Int) < 24) = false:=by simp; omega
   simp only [e1,cond_false]
   exact (if_neg e).symm) (fun j acc acc' _ h1 h2=>by
    unfold optStep at h2
    cases hp:patchR (la a) d 1 j with
    | none=>simp [hp] at h2
    | some x =>
     simp only [hp,Sum.inl.injEq] at h2
     subst h2
     have:x.length≤1:=by
      unfold patchR at hp
      obtain ⟨m,_,rfl⟩:=Option.map_eq_some_iff.1 hp
      unfold cell
      split <;> simp
     rw [List.length_append]
     omega) 24 k 0 [] (by omega) (by omega) hk (by simp)
 rcases rounds_opt (patchR (la a) d 1) (fun acc=>((.inl ((),((),(),(),()),((a.1,()),(),(),(z,()),d.map kv,acc,()))):outDen f41_l4b_outs)) (fun acc=>((.inr ((),((),(),(),()),((),(z,()),acc,()))):outDen f41_l4b_outs)) 24 0 [] with ⟨h1,h2⟩ | ⟨h1,acc,h2⟩
 ·exact .inl ⟨h1,h.trans (congrArg some h2)⟩
 ·exact .inr ⟨h1,acc,h.trans (congrArg some h2)⟩
theorem row2 (a:Ct) (ha:smC a) (d:List Rl) (hs:smD d) (z:Int) (p1:List Nm) (k:Nat) (hk:24 < k) :
  (rowFit (la a) d 2 = true∧f41_l4a a.1 z (d.map kv) p1 k 0 [] = some ((fun acc:List Nm=>((.inl ((),((),(),(),()),((a.1,()),(),(),(z,()),d.map kv,p1,acc,()))):outDen f41_l4a_outs)) (rowNew (la a) d 2))) ∨
  (rowFit (la a) d 2 = false∧∃ acc:List Nm,f41_l4a a.1 z (d.map kv) p1 k 0 [] = some ((.inr ((),((),(),(),()),((),(z,()),p1,acc,()))):outDen f41_l4a_outs)):=by
 have h:=loop_rounds 24 (fun j (acc:List Nm)=>acc.length≤j) (optStep (patchR (la a) d 2) (fun acc=>((.inr ((),((),(),(),()),((),(z,()),p1,acc,()))):outDen f41_l4a_outs))) (fun acc=>(.inl ((),((),(),(),()),((a.1,()),(),(),(z,()),d.map kv,p1,acc,())))) (f41_l4a a.1 z (d.map kv) p1) (by
  intro k j acc hj hacc
  conv=>lhs; unfold f41_l4a
  by_cases e:j < 24
  ·have e1:decide ((j:Int) < 24) = true:=by simp; omega
   have e3:f43 (a.1,()) [(2:Int),(j:Int)] = some (((la a 2 j).1,((la a 2 j).2,())),()):=f43_eq a ha 2 (by decide) j
   obtain ⟨m1,m2⟩:=map_has ((2:Int),(j:Int)) d
   have i0:inR (0:Int) 2 = true:=by decide
   have i1:inR (1:Int) 2 = true:=by decide
   have i2:inR (2:Int) 8 = true:=by decide
   simp only [e1,cond_true,e3,Option.bind_some,same_self,eqGate_self,i0,i1,i2,m1]
   refine Eq.trans ?_ (if_pos e).symm
   have ea:decide (acc.length + 1≤appLim) = true:=sm_app (by omega)
   unfold optStep patchR patch1 cell
   cases hf:fd d ((2:Int),(j:Int)) with
   | none =>
    have eb:decide ((la a 2 j).2.length≤appLim) = true:=sm_app (la_sm ha _ _)
    simp only [Option.isSome_none,cond_false,Option.map_some,wS j (by omega),f54,eb,cond_true,Option.bind_some,List.length_singleton,ea]
    cases (la a 2 j).1 with
    | true=>rfl
    | false =>
     simp only [Bool.false_eq_true,if_false,cond_false,List.append_nil]
     rfl
   | some r =>
    have hr:=fd_sm hs hf
    simp only [Option.isSome_some,cond_true,m2 r hf,wS j (by omega)]
    simp only [f52,f53,Option.bind_some]
    rw [f44_mk _ _ _ _ (la_sm ha 2 j)]
    by_cases hb:la a 2 j = bf r
    ·have hb2:((la a 2 j).1,(la a 2 j).2) = (r.2.2.1,r.2.2.2.1):=hb
     have eb:decide (r.2.2.2.2.2.1.length≤appLim) = true:=sm_app hr.2
     simp only [hb2,decide_true,Option.bind_some,Bool.not_true,cond_false,f54,eb,cond_true,List.length_singleton,ea]
     rw [if_pos hb]
     show (bif r.2.2.2.2.1 then _ else _) = _
     simp only [Option.map_some,af]
     cases r.2.2.2.2.1 with
     | true=>rfl
     | false =>
      simp only [Bool.false_eq_true,if_false,cond_false,List.append_nil]
      rfl
    ·have hb2:((la a 2 j).1,(la a 2 j).2) ≠ (r.2.2.1,r.2.2.2.1):=hb
     simp only [hb2,decide_false,Option.bind_some,Bool.not_false,cond_true]
     rw [if_neg hb]
     rfl
  ·have e1:decide ((j:Int) < 24) = false:=by simp; omega
   simp only [e1,cond_false]
   exact (if_neg e).symm) (fun j acc acc' _ h1 h2=>by
    unfold optStep at h2
    cases hp:patchR (la a) d 2 j with
    | none=>simp [hp] at h2
    | some x =>
     simp only [hp,Sum.inl.injEq] at h2
     subst h2
     have:x.length≤1:=by
      unfold patchR at hp
      obtain ⟨m,_,rfl⟩:=Option.map_eq_some_iff.1 hp
      unfold cell
      split <;> simp
     rw [List.length_append]
     omega) 24 k 0 [] (by omega) (by omega) hk (by simp)
 rcases rounds_opt (patchR (la a) d 2) (fun acc=>((.inl ((),((),(),(),()),((a.1,()),(),(),(z,()),d.map kv,p1,acc,()))):outDen f41_l4a_outs)) (fun acc=>((.inr ((),((),(),(),()),((),(z,()),p1,acc,()))):outDen f41_l4a_outs)) 24 0 [] with ⟨h1,h2⟩ | ⟨h1,acc,h2⟩
 ·exact .inl ⟨h1,h.trans (congrArg some h2)⟩
 ·exact .inr ⟨h1,acc,h.trans (congrArg some h2)⟩
theorem row3 (a:Ct) (ha:smC a) (d:List Rl) (hs:smD d) (z:Int) (p1:List Nm) (p2:List Nm) (k:Nat) (hk:24 < k) :
  (rowFit (la a) d 3 = true∧f41_l4u a.1 z (d.map kv) p1 p2 k 0 [] = some ((fun acc:List Nm=>((.inl ((),((),(),(),()),((a.1,()),(),(),(z,()),d.map kv,p1,p2,acc,()))):outDen f41_l4u_outs)) (rowNew (la a) d 3))) ∨
  (rowFit (la a) d 3 = false∧∃ acc:List Nm,f41_l4u a.1 z (d.map kv) p1 p2 k 0 [] = some ((.inr ((),((),(),(),()),((),(z,()),p1,p2,acc,()))):outDen f41_l4u_outs)):=by
 have h:=loop_rounds 24 (fun j (acc:List Nm)=>acc.length≤j) (optStep (patchR (la a) d 3) (fun acc=>((.inr ((),((),(),(),()),((),(z,()),p1,p2,acc,()))):outDen f41_l4u_outs))) (fun acc=>(.inl ((),((),(),(),()),((a.1,()),(),(),(z,()),d.map kv,p1,p2,acc,())))) (f41_l4u a.1 z (d.map kv) p1 p2) (by
  intro k j acc hj hacc
  conv=>lhs; unfold f41_l4u
  by_cases e:j < 24
  ·have e1:decide ((j:Int) < 24) = true:=by simp; omega
   have e3:f43 (a.1,()) [(3:Int),(j:Int)] = some (((la a 3 j).1,((la a 3 j).2,())),()):=f43_eq a ha 3 (by decide) j
   obtain ⟨m1,m2⟩:=map_has ((3:Int),(j:Int)) d
   have i0:inR (0:Int) 2 = true:=by decide
   have i1:inR (1:Int) 2 = true:=by decide
   have i2:inR (3:Int) 8 = true:=by decide
   simp only [e1,cond_true,e3,Option.bind_some,same_self,eqGate_self,i0,i1,i2,m1]
   refine Eq.trans ?_ (if_pos e).symm
   have ea:decide (acc.length + 1≤appLim) = true:=sm_app (by omega)
   unfold optStep patchR patch1 cell
   cases hf:fd d ((3:Int),(j:Int)) with
   | none =>
    have eb:decide ((la a 3 j).2.length≤appLim) = true:=sm_app (la_sm ha _ _)
    simp only [Option.isSome_none,cond_false,Option.map_some,wS j (by omega),f54,eb,cond_true,Option.bind_some,List.length_singleton,ea]
    cases (la a 3 j).1 with
    | true=>rfl
    | false =>
     simp only [Bool.false_eq_true,if_false,cond_false,List.append_nil]
     rfl
   | some r =>
    have hr:=fd_sm hs hf
    simp only [Option.isSome_some,cond_true,m2 r hf,wS j (by omega)]
    simp only [f52,f53,Option.bind_some]
    rw [f44_mk _ _ _ _ (la_sm ha 3 j)]
    by_cases hb:la a 3 j = bf r
    ·have hb2:((la a 3 j).1,(la a 3 j).2) = (r.2.2.1,r.2.2.2.1):=hb
     have eb:decide (r.2.2.2.2.2.1.length≤appLim) = true:=sm_app hr.2
     simp only [hb2,decide_true,Option.bind_some,Bool.not_true,cond_false,f54,eb,cond_true,List.length_singleton,ea]
     rw [if_pos hb]
     show (bif r.2.2.2.2.1 then _ else _) = _
     simp only [Option.map_some,af]
     cases r.2.2.2.2.1 with
     | true=>rfl
     | false =>
      simp only [Bool.false_eq_true,if_false,cond_false,List.append_nil]
      rfl
    ·have hb2:((la a 3 j).1,(la a 3 j).2) ≠ (r.2.2.1,r.2.2.2.1):=hb
     simp only [hb2,decide_false,Option.bind_some,Bool.not_false,cond_true]
     rw [if_neg hb]
     rfl
  ·have e1:decide ((j:Int) < 24) = false:=by simp; omega
   simp only [e1,cond_false]
   exact (if_neg e).symm) (fun j acc acc' _ h1 h2=>by
    unfold optStep at h2
    cases hp:patchR (la a) d 3 j with
    | none=>simp [hp] at h2
    | some x =>
     simp only [hp,Sum.inl.injEq] at h2
     subst h2
     have:x.length≤1:=by
      unfold patchR at hp
      obtain ⟨m,_,rfl⟩:=Option.map_eq_some_iff.1 hp
      unfold cell
      split <;> simp
     rw [List.length_append]
     omega) 24 k 0 [] (by omega) (by omega) hk (by simp)
 rcases rounds_opt (patchR (la a) d 3) (fun acc=>((.inl ((),((),(),(),()),((a.1,()),(),(),(z,()),d.map kv,p1,p2,acc,()))):outDen f41_l4u_outs)) (fun acc=>((.inr ((),((),(),(),()),((),(z,()),p1,p2,acc,()))):outDen f41_l4u_outs)) 24 0 [] with ⟨h1,h2⟩ | ⟨h1,acc,h2⟩
 ·exact .inl ⟨h1,h.trans (congrArg some h2)⟩
 ·exact .inr ⟨h1,acc,h.trans (congrArg some h2)⟩
theorem row4 (a:Ct) (ha:smC a) (d:List Rl) (hs:smD d) (z:Int) (p1:List Nm) (p2:List Nm) (p3:List Nm) (k:Nat) (hk:24 < k) :
  (rowFit (la a) d 4 = true∧f41_l4v a.1 z (d.map kv) p1 p2 p3 k 0 [] = some ((fun acc:List Nm=>((.inl ((),((),(),(),()),((a.1,()),(),(),(z,()),d.map kv,p1,p2,p3,acc,()))):outDen f41_l4v_outs)) (rowNew (la a) d 4))) ∨
  (rowFit (la a) d 4 = false∧∃ acc:List Nm,f41_l4v a.1 z (d.map kv) p1 p2 p3 k 0 [] = some ((.inr ((),((),(),(),()),((),(z,()),p1,p2,p3,acc,()))):outDen f41_l4v_outs)):=by
 have h:=loop_rounds 24 (fun j (acc:List Nm)=>acc.length≤j) (optStep (patchR (la a) d 4) (fun acc=>((.inr ((),((),(),(),()),((),(z,()),p1,p2,p3,acc,()))):outDen f41_l4v_outs))) (fun acc=>(.inl ((),((),(),(),()),((a.1,()),(),(),(z,()),d.map kv,p1,p2,p3,acc,())))) (f41_l4v a.1 z (d.map kv) p1 p2 p3) (by
  intro k j acc hj hacc
  conv=>lhs; unfold f41_l4v
  by_cases e:j < 24
  ·have e1:decide ((j:Int) < 24) = true:=by simp; omega
   have e3:f43 (a.1,()) [(4:Int),(j:Int)] = some (((la a 4 j).1,((la a 4 j).2,())),()):=f43_eq a ha 4 (by decide) j
   obtain ⟨m1,m2⟩:=map_has ((4:Int),(j:Int)) d
   have i0:inR (0:Int) 2 = true:=by decide
   have i1:inR (1:Int) 2 = true:=by decide
   have i2:inR (4:Int) 8 = true:=by decide
   simp only [e1,cond_true,e3,Option.bind_some,same_self,eqGate_self,i0,i1,i2,m1]
   refine Eq.trans ?_ (if_pos e).symm
   have ea:decide (acc.length + 1≤appLim) = true:=sm_app (by omega)
   unfold optStep patchR patch1 cell
   cases hf:fd d ((4:Int),(j:Int)) with
   | none =>
    have eb:decide ((la a 4 j).2.length≤appLim) = true:=sm_app (la_sm ha _ _)
    simp only [Option.isSome_none,cond_false,Option.map_some,wS j (by omega),f54,eb,cond_true,Option.bind_some,List.length_singleton,ea]
    cases (la a 4 j).1 with
    | true=>rfl
    | false =>
     simp only [Bool.false_eq_true,if_false,cond_false,List.append_nil]
     rfl
   | some r =>
    have hr:=fd_sm hs hf
    simp only [Option.isSome_some,cond_true,m2 r hf,wS j (by omega)]
    simp only [f52,f53,Option.bind_some]
    rw [f44_mk _ _ _ _ (la_sm ha 4 j)]
    by_cases hb:la a 4 j = bf r
    ·have hb2:((la a 4 j).1,(la a 4 j).2) = (r.2.2.1,r.2.2.2.1):=hb
     have eb:decide (r.2.2.2.2.2.1.length≤appLim) = true:=sm_app hr.2
     simp only [hb2,decide_true,Option.bind_some,Bool.not_true,cond_false,f54,eb,cond_true,List.length_singleton,ea]
     rw [if_pos hb]
     show (bif r.2.2.2.2.1 then _ else _) = _
     simp only [Option.map_some,af]
     cases r.2.2.2.2.1 with
     | true=>rfl
     | false =>
      simp only [Bool.false_eq_true,if_false,cond_false,List.append_nil]
      rfl
    ·have hb2:((la a 4 j).1,(la a 4 j).2) ≠ (r.2.2.1,r.2.2.2.1):=hb
     simp only [hb2,decide_false,Option.bind_some,Bool.not_false,cond_true]
     rw [if_neg hb]
     rfl
  ·have e1:decide ((j:Int) < 24) = false:=by simp; omega
   simp only [e1,cond_false]
   exact (if_neg e).symm) (fun j acc acc' _ h1 h2=>by
    unfold optStep at h2
    cases hp:patchR (la a) d 4 j with
    | none=>simp [hp] at h2
    | some x =>
     simp only [hp,Sum.inl.injEq] at h2
     subst h2
     have:x.length≤1:=by
      unfold patchR at hp
      obtain ⟨m,_,rfl⟩:=Option.map_eq_some_iff.1 hp
      unfold cell
      split <;> simp
     rw [List.length_append]
     omega) 24 k 0 [] (by omega) (by omega) hk (by simp)
 rcases rounds_opt (patchR (la a) d 4) (fun acc=>((.inl ((),((),(),(),()),((a.1,()),(),(),(z,()),d.map kv,p1,p2,p3,acc,()))):outDen f41_l4v_outs)) (fun acc=>((.inr ((),((),(),(),()),((),(z,()),p1,p2,p3,acc,()))):outDen f41_l4v_outs)) 24 0 [] with ⟨h1,h2⟩ | ⟨h1,acc,h2⟩
 ·exact .inl ⟨h1,h.trans (congrArg some h2)⟩
 ·exact .inr ⟨h1,acc,h.trans (congrArg some h2)⟩
theorem row5 (a:Ct) (ha:smC a) (d:List Rl) (hs:smD d) (z:Int) (p1:List Nm) (p2:List Nm) (p3:List Nm) (p4:List Nm) (k:Nat) (hk:24 < k) :
  (rowFit (la a) d 5 = true∧f41_l4w a.1 z (d.map kv) p1 p2 p3 p4 k 0 [] = some ((fun acc:List Nm=>((.inl ((),((),(),(),()),((a.1,()),(),(),(z,()),d.map kv,p1,p2,p3,p4,acc,()))):outDen f41_l4w_outs)) (rowNew (la a) d 5))) ∨
  (rowFit (la a) d 5 = false∧∃ acc:List Nm,f41_l4w a.1 z (d.map kv) p1 p2 p3 p4 k 0 [] = some ((.inr ((),((),(),(),()),((),(z,()),p1,p2,p3,p4,acc,()))):outDen f41_l4w_outs)):=by
 have h:=loop_rounds 24 (fun j (acc:List Nm)=>acc.length≤j) (optStep (patchR (la a) d 5) (fun acc=>((.inr ((),((),(),(),()),((),(z,()),p1,p2,p3,p4,acc,()))):outDen f41_l4w_outs))) (fun acc=>(.inl ((),((),(),(),()),((a.1,()),(),(),(z,()),d.map kv,p1,p2,p3,p4,acc,())))) (f41_l4w a.1 z (d.map kv) p1 p2 p3 p4) (by
  intro k j acc hj hacc
  conv=>lhs; unfold f41_l4w
  by_cases e:j < 24
  ·have e1:decide ((j:Int) < 24) = true:=by simp; omega
   have e3:f43 (a.1,()) [(5:Int),(j:Int)] = some (((la a 5 j).1,((la a 5 j).2,())),()):=f43_eq a ha 5 (by decide) j
   obtain ⟨m1,m2⟩:=map_has ((5:Int),(j:Int)) d
   have i0:inR (0:Int) 2 = true:=by decide
   have i1:inR (1:Int) 2 = true:=by decide
   have i2:inR (5:Int) 8 = true:=by decide
   simp only [e1,cond_true,e3,Option.bind_some,same_self,eqGate_self,i0,i1,i2,m1]
   refine Eq.trans ?_ (if_pos e).symm
   have ea:decide (acc.length + 1≤appLim) = true:=sm_app (by omega)
   unfold optStep patchR patch1 cell
   cases hf:fd d ((5:Int),(j:Int)) with
   | none =>
    have eb:decide ((la a 5 j).2.length≤appLim) = true:=sm_app (la_sm ha _ _)
    simp only [Option.isSome_none,cond_false,Option.map_some,wS j (by omega),f54,eb,cond_true,Option.bind_some,List.length_singleton,ea]
    cases (la a 5 j).1 with
    | true=>rfl
    | false =>
     simp only [Bool.false_eq_true,if_false,cond_false,List.append_nil]
     rfl
   | some r =>
    have hr:=fd_sm hs hf
    simp only [Option.isSome_some,cond_true,m2 r hf,wS j (by omega)]
    simp only [f52,f53,Option.bind_some]
    rw [f44_mk _ _ _ _ (la_sm ha 5 j)]
    by_cases hb:la a 5 j = bf r
    ·have hb2:((la a 5 j).1,(la a 5 j).2) = (r.2.2.1,r.2.2.2.1):=hb
     have eb:decide (r.2.2.2.2.2.1.length≤appLim) = true:=sm_app hr.2
     simp only [hb2,decide_true,Option.bind_some,Bool.not_true,cond_false,f54,eb,cond_true,List.length_singleton,ea]
     rw [if_pos hb]
     show (bif r.2.2.2.2.1 then _ else _) = _
     simp only [Option.map_some,af]
     cases r.2.2.2.2.1 with
     | true=>rfl
     | false =>
      simp only [Bool.false_eq_true,if_false,cond_false,List.append_nil]
      rfl
    ·have hb2:((la a 5 j).1,(la a 5 j).2) ≠ (r.2.2.1,r.2.2.2.1):=hb
     simp only [hb2,decide_false,Option.bind_some,Bool.not_false,cond_true]
     rw [if_neg hb]
     rfl
  ·have e1:decide ((j:Int) < 24) = false:=by simp; omega
   simp only [e1,cond_false]
   exact (if_neg e).symm) (fun j acc acc' _ h1 h2=>by
    unfold optStep at h2
    cases hp:patchR (la a) d 5 j with
    | none=>simp [hp] at h2
    | some x =>
     simp only [hp,Sum.inl.injEq] at h2
     subst h2
     have:x.length≤1:=by
      unfold patchR at hp
      obtain ⟨m,_,rfl⟩:=Option.map_eq_some_iff.1 hp
      unfold cell
      split <;> simp
     rw [List.length_append]
     omega) 24 k 0 [] (by omega) (by omega) hk (by simp)
 rcases rounds_opt (patchR (la a) d 5) (fun acc=>((.inl ((),((),(),(),()),((a.1,()),(),(),(z,()),d.map kv,p1,p2,p3,p4,acc,()))):outDen f41_l4w_outs)) (fun acc=>((.inr ((),((),(),(),()),((),(z,()),p1,p2,p3,p4,acc,()))):outDen f41_l4w_outs)) 24 0 [] with ⟨h1,h2⟩ | ⟨h1,acc,h2⟩
 ·exact .inl ⟨h1,h.trans (congrArg some h2)⟩
 ·exact .inr ⟨h1,acc,h.trans (congrArg some h2)⟩
theorem row6 (a:Ct) (ha:smC a) (d:List Rl) (hs:smD d) (z:Int) (p1:List Nm) (p2:List Nm) (p3:List Nm) (p4:List Nm) (p5:List Nm) (k:Nat) (hk:24 < k) :
  (rowFit (la a) d 6 = true∧f41_l4z a.1 z (d.map kv) p1 p2 p3 p4 p5 k 0 [] = some ((fun acc:List Nm=>((.inl ((),((),(),(),()),((a.1,()),(),(),(z,()),d.map kv,p1,p2,p3,p4,p5,acc,()))):outDen f41_l4z_outs)) (rowNew (la a) d 6))) ∨
  (rowFit (la a) d 6 = false∧∃ acc:List Nm,f41_l4z a.1 z (d.map kv) p1 p2 p3 p4 p5 k 0 [] = some ((.inr ((),((),(),(),()),((),(z,()),p1,p2,p3,p4,p5,acc,()))):outDen f41_l4z_outs)):=by
 have h:=loop_rounds 24 (fun j (acc:List Nm)=>acc.length≤j) (optStep (patchR (la a) d 6) (fun acc=>((.inr ((),((),(),(),()),((),(z,()),p1,p2,p3,p4,p5,acc,()))):outDen f41_l4z_outs))) (fun acc=>(.inl ((),((),(),(),()),((a.1,()),(),(),(z,()),d.map kv,p1,p2,p3,p4,p5,acc,())))) (f41_l4z a.1 z (d.map kv) p1 p2 p3 p4 p5) (by
  intro k j acc hj hacc
  conv=>lhs; unfold f41_l4z
  by_cases e:j < 24
  ·have e1:decide ((j:Int) < 24) = true:=by simp; omega
   have e3:f43 (a.1,()) [(6:Int),(j:Int)] = some (((la a 6 j).1,((la a 6 j).2,())),()):=f43_eq a ha 6 (by decide) j
   obtain ⟨m1,m2⟩:=map_has ((6:Int),(j:Int)) d
   have i0:inR (0:Int) 2 = true:=by decide
   have i1:inR (1:Int) 2 = true:=by decide
   have i2:inR (6:Int) 8 = true:=by decide
   simp only [e1,cond_true,e3,Option.bind_some,same_self,eqGate_self,i0,i1,i2,m1]
   refine Eq.trans ?_ (if_pos e).symm
   have ea:decide (acc.length + 1≤appLim) = true:=sm_app (by omega)
   unfold optStep patchR patch1 cell
   cases hf:fd d ((6:Int),(j:Int)) with
   | none =>
    have eb:decide ((la a 6 j).2.length≤appLim) = true:=sm_app (la_sm ha _ _)
    simp only [Option.isSome_none,cond_false,Option.map_some,wS j (by omega),f54,eb,cond_true,Option.bind_some,List.length_singleton,ea]
    cases (la a 6 j).1 with
    | true=>rfl
    | false =>
     simp only [Bool.false_eq_true,if_false,cond_false,List.append_nil]
     rfl
   | some r =>
    have hr:=fd_sm hs hf
    simp only [Option.isSome_some,cond_true,m2 r hf,wS j (by omega)]
    simp only [f52,f53,Option.bind_some]
    rw [f44_mk _ _ _ _ (la_sm ha 6 j)]
    by_cases hb:la a 6 j = bf r
    ·have hb2:((la a 6 j).1,(la a 6 j).2) = (r.2.2.1,r.2.2.2.1):=hb
     have eb:decide (r.2.2.2.2.2.1.length≤appLim) = true:=sm_app hr.2
     simp only [hb2,decide_true,Option.bind_some,Bool.not_true,cond_false,f54,eb,cond_true,List.length_singleton,ea]
     rw [if_pos hb]
     show (bif r.2.2.2.2.1 then _ else _) = _
     simp only [Option.map_some,af]
     cases r.2.2.2.2.1 with
     | true=>rfl
     | false =>
      simp only [Bool.false_eq_true,if_false,cond_false,List.append_nil]
      rfl
    ·have hb2:((la a 6 j).1,(la a 6 j).2) ≠ (r.2.2.1,r.2.2.2.1):=hb
     simp only [hb2,decide_false,Option.bind_some,Bool.not_false,cond_true]
     rw [if_neg hb]
     rfl
  ·have e1:decide ((j:Int) < 24) = false:=by simp; omega
   simp only [e1,cond_false]
   exact (if_neg e).symm) (fun j acc acc' _ h1 h2=>by
    unfold optStep at h2
    cases hp:patchR (la a) d 6 j with
    | none=>simp [hp] at h2
    | some x =>
     simp only [hp,Sum.inl.injEq] at h2
     subst h2
     have:x.length≤1:=by
      unfold patchR at hp
      obtain ⟨m,_,rfl⟩:=Option.map_eq_some_iff.1 hp
      unfold cell
      split <;> simp
     rw [List.length_append]
     omega) 24 k 0 [] (by omega) (by omega) hk (by simp)
 rcases rounds_opt (patchR (la a) d 6) (fun acc=>((.inl ((),((),(),(),()),((a.1,()),(),(),(z,()),d.map kv,p1,p2,p3,p4,p5,acc,()))):outDen f41_l4z_outs)) (fun acc=>((.inr ((),((),(),(),()),((),(z,()),p1,p2,p3,p4,p5,acc,()))):outDen f41_l4z_outs)) 24 0 [] with ⟨h1,h2⟩ | ⟨h1,acc,h2⟩
 ·exact .inl ⟨h1,h.trans (congrArg some h2)⟩
 ·exact .inr ⟨h1,acc,h.trans (congrArg some h2)⟩
theorem row7 (a:Ct) (ha:smC a) (d:List Rl) (hs:smD d) (z:Int) (p1:List Nm) (p2:List Nm) (p3:List Nm) (p4:List Nm) (p5:List Nm) (p6:List Nm) (k:Nat) (hk:24 < k) :
  (rowFit (la a) d 7 = true∧f41_l4y a.1 z (d.map kv) p1 p2 p3 p4 p5 p6 k 0 [] = some ((fun acc:List Nm=>((.inl ((),((),(),(),()),((a.1,()),(),(),(z,()),d.map kv,p1,p2,p3,p4,p5,p6,acc,()))):outDen f41_l4y_outs)) (rowNew (la a) d 7))) ∨
  (rowFit (la a) d 7 = false∧∃ acc:List Nm,f41_l4y a.1 z (d.map kv) p1 p2 p3 p4 p5 p6 k 0 [] = some ((.inr ((),((),(),(),()),((),(z,()),p1,p2,p3,p4,p5,p6,acc,()))):outDen f41_l4y_outs)):=by
 have h:=loop_rounds 24 (fun j (acc:List Nm)=>acc.length≤j) (optStep (patchR (la a) d 7) (fun acc=>((.inr ((),((),(),(),()),((),(z,()),p1,p2,p3,p4,p5,p6,acc,()))):outDen f41_l4y_outs))) (fun acc=>(.inl ((),((),(),(),()),((a.1,()),(),(),(z,()),d.map kv,p1,p2,p3,p4,p5,p6,acc,())))) (f41_l4y a.1 z (d.map kv) p1 p2 p3 p4 p5 p6) (by
  intro k j acc hj hacc
  conv=>lhs; unfold f41_l4y
  by_cases e:j < 24
  ·have e1:decide ((j:Int) < 24) = true:=by simp; omega
   have e3:f43 (a.1,()) [(7:Int),(j:Int)] = some (((la a 7 j).1,((la a 7 j).2,())),()):=f43_eq a ha 7 (by decide) j
   obtain ⟨m1,m2⟩:=map_has ((7:Int),(j:Int)) d
   have i0:inR (0:Int) 2 = true:=by decide
   have i1:inR (1:Int) 2 = true:=by decide
   have i2:inR (7:Int) 8 = true:=by decide
   simp only [e1,cond_true,e3,Option.bind_some,same_self,eqGate_self,i0,i1,i2,m1]
   refine Eq.trans ?_ (if_pos e).symm
   have ea:decide (acc.length + 1≤appLim) = true:=sm_app (by omega)
   unfold optStep patchR patch1 cell
   cases hf:fd d ((7:Int),(j:Int)) with
   | none =>
    have eb:decide ((la a 7 j).2.length≤appLim) = true:=sm_app (la_sm ha _ _)
    simp only [Option.isSome_none,cond_false,Option.map_some,wS j (by omega),f54,eb,cond_true,Option.bind_some,List.length_singleton,ea]
    cases (la a 7 j).1 with
    | true=>rfl
    | false =>
     simp only [Bool.false_eq_true,if_false,cond_false,List.append_nil]
     rfl
   | some r =>
    have hr:=fd_sm hs hf
    simp only [Option.isSome_some,cond_true,m2 r hf,wS j (by omega)]
    simp only [f52,f53,Option.bind_some]
    rw [f44_mk _ _ _ _ (la_sm ha 7 j)]
    by_cases hb:la a 7 j = bf r
    ·have hb2:((la a 7 j).1,(la a 7 j).2) = (r.2.2.1,r.2.2.2.1):=hb
     have eb:decide (r.2.2.2.2.2.1.length≤appLim) = true:=sm_app hr.2
     simp only [hb2,decide_true,Option.bind_some,Bool.not_true,cond_false,f54,eb,cond_true,List.length_singleton,ea]
     rw [if_pos hb]
     show (bif r.2.2.2.2.1 then _ else _) = _
     simp only [Option.map_some,af]
     cases r.2.2.2.2.1 with
     | true=>rfl
     | false =>
      simp only [Bool.false_eq_true,if_false,cond_false,List.append_nil]
      rfl
    ·have hb2:((la a 7 j).1,(la a 7 j).2) ≠ (r.2.2.1,r.2.2.2.1):=hb
     simp only [hb2,decide_false,Option.bind_some,Bool.not_false,cond_true]
     rw [if_neg hb]
     rfl
  ·have e1:decide ((j:Int) < 24) = false:=by simp; omega
   simp only [e1,cond_false]
   exact (if_neg e).symm) (fun j acc acc' _ h1 h2=>by
    unfold optStep at h2
    cases hp:patchR (la a) d 7 j with
    | none=>simp [hp] at h2
    | some x =>
     simp only [hp,Sum.inl.injEq] at h2
     subst h2
     have:x.length≤1:=by
      unfold patchR at hp
      obtain ⟨m,_,rfl⟩:=Option.map_eq_some_iff.1 hp
      unfold cell
      split <;> simp
     rw [List.length_append]
     omega) 24 k 0 [] (by omega) (by omega) hk (by simp)
 rcases rounds_opt (patchR (la a) d 7) (fun acc=>((.inl ((),((),(),(),()),((a.1,()),(),(),(z,()),d.map kv,p1,p2,p3,p4,p5,p6,acc,()))):outDen f41_l4y_outs)) (fun acc=>((.inr ((),((),(),(),()),((),(z,()),p1,p2,p3,p4,p5,p6,acc,()))):outDen f41_l4y_outs)) 24 0 [] with ⟨h1,h2⟩ | ⟨h1,acc,h2⟩
 ·exact .inl ⟨h1,h.trans (congrArg some h2)⟩
 ·exact .inr ⟨h1,acc,h.trans (congrArg some h2)⟩
theorem patch_fit {a:Ct} (ha:okC a) {d:List Rl} (hd:okD d):(kinds.all fun k=>rowFit (la a) d k) = true ↔ fits (la a) d:=by
 rw [List.all_eq_true]
 constructor
 ·intro h r hr
  have hk:=(hd.1 r hr).1
  have h1:=mem_keys.1 hk
  have h2:=h _ (mem_kinds.2 h1.1)
  unfold rowFit at h2
  rw [List.all_eq_true] at h2
  have hi:(kOf r).2.toNat∈List.range' 0 24:=by
   rw [List.mem_range'_1]
   have:=h1.2
   omega
  have h3:=h2 _ hi
  have e:(((kOf r).2.toNat:Nat):Int) = (kOf r).2:=by have:=h1.2; omega
  unfold patchR patch1 at h3
  rw [e,show (((kOf r).1,(kOf r).2):Int × Int) = kOf r from rfl,fd_mem hd.2 hr] at h3
  simp only at h3
  split at h3
  ·rename_i h4; exact h4
  ·simp at h3
 ·intro h k _
  unfold rowFit
  rw [List.all_eq_true]
  intro j _
  unfold patchR patch1
  cases e:fd d (k,(j:Int)) with
  | none=>rfl
  | some r =>
   obtain ⟨h1,h2⟩:=fd_some e
   have h3:=h r h1
   have h4:la a k j = bf r:=by
    have q1:r.1 = k:=congrArg Prod.fst h2
    have q2:r.2.1 = (j:Int):=congrArg Prod.snd h2
    rw [← q1,← q2]
    exact h3
   simp [h4]
theorem rowNew_eq {a:Ct} {d:List Rl} {k:Int} (h:rowFit (la a) d k = true):rowNew (la a) d k = mkRow (aft (la a) d k):=by
 unfold rowNew mkRow
 rw [← ids_fm (fun i=>if (aft (la a) d k i).1 then some (i,(aft (la a) d k i).2,()) else none)]
 have h1:=List.all_eq_true.1 h
 have:∀ (l:List Nat),(∀ j∈l,(patchR (la a) d k j).isSome = true)→l.flatMap (fun j=>(patchR (la a) d k j).getD []) = l.flatMap (fun j:Nat=>(if (aft (la a) d k (j:Int)).1 then some ((j:Int),(aft (la a) d k (j:Int)).2,()) else none:Option Nm).toList):=by
  intro l
  induction l with
  | nil=>intro _; rfl
  | cons j l ih =>
   intro hl
   rw [List.flatMap_cons,List.flatMap_cons,ih fun x hx=>hl x (by simp [hx])]
   congr 1
   have hj:=hl j (by simp)
   unfold patchR patch1 aft at *
   cases e:fd d (k,(j:Int)) with
   | none =>
    simp only [Option.map_some,Option.getD_some,cell]
    split <;> rfl
   | some r =>
    rw [e] at hj
    simp only at hj ⊢
    split at hj
    ·rename_i hb
     rw [if_pos hb]
     simp only [Option.map_some,Option.getD_some,cell]
     split <;> rfl
    ·simp at hj
 exact this _ (fun j hj=>h1 j hj)
theorem f14_eq (a:Ct) (ha:smC a) (d:List Rl) (hd:smD d) (h19:f19 (d,()) = some (validD d,())) (z0:(validD d = true→okD d)) :
  f14 a (d,()) = if validC a && validD d && kinds.all (fun k=>rowFit (la a) d k) then some ((([] :: kinds.map (fun k=>rowNew (la a) d k):List (List Nm)),()),(0:Int),()) else some ((([[],[],[],[],[],[],[],[]]:List (List Nm)),()),(160:Int),()):=by
 have hk:kinds.all (fun k=>rowFit (la a) d k) = (rowFit (la a) d 1 && (rowFit (la a) d 2 && (rowFit (la a) d 3 && (rowFit (la a) d 4 && (rowFit (la a) d 5 && (rowFit (la a) d 6 && (rowFit (la a) d 7 && true))))))):=rfl
 rw [hk]
 unfold f14
 refine bind_step (f35_eq a ha) ?_
 cases h1:validC a with
 | false=>rfl
 | true =>
 simp only [cond_true,Bool.true_and]
 refine bind_step h19 ?_
 cases h2:validD d with
 | false=>rfl
 | true =>
 simp only [Bool.not_true,cond_false,Bool.true_and]
 refine bind_step (f49_l3_eq d (z0 h2) hd.1 a.1 0 _ (by omega)) ?_
 rcases row1 a ha d hd 0  (((24:Int) - 0).toNat + 1) (by decide) with ⟨e1,g1⟩ | ⟨e1,acc1,g1⟩
 case inr =>
  refine bind_step g1 ?_
  simp only [e1,Bool.true_and,Bool.false_and]
  rfl
 refine bind_step g1 ?_
 rcases row2 a ha d hd 0 (rowNew (la a) d 1) (((24:Int) - 0).toNat + 1) (by decide) with ⟨e2,g2⟩ | ⟨e2,acc2,g2⟩
 case inr =>
  refine bind_step g2 ?_
  simp only [e1,e2,Bool.true_and,Bool.false_and]
  rfl
 refine bind_step g2 ?_
 rcases row3 a ha d hd 0 (rowNew (la a) d 1) (rowNew (la a) d 2) (((24:Int) - 0).toNat + 1) (by decide) with ⟨e3,g3⟩ | ⟨e3,acc3,g3⟩
 case inr =>
  refine bind_step g3 ?_
  simp only [e1,e2,e3,Bool.true_and,Bool.false_and]
  rfl
 refine bind_step g3 ?_
 rcases row4 a ha d hd 0 (rowNew (la a) d 1) (rowNew (la a) d 2) (rowNew (la a) d 3) (((24:Int) - 0).toNat + 1) (by decide) with ⟨e4,g4⟩ | ⟨e4,acc4,g4⟩
 case inr =>
  refine bind_step g4 ?_
  simp only [e1,e2,e3,e4,Bool.true_and,Bool.false_and]
  rfl
 refine bind_step g4 ?_
 rcases row5 a ha d hd 0 (rowNew (la a) d 1) (rowNew (la a) d 2) (rowNew (la a) d 3) (rowNew (la a) d 4) (((24:Int) - 0).toNat + 1) (by decide) with ⟨e5,g5⟩ | ⟨e5,acc5,g5⟩
 case inr =>
  refine bind_step g5 ?_
  simp only [e1,e2,e3,e4,e5,Bool.true_and,Bool.false_and]
  rfl
 refine bind_step g5 ?_
 rcases row6 a ha d hd 0 (rowNew (la a) d 1) (rowNew (la a) d 2) (rowNew (la a) d 3) (rowNew (la a) d 4) (rowNew (la a) d 5) (((24:Int) - 0).toNat + 1) (by decide) with ⟨e6,g6⟩ | ⟨e6,acc6,g6⟩
 case inr =>
  refine bind_step g6 ?_
  simp only [e1,e2,e3,e4,e5,e6,Bool.true_and,Bool.false_and]
  rfl
 refine bind_step g6 ?_
 rcases row7 a ha d hd 0 (rowNew (la a) d 1) (rowNew (la a) d 2) (rowNew (la a) d 3) (rowNew (la a) d 4) (rowNew (la a) d 5) (rowNew (la a) d 6) (((24:Int) - 0).toNat + 1) (by decide) with ⟨e7,g7⟩ | ⟨e7,acc7,g7⟩
 case inr =>
  refine bind_step g7 ?_
  simp only [e1,e2,e3,e4,e5,e6,e7,Bool.true_and,Bool.false_and]
  rfl
 refine bind_step g7 ?_
 simp only [e1,e2,e3,e4,e5,e6,e7,Bool.true_and]
 rfl
end Go.V.G
namespace Go.V.G
open Go.Proofs
open Go.V.K
instance dR1:DecidableEq (List Int × Unit):=inferInstance
instance dR2:DecidableEq (Bool × (List Int × Unit)):=inferInstance
instance dR3:DecidableEq (List Int × (Bool × (List Int × Unit))):=inferInstance
instance dR4:DecidableEq (Bool × (List Int × (Bool × (List Int × Unit)))):=inferInstance
instance dR5:DecidableEq (Int × (Bool × (List Int × (Bool × (List Int × Unit))))):=inferInstance
instance dR6:DecidableEq Rl:=inferInstance
instance dN1:DecidableEq Nm:=inferInstance
instance dN2:DecidableEq Ct:=inferInstance
def cmpI (a b:Int):Int:=if a < b then -1 else if a > b then 1 else 0
theorem f84_eq (a b:Int):f84 a b = some (cmpI a b,()):=by
 unfold f84 f99 cmpI
 simp only [ne_eq,not_true,decide_false,Option.bind_some,cond_false]
 by_cases h:a < b
 ·simp [h]
 ·by_cases h2:a > b <;> simp [h,h2]
theorem cmpI_zero {a b:Int}:cmpI a b = 0 ↔ a = b:=by
 unfold cmpI
 constructor
 ·intro h
  split at h
  ·cases h
  ·split at h
   ·cases h
   ·omega
 ·rintro rfl
  simp
theorem cmpI_pos {a b:Int}:cmpI a b > 0 ↔ b < a:=by
 unfold cmpI
 constructor
 ·intro h
  split at h
  ·omega
  ·split at h
   ·omega
   ·omega
 ·intro h
  have:¬ a < b:=by omega
  simp [this,h]
theorem f57_eq (T:Int) (x1:List Rl) (x2 x3:Int) (x4 x5:List Int) (x6 x7:Bool) (p1 p2 r1 r2:Int) (b:List Rl) (hT:T = 2) (hne:¬ (p1 = r1∧p2 = r2)) :
  f57_l2x T x1 x2 x3 x4 x5 x6 x7 [p1,p2] [r1,r2] b 3 0 = some (.inr (((if p1 = r1 then cmpI p2 r2 else cmpI p1 r1),()),((x1,x2,x3,x4,x5,x6,x7,()),()),((b,()),([p1,p2],()),([r1,r2],()),()))):=by
 subst hT
 have e2:cutLen 2 none none = 2:=rfl
 have a0:at_ yI [p1,p2] (0 + 0) = p1:=rfl
 have a1:at_ yI [r1,r2] (0 + 0) = r1:=rfl
 have a2:at_ yI [p1,p2] (0 + 1) = p2:=rfl
 have a3:at_ yI [r1,r2] (0 + 1) = r2:=rfl
 have w1:IntKind.wrap .i64 (0 + 1) = 1:=by decide
 conv=>lhs; unfold f57_l2x
 simp only [e2,show decide ((0:Int) < 2) = true from rfl,show inR (0:Int) 2 = true from rfl,show decide ((0:Int) ≥ ((2:Nat):Int)) = false from rfl,cond_true,cond_false,a0,a1,f84_eq,Option.bind_some,w1]
 by_cases h1:p1 = r1
 ·have hz:cmpI p1 r1 = 0:=cmpI_zero.2 h1
  simp only [hz,ne_eq,not_true,decide_false,cond_false]
  have h2:¬ p2 = r2:=fun h=>hne ⟨h1,h⟩
  have hz2:¬ cmpI p2 r2 = 0:=fun h=>h2 (cmpI_zero.1 h)
  conv=>lhs; unfold f57_l2x
  simp only [e2,show decide ((1:Int) < 2) = true from rfl,show inR (1:Int) 2 = true from rfl,show decide ((1:Int) ≥ ((2:Nat):Int)) = false from rfl,cond_true,cond_false,a2,a3,f84_eq,Option.bind_some,hz2,ne_eq,not_false_eq_true,decide_true]
  simp [h1]
 ·have hz:¬ cmpI p1 r1 = 0:=fun h=>h1 (cmpI_zero.1 h)
  simp only [hz,ne_eq,not_false_eq_true,decide_true,cond_true]
  simp [h1]
theorem f19_eq (d:List Rl) (h:smD d):f19 (d,()) = some (validD d,()):=by
 unfold f19
 have hl:=all_loop d.length (dOk d) (fun k j=>f19_l2 k d (d.length:Int) j d) (.inl ((),(),())) (.inr ((false,()),(),())) (by
  intro k j hj
  conv=>lhs; unfold f19_l2
  have h1:=h.1
  by_cases e:j < d.length
  ·simp only [Int.ofNat_lt,inRN,e,decide_true,cond_true,f56_eq _ (smD_at h j e),Option.bind_some,same_self]
   refine Eq.trans ?_ (if_pos trivial).symm
   unfold dOk
   cases okRb (at_ tR d (j:Int)) with
   | false=>rfl
   | true =>
    simp only [Bool.not_true,cond_false,Bool.true_and]
    by_cases e3:j = 0
    ·subst e3
     rfl
    ·have e4:decide ((j:Int) > 0) = true:=by simp; omega
     simp only [e4,cond_true,wP j (by omega) (by omega),inRN,show j - 1 < d.length by omega,decide_true,e3,decide_false,Bool.false_or]
     generalize hx:at_ tR d ((j - 1:Nat):Int) = x
     generalize hy:at_ tR d (j:Int) = y
     by_cases e5:x.1 = y.1∧x.2.1 = y.2.1
     ·have e6:decide (([x.1,x.2.1]:List Int) = [y.1,y.2.1]) = true:=by simp [e5.1,e5.2]
      have e7:ltb x y = false:=by unfold ltb; simp [e5.1,e5.2]
      simp only [e6,cond_true,e7]
      rfl
     ·have e6:decide (([x.1,x.2.1]:List Int) = [y.1,y.2.1]) = false:=by
       rw [decide_eq_false_iff_not]
       intro e
       simp only [List.cons.injEq,and_true] at e
       exact e5 e
      simp only [e6,cond_false]
      refine bind_step (f57_eq _ _ _ _ _ _ _ _ _ _ _ _ _ rfl e5) ?_
      show (bif decide ((if x.1 = y.1 then cmpI x.2.1 y.2.1 else cmpI x.1 y.1) > 0) then some (.inr ((false,()),(),())) else f19_l2 k d (d.length:Int) (IntKind.wrap .i64 ((j:Int) + 1)) d) = _
      rw [wS j (by omega)]
      have e8:decide ((if x.1 = y.1 then cmpI x.2.1 y.2.1 else cmpI x.1 y.1) > 0) = !ltb x y:=by
       unfold ltb
       by_cases e9:x.1 = y.1
       ·rw [if_pos e9]
        have q0:¬ x.1 < y.1:=by rw [e9]; exact Int.lt_irrefl _
        have q1:¬ x.2.1 = y.2.1:=fun h=>e5 ⟨e9,h⟩
        simp only [q0,decide_false,e9,decide_true,Bool.true_and,Bool.false_or]
        by_cases q2:x.2.1 < y.2.1
        ·have:¬ cmpI x.2.1 y.2.1 > 0:=fun h=>absurd (cmpI_pos.1 h) (fun h3=>by have:=Int.lt_trans q2 h3; exact Int.lt_irrefl _ this)
         simp [q2,this]
        ·have:cmpI x.2.1 y.2.1 > 0:=cmpI_pos.2 (by rcases Int.lt_trichotomy x.2.1 y.2.1 with h | h | h <;> first | exact absurd h q2 | exact absurd h q1 | exact h)
         simp [q2,this]
       ·rw [if_neg e9]
        by_cases q2:x.1 < y.1
        ·have:¬ cmpI x.1 y.1 > 0:=fun h=>absurd (cmpI_pos.1 h) (fun h3=>by have:=Int.lt_trans q2 h3; exact Int.lt_irrefl _ this)
         simp [q2,this]
        ·have:cmpI x.1 y.1 > 0:=cmpI_pos.2 (by rcases Int.lt_trichotomy x.1 y.1 with h | h | h <;> first | exact absurd h q2 | exact absurd h e9 | exact h)
         simp [q2,this,e9]
      rw [e8]
      cases ltb x y <;> rfl
  ·simp only [Int.ofNat_lt,e,decide_false,cond_false]
   exact (if_neg not_false).symm) (((d.length:Int) - 0).toNat + 1) (by omega)
 refine bind_step hl ?_
 show Sum.elim _ _ (if validD d = true then _ else _) = _
 cases validD d <;> rfl
theorem f17_eq (d:List Rl) (h:smD d):f17 (d,()) = if validD d then some ((d.map inv,()),(0:Int),()) else some (([],()),(160:Int),()):=by
 unfold f17
 refine bind_step (f19_eq d h) ?_
 cases validD d with
 | false=>rfl
 | true =>
  simp only [Bool.not_true,cond_false,if_true]
  have hl:=app_loop d.length (fun j acc=>acc.length = j) (fun j=>[inv (at_ tR d (j:Int))]) (fun r=>(((),(),((),(),r,())):outDen f17_l5_outs)) (f17_l5 d (d.length:Int)) (by
   intro k j acc hj hacc
   conv=>lhs; unfold f17_l5
   have h1:=h.1
   by_cases e:j < d.length
   ·have hs:=smD_at h j e
    have ea:decide (acc.length + 1≤appLim) = true:=sm_app (by omega)
    have eq:∀ r:Rl,smRl r→f45 [r.1,r.2.1] r.2.2.2.2 (r.2.2.1,(r.2.2.2.1,())) = some (inv r,()):=fun r hr=>f45_eq r.1 r.2.1 r.2.2.2.2.1 r.2.2.2.2.2.1 r.2.2.1 r.2.2.2.1 hr.2 hr.1
    simp only [Int.ofNat_lt,inRN,e,decide_true,cond_true,wS j (by omega),f50,f53,f52,Option.bind_some]
    refine Eq.trans ?_ (if_pos trivial).symm
    rw [eq _ hs]
    simp only [Option.bind_some,List.length_singleton,ea,cond_true]
    rfl
   ·simp only [Int.ofNat_lt,e,decide_false,cond_false]
    exact (if_neg not_false).symm) (fun j acc _ h=>by rw [List.length_append,h]; rfl) (((d.length:Int) - 0).toNat + 1) 0 [] (by omega) (by omega) rfl
  refine bind_step hl ?_
  have e:[]++(List.range' 0 (d.length - 0)).flatMap (fun j:Nat=>[inv (at_ tR d (j:Int))]) = d.map inv:=map_flat (α:=Rl) tR d inv
  show some ((([]++(List.range' 0 (d.length - 0)).flatMap (fun j:Nat=>[inv (at_ tR d (j:Int))]):List Rl),()),(0:Int),()) = _
  rw [e]
theorem f13_eq (a b:List Rl) (ha:smD a):f13 (a,()) (b,()) = some (decide (a = b),()):=by
 unfold f13
 by_cases hl:a.length = b.length
 ·have e:decide ((a.length:Int) ≠ (b.length:Int)) = false:=by simp [hl]
  simp only [e,cond_false]
  have h:=all_loop a.length (fun j=>decide (at_ tR a j = at_ tR b j)) (f13_l4 a b) (.inl ((),(),())) (.inr ((false,()),(),())) (by
   intro k j hj
   conv=>lhs; unfold f13_l4
   have h1:=ha.1
   by_cases h:j < a.length
   ·have hs:=smD_at ha j h
    simp only [Int.ofNat_lt,inRN,h,show j < b.length by omega,decide_true,cond_true,wS j (by omega)]
    refine Eq.trans ?_ (if_pos trivial).symm
    generalize at_ tR a (j:Int) = x at hs
    generalize at_ tR b (j:Int) = y
    obtain ⟨k1,i1,h1',o1,g1,n1,u1⟩:=x
    obtain ⟨k2,i2,h2',o2,g2,n2,u2⟩:=y
    have q1:=f26_eq o1 o2 hs.1
    have q2:=f26_eq n1 n2 hs.2
    simp only [q1,q2,Option.bind_some,Prod.mk.injEq]
    by_cases c1:k1 = k2
    ·by_cases c2:i1 = i2
     ·by_cases c3:h1' = h2'
      ·by_cases c4:g1 = g2
       ·by_cases c5:o1 = o2
        ·by_cases c6:n1 = n2
         ·simp [c1,c2,c3,c4,c5,c6]
         ·simp [c1,c2,c3,c4,c5,c6]
        ·simp [c1,c2,c3,c4,c5]
       ·simp [c1,c2,c3,c4]
      ·simp [c1,c2,c3]
     ·simp [c1,c2]
    ·simp [c1]
   ·simp only [Int.ofNat_lt,h,decide_false,cond_false]
    exact (if_neg not_false).symm) (((a.length:Int) - 0).toNat + 1) (by omega)
  refine bind_step h ?_
  rw [all_range_eq a b hl _ (fun j h1=>by rw [atN tR _ _ h1,atN tR _ _ (hl ▸ h1)])]
  by_cases e:a = b <;> simp [e]
 ·have e:decide ((a.length:Int) ≠ (b.length:Int)) = true:=by simp; omega
  simp only [e,cond_true]
  have:¬ a = b:=fun h=>hl (by rw [h])
  simp [this]
theorem f55_eq (a b:List Nm) (ha:smR a):f55 a b = some (decide (a = b),()):=by
 unfold f55
 by_cases hl:a.length = b.length
 ·have e:decide ((a.length:Int) ≠ (b.length:Int)) = false:=by simp [hl]
  simp only [e,cond_false]
  have h:=all_loop a.length (fun j=>decide (at_ tN a j = at_ tN b j)) (f55_l4 a b) (.inl ((),(),())) (.inr ((false,()),(),())) (by
   intro k j hj
   conv=>lhs; unfold f55_l4
   have h1:=ha.1
   by_cases h:j < a.length
   ·have hs:=smR_at ha j h
    simp only [Int.ofNat_lt,inRN,h,show j < b.length by omega,decide_true,cond_true,wS j (by omega)]
    refine Eq.trans ?_ (if_pos trivial).symm
    generalize at_ tN a (j:Int) = x at hs
    generalize at_ tN b (j:Int) = y
    obtain ⟨k1,o1,u1⟩:=x
    obtain ⟨k2,o2,u2⟩:=y
    have q1:=f26_eq o1 o2 hs
    simp only [q1,Option.bind_some,Prod.mk.injEq]
    by_cases c1:k1 = k2
    ·by_cases c2:o1 = o2
     ·simp [c1,c2]
     ·simp [c1,c2]
    ·simp [c1]
   ·simp only [Int.ofNat_lt,h,decide_false,cond_false]
    exact (if_neg not_false).symm) (((a.length:Int) - 0).toNat + 1) (by omega)
  refine bind_step h ?_
  rw [all_range_eq a b hl _ (fun j h1=>by rw [atN tN _ _ h1,atN tN _ _ (hl ▸ h1)])]
  by_cases e:a = b <;> simp [e]
 ·have e:decide ((a.length:Int) ≠ (b.length:Int)) = true:=by simp; omega
  simp only [e,cond_true]
  have:¬ a = b:=fun h=>hl (by rw [h])
  simp [this]
theorem ct_ext {a b:Ct} (ha:a.1.length = 8) (hb:b.1.length = 8):(List.range 8).all (fun j=>decide (a.1.getD j [] = b.1.getD j [])) = decide (a = b):=by
 rw [Bool.eq_iff_iff,List.all_eq_true,decide_eq_true_eq]
 constructor
 ·intro h
  refine Prod.ext (List.ext_getElem (by omega) fun i h1 h2=>?_) rfl
  have:=h i (List.mem_range.2 (by omega))
  rw [decide_eq_true_eq,List.getD_eq_getElem?_getD,List.getD_eq_getElem?_getD,List.getElem?_eq_getElem h1,List.getElem?_eq_getElem h2] at this
  exact this
 ·rintro rfl j _
  simp
theorem f16_eq (a b:Ct) (ha:smC a) (hb:b.1.length = 8):f16 a b = some (decide (a = b),()):=by
 unfold f16
 have h:=all_loop 8 (fun j=>decide (a.1.getD j [] = b.1.getD j [])) (f16_l2 a.1 b.1) (.inl ((),(),())) (.inr ((false,()),(),())) (by
  intro k j hj
  conv=>lhs; unfold f16_l2
  by_cases e:j < 8
  ·have e1:decide ((j:Int) < 8) = true:=by simp; omega
   simp only [e1,cond_true,inRN,e,decide_true,row_at ha.1 j e,row_at hb j e,f55_eq _ _ (row_sm ha j),Option.bind_some,wS j (by omega)]
   refine Eq.trans ?_ (if_pos trivial).symm
   cases decide (a.1.getD j [] = b.1.getD j []) <;> rfl
  ·have e1:decide ((j:Int) < 8) = false:=by simp; omega
   simp only [e1,cond_false]
   exact (if_neg e).symm) (((8:Int) - 0).toNat + 1) (by decide)
 refine bind_step h ?_
 rw [ct_ext ha.1 hb]
 cases decide (a = b) <;> rfl
end Go.V.G
namespace Go.V.G
open Go.Proofs
open Go.V.K
theorem cut5 (l:List Int):cutOk l.length none (some (if (5:Int) < (l.length:Int) then (5:Int) else (l.length:Int))) = true∧(l.take (Int.toNat (if (5:Int) < (l.length:Int) then (5:Int) else (l.length:Int)))).length≤1000000:=by
 have h:∀ n:Nat,cutOk n none (some (if (5:Int) < (n:Int) then (5:Int) else (n:Int))) = true∧Int.toNat (if (5:Int) < (n:Int) then (5:Int) else (n:Int))≤5:=by
  intro n
  unfold cutOk
  by_cases e:(5:Int) < (n:Int)
  ·simp only [e,if_true]
   refine ⟨?_,by decide⟩
   simp only [Bool.and_eq_true,decide_eq_true_eq]
   omega
  ·simp only [e,if_false]
   refine ⟨?_,by omega⟩
   simp only [Bool.and_eq_true,decide_eq_true_eq]
   omega
 refine ⟨(h l.length).1,?_⟩
 rw [List.length_take]
 have:=(h l.length).2
 omega
theorem f10_loop (d:List Rl):∀ (m j k:Nat) (acc:List Rl),j + m = 6→j≤d.length→d.length < k + j→acc.length = j→(∀ r∈acc,smRl r) →
  ∃ r,f10_l3 d k (j:Int) acc = some ((),(),((),(),r,()))∧smD r:=by
 intro m
 induction m with
 | zero =>
  intro j k acc h1 h2 h3 h4 h5
  obtain ⟨k,rfl⟩:∃ q,k = q + 1:=⟨k - 1,by omega⟩
  refine ⟨acc,?_,by omega,h5⟩
  conv=>lhs; unfold f10_l3
  have e6:decide ((j:Int) < 6) = false:=by simp; omega
  by_cases e:j < d.length
  ·simp only [Int.ofNat_lt,e,decide_true,cond_true,e6,cond_false]
   try rfl
  ·simp only [Int.ofNat_lt,e,decide_false,cond_false]
   try rfl
 | succ m ih =>
  intro j k acc h1 h2 h3 h4 h5
  obtain ⟨k,rfl⟩:∃ q,k = q + 1:=⟨k - 1,by omega⟩
  conv=>arg 1; ext r; lhs; lhs; unfold f10_l3
  have e6:decide ((j:Int) < 6) = true:=by simp; omega
  by_cases e:j < d.length
  ·simp only [Int.ofNat_lt,e,decide_true,cond_true,e6,inRN]
   generalize at_ tR d (j:Int) = x
   obtain ⟨k1,i1,h1',o1,g1,n1,u1⟩:=x
   obtain ⟨c1,c2⟩:=cut5 o1
   obtain ⟨c3,c4⟩:=cut5 n1
   have ea:decide (acc.length + 1≤appLim) = true:=sm_app (by omega)
   simp only [c1,c3,cond_true,List.length_singleton,ea,wS j (by omega)]
   refine ih (j + 1) k _ (by omega) (by omega) (by omega) (by simp [h4]) ?_
   intro r hr
   rcases List.mem_append.1 hr with hr | hr
   ·exact h5 r hr
   ·rw [List.mem_singleton] at hr
    subst hr
    exact ⟨c2,c4⟩
  ·refine ⟨acc,?_,by omega,h5⟩
   simp only [Int.ofNat_lt,e,decide_false,cond_false]
   try rfl
theorem f10_eq (d:List Rl):∃ r,f10 (d,()) = some ((r,()),())∧smD r:=by
 obtain ⟨r,h1,h2⟩:=f10_loop d 6 0 (((d.length:Int) - 0).toNat + 1) [] rfl (Nat.zero_le _) (by omega) rfl (by simp)
 refine ⟨r,?_,h2⟩
 unfold f10
 exact bind_step h1 rfl
def putL (id:Int) (next:List Int):List Nm→Bool→List Nm × Bool
 | [],d=>([],d)
 | n :: l,d =>
  if id < n.1∧d = false then ((id,next,()) :: (if n.1 = id then (putL id next l true).1 else n :: (putL id next l true).1),(putL id next l true).2)
  else (if n.1 = id then (putL id next l d).1 else n :: (putL id next l d).1,(putL id next l d).2)
theorem putL_S (id:Int) (next:List Int):∀ (l:List Nm) (d:Bool),(putL id next l d).1++(if (putL id next l d).2 then [] else [(id,next,())]) = putS id next l d
 | [],d=>by cases d <;> rfl
 | n :: l,d=>by
  simp only [putL,putS]
  split
  ·rw [← putL_S id next l true]
   split <;> simp
  ·rw [← putL_S id next l d]
   split <;> simp
theorem f38_loop (l:List Nm) (hs:smR l) (id:Int) (next:List Int) (hn:next.length≤1000000):∀ (m j k:Nat) (d:Bool) (acc:List Nm),j + m = l.length→m < k→acc.length≤2 * j →
  f38_l4 l id next k d (j:Int) acc = some ((id,next,(putL id next (l.drop j) d).2,()),(),(acc++(putL id next (l.drop j) d).1,())):=by
 intro m
 have h0:=hs.1
 induction m with
 | zero =>
  intro j k d acc h1 h2 h3
  obtain ⟨k,rfl⟩:∃ q,k = q + 1:=⟨k - 1,by omega⟩
  conv=>lhs; unfold f38_l4
  rw [List.drop_of_length_le (by omega)]
  have e:¬ j < l.length:=by omega
  simp only [Int.ofNat_lt,e,decide_false,cond_false,putL,List.append_nil]
  try rfl
 | succ m ih =>
  intro j k d acc h1 h2 h3
  obtain ⟨k,rfl⟩:∃ q,k = q + 1:=⟨k - 1,by omega⟩
  have e:j < l.length:=by omega
  have hx:=smR_at hs j e
  conv=>lhs; unfold f38_l4
  rw [List.drop_eq_getElem_cons e,← atN tN l j e]
  simp only [Int.ofNat_lt,inRN,e,decide_true,cond_true,wS j (by omega)]
  generalize at_ tN l (j:Int) = x at hx
  obtain ⟨i,o,u⟩:=x
  have q1:decide (o.length≤appLim) = true:=sm_app hx
  have q2:decide (next.length≤appLim) = true:=sm_app hn
  have q3:decide (acc.length + 1≤appLim) = true:=zT (show _≤1073741824 by omega)
  have q4:decide (acc.length + 1 + 1≤appLim) = true:=zT (show _≤1073741824 by omega)
  simp only [q1,q2,q3,q4,cond_true,List.length_singleton,List.length_append,putL]
  by_cases c1:id < i
  ·have c2:¬ i = id:=fun h=>by rw [h] at c1; exact Int.lt_irrefl _ c1
   have g1:decide (i > id) = true:=zT c1
   have g2:decide (i ≠ id) = true:=zT c2
   cases d with
   | false =>
    simp only [g1,g2,cond_true,Bool.not_false,c1,c2,and_self,if_true,if_false]
    rw [ih (j + 1) k true _ (by omega) (by omega) (by simp; omega)]
    try simp
    try rfl
   | true =>
    simp only [g1,g2,cond_true,Bool.not_true,cond_false,c1,c2,Bool.true_eq_false,and_false,if_false]
    rw [ih (j + 1) k true _ (by omega) (by omega) (by simp; omega)]
    try simp
    try rfl
  ·have g1:decide (i > id) = false:=zF c1
   simp only [g1,cond_false,c1,false_and,if_false]
   by_cases c2:i = id
   ·subst c2
    have g2:decide (i ≠ i) = false:=by simp
    simp only [g2,cond_false,if_true]
    rw [ih (j + 1) k d _ (by omega) (by omega) (by omega)]
    try rfl
   ·have g2:decide (i ≠ id) = true:=zT c2
    simp only [g2,cond_true,c2,if_false]
    rw [ih (j + 1) k d _ (by omega) (by omega) (by simp; omega)]
    try simp
    try rfl
theorem putL_len (id:Int) (next:List Int):∀ (l:List Nm) (d:Bool),(putL id next l d).1.length≤2 * l.length
 | [],d=>by simp [putL]
 | n :: l,d=>by
  simp only [putL]
  have h1:=putL_len id next l true
  have h2:=putL_len id next l d
  split
  ·split <;> simp only [List.length_cons] <;> omega
  ·split <;> simp only [List.length_cons] <;> omega
theorem f38_eq (l:List Nm) (hs:smR l) (id:Int) (has:Bool) (next:List Int) (hn:next.length≤1000000):f38 l id has next = some (putS id next l (!has),()):=by
 unfold f38
 have h0:=hs.1
 have h:=f38_loop l hs id next hn l.length 0 (((l.length:Int) - 0).toNat + 1) (!has) [] (by omega) (by omega) (by simp)
 refine bind_step h ?_
 rw [List.drop_zero,List.nil_append,← putL_S]
 have hl:=putL_len id next l (!has)
 have q2:decide (next.length≤appLim) = true:=sm_app hn
 have q3:decide ((putL id next l (!has)).1.length + 1≤appLim) = true:=zT (show _≤1073741824 by omega)
 cases e:(putL id next l (!has)).2 with
 | true=>simp
 | false=>simp only [Bool.not_false,cond_true,q2,List.length_singleton,q3,Bool.false_eq_true,if_false]
theorem okRow_len {l:List Nm} (h:okRow l):l.length≤24:=by
 rw [← row_eq h]
 exact ids_len _
theorem okRow_sm {l:List Nm} (h:okRow l):smR l:=⟨by have:=okRow_len h; omega,fun n hn=>by have:=(h.1 n hn).2.1; omega⟩
theorem okC_sm {c:Ct} (h:okC c):smC c:=by
 refine ⟨h.1,fun l hl=>?_⟩
 obtain ⟨i,hi,rfl⟩:=List.mem_iff_getElem.1 hl
 have h1:=h.1
 have e:c.1[i] = c.1.getD i []:=by rw [List.getD_eq_getElem?_getD,List.getElem?_eq_getElem hi]; rfl
 rw [e]
 by_cases h0:i = 0
 ·subst h0
  rw [h.2.1]
  exact ⟨by simp,by simp⟩
 ·have:=h.2.2 (i:Int) (mem_kinds.2 (by omega))
  rw [Int.toNat_natCast] at this
  exact okRow_sm this
def i64 (x:Int):Prop:=-9223372036854775808≤x∧x≤9223372036854775807
theorem f37_eq {c:Int} (hc:i64 c) {n:Int} (hn:0 < n):∃ v,f37 c n = some (v,())∧0≤v∧v < n:=by
 obtain ⟨h1,h2⟩:=hc
 have hne:decide (n ≠ 0) = true:=by simp; omega
 unfold f37
 by_cases e:c < 0
 ·have e1:IntKind.wrap .i64 (c + 1) = c + 1:=wrap_i64 _ (by omega) (by omega)
  have e2:IntKind.wrap .i64 (0 - (c + 1)) = 0 - (c + 1):=wrap_i64 _ (by omega) (by omega)
  refine ⟨Int.tmod (0 - (c + 1)) n,?_,Int.tmod_nonneg _ (by omega),?_⟩
  ·simp only [e,decide_true,cond_true,e1,e2,hne]
   try rfl
  ·exact Int.tmod_lt_of_pos _ hn
 ·refine ⟨Int.tmod c n,?_,Int.tmod_nonneg _ (by omega),Int.tmod_lt_of_pos _ hn⟩
  simp only [e,decide_false,cond_false,hne,cond_true]
  try rfl
theorem wrap_rng (x:Int):i64 (IntKind.wrap .i64 x):=by
 unfold i64
 simp only [IntKind.wrap,IntKind.bits,IntKind.signed]
 have:=Int.emod_nonneg x (show (2:Int) ^ 64 ≠ 0 by decide)
 have:=Int.emod_lt_of_pos x (show (0:Int) < 2 ^ 64 by decide)
 simp only [Bool.true_and,decide_eq_true_eq,show (2:Int) ^ 64 = 18446744073709551616 from rfl,show (2:Int) ^ (64 - 1) = 9223372036854775808 from rfl] at *
 split <;> omega
def iRows (x:List (List Int)):Prop:=∀ r∈x,∀ v∈r,i64 v
theorem iAt {x:List (List Int)} (h:iRows x) (i j:Int):i64 (at_ yI (at_ (.arr 4 yI) x i) j):=by
 have h0:i64 0:=by unfold i64; omega
 have hr:∀ v∈(at_ (.arr 4 yI) x i:List Int),i64 v:=by
  unfold at_
  rw [List.getD_eq_getElem?_getD]
  cases e:x[i.toNat]? with
  | none =>
   intro v hv
   have:v∈List.replicate 4 (0:Int):=hv
   rw [(List.mem_replicate.1 this).2]
   exact h0
  | some r=>exact h r (List.mem_of_getElem? e)
 generalize (at_ (.arr 4 yI) x i:List Int) = r at hr ⊢
 unfold at_
 rw [List.getD_eq_getElem?_getD]
 cases e:r[j.toNat]? with
 | none=>exact h0
 | some v=>exact hr v (List.mem_of_getElem? e)
theorem f8_l7_eq (x:List (List Int)) (hx:iRows x) (i:Nat) (hi:i < x.length) (b2 b3:List (List Nm)):∀ (m j k:Nat) (acc:List Int),j + m = 4→m < k→acc.length = j→(∀ v∈acc,-1≤v∧v≤3) →
  ∃ l,f8_l7 x (i:Int) b2 b3 k (j:Int) acc = some ((x,((i:Int),(l,()))),(),((b2,()),(b3,()),()))∧okL l:=by
 intro m
 have fin:∀ (acc:List Int),acc.length≤4→(∀ v∈acc,-1≤v∧v≤3)→okL acc:=fun acc h1 h2=>⟨by omega,fun n hn=>by have:=h2 n hn; omega⟩
 obtain ⟨y2,hy2,hy3,hy4⟩:=f37_eq (iAt hx (i:Int) 2) (n:=4) (by omega)
 have i2:inR (2:Int) 4 = true:=by decide
 have i3:inR (3:Int) 4 = true:=by decide
 induction m with
 | zero =>
  intro j k acc h1 h2 h3 h4
  obtain ⟨k,rfl⟩:∃ q,k = q + 1:=⟨k - 1,by omega⟩
  refine ⟨acc,?_,fin acc (by omega) h4⟩
  conv=>lhs; unfold f8_l7
  have e:¬ (j:Int) < y2:=by omega
  simp only [inRN,hi,decide_true,cond_true,i2,hy2,Option.bind_some,e,decide_false,cond_false]
  try rfl
 | succ m ih =>
  intro j k acc h1 h2 h3 h4
  obtain ⟨k,rfl⟩:∃ q,k = q + 1:=⟨k - 1,by omega⟩
  conv=>arg 1; ext r; lhs; lhs; unfold f8_l7
  simp only [inRN,hi,decide_true,cond_true,i2,hy2,Option.bind_some]
  by_cases e:(j:Int) < y2
  ·have ew:IntKind.wrap .i64 ((1:Int) + (j:Int)) = ((j + 1:Nat):Int):=by rw [wrap_i64 _ (by omega) (by omega)]; omega
   have ene:decide (((j + 1:Nat):Int) ≠ 0) = true:=by simp; omega
   obtain ⟨y5,hy5,hy6,hy7⟩:=f37_eq (wrap_rng (Int.tdiv (at_ yI (at_ (.arr 4 yI) x (i:Int)) 3) ((j + 1:Nat):Int))) (n:=5) (by omega)
   have ea:decide (acc.length + 1≤appLim) = true:=sm_app (by omega)
   have ew2:IntKind.wrap .i64 (y5 - 1) = y5 - 1:=wrap_i64 _ (by omega) (by omega)
   simp only [e,decide_true,cond_true,i3,ew,ene,hy5,Option.bind_some,List.length_singleton,ea,wS j (by omega),ew2]
   refine ih (j + 1) k _ (by omega) (by omega) (by simp [h3]) ?_
   intro v hv
   rcases List.mem_append.1 hv with hv | hv
   ·exact h4 v hv
   ·rw [List.mem_singleton] at hv
    omega
  ·refine ⟨acc,?_,fin acc (by omega) h4⟩
   simp only [e,decide_false,cond_false]
   try rfl
theorem okC_set {b:List (List Nm)} (h:okC (b,())) {q:Nat} (h1:1≤q) (h2:q≤7) {l:List Nm} (hl:okRow l):okC (b.set q l,()):=by
 obtain ⟨k1,k2,k3⟩:=h
 simp only at k1 k2 k3
 refine ⟨by simpa using k1,?_,fun k hk=>?_⟩
 ·simp only [List.getD_eq_getElem?_getD] at k2 ⊢
  rw [List.getElem?_set_ne (by omega)]
  exact k2
 ·have hk':=mem_kinds.1 hk
  simp only [List.getD_eq_getElem?_getD]
  by_cases e:q = k.toNat
  ·rw [← e,List.getElem?_set_self (by omega)]
   exact hl
  ·rw [List.getElem?_set_ne e]
   have:=k3 k hk
   rw [List.getD_eq_getElem?_getD] at this
   exact this
theorem f8_l3_eq (x:List (List Int)) (hx:iRows x) (b2:List (List Nm)):∀ (m j k:Nat) (b:List (List Nm)),j + m = 20→j≤x.length→x.length < k + j→okC (b,()) →
  ∃ c,f8_l3 k x (j:Int) b2 b = some ((),(),((b2,()),(c,()),()))∧okC (c,()):=by
 intro m
 induction m with
 | zero =>
  intro j k b h1 h2 h3 h4
  obtain ⟨k,rfl⟩:∃ q,k = q + 1:=⟨k - 1,by omega⟩
  refine ⟨b,?_,h4⟩
  conv=>lhs; unfold f8_l3
  have e6:decide ((j:Int) < 20) = false:=by simp; omega
  by_cases e:j < x.length
  ·simp only [Int.ofNat_lt,e,decide_true,cond_true,e6,cond_false]
   try rfl
  ·simp only [Int.ofNat_lt,e,decide_false,cond_false]
   try rfl
 | succ m ih =>
  intro j k b h1 h2 h3 h4
  obtain ⟨k,rfl⟩:∃ q,k = q + 1:=⟨k - 1,by omega⟩
  conv=>arg 1; ext r; lhs; lhs; unfold f8_l3
  have e6:decide ((j:Int) < 20) = true:=by simp; omega
  by_cases e:j < x.length
  ·obtain ⟨l,g1,g2⟩:=f8_l7_eq x hx j e b2 b 4 0 5 [] rfl (by omega) rfl (by simp)
   obtain ⟨y13,p1,p2,p3⟩:=f37_eq (iAt hx (j:Int) 0) (n:=7) (by omega)
   obtain ⟨y16,r1,r2,r3⟩:=f37_eq (iAt hx (j:Int) 1) (n:=6) (by omega)
   obtain ⟨q,rfl⟩:∃ q:Nat,y13 = (q:Int):=⟨y13.toNat,by omega⟩
   have ew:IntKind.wrap .i64 ((1:Int) + (q:Int)) = ((q + 1:Nat):Int):=by rw [wrap_i64 _ (by omega) (by omega)]; omega
   have hrow:okRow (b.getD (q + 1) []):=by
    have:=h4.2.2 ((q + 1:Nat):Int) (mem_kinds.2 (by omega))
    rw [Int.toNat_natCast] at this
    exact this
   have e38:=f38_eq _ (okRow_sm hrow) y16 true l (by have:=g2.1; omega)
   have ei:inR ((q + 1:Nat):Int) 8 = true:=by rw [inRN]; simp; omega
   have er:at_ (.sl tN) b ((q + 1:Nat):Int) = b.getD (q + 1) []:=row_at (c:=(b,())) h4.1 (q + 1) (by omega)
   have h20:=okC_set h4 (q:=q + 1) (by omega) (by omega) (okRow_put hrow (id:=y16) (mem_ids.2 (by omega)) g2 (!true))
   obtain ⟨c,c1,c2⟩:=ih (j + 1) k _ (by omega) (by omega) (by omega) h20
   refine ⟨c,?_,c2⟩
   simp only [Int.ofNat_lt,e,decide_true,cond_true,e6]
   refine bind_step g1 ?_
   show (bif inR (j:Int) x.length then _ else none) = _
   simp only [inRN,e,decide_true,cond_true,show inR (0:Int) 4 = true from by decide,show inR (1:Int) 4 = true from by decide]
   refine bind_step p1 ?_
   show (bif inR (IntKind.wrap .i64 ((1:Int) + (q:Int))) 8 then _ else none) = _
   simp only [ew,ei,cond_true,er]
   refine bind_step r1 ?_
   refine bind_step e38 ?_
   show f8_l3 k x (IntKind.wrap .i64 ((j:Int) + 1)) b2 (b.set (Int.toNat ((q + 1:Nat):Int)) _) = _
   rw [wS j (by omega),Int.toNat_natCast]
   exact c1
  ·refine ⟨b,?_,h4⟩
   simp only [Int.ofNat_lt,e,decide_false,cond_false]
   try rfl
theorem okC_nil:okC (List.replicate 8 [],()):=by
 refine ⟨rfl,rfl,fun k hk=>?_⟩
 have:(List.replicate 8 ([]:List Nm)).getD k.toNat [] = []:=by
  rw [List.getD_eq_getElem?_getD,List.getElem?_replicate]
  split <;> rfl
 rw [this]
 exact ⟨by simp,by simp⟩
theorem f8_eq (x:List (List Int)) (hx:iRows x):∃ c,f8 x = some (c,())∧okC c:=by
 obtain ⟨c,h1,h2⟩:=f8_l3_eq x hx (List.replicate 8 []) 20 0 (((x.length:Int) - 0).toNat + 1) (List.replicate 8 []) rfl (Nat.zero_le _) (by omega) okC_nil
 refine ⟨(c,()),?_,h2⟩
 unfold f8
 exact bind_step h1 rfl
end Go.V.G
namespace Go.V.G
open Go.Proofs
noncomputable section
def few1 {R:Type} (GO:Int→List Yn→Option R) (q:Int) (V0:List Yn) (t5 W0:Int) (r0:List Yn):Option R :=
 same (
 let v4:(List Int):=(at_ yN V0 t5).2.1
 gI (at_ yN V0 t5).1 W0 (
 let v5:(List Int):=(at_ yN V0 t5).2.1
 gI (at_ yN V0 t5).1 W0 (
 gI (at_ yN V0 t5).1 W0 (
 let v6:Int:=(if (5:Int) < (v5.length:Int) then (5:Int) else (v5.length:Int))
 gI (at_ yN V0 t5).1 W0 (
 bif (cutOk v4.length none (some v6)) then
 gI (at_ yN V0 t5).1 W0 (
 bif (decide (r0.length + ([(W0,((v4.take (Int.toNat v6)),()))]:List Yn).length≤appLim)) then bif (inR q 8) then GO (IntKind.wrap .i64 (t5 + 1)) (r0++([(W0,((v4.take (Int.toNat v6)),()))]:List Yn)) else none else none)
 else none))))) (
 let v7:(List Int):=(at_ yN V0 t5).2.1
 gI (at_ yN V0 t5).1 W0 (
 same (
 let v8:(List Int):=(at_ yN V0 t5).2.1
 gI (at_ yN V0 t5).1 W0 (
 gI (at_ yN V0 t5).1 W0 (
 let v9:Int:=(if (5:Int) < (v7.length:Int) then (5:Int) else (v7.length:Int))
 gI (at_ yN V0 t5).1 W0 (
 bif (cutOk v8.length none (some v9)) then
 gI (at_ yN V0 t5).1 W0 (
 bif (decide (r0.length + ([(W0,((v8.take (Int.toNat v9)),()))]:List Yn).length≤appLim)) then bif (inR q 8) then GO (IntKind.wrap .i64 (t5 + 1)) (r0++([(W0,((v8.take (Int.toNat v9)),()))]:List Yn)) else none else none)
 else none)))) (
 gI (at_ yN V0 t5).1 W0 (
 same (
 let v10:(List Int):=(at_ yN V0 t5).2.1
 gI (at_ yN V0 t5).1 W0 (
 let v11:Int:=(if (5:Int) < (v7.length:Int) then (5:Int) else (v7.length:Int))
 gI (at_ yN V0 t5).1 W0 (
 bif (cutOk v10.length none (some v11)) then
 gI (at_ yN V0 t5).1 W0 (
 bif (decide (r0.length + ([(W0,((v10.take (Int.toNat v11)),()))]:List Yn).length≤appLim)) then bif (inR q 8) then GO (IntKind.wrap .i64 (t5 + 1)) (r0++([(W0,((v10.take (Int.toNat v11)),()))]:List Yn)) else none else none)
 else none))) (
 let v12:Int:=(if (5:Int) < (v7.length:Int) then (5:Int) else (v7.length:Int))
 gI (at_ yN V0 t5).1 W0 (
 let v13:(List Int):=(at_ yN V0 t5).2.1
 gI (at_ yN V0 t5).1 W0 (
 bif (cutOk v13.length none (some v12)) then
 gI (at_ yN V0 t5).1 W0 (
 bif (decide (r0.length + ([(W0,((v13.take (Int.toNat v12)),()))]:List Yn).length≤appLim)) then bif (inR q 8) then GO (IntKind.wrap .i64 (t5 + 1)) (r0++([(W0,((v13.take (Int.toNat v12)),()))]:List Yn)) else none else none)
 else none)))))))
def f11_l6b_head:Ann:={ env:=[(1,cP 1),(2,cP 2),(3,cP 3),(4,.cst (.val yI (0:Int))),(5,YI)],bxs:=[(1,.var [.ty (.arr 8 (.sl yN))]),(2,.var [.cst .nils,.cst .nils,.cst .nils,.cst .nils,.cst .nils,.cst .nils,.cst .nils,.cst .nils]),(3,.var [.cst (.row 999009047 .whole),.cst .nils,.cst .nils,.cst .nils,.cst .nils,.cst .nils,.cst .nils,.cst .nils]),(999009047,.row yN false)] }
def f11_l6b_outs:List (Ex × Ann):=[((.exit 2),{ env:=[(1,cP 1),(2,cP 2),(3,cP 3),(4,.cst (.val yI (0:Int)))],bxs:=[(1,.var [.ty (.arr 8 (.sl yN))]),(2,.var [.cst .nils,.cst .nils,.cst .nils,.cst .nils,.cst .nils,.cst .nils,.cst .nils,.cst .nils]),(3,.var [.cst (.row 999009047 .whole),.cst .nils,.cst .nils,.cst .nils,.cst .nils,.cst .nils,.cst .nils,.cst .nils]),(999009047,.row yN false)] })]
def f11_l6b (b1g0:(List (List Yn))):Nat→Int→(List Yn)→Option (outDen f11_l6b_outs)
 | 0,_,_=>none
 | k + 1,t5,r999009047 =>
 bif (inR (0:Int) 8) then
 let v1:(List Yn):=(at_ (.sl yN) b1g0 (0:Int))
 bif (decide (t5 < (v1.length:Int))) then
 bif (decide (t5 < (3:Int))) then
 bif (inR (0:Int) 8) then
 let v2:(List Yn):=(at_ (.sl yN) b1g0 (0:Int))
 bif (inR t5 v2.length) then
 bif (inR (0:Int) 8) then
 let v3:Int:=(at_ yN v2 t5).1
 few1 (fun a b=>f11_l6b b1g0 k a b) (0:Int) v2 t5 v3 r999009047
 else none
 else none
 else none
 else
 some ((),(),((b1g0,()),(),(),r999009047,()))
 else
 some ((),(),((b1g0,()),(),(),r999009047,()))
 else none
def f11_l6b_n (n:Nat) (x:f11_l6b_head.den):=f11_l6b x.2.2.1.1 n x.1.1 x.2.2.2.2.2.1
def f11_l6b_spec:LSpec:={ thaws:=[.cell 3 0 999009047 yN],head:=f11_l6b_head,outs:=f11_l6b_outs,fn:=fun x=>f11_l6b_n ((5:Nat)) x }
def f11_l6a_head:Ann:={ env:=[(1,cP 1),(2,cP 2),(3,cP 3),(4,.cst (.val yI (1:Int))),(5,YI)],bxs:=[(1,.var [.ty (.arr 8 (.sl yN))]),(2,.var [.cst .nils,.cst .nils,.cst .nils,.cst .nils,.cst .nils,.cst .nils,.cst .nils,.cst .nils]),(3,.var [.cst (.row 999009047 .whole),.cst (.row 999008047 .whole),.cst .nils,.cst .nils,.cst .nils,.cst .nils,.cst .nils,.cst .nils]),(999009047,.row yN false),(999008047,.row yN false)] }
def f11_l6a_outs:List (Ex × Ann):=[((.exit 2),{ env:=[(1,cP 1),(2,cP 2),(3,cP 3),(4,.cst (.val yI (1:Int)))],bxs:=[(1,.var [.ty (.arr 8 (.sl yN))]),(2,.var [.cst .nils,.cst .nils,.cst .nils,.cst .nils,.cst .nils,.cst .nils,.cst .nils,.cst .nils]),(3,.var [.cst (.row 999009047 .whole),.cst (.row 999008047 .whole),.cst .nils,.cst .nils,.cst .nils,.cst .nils,.cst .nils,.cst .nils]),(999009047,.row yN false),(999008047,.row yN false)] })]
def f11_l6a (b1g0:(List (List Yn))) (r999009047:(List Yn)):Nat→Int→(List Yn)→Option (outDen f11_l6a_outs)
 | 0,_,_=>none
 | k + 1,t5,r999008047 =>
 bif (inR (1:Int) 8) then
 let v17:(List Yn):=(at_ (.sl yN) b1g0 (1:Int))
 bif (decide (t5 < (v17.length:Int))) then
 bif (decide (t5 < (3:Int))) then
 bif (inR (1:Int) 8) then
 let v18:(List Yn):=(at_ (.sl yN) b1g0 (1:Int))
 bif (inR t5 v18.length) then
 bif (inR (1:Int) 8) then
 let v19:Int:=(at_ yN v18 t5).1
 few1 (fun a b=>f11_l6a b1g0 r999009047 k a b) (1:Int) v18 t5 v19 r999008047
 else none
 else none
 else none
 else
 some ((),(),((b1g0,()),(),(),r999009047,r999008047,()))
 else
 some ((),(),((b1g0,()),(),(),r999009047,r999008047,()))
 else none
def f11_l6a_n (n:Nat) (x:f11_l6a_head.den):=f11_l6a x.2.2.1.1 x.2.2.2.2.2.1 n x.1.1 x.2.2.2.2.2.2.1
def f11_l6a_spec:LSpec:={ thaws:=[.cell 3 1 999008047 yN],head:=f11_l6a_head,outs:=f11_l6a_outs,fn:=fun x=>f11_l6a_n ((5:Nat)) x }
def f11_l6u_head:Ann:={ env:=[(1,cP 1),(2,cP 2),(3,cP 3),(4,.cst (.val yI (2:Int))),(5,YI)],bxs:=[(1,.var [.ty (.arr 8 (.sl yN))]),(2,.var [.cst .nils,.cst .nils,.cst .nils,.cst .nils,.cst .nils,.cst .nils,.cst .nils,.cst .nils]),(3,.var [.cst (.row 999009047 .whole),.cst (.row 999008047 .whole),.cst (.row 999007047 .whole),.cst .nils,.cst .nils,.cst .nils,.cst .nils,.cst .nils]),(999009047,.row yN false),(999008047,.row yN false),(999007047,.row yN false)] }
def f11_l6u_outs:List (Ex × Ann):=[((.exit 2),{ env:=[(1,cP 1),(2,cP 2),(3,cP 3),(4,.cst (.val yI (2:Int)))],bxs:=[(1,.var [.ty (.arr 8 (.sl yN))]),(2,.var [.cst .nils,.cst .nils,.cst .nils,.cst .nils,.cst .nils,.cst .nils,.cst .nils,.cst .nils]),(3,.var [.cst (.row 999009047 .whole),.cst (.row 999008047 .whole),.cst (.row 999007047 .whole),.cst .nils,.cst .nils,.cst .nils,.cst .nils,.cst .nils]),(999009047,.row yN false),(999008047,.row yN false),(999007047,.row yN false)] })]
def f11_l6u (b1g0:(List (List Yn))) (r999009047:(List Yn)) (r999008047:(List Yn)):Nat→Int→(List Yn)→Option (outDen f11_l6u_outs)
 | 0,_,_=>none
 | k + 1,t5,r999007047 =>
 bif (inR (2:Int) 8) then
 let v34:(List Yn):=(at_ (.sl yN) b1g0 (2:Int))
 bif (decide (t5 < (v34.length:Int))) then
 bif (decide (t5 < (3:Int))) then
 bif (inR (2:Int) 8) then
 let v35:(List Yn):=(at_ (.sl yN) b1g0 (2:Int))
 bif (inR t5 v35.length) then
 bif (inR (2:Int) 8) then
 let v36:Int:=(at_ yN v35 t5).1
 few1 (fun a b=>f11_l6u b1g0 r999009047 r999008047 k a b) (2:Int) v35 t5 v36 r999007047
 else none
 else none
 else none
 else
 some ((),(),((b1g0,()),(),(),r999009047,r999008047,r999007047,()))
 else
 some ((),(),((b1g0,()),(),(),r999009047,r999008047,r999007047,()))
 else none
def f11_l6u_n (n:Nat) (x:f11_l6u_head.den):=f11_l6u x.2.2.1.1 x.2.2.2.2.2.1 x.2.2.2.2.2.2.1 n x.1.1 x.2.2.2.2.2.2.2.1
def f11_l6u_spec:LSpec:={ thaws:=[.cell 3 2 999007047 yN],head:=f11_l6u_head,outs:=f11_l6u_outs,fn:=fun x=>f11_l6u_n ((5:Nat)) x }
def f11_l6v_head:Ann:={ env:=[(1,cP 1),(2,cP 2),(3,cP 3),(4,.cst (.val yI (3:Int))),(5,YI)],bxs:=[(1,.var [.ty (.arr 8 (.sl yN))]),(2,.var [.cst .nils,.cst .nils,.cst .nils,.cst .nils,.cst .nils,.cst .nils,.cst .nils,.cst .nils]),(3,.var [.cst (.row 999009047 .whole),.cst (.row 999008047 .whole),.cst (.row 999007047 .whole),.cst (.row 999006047 .whole),.cst .nils,.cst .nils,.cst .nils,.cst .nils]),(999009047,.row yN false),(999008047,.row yN false),(999007047,.row yN false),(999006047,.row yN false)] }
def f11_l6v_outs:List (Ex × Ann):=[((.exit 2),{ env:=[(1,cP 1),(2,cP 2),(3,cP 3),(4,.cst (.val yI (3:Int)))],bxs:=[(1,.var [.ty (.arr 8 (.sl yN))]),(2,.var [.cst .nils,.cst .nils,.cst .nils,.cst .nils,.cst .nils,.cst .nils,.cst .nils,.cst .nils]),(3,.var [.cst (.row 999009047 .whole),.cst (.row 999008047 .whole),.cst (.row 999007047 .whole),.cst (.row 999006047 .whole),.cst .nils,.cst .nils,.cst .nils,.cst .nils]),(999009047,.row yN false),(999008047,.row yN false),(999007047,.row yN false),(999006047,.row yN false)] })]
def f11_l6v (b1g0:(List (List Yn))) (r999009047:(List Yn)) (r999008047:(List Yn)) (r999007047:(List Yn)):Nat→Int→(List Yn)→Option (outDen f11_l6v_outs)
 | 0,_,_=>none
 | k + 1,t5,r999006047 =>
 bif (inR (3:Int) 8) then
 let v52:(List Yn):=(at_ (.sl yN) b1g0 (3:Int))
 bif (decide (t5 < (v52.length:Int))) then
 bif (decide (t5 < (3:Int))) then
 bif (inR (3:Int) 8) then
 let v53:(List Yn):=(at_ (.sl yN) b1g0 (3:Int))
 bif (inR t5 v53.length) then
 bif (inR (3:Int) 8) then
 let v54:Int:=(at_ yN v53 t5).1
 few1 (fun a b=>f11_l6v b1g0 r999009047 r999008047 r999007047 k a b) (3:Int) v53 t5 v54 r999006047
 else none
 else none
 else none
 else
 some ((),(),((b1g0,()),(),(),r999009047,r999008047,r999007047,r999006047,()))
 else
 some ((),(),((b1g0,()),(),(),r999009047,r999008047,r999007047,r999006047,()))
 else none
def f11_l6v_n (n:Nat) (x:f11_l6v_head.den):=f11_l6v x.2.2.1.1 x.2.2.2.2.2.1 x.2.2.2.2.2.2.1 x.2.2.2.2.2.2.2.1 n x.1.1 x.2.2.2.2.2.2.2.2.1
def f11_l6v_spec:LSpec:={ thaws:=[.cell 3 3 999006047 yN],head:=f11_l6v_head,outs:=f11_l6v_outs,fn:=fun x=>f11_l6v_n ((5:Nat)) x }
def f11_l6w_head:Ann:={ env:=[(1,cP 1),(2,cP 2),(3,cP 3),(4,.cst (.val yI (4:Int))),(5,YI)],bxs:=[(1,.var [.ty (.arr 8 (.sl yN))]),(2,.var [.cst .nils,.cst .nils,.cst .nils,.cst .nils,.cst .nils,.cst .nils,.cst .nils,.cst .nils]),(3,.var [.cst (.row 999009047 .whole),.cst (.row 999008047 .whole),.cst (.row 999007047 .whole),.cst (.row 999006047 .whole),.cst (.row 999005047 .whole),.cst .nils,.cst .nils,.cst .nils]),(999009047,.row yN false),(999008047,.row yN false),(999007047,.row yN false),(999006047,.row yN false),(999005047,.row yN false)] }
def f11_l6w_outs:List (Ex × Ann):=[((.exit 2),{ env:=[(1,cP 1),(2,cP 2),(3,cP 3),(4,.cst (.val yI (4:Int)))],bxs:=[(1,.var [.ty (.arr 8 (.sl yN))]),(2,.var [.cst .nils,.cst .nils,.cst .nils,.cst .nils,.cst .nils,.cst .nils,.cst .nils,.cst .nils]),(3,.var [.cst (.row 999009047 .whole),.cst (.row 999008047 .whole),.cst (.row 999007047 .whole),.cst (.row 999006047 .whole),.cst (.row 999005047 .whole),.cst .nils,.cst .nils,.cst .nils]),(999009047,.row yN false),(999008047,.row yN false),(999007047,.row yN false),(999006047,.row yN false),(999005047,.row yN false)] })]
def f11_l6w (b1g0:(List (List Yn))) (r999009047:(List Yn)) (r999008047:(List Yn)) (r999007047:(List Yn)) (r999006047:(List Yn)):Nat→Int→(List Yn)→Option (outDen f11_l6w_outs)
 | 0,_,_=>none
 | k + 1,t5,r999005047 =>
 bif (inR (4:Int) 8) then
 let v71:(List Yn):=(at_ (.sl yN) b1g0 (4:Int))
 bif (decide (t5 < (v71.length:Int))) then
 bif (decide (t5 < (3:Int))) then
 bif (inR (4:Int) 8) then
 let v72:(List Yn):=(at_ (.sl yN) b1g0 (4:Int))
 bif (inR t5 v72.length) then
 bif (inR (4:Int) 8) then
 let v73:Int:=(at_ yN v72 t5).1
 few1 (fun a b=>f11_l6w b1g0 r999009047 r999008047 r999007047 r999006047 k a b) (4:Int) v72 t5 v73 r999005047
 else none
 else none
 else none
 else
 some ((),(),((b1g0,()),(),(),r999009047,r999008047,r999007047,r999006047,r999005047,()))
 else
 some ((),(),((b1g0,()),(),(),r999009047,r999008047,r999007047,r999006047,r999005047,()))
 else none
def f11_l6w_n (n:Nat) (x:f11_l6w_head.den):=f11_l6w x.2.2.1.1 x.2.2.2.2.2.1 x.2.2.2.2.2.2.1 x.2.2.2.2.2.2.2.1 x.2.2.2.2.2.2.2.2.1 n x.1.1 x.2.2.2.2.2.2.2.2.2.1
def f11_l6w_spec:LSpec:={ thaws:=[.cell 3 4 999005047 yN],head:=f11_l6w_head,outs:=f11_l6w_outs,fn:=fun x=>f11_l6w_n ((5:Nat)) x }
def f11_l6z_head:Ann:={ env:=[(1,cP 1),(2,cP 2),(3,cP 3),(4,.cst (.val yI (5:Int))),(5,YI)],bxs:=[(1,.var [.ty (.arr 8 (.sl yN))]),(2,.var [.cst .nils,.cst .nils,.cst .nils,.cst .nils,.cst .nils,.cst .nils,.cst .nils,.cst .nils]),(3,.var [.cst (.row 999009047 .whole),.cst (.row 999008047 .whole),.cst (.row 999007047 .whole),.cst (.row 999006047 .whole),.cst (.row 999005047 .whole),.cst (.row 999004047 .whole),.cst .nils,.cst .nils]),(999009047,.row yN false),(999008047,.row yN false),(999007047,.row yN false),(999006047,.row yN false),(999005047,.row yN false),(999004047,.row yN false)] }
def f11_l6z_outs:List (Ex × Ann):=[((.exit 2),{ env:=[(1,cP 1),(2,cP 2),(3,cP 3),(4,.cst (.val yI (5:Int)))],bxs:=[(1,.var [.ty (.arr 8 (.sl yN))]),(2,.var [.cst .nils,.cst .nils,.cst .nils,.cst .nils,.cst .nils,.cst .nils,.cst .nils,.cst .nils]),(3,.var [.cst (.row 999009047 .whole),.cst (.row 999008047 .whole),.cst (.row 999007047 .whole),.cst (.row 999006047 .whole),.cst (.row 999005047 .whole),.cst (.row 999004047 .whole),.cst .nils,.cst .nils]),(999009047,.row yN false),(999008047,.row yN false),(999007047,.row yN false),(999006047,.row yN false),(999005047,.row yN false),(999004047,.row yN false)] })]
def f11_l6z (b1g0:(List (List Yn))) (r999009047:(List Yn)) (r999008047:(List Yn)) (r999007047:(List Yn)) (r999006047:(List Yn)) (r999005047:(List Yn)):Nat→Int→(List Yn)→Option (outDen f11_l6z_outs)
 | 0,_,_=>none
 | k + 1,t5,r999004047 =>
 bif (inR (5:Int) 8) then
 let v91:(List Yn):=(at_ (.sl yN) b1g0 (5:Int))
 bif (decide (t5 < (v91.length:Int))) then
 bif (decide (t5 < (3:Int))) then
 bif (inR (5:Int) 8) then
 let v92:(List Yn):=(at_ (.sl yN) b1g0 (5:Int))
 bif (inR t5 v92.length) then
 bif (inR (5:Int) 8) then
 let v93:Int:=(at_ yN v92 t5).1
 few1 (fun a b=>f11_l6z b1g0 r999009047 r999008047 r999007047 r999006047 r999005047 k a b) (5:Int) v92 t5 v93 r999004047
 else none
 else none
 else none
 else
 some ((),(),((b1g0,()),(),(),r999009047,r999008047,r999007047,r999006047,r999005047,r999004047,()))
 else
 some ((),(),((b1g0,()),(),(),r999009047,r999008047,r999007047,r999006047,r999005047,r999004047,()))
 else none
def f11_l6z_n (n:Nat) (x:f11_l6z_head.den):=f11_l6z x.2.2.1.1 x.2.2.2.2.2.1 x.2.2.2.2.2.2.1 x.2.2.2.2.2.2.2.1 x.2.2.2.2.2.2.2.2.1 x.2.2.2.2.2.2.2.2.2.1 n x.1.1 x.2.2.2.2.2.2.2.2.2.2.1
def f11_l6z_spec:LSpec:={ thaws:=[.cell 3 5 999004047 yN],head:=f11_l6z_head,outs:=f11_l6z_outs,fn:=fun x=>f11_l6z_n ((5:Nat)) x }
def f11_l6y_head:Ann:={ env:=[(1,cP 1),(2,cP 2),(3,cP 3),(4,.cst (.val yI (6:Int))),(5,YI)],bxs:=[(1,.var [.ty (.arr 8 (.sl yN))]),(2,.var [.cst .nils,.cst .nils,.cst .nils,.cst .nils,.cst .nils,.cst .nils,.cst .nils,.cst .nils]),(3,.var [.cst (.row 999009047 .whole),.cst (.row 999008047 .whole),.cst (.row 999007047 .whole),.cst (.row 999006047 .whole),.cst (.row 999005047 .whole),.cst (.row 999004047 .whole),.cst (.row 999003047 .whole),.cst .nils]),(999009047,.row yN false),(999008047,.row yN false),(999007047,.row yN false),(999006047,.row yN false),(999005047,.row yN false),(999004047,.row yN false),(999003047,.row yN false)] }
def f11_l6y_outs:List (Ex × Ann):=[((.exit 2),{ env:=[(1,cP 1),(2,cP 2),(3,cP 3),(4,.cst (.val yI (6:Int)))],bxs:=[(1,.var [.ty (.arr 8 (.sl yN))]),(2,.var [.cst .nils,.cst .nils,.cst .nils,.cst .nils,.cst .nils,.cst .nils,.cst .nils,.cst .nils]),(3,.var [.cst (.row 999009047 .whole),.cst (.row 999008047 .whole),.cst (.row 999007047 .whole),.cst (.row 999006047 .whole),.cst (.row 999005047 .whole),.cst (.row 999004047 .whole),.cst (.row 999003047 .whole),.cst .nils]),(999009047,.row yN false),(999008047,.row yN false),(999007047,.row yN false),(999006047,.row yN false),(999005047,.row yN false),(999004047,.row yN false),(999003047,.row yN false)] })]
def f11_l6y (b1g0:(List (List Yn))) (r999009047:(List Yn)) (r999008047:(List Yn)) (r999007047:(List Yn)) (r999006047:(List Yn)) (r999005047:(List Yn)) (r999004047:(List Yn)):Nat→Int→(List Yn)→Option (outDen f11_l6y_outs)
 | 0,_,_=>none
 | k + 1,t5,r999003047 =>
 bif (inR (6:Int) 8) then
 let v112:(List Yn):=(at_ (.sl yN) b1g0 (6:Int))
 bif (decide (t5 < (v112.length:Int))) then
 bif (decide (t5 < (3:Int))) then
 bif (inR (6:Int) 8) then
 let v113:(List Yn):=(at_ (.sl yN) b1g0 (6:Int))
 bif (inR t5 v113.length) then
 bif (inR (6:Int) 8) then
 let v114:Int:=(at_ yN v113 t5).1
 few1 (fun a b=>f11_l6y b1g0 r999009047 r999008047 r999007047 r999006047 r999005047 r999004047 k a b) (6:Int) v113 t5 v114 r999003047
 else none
 else none
 else none
 else
 some ((),(),((b1g0,()),(),(),r999009047,r999008047,r999007047,r999006047,r999005047,r999004047,r999003047,()))
 else
 some ((),(),((b1g0,()),(),(),r999009047,r999008047,r999007047,r999006047,r999005047,r999004047,r999003047,()))
 else none
def f11_l6y_n (n:Nat) (x:f11_l6y_head.den):=f11_l6y x.2.2.1.1 x.2.2.2.2.2.1 x.2.2.2.2.2.2.1 x.2.2.2.2.2.2.2.1 x.2.2.2.2.2.2.2.2.1 x.2.2.2.2.2.2.2.2.2.1 x.2.2.2.2.2.2.2.2.2.2.1 n x.1.1 x.2.2.2.2.2.2.2.2.2.2.2.1
def f11_l6y_spec:LSpec:={ thaws:=[.cell 3 6 999003047 yN],head:=f11_l6y_head,outs:=f11_l6y_outs,fn:=fun x=>f11_l6y_n ((5:Nat)) x }
def f11_l6x_head:Ann:={ env:=[(1,cP 1),(2,cP 2),(3,cP 3),(4,.cst (.val yI (7:Int))),(5,YI)],bxs:=[(1,.var [.ty (.arr 8 (.sl yN))]),(2,.var [.cst .nils,.cst .nils,.cst .nils,.cst .nils,.cst .nils,.cst .nils,.cst .nils,.cst .nils]),(3,.var [.cst (.row 999009047 .whole),.cst (.row 999008047 .whole),.cst (.row 999007047 .whole),.cst (.row 999006047 .whole),.cst (.row 999005047 .whole),.cst (.row 999004047 .whole),.cst (.row 999003047 .whole),.cst (.row 999002047 .whole)]),(999009047,.row yN false),(999008047,.row yN false),(999007047,.row yN false),(999006047,.row yN false),(999005047,.row yN false),(999004047,.row yN false),(999003047,.row yN false),(999002047,.row yN false)] }
def f11_l6x_outs:List (Ex × Ann):=[((.exit 2),{ env:=[(1,cP 1),(2,cP 2),(3,cP 3),(4,.cst (.val yI (7:Int)))],bxs:=[(1,.var [.ty (.arr 8 (.sl yN))]),(2,.var [.cst .nils,.cst .nils,.cst .nils,.cst .nils,.cst .nils,.cst .nils,.cst .nils,.cst .nils]),(3,.var [.cst (.row 999009047 .whole),.cst (.row 999008047 .whole),.cst (.row 999007047 .whole),.cst (.row 999006047 .whole),.cst (.row 999005047 .whole),.cst (.row 999004047 .whole),.cst (.row 999003047 .whole),.cst (.row 999002047 .whole)]),(999009047,.row yN false),(999008047,.row yN false),(999007047,.row yN false),(999006047,.row yN false),(999005047,.row yN false),(999004047,.row yN false),(999003047,.row yN false),(999002047,.row yN false)] })]
def f11_l6x (b1g0:(List (List Yn))) (r999009047:(List Yn)) (r999008047:(List Yn)) (r999007047:(List Yn)) (r999006047:(List Yn)) (r999005047:(List Yn)) (r999004047:(List Yn)) (r999003047:(List Yn)):Nat→Int→(List Yn)→Option (outDen f11_l6x_outs)
 | 0,_,_=>none
 | k + 1,t5,r999002047 =>
 bif (inR (7:Int) 8) then
 let v134:(List Yn):=(at_ (.sl yN) b1g0 (7:Int))
 bif (decide (t5 < (v134.length:Int))) then
 bif (decide (t5 < (3:Int))) then
 bif (inR (7:Int) 8) then
 let v135:(List Yn):=(at_ (.sl yN) b1g0 (7:Int))
 bif (inR t5 v135.length) then
 bif (inR (7:Int) 8) then
 let v136:Int:=(at_ yN v135 t5).1
 few1 (fun a b=>f11_l6x b1g0 r999009047 r999008047 r999007047 r999006047 r999005047 r999004047 r999003047 k a b) (7:Int) v135 t5 v136 r999002047
 else none
 else none
 else none
 else
 some ((),(),((b1g0,()),(),(),r999009047,r999008047,r999007047,r999006047,r999005047,r999004047,r999003047,r999002047,()))
 else
 some ((),(),((b1g0,()),(),(),r999009047,r999008047,r999007047,r999006047,r999005047,r999004047,r999003047,r999002047,()))
 else none
def f11_l6x_n (n:Nat) (x:f11_l6x_head.den):=f11_l6x x.2.2.1.1 x.2.2.2.2.2.1 x.2.2.2.2.2.2.1 x.2.2.2.2.2.2.2.1 x.2.2.2.2.2.2.2.2.1 x.2.2.2.2.2.2.2.2.2.1 x.2.2.2.2.2.2.2.2.2.2.1 x.2.2.2.2.2.2.2.2.2.2.2.1 n x.1.1 x.2.2.2.2.2.2.2.2.2.2.2.2.1
def f11_l6x_spec:LSpec:={ thaws:=[.cell 3 7 999002047 yN],head:=f11_l6x_head,outs:=f11_l6x_outs,fn:=fun x=>f11_l6x_n ((5:Nat)) x }
def f11 (a0:Yc):Option (Yc × Unit) :=
 (f11_l6b a0.1 ((5:Nat)) (0:Int) []).bind fun o14 =>
 let u15:(List (List Yn)):=o14.2.2.1.1
 let u16:(List Yn):=o14.2.2.2.2.2.1
 (f11_l6a u15 u16 ((5:Nat)) (0:Int) []).bind fun o30 =>
 let u31:(List (List Yn)):=o30.2.2.1.1
 let u32:(List Yn):=o30.2.2.2.2.2.1
 let u33:(List Yn):=o30.2.2.2.2.2.2.1
 (f11_l6u u31 u32 u33 ((5:Nat)) (0:Int) []).bind fun o47 =>
 let u48:(List (List Yn)):=o47.2.2.1.1
 let u49:(List Yn):=o47.2.2.2.2.2.1
 let u50:(List Yn):=o47.2.2.2.2.2.2.1
 let u51:(List Yn):=o47.2.2.2.2.2.2.2.1
 (f11_l6v u48 u49 u50 u51 ((5:Nat)) (0:Int) []).bind fun o65 =>
 let u66:(List (List Yn)):=o65.2.2.1.1
 let u67:(List Yn):=o65.2.2.2.2.2.1
 let u68:(List Yn):=o65.2.2.2.2.2.2.1
 let u69:(List Yn):=o65.2.2.2.2.2.2.2.1
 let u70:(List Yn):=o65.2.2.2.2.2.2.2.2.1
 (f11_l6w u66 u67 u68 u69 u70 ((5:Nat)) (0:Int) []).bind fun o84 =>
 let u85:(List (List Yn)):=o84.2.2.1.1
 let u86:(List Yn):=o84.2.2.2.2.2.1
 let u87:(List Yn):=o84.2.2.2.2.2.2.1
 let u88:(List Yn):=o84.2.2.2.2.2.2.2.1
 let u89:(List Yn):=o84.2.2.2.2.2.2.2.2.1
 let u90:(List Yn):=o84.2.2.2.2.2.2.2.2.2.1
 (f11_l6z u85 u86 u87 u88 u89 u90 ((5:Nat)) (0:Int) []).bind fun o104 =>
 let u105:(List (List Yn)):=o104.2.2.1.1
 let u106:(List Yn):=o104.2.2.2.2.2.1
 let u107:(List Yn):=o104.2.2.2.2.2.2.1
 let u108:(List Yn):=o104.2.2.2.2.2.2.2.1
 let u109:(List Yn):=o104.2.2.2.2.2.2.2.2.1
 let u110:(List Yn):=o104.2.2.2.2.2.2.2.2.2.1
 let u111:(List Yn):=o104.2.2.2.2.2.2.2.2.2.2.1
 (f11_l6y u105 u106 u107 u108 u109 u110 u111 ((5:Nat)) (0:Int) []).bind fun o125 =>
 let u126:(List (List Yn)):=o125.2.2.1.1
 let u127:(List Yn):=o125.2.2.2.2.2.1
 let u128:(List Yn):=o125.2.2.2.2.2.2.1
 let u129:(List Yn):=o125.2.2.2.2.2.2.2.1
 let u130:(List Yn):=o125.2.2.2.2.2.2.2.2.1
 let u131:(List Yn):=o125.2.2.2.2.2.2.2.2.2.1
 let u132:(List Yn):=o125.2.2.2.2.2.2.2.2.2.2.1
 let u133:(List Yn):=o125.2.2.2.2.2.2.2.2.2.2.2.1
 (f11_l6x u126 u127 u128 u129 u130 u131 u132 u133 ((5:Nat)) (0:Int) []).bind fun o147 =>
 let u149:(List Yn):=o147.2.2.2.2.2.1
 let u150:(List Yn):=o147.2.2.2.2.2.2.1
 let u151:(List Yn):=o147.2.2.2.2.2.2.2.1
 let u152:(List Yn):=o147.2.2.2.2.2.2.2.2.1
 let u153:(List Yn):=o147.2.2.2.2.2.2.2.2.2.1
 let u154:(List Yn):=o147.2.2.2.2.2.2.2.2.2.2.1
 let u155:(List Yn):=o147.2.2.2.2.2.2.2.2.2.2.2.1
 let u156:(List Yn):=o147.2.2.2.2.2.2.2.2.2.2.2.2.1
 some ((([u149,u150,u151,u152,u153,u154,u155,u156]:List (List Yn)),()),())
def f11_spec:PSpec:={ args:=[yC],res:=[yC],fn:=fun x=>f11 x.1 }
noncomputable def f11_code:Code:=Tryz.f11.body.getD .skip
noncomputable def f11_env:Env0:={ C:=cfgX,P:=[],L:=[(⟨12,999009000,11,6⟩,f11_l6b_spec),(⟨12,999008000,11,6⟩,f11_l6a_spec),(⟨12,999007000,11,6⟩,f11_l6u_spec),(⟨12,999006000,11,6⟩,f11_l6v_spec),(⟨12,999005000,11,6⟩,f11_l6w_spec),(⟨12,999004000,11,6⟩,f11_l6z_spec),(⟨12,999003000,11,6⟩,f11_l6y_spec),(⟨12,999002000,11,6⟩,f11_l6x_spec)],F:=[(11,Tryz.f11)],I:=[],tot:=[(11,[9])],fuel:=10,vary:=true,sym:=true }
theorem f11_l6b_ok:LoopOK f11_env 12 11 999009000 (loopAt f11_code 6) f11_l6b_spec :=
 loopOK_of (by kernel_rfl) f11_l6b_n (fun x o h=>⟨_,h⟩) (fun x=>by kernel_rfl) (fun n x=>by kernel_rfl)
theorem f11_l6a_ok:LoopOK f11_env 12 11 999008000 (loopAt f11_code 6) f11_l6a_spec :=
 loopOK_of (by kernel_rfl) f11_l6a_n (fun x o h=>⟨_,h⟩) (fun x=>by kernel_rfl) (fun n x=>by kernel_rfl)
theorem f11_l6u_ok:LoopOK f11_env 12 11 999007000 (loopAt f11_code 6) f11_l6u_spec :=
 loopOK_of (by kernel_rfl) f11_l6u_n (fun x o h=>⟨_,h⟩) (fun x=>by kernel_rfl) (fun n x=>by kernel_rfl)
theorem f11_l6v_ok:LoopOK f11_env 12 11 999006000 (loopAt f11_code 6) f11_l6v_spec :=
 loopOK_of (by kernel_rfl) f11_l6v_n (fun x o h=>⟨_,h⟩) (fun x=>by kernel_rfl) (fun n x=>by kernel_rfl)
theorem f11_l6w_ok:LoopOK f11_env 12 11 999005000 (loopAt f11_code 6) f11_l6w_spec :=
 loopOK_of (by kernel_rfl) f11_l6w_n (fun x o h=>⟨_,h⟩) (fun x=>by kernel_rfl) (fun n x=>by kernel_rfl)
theorem f11_l6z_ok:LoopOK f11_env 12 11 999004000 (loopAt f11_code 6) f11_l6z_spec :=
 loopOK_of (by kernel_rfl) f11_l6z_n (fun x o h=>⟨_,h⟩) (fun x=>by kernel_rfl) (fun n x=>by kernel_rfl)
theorem f11_l6y_ok:LoopOK f11_env 12 11 999003000 (loopAt f11_code 6) f11_l6y_spec :=
 loopOK_of (by kernel_rfl) f11_l6y_n (fun x o h=>⟨_,h⟩) (fun x=>by kernel_rfl) (fun n x=>by kernel_rfl)
theorem f11_l6x_ok:LoopOK f11_env 12 11 999002000 (loopAt f11_code 6) f11_l6x_spec :=
 loopOK_of (by kernel_rfl) f11_l6x_n (fun x o h=>⟨_,h⟩) (fun x=>by kernel_rfl) (fun n x=>by kernel_rfl)
theorem f11_run:zR f11_env 11 Tryz.f11 f11_code f11_spec:=by intro x; kernel_rfl
theorem f11_enter:zQ 11:=zN Tryz.func11
theorem f11_envOK:zE f11_env:=zO cfgX_ok trivial trivial ⟨zK Tryz.func11,trivial⟩ ⟨⟨Tryz.f11,f11_code,rfl,rfl,f11_l6b_ok⟩,⟨Tryz.f11,f11_code,rfl,rfl,f11_l6a_ok⟩,⟨Tryz.f11,f11_code,rfl,rfl,f11_l6u_ok⟩,⟨Tryz.f11,f11_code,rfl,rfl,f11_l6v_ok⟩,⟨Tryz.f11,f11_code,rfl,rfl,f11_l6w_ok⟩,⟨Tryz.f11,f11_code,rfl,rfl,f11_l6z_ok⟩,⟨Tryz.f11,f11_code,rfl,rfl,f11_l6y_ok⟩,⟨Tryz.f11,f11_code,rfl,rfl,f11_l6x_ok⟩,trivial⟩
theorem f11_pure:zU 11 f11_spec:=zP f11_envOK Tryz.f11 f11_code f11_run
end
end Go.V.G
namespace Go.V.G
open Go.Proofs
noncomputable section
def f41_l4c_head:Ann:={ env:=[(0,.cst (.fn 61 [(.ptr 6 0 []),(.ptr 7 0 []),(.ptr 4 0 [])])),(2,YI),(8,YI)],stk:=[[(4,cP 4),(5,cP 5)],[(0,.cst (.tup [(.fn 47 []),(.ptr 5 0 [])]))],[(0,.cst (.tup [(.fn 60 [(.ptr 5 0 []),(.ptr 4 0 [])])]))]],bxs:=[(6,.var [.cst (.mp 18)]),(7,.var [.cst (.mp 21)]),(4,.var [.cst (.row 23015066 .whole)]),(5,.var [YI]),(18,.map (.arr 2 yI) yR),(21,.map (.arr 2 yI) yR),(23015066,.row yR false)] }
def f41_l4c_outs:List (Ex × Ann):=[((.exit 2),{ env:=[(0,.cst (.fn 61 [(.ptr 6 0 []),(.ptr 7 0 []),(.ptr 4 0 [])])),(2,YI)],stk:=[[(4,cP 4),(5,cP 5)],[(0,.cst (.tup [(.fn 47 []),(.ptr 5 0 [])]))],[(0,.cst (.tup [(.fn 60 [(.ptr 5 0 []),(.ptr 4 0 [])])]))]],bxs:=[(6,.var [.cst (.mp 18)]),(7,.var [.cst (.mp 21)]),(4,.var [.cst (.row 23015066 .whole)]),(5,.var [YI]),(18,.map (.arr 2 yI) yR),(21,.map (.arr 2 yI) yR),(23015066,.row yR false)] }),((.pan ⟨130,.emp⟩),{ env:=[],stk:=[[(4,cP 4),(5,cP 5)],[(0,.cst (.tup [(.fn 47 []),(.ptr 5 0 [])]))],[(0,.cst (.tup [(.fn 60 [(.ptr 5 0 []),(.ptr 4 0 [])])]))]],bxs:=[(4,.var [.cst (.row 23015066 .whole)]),(5,.var [YI]),(23015066,.row yR false)] })]
def f41_l4c (t2:Int) (b5g0:Int) (m18:(List ((List Int) × Yr))) (m21:(List ((List Int) × Yr))):Nat→Int→(List Yr)→Option (outDen f41_l4c_outs)
 | 0,_,_=>none
 | k + 1,t8,r23015066 =>
 bif (decide (t8 < (24:Int))) then
 let v5:Bool:=(mapHas (.arr 2 yI) yR m18 ([t2,t8]:List Int))
 let v6:Bool:=(mapHas (.arr 2 yI) yR m21 ([t2,t8]:List Int))
 bif (!v5) then
 let w13:Option (outDen f41_l4c_outs):=(
 bif (!v5) then
 bif (!v6) then
 f41_l4c t2 b5g0 m18 m21 k (IntKind.wrap .i64 (t8 + 1)) r23015066
 else
 (f52 (mapGet (.arr 2 yI) yR m18 ([t2,t8]:List Int))).bind fun y7 =>
 (f53 (mapGet (.arr 2 yI) yR m21 ([t2,t8]:List Int))).bind fun y8 =>
 bif (!v5) then
 (f52 (mapGet (.arr 2 yI) yR m21 ([t2,t8]:List Int))).bind fun y9 =>
 bif (!v6) then
 (f53 (mapGet (.arr 2 yI) yR m18 ([t2,t8]:List Int))).bind fun y10 =>
 (f44 y9.1 y10.1).bind fun y11 =>
 bif (!y11.1) then
 (f45 ([t2,t8]:List Int) y9.1 y10.1).bind fun y12 =>
 bif (decide (r23015066.length + ([y12.1]:List Yr).length≤appLim)) then f41_l4c t2 b5g0 m18 m21 k (IntKind.wrap .i64 (t8 + 1)) (r23015066++([y12.1]:List Yr)) else none
 else
 f41_l4c t2 b5g0 m18 m21 k (IntKind.wrap .i64 (t8 + 1)) r23015066
 else
 (f44 y9.1 y8.1).bind fun y13 =>
 bif (!y13.1) then
 (f45 ([t2,t8]:List Int) y9.1 y8.1).bind fun y14 =>
 bif (decide (r23015066.length + ([y14.1]:List Yr).length≤appLim)) then f41_l4c t2 b5g0 m18 m21 k (IntKind.wrap .i64 (t8 + 1)) (r23015066++([y14.1]:List Yr)) else none
 else
 f41_l4c t2 b5g0 m18 m21 k (IntKind.wrap .i64 (t8 + 1)) r23015066
 else
 bif (!v6) then
 (f53 (mapGet (.arr 2 yI) yR m18 ([t2,t8]:List Int))).bind fun y15 =>
 (f44 y7.1 y15.1).bind fun y16 =>
 bif (!y16.1) then
 (f45 ([t2,t8]:List Int) y7.1 y15.1).bind fun y17 =>
 bif (decide (r23015066.length + ([y17.1]:List Yr).length≤appLim)) then f41_l4c t2 b5g0 m18 m21 k (IntKind.wrap .i64 (t8 + 1)) (r23015066++([y17.1]:List Yr)) else none
 else
 f41_l4c t2 b5g0 m18 m21 k (IntKind.wrap .i64 (t8 + 1)) r23015066
 else
 (f44 y7.1 y8.1).bind fun y18 =>
 bif (!y18.1) then
 (f45 ([t2,t8]:List Int) y7.1 y8.1).bind fun y19 =>
 bif (decide (r23015066.length + ([y19.1]:List Yr).length≤appLim)) then f41_l4c t2 b5g0 m18 m21 k (IntKind.wrap .i64 (t8 + 1)) (r23015066++([y19.1]:List Yr)) else none
 else
 f41_l4c t2 b5g0 m18 m21 k (IntKind.wrap .i64 (t8 + 1)) r23015066
 else
 (f52 (mapGet (.arr 2 yI) yR m18 ([t2,t8]:List Int))).bind fun y20 =>
 (f53 (mapGet (.arr 2 yI) yR m21 ([t2,t8]:List Int))).bind fun y21 =>
 bif (!v5) then
 (f52 (mapGet (.arr 2 yI) yR m21 ([t2,t8]:List Int))).bind fun y22 =>
 bif (!v6) then
 (f53 (mapGet (.arr 2 yI) yR m18 ([t2,t8]:List Int))).bind fun y23 =>
 (f44 y22.1 y23.1).bind fun y24 =>
 bif (!y24.1) then
 (f45 ([t2,t8]:List Int) y22.1 y23.1).bind fun y25 =>
 bif (decide (r23015066.length + ([y25.1]:List Yr).length≤appLim)) then f41_l4c t2 b5g0 m18 m21 k (IntKind.wrap .i64 (t8 + 1)) (r23015066++([y25.1]:List Yr)) else none
 else
 f41_l4c t2 b5g0 m18 m21 k (IntKind.wrap .i64 (t8 + 1)) r23015066
 else
 (f44 y22.1 y21.1).bind fun y26 =>
 bif (!y26.1) then
 (f45 ([t2,t8]:List Int) y22.1 y21.1).bind fun y27 =>
 bif (decide (r23015066.length + ([y27.1]:List Yr).length≤appLim)) then f41_l4c t2 b5g0 m18 m21 k (IntKind.wrap .i64 (t8 + 1)) (r23015066++([y27.1]:List Yr)) else none
 else
 f41_l4c t2 b5g0 m18 m21 k (IntKind.wrap .i64 (t8 + 1)) r23015066
 else
 bif (!v6) then
 (f53 (mapGet (.arr 2 yI) yR m18 ([t2,t8]:List Int))).bind fun y28 =>
 (f44 y20.1 y28.1).bind fun y29 =>
 bif (!y29.1) then
 (f45 ([t2,t8]:List Int) y20.1 y28.1).bind fun y30 =>
 bif (decide (r23015066.length + ([y30.1]:List Yr).length≤appLim)) then f41_l4c t2 b5g0 m18 m21 k (IntKind.wrap .i64 (t8 + 1)) (r23015066++([y30.1]:List Yr)) else none
 else
 f41_l4c t2 b5g0 m18 m21 k (IntKind.wrap .i64 (t8 + 1)) r23015066
 else
 (f44 y20.1 y21.1).bind fun y31 =>
 bif (!y31.1) then
 (f45 ([t2,t8]:List Int) y20.1 y21.1).bind fun y32 =>
 bif (decide (r23015066.length + ([y32.1]:List Yr).length≤appLim)) then f41_l4c t2 b5g0 m18 m21 k (IntKind.wrap .i64 (t8 + 1)) (r23015066++([y32.1]:List Yr)) else none
 else
 f41_l4c t2 b5g0 m18 m21 k (IntKind.wrap .i64 (t8 + 1)) r23015066)
 same (same w13 w13) w13
 else
 same (
 bif (!v6) then
 let w14:Option (outDen f41_l4c_outs):=(
 bif (!v5) then
 bif (!v6) then
 f41_l4c t2 b5g0 m18 m21 k (IntKind.wrap .i64 (t8 + 1)) r23015066
 else
 (f52 (mapGet (.arr 2 yI) yR m18 ([t2,t8]:List Int))).bind fun y85 =>
 (f53 (mapGet (.arr 2 yI) yR m21 ([t2,t8]:List Int))).bind fun y86 =>
 bif (!v5) then
 (f52 (mapGet (.arr 2 yI) yR m21 ([t2,t8]:List Int))).bind fun y87 =>
 bif (!v6) then
 (f53 (mapGet (.arr 2 yI) yR m18 ([t2,t8]:List Int))).bind fun y88 =>
 (f44 y87.1 y88.1).bind fun y89 =>
 bif (!y89.1) then
 (f45 ([t2,t8]:List Int) y87.1 y88.1).bind fun y90 =>
 bif (decide (r23015066.length + ([y90.1]:List Yr).length≤appLim)) then f41_l4c t2 b5g0 m18 m21 k (IntKind.wrap .i64 (t8 + 1)) (r23015066++([y90.1]:List Yr)) else none
 else
 f41_l4c t2 b5g0 m18 m21 k (IntKind.wrap .i64 (t8 + 1)) r23015066
 else
 (f44 y87.1 y86.1).bind fun y91 =>
 bif (!y91.1) then
 (f45 ([t2,t8]:List Int) y87.1 y86.1).bind fun y92 =>
 bif (decide (r23015066.length + ([y92.1]:List Yr).length≤appLim)) then f41_l4c t2 b5g0 m18 m21 k (IntKind.wrap .i64 (t8 + 1)) (r23015066++([y92.1]:List Yr)) else none
 else
 f41_l4c t2 b5g0 m18 m21 k (IntKind.wrap .i64 (t8 + 1)) r23015066
 else
 bif (!v6) then
 (f53 (mapGet (.arr 2 yI) yR m18 ([t2,t8]:List Int))).bind fun y93 =>
 (f44 y85.1 y93.1).bind fun y94 =>
 bif (!y94.1) then
 (f45 ([t2,t8]:List Int) y85.1 y93.1).bind fun y95 =>
 bif (decide (r23015066.length + ([y95.1]:List Yr).length≤appLim)) then f41_l4c t2 b5g0 m18 m21 k (IntKind.wrap .i64 (t8 + 1)) (r23015066++([y95.1]:List Yr)) else none
 else
 f41_l4c t2 b5g0 m18 m21 k (IntKind.wrap .i64 (t8 + 1)) r23015066
 else
 (f44 y85.1 y86.1).bind fun y96 =>
 bif (!y96.1) then
 (f45 ([t2,t8]:List Int) y85.1 y86.1).bind fun y97 =>
 bif (decide (r23015066.length + ([y97.1]:List Yr).length≤appLim)) then f41_l4c t2 b5g0 m18 m21 k (IntKind.wrap .i64 (t8 + 1)) (r23015066++([y97.1]:List Yr)) else none
 else
 f41_l4c t2 b5g0 m18 m21 k (IntKind.wrap .i64 (t8 + 1)) r23015066
 else
 (f52 (mapGet (.arr 2 yI) yR m18 ([t2,t8]:List Int))).bind fun y98 =>
 (f53 (mapGet (.arr 2 yI) yR m21 ([t2,t8]:List Int))).bind fun y99 =>
 bif (!v5) then
 (f52 (mapGet (.arr 2 yI) yR m21 ([t2,t8]:List Int))).bind fun y100 =>
 bif (!v6) then
 (f53 (mapGet (.arr 2 yI) yR m18 ([t2,t8]:List Int))).bind fun y101 =>
 (f44 y100.1 y101.1).bind fun y102 =>
 bif (!y102.1) then
 (f45 ([t2,t8]:List Int) y100.1 y101.1).bind fun y103 =>
 bif (decide (r23015066.length + ([y103.1]:List Yr).length≤appLim)) then f41_l4c t2 b5g0 m18 m21 k (IntKind.wrap .i64 (t8 + 1)) (r23015066++([y103.1]:List Yr)) else none
 else
 f41_l4c t2 b5g0 m18 m21 k (IntKind.wrap .i64 (t8 + 1)) r23015066
 else
 (f44 y100.1 y99.1).bind fun y104 =>
 bif (!y104.1) then
 (f45 ([t2,t8]:List Int) y100.1 y99.1).bind fun y105 =>
 bif (decide (r23015066.length + ([y105.1]:List Yr).length≤appLim)) then f41_l4c t2 b5g0 m18 m21 k (IntKind.wrap .i64 (t8 + 1)) (r23015066++([y105.1]:List Yr)) else none
 else
 f41_l4c t2 b5g0 m18 m21 k (IntKind.wrap .i64 (t8 + 1)) r23015066
 else
 bif (!v6) then
 (f53 (mapGet (.arr 2 yI) yR m18 ([t2,t8]:List Int))).bind fun y106 =>
 (f44 y98.1 y106.1).bind fun y107 =>
 bif (!y107.1) then
 (f45 ([t2,t8]:List Int) y98.1 y106.1).bind fun y108 =>
 bif (decide (r23015066.length + ([y108.1]:List Yr).length≤appLim)) then f41_l4c t2 b5g0 m18 m21 k (IntKind.wrap .i64 (t8 + 1)) (r23015066++([y108.1]:List Yr)) else none
 else
 f41_l4c t2 b5g0 m18 m21 k (IntKind.wrap .i64 (t8 + 1)) r23015066
 else
 (f44 y98.1 y99.1).bind fun y109 =>
 bif (!y109.1) then
 (f45 ([t2,t8]:List Int) y98.1 y99.1).bind fun y110 =>
 bif (decide (r23015066.length + ([y110.1]:List Yr).length≤appLim)) then f41_l4c t2 b5g0 m18 m21 k (IntKind.wrap .i64 (t8 + 1)) (r23015066++([y110.1]:List Yr)) else none
 else
 f41_l4c t2 b5g0 m18 m21 k (IntKind.wrap .i64 (t8 + 1)) r23015066)
 same w14 w14
 else
 let w15:Option (outDen f41_l4c_outs):=(
 (f53 (mapGet (.arr 2 yI) yR m18 ([t2,t8]:List Int))).bind fun y137 =>
 (f52 (mapGet (.arr 2 yI) yR m21 ([t2,t8]:List Int))).bind fun y138 =>
 (f44 y137.1 y138.1).bind fun y139 =>
 bif (!y139.1) then
 some (.inr ((),((),(),(),()),((),(b5g0,()),r23015066,())))
 else
 bif (!v5) then
 bif (!v6) then
 f41_l4c t2 b5g0 m18 m21 k (IntKind.wrap .i64 (t8 + 1)) r23015066
 else
 (f52 (mapGet (.arr 2 yI) yR m18 ([t2,t8]:List Int))).bind fun y140 =>
 (f53 (mapGet (.arr 2 yI) yR m21 ([t2,t8]:List Int))).bind fun y141 =>
 bif (!v5) then
 (f52 (mapGet (.arr 2 yI) yR m21 ([t2,t8]:List Int))).bind fun y142 =>
 bif (!v6) then
 (f53 (mapGet (.arr 2 yI) yR m18 ([t2,t8]:List Int))).bind fun y143 =>
 (f44 y142.1 y143.1).bind fun y144 =>
 bif (!y144.1) then
 (f45 ([t2,t8]:List Int) y142.1 y143.1).bind fun y145 =>
 bif (decide (r23015066.length + ([y145.1]:List Yr).length≤appLim)) then f41_l4c t2 b5g0 m18 m21 k (IntKind.wrap .i64 (t8 + 1)) (r23015066++([y145.1]:List Yr)) else none
 else
 f41_l4c t2 b5g0 m18 m21 k (IntKind.wrap .i64 (t8 + 1)) r23015066
 else
 (f44 y142.1 y141.1).bind fun y146 =>
 bif (!y146.1) then
 (f45 ([t2,t8]:List Int) y142.1 y141.1).bind fun y147 =>
 bif (decide (r23015066.length + ([y147.1]:List Yr).length≤appLim)) then f41_l4c t2 b5g0 m18 m21 k (IntKind.wrap .i64 (t8 + 1)) (r23015066++([y147.1]:List Yr)) else none
 else
 f41_l4c t2 b5g0 m18 m21 k (IntKind.wrap .i64 (t8 + 1)) r23015066
 else
 bif (!v6) then
 (f53 (mapGet (.arr 2 yI) yR m18 ([t2,t8]:List Int))).bind fun y148 =>
 (f44 y140.1 y148.1).bind fun y149 =>
 bif (!y149.1) then
 (f45 ([t2,t8]:List Int) y140.1 y148.1).bind fun y150 =>
 bif (decide (r23015066.length + ([y150.1]:List Yr).length≤appLim)) then f41_l4c t2 b5g0 m18 m21 k (IntKind.wrap .i64 (t8 + 1)) (r23015066++([y150.1]:List Yr)) else none
 else
 f41_l4c t2 b5g0 m18 m21 k (IntKind.wrap .i64 (t8 + 1)) r23015066
 else
 (f44 y140.1 y141.1).bind fun y151 =>
 bif (!y151.1) then
 (f45 ([t2,t8]:List Int) y140.1 y141.1).bind fun y152 =>
 bif (decide (r23015066.length + ([y152.1]:List Yr).length≤appLim)) then f41_l4c t2 b5g0 m18 m21 k (IntKind.wrap .i64 (t8 + 1)) (r23015066++([y152.1]:List Yr)) else none
 else
 f41_l4c t2 b5g0 m18 m21 k (IntKind.wrap .i64 (t8 + 1)) r23015066
 else
 (f52 (mapGet (.arr 2 yI) yR m18 ([t2,t8]:List Int))).bind fun y153 =>
 (f53 (mapGet (.arr 2 yI) yR m21 ([t2,t8]:List Int))).bind fun y154 =>
 bif (!v5) then
 (f52 (mapGet (.arr 2 yI) yR m21 ([t2,t8]:List Int))).bind fun y155 =>
 bif (!v6) then
 (f53 (mapGet (.arr 2 yI) yR m18 ([t2,t8]:List Int))).bind fun y156 =>
 (f44 y155.1 y156.1).bind fun y157 =>
 bif (!y157.1) then
 (f45 ([t2,t8]:List Int) y155.1 y156.1).bind fun y158 =>
 bif (decide (r23015066.length + ([y158.1]:List Yr).length≤appLim)) then f41_l4c t2 b5g0 m18 m21 k (IntKind.wrap .i64 (t8 + 1)) (r23015066++([y158.1]:List Yr)) else none
 else
 f41_l4c t2 b5g0 m18 m21 k (IntKind.wrap .i64 (t8 + 1)) r23015066
 else
 (f44 y155.1 y154.1).bind fun y159 =>
 bif (!y159.1) then
 (f45 ([t2,t8]:List Int) y155.1 y154.1).bind fun y160 =>
 bif (decide (r23015066.length + ([y160.1]:List Yr).length≤appLim)) then f41_l4c t2 b5g0 m18 m21 k (IntKind.wrap .i64 (t8 + 1)) (r23015066++([y160.1]:List Yr)) else none
 else
 f41_l4c t2 b5g0 m18 m21 k (IntKind.wrap .i64 (t8 + 1)) r23015066
 else
 bif (!v6) then
 (f53 (mapGet (.arr 2 yI) yR m18 ([t2,t8]:List Int))).bind fun y161 =>
 (f44 y153.1 y161.1).bind fun y162 =>
 bif (!y162.1) then
 (f45 ([t2,t8]:List Int) y153.1 y161.1).bind fun y163 =>
 bif (decide (r23015066.length + ([y163.1]:List Yr).length≤appLim)) then f41_l4c t2 b5g0 m18 m21 k (IntKind.wrap .i64 (t8 + 1)) (r23015066++([y163.1]:List Yr)) else none
 else
 f41_l4c t2 b5g0 m18 m21 k (IntKind.wrap .i64 (t8 + 1)) r23015066
 else
 (f44 y153.1 y154.1).bind fun y164 =>
 bif (!y164.1) then
 (f45 ([t2,t8]:List Int) y153.1 y154.1).bind fun y165 =>
 bif (decide (r23015066.length + ([y165.1]:List Yr).length≤appLim)) then f41_l4c t2 b5g0 m18 m21 k (IntKind.wrap .i64 (t8 + 1)) (r23015066++([y165.1]:List Yr)) else none
 else
 f41_l4c t2 b5g0 m18 m21 k (IntKind.wrap .i64 (t8 + 1)) r23015066)
 same w15 w15) (
 bif (!v6) then
 bif (!v5) then
 bif (!v6) then
 f41_l4c t2 b5g0 m18 m21 k (IntKind.wrap .i64 (t8 + 1)) r23015066
 else
 (f52 (mapGet (.arr 2 yI) yR m18 ([t2,t8]:List Int))).bind fun y195 =>
 (f53 (mapGet (.arr 2 yI) yR m21 ([t2,t8]:List Int))).bind fun y196 =>
 bif (!v5) then
 (f52 (mapGet (.arr 2 yI) yR m21 ([t2,t8]:List Int))).bind fun y197 =>
 bif (!v6) then
 (f53 (mapGet (.arr 2 yI) yR m18 ([t2,t8]:List Int))).bind fun y198 =>
 (f44 y197.1 y198.1).bind fun y199 =>
 bif (!y199.1) then
 (f45 ([t2,t8]:List Int) y197.1 y198.1).bind fun y200 =>
 bif (decide (r23015066.length + ([y200.1]:List Yr).length≤appLim)) then f41_l4c t2 b5g0 m18 m21 k (IntKind.wrap .i64 (t8 + 1)) (r23015066++([y200.1]:List Yr)) else none
 else
 f41_l4c t2 b5g0 m18 m21 k (IntKind.wrap .i64 (t8 + 1)) r23015066
 else
 (f44 y197.1 y196.1).bind fun y201 =>
 bif (!y201.1) then
 (f45 ([t2,t8]:List Int) y197.1 y196.1).bind fun y202 =>
 bif (decide (r23015066.length + ([y202.1]:List Yr).length≤appLim)) then f41_l4c t2 b5g0 m18 m21 k (IntKind.wrap .i64 (t8 + 1)) (r23015066++([y202.1]:List Yr)) else none
 else
 f41_l4c t2 b5g0 m18 m21 k (IntKind.wrap .i64 (t8 + 1)) r23015066
 else
 bif (!v6) then
 (f53 (mapGet (.arr 2 yI) yR m18 ([t2,t8]:List Int))).bind fun y203 =>
 (f44 y195.1 y203.1).bind fun y204 =>
 bif (!y204.1) then
 (f45 ([t2,t8]:List Int) y195.1 y203.1).bind fun y205 =>
 bif (decide (r23015066.length + ([y205.1]:List Yr).length≤appLim)) then f41_l4c t2 b5g0 m18 m21 k (IntKind.wrap .i64 (t8 + 1)) (r23015066++([y205.1]:List Yr)) else none
 else
 f41_l4c t2 b5g0 m18 m21 k (IntKind.wrap .i64 (t8 + 1)) r23015066
 else
 (f44 y195.1 y196.1).bind fun y206 =>
 bif (!y206.1) then
 (f45 ([t2,t8]:List Int) y195.1 y196.1).bind fun y207 =>
 bif (decide (r23015066.length + ([y207.1]:List Yr).length≤appLim)) then f41_l4c t2 b5g0 m18 m21 k (IntKind.wrap .i64 (t8 + 1)) (r23015066++([y207.1]:List Yr)) else none
 else
 f41_l4c t2 b5g0 m18 m21 k (IntKind.wrap .i64 (t8 + 1)) r23015066
 else
 (f52 (mapGet (.arr 2 yI) yR m18 ([t2,t8]:List Int))).bind fun y208 =>
 (f53 (mapGet (.arr 2 yI) yR m21 ([t2,t8]:List Int))).bind fun y209 =>
 bif (!v5) then
 (f52 (mapGet (.arr 2 yI) yR m21 ([t2,t8]:List Int))).bind fun y210 =>
 bif (!v6) then
 (f53 (mapGet (.arr 2 yI) yR m18 ([t2,t8]:List Int))).bind fun y211 =>
 (f44 y210.1 y211.1).bind fun y212 =>
 bif (!y212.1) then
 (f45 ([t2,t8]:List Int) y210.1 y211.1).bind fun y213 =>
 bif (decide (r23015066.length + ([y213.1]:List Yr).length≤appLim)) then f41_l4c t2 b5g0 m18 m21 k (IntKind.wrap .i64 (t8 + 1)) (r23015066++([y213.1]:List Yr)) else none
 else
 f41_l4c t2 b5g0 m18 m21 k (IntKind.wrap .i64 (t8 + 1)) r23015066
 else
 (f44 y210.1 y209.1).bind fun y214 =>
 bif (!y214.1) then
 (f45 ([t2,t8]:List Int) y210.1 y209.1).bind fun y215 =>
 bif (decide (r23015066.length + ([y215.1]:List Yr).length≤appLim)) then f41_l4c t2 b5g0 m18 m21 k (IntKind.wrap .i64 (t8 + 1)) (r23015066++([y215.1]:List Yr)) else none
 else
 f41_l4c t2 b5g0 m18 m21 k (IntKind.wrap .i64 (t8 + 1)) r23015066
 else
 bif (!v6) then
 (f53 (mapGet (.arr 2 yI) yR m18 ([t2,t8]:List Int))).bind fun y216 =>
 (f44 y208.1 y216.1).bind fun y217 =>
 bif (!y217.1) then
 (f45 ([t2,t8]:List Int) y208.1 y216.1).bind fun y218 =>
 bif (decide (r23015066.length + ([y218.1]:List Yr).length≤appLim)) then f41_l4c t2 b5g0 m18 m21 k (IntKind.wrap .i64 (t8 + 1)) (r23015066++([y218.1]:List Yr)) else none
 else
 f41_l4c t2 b5g0 m18 m21 k (IntKind.wrap .i64 (t8 + 1)) r23015066
 else
 (f44 y208.1 y209.1).bind fun y219 =>
 bif (!y219.1) then
 (f45 ([t2,t8]:List Int) y208.1 y209.1).bind fun y220 =>
 bif (decide (r23015066.length + ([y220.1]:List Yr).length≤appLim)) then f41_l4c t2 b5g0 m18 m21 k (IntKind.wrap .i64 (t8 + 1)) (r23015066++([y220.1]:List Yr)) else none
 else
 f41_l4c t2 b5g0 m18 m21 k (IntKind.wrap .i64 (t8 + 1)) r23015066
 else
 (f53 (mapGet (.arr 2 yI) yR m18 ([t2,t8]:List Int))).bind fun y221 =>
 (f52 (mapGet (.arr 2 yI) yR m21 ([t2,t8]:List Int))).bind fun y222 =>
 (f44 y221.1 y222.1).bind fun y223 =>
 bif (!y223.1) then
 some (.inr ((),((),(),(),()),((),(b5g0,()),r23015066,())))
 else
 bif (!v5) then
 bif (!v6) then
 f41_l4c t2 b5g0 m18 m21 k (IntKind.wrap .i64 (t8 + 1)) r23015066
 else
 (f52 (mapGet (.arr 2 yI) yR m18 ([t2,t8]:List Int))).bind fun y224 =>
 (f53 (mapGet (.arr 2 yI) yR m21 ([t2,t8]:List Int))).bind fun y225 =>
 bif (!v5) then
 (f52 (mapGet (.arr 2 yI) yR m21 ([t2,t8]:List Int))).bind fun y226 =>
 bif (!v6) then
 (f53 (mapGet (.arr 2 yI) yR m18 ([t2,t8]:List Int))).bind fun y227 =>
 (f44 y226.1 y227.1).bind fun y228 =>
 bif (!y228.1) then
 (f45 ([t2,t8]:List Int) y226.1 y227.1).bind fun y229 =>
 bif (decide (r23015066.length + ([y229.1]:List Yr).length≤appLim)) then f41_l4c t2 b5g0 m18 m21 k (IntKind.wrap .i64 (t8 + 1)) (r23015066++([y229.1]:List Yr)) else none
 else
 f41_l4c t2 b5g0 m18 m21 k (IntKind.wrap .i64 (t8 + 1)) r23015066
 else
 (f44 y226.1 y225.1).bind fun y230 =>
 bif (!y230.1) then
 (f45 ([t2,t8]:List Int) y226.1 y225.1).bind fun y231 =>
 bif (decide (r23015066.length + ([y231.1]:List Yr).length≤appLim)) then f41_l4c t2 b5g0 m18 m21 k (IntKind.wrap .i64 (t8 + 1)) (r23015066++([y231.1]:List Yr)) else none
 else
 f41_l4c t2 b5g0 m18 m21 k (IntKind.wrap .i64 (t8 + 1)) r23015066
 else
 bif (!v6) then
 (f53 (mapGet (.arr 2 yI) yR m18 ([t2,t8]:List Int))).bind fun y232 =>
 (f44 y224.1 y232.1).bind fun y233 =>
 bif (!y233.1) then
 (f45 ([t2,t8]:List Int) y224.1 y232.1).bind fun y234 =>
 bif (decide (r23015066.length + ([y234.1]:List Yr).length≤appLim)) then f41_l4c t2 b5g0 m18 m21 k (IntKind.wrap .i64 (t8 + 1)) (r23015066++([y234.1]:List Yr)) else none
 else
 f41_l4c t2 b5g0 m18 m21 k (IntKind.wrap .i64 (t8 + 1)) r23015066
 else
 (f44 y224.1 y225.1).bind fun y235 =>
 bif (!y235.1) then
 (f45 ([t2,t8]:List Int) y224.1 y225.1).bind fun y236 =>
 bif (decide (r23015066.length + ([y236.1]:List Yr).length≤appLim)) then f41_l4c t2 b5g0 m18 m21 k (IntKind.wrap .i64 (t8 + 1)) (r23015066++([y236.1]:List Yr)) else none
 else
 f41_l4c t2 b5g0 m18 m21 k (IntKind.wrap .i64 (t8 + 1)) r23015066
 else
 (f52 (mapGet (.arr 2 yI) yR m18 ([t2,t8]:List Int))).bind fun y237 =>
 (f53 (mapGet (.arr 2 yI) yR m21 ([t2,t8]:List Int))).bind fun y238 =>
 bif (!v5) then
 (f52 (mapGet (.arr 2 yI) yR m21 ([t2,t8]:List Int))).bind fun y239 =>
 bif (!v6) then
 (f53 (mapGet (.arr 2 yI) yR m18 ([t2,t8]:List Int))).bind fun y240 =>
 (f44 y239.1 y240.1).bind fun y241 =>
 bif (!y241.1) then
 (f45 ([t2,t8]:List Int) y239.1 y240.1).bind fun y242 =>
 bif (decide (r23015066.length + ([y242.1]:List Yr).length≤appLim)) then f41_l4c t2 b5g0 m18 m21 k (IntKind.wrap .i64 (t8 + 1)) (r23015066++([y242.1]:List Yr)) else none
 else
 f41_l4c t2 b5g0 m18 m21 k (IntKind.wrap .i64 (t8 + 1)) r23015066
 else
 (f44 y239.1 y238.1).bind fun y243 =>
 bif (!y243.1) then
 (f45 ([t2,t8]:List Int) y239.1 y238.1).bind fun y244 =>
 bif (decide (r23015066.length + ([y244.1]:List Yr).length≤appLim)) then f41_l4c t2 b5g0 m18 m21 k (IntKind.wrap .i64 (t8 + 1)) (r23015066++([y244.1]:List Yr)) else none
 else
 f41_l4c t2 b5g0 m18 m21 k (IntKind.wrap .i64 (t8 + 1)) r23015066
 else
 bif (!v6) then
 (f53 (mapGet (.arr 2 yI) yR m18 ([t2,t8]:List Int))).bind fun y245 =>
 (f44 y237.1 y245.1).bind fun y246 =>
 bif (!y246.1) then
 (f45 ([t2,t8]:List Int) y237.1 y245.1).bind fun y247 =>
 bif (decide (r23015066.length + ([y247.1]:List Yr).length≤appLim)) then f41_l4c t2 b5g0 m18 m21 k (IntKind.wrap .i64 (t8 + 1)) (r23015066++([y247.1]:List Yr)) else none
 else
 f41_l4c t2 b5g0 m18 m21 k (IntKind.wrap .i64 (t8 + 1)) r23015066
 else
 (f44 y237.1 y238.1).bind fun y248 =>
 bif (!y248.1) then
 (f45 ([t2,t8]:List Int) y237.1 y238.1).bind fun y249 =>
 bif (decide (r23015066.length + ([y249.1]:List Yr).length≤appLim)) then f41_l4c t2 b5g0 m18 m21 k (IntKind.wrap .i64 (t8 + 1)) (r23015066++([y249.1]:List Yr)) else none
 else
 f41_l4c t2 b5g0 m18 m21 k (IntKind.wrap .i64 (t8 + 1)) r23015066)
 else
 some (.inl ((t2,()),((),(),(),()),((),(),(),(b5g0,()),m18,m21,r23015066,())))
def f41_l4c_n (n:Nat) (x:f41_l4c_head.den):=f41_l4c x.1.1 x.2.2.2.2.2.1.1 x.2.2.2.2.2.2.1 x.2.2.2.2.2.2.2.1 n x.1.2.1 x.2.2.2.2.2.2.2.2.1
def f41_l4c_spec:LSpec:={ head:=f41_l4c_head,outs:=f41_l4c_outs,fn:=fun x=>f41_l4c_n (((24:Int) - x.1.2.1).toNat + 1) x }
def f41_l1y_head:Ann:={ env:=[(0,.cst (.fn 61 [(.ptr 6 0 []),(.ptr 7 0 []),(.ptr 4 0 [])])),(2,YI)],stk:=[[(4,cP 4),(5,cP 5)],[(0,.cst (.tup [(.fn 47 []),(.ptr 5 0 [])]))],[(0,.cst (.tup [(.fn 60 [(.ptr 5 0 []),(.ptr 4 0 [])])]))]],bxs:=[(6,.var [.cst (.mp 18)]),(7,.var [.cst (.mp 21)]),(4,.var [.cst (.row 23015066 .whole)]),(5,.var [YI]),(18,.map (.arr 2 yI) yR),(21,.map (.arr 2 yI) yR),(23015066,.row yR false)] }
def f41_l1y_outs:List (Ex × Ann):=[((.exit 0),{ env:=[],stk:=[[(4,cP 4),(5,cP 5)],[(0,.cst (.tup [(.fn 47 []),(.ptr 5 0 [])]))],[(0,.cst (.tup [(.fn 60 [(.ptr 5 0 []),(.ptr 4 0 [])])]))]],bxs:=[(4,.var [.cst (.row 23015066 .whole)]),(5,.var [YI]),(23015066,.row yR false)] }),((.pan ⟨130,.emp⟩),{ env:=[],stk:=[[(4,cP 4),(5,cP 5)],[(0,.cst (.tup [(.fn 47 []),(.ptr 5 0 [])]))],[(0,.cst (.tup [(.fn 60 [(.ptr 5 0 []),(.ptr 4 0 [])])]))]],bxs:=[(4,.var [.cst (.row 23015066 .whole)]),(5,.var [YI]),(23015066,.row yR false)] })]
def f41_l1y:Nat→Int→Int→(List ((List Int) × Yr))→(List ((List Int) × Yr))→(List Yr)→Option (outDen f41_l1y_outs)
 | 0,_,_,_,_,_=>none
 | k + 1,t2,b5g0,m18,m21,r23015066 =>
 bif (decide (t2≤(7:Int))) then
 (f41_l4c t2 b5g0 m18 m21 (((24:Int) - (0:Int)).toNat + 1) (0:Int) r23015066).bind fun o250 =>
 Sum.elim (fun o251 =>
 let u253:Int:=o251.1.1
 let u254:Int:=o251.2.2.2.2.2.1.1
 let u255:(List ((List Int) × Yr)):=o251.2.2.2.2.2.2.1
 let u256:(List ((List Int) × Yr)):=o251.2.2.2.2.2.2.2.1
 let u257:(List Yr):=o251.2.2.2.2.2.2.2.2.1
 f41_l1y k (IntKind.wrap .i64 (u253 + 1)) u254 u255 u256 u257) (fun o252 =>
 let u258:Int:=o252.2.2.2.1.1
 let u259:(List Yr):=o252.2.2.2.2.1
 some (.inr ((),((),(),(),()),((),(u258,()),u259,())))) o250
 else
 some (.inl ((),((),(),(),()),((),(b5g0,()),r23015066,())))
def f41_l1y_n (n:Nat) (x:f41_l1y_head.den):=f41_l1y n x.1.1 x.2.2.2.2.2.1.1 x.2.2.2.2.2.2.1 x.2.2.2.2.2.2.2.1 x.2.2.2.2.2.2.2.2.1
def f41_l1y_spec:LSpec:={ thaws:=[.cell 4 0 23015066 yR],head:=f41_l1y_head,outs:=f41_l1y_outs,fn:=fun x=>f41_l1y_n (((8:Int) - x.1.1).toNat + 1) x }
def f22 (a0:((List Yr) × Unit)) (a1:((List Yr) × Unit)):Option (((List Yr) × Unit) × Int × Unit) :=
 (f19 a0).bind fun y1 =>
 bif y1.1 then
 (f19 a1).bind fun y2 =>
 bif (!y2.1) then
 some (([],()),(160:Int),())
 else
 let w38:Option (((List Yr) × Unit) × Int × Unit):=(
 (f49 a0.1).bind fun y3159 =>
 let w19:Option (((List Yr) × Unit) × Int × Unit):=(
 (f49 a1.1).bind fun y3685 =>
 (f41_l1y (((8:Int) - (1:Int)).toNat + 1) (1:Int) 0 y3159 y3685 []).bind fun o3941 =>
 Sum.elim (fun o3942 =>
 let u3945:(List Yr):=o3942.2.2.2.2.1
 some ((u3945,()),(0:Int),())) (fun o3943 =>
 some (([],()),(160:Int),())) o3941)
 same (
 (f49 a1.1).bind fun y3160 =>
 let w18:Option (((List Yr) × Unit) × Int × Unit):=(
 (f41_l1y (((8:Int) - (1:Int)).toNat + 1) (1:Int) 0 y3159 y3160 []).bind fun o3416 =>
 Sum.elim (fun o3417 =>
 let u3420:(List Yr):=o3417.2.2.2.2.1
 some ((u3420,()),(0:Int),())) (fun o3418 =>
 some (([],()),(160:Int),())) o3416)
 same w18 w18) (same (same w19 w19) (same w19 w19)))
 let w39:Option (((List Yr) × Unit) × Int × Unit):=(
 (f49 a0.1).bind fun y4737 =>
 let w20:Option (((List Yr) × Unit) × Int × Unit):=(
 (f49 a1.1).bind fun y4738 =>
 (f41_l1y (((8:Int) - (1:Int)).toNat + 1) (1:Int) 0 y4737 y4738 []).bind fun o4994 =>
 Sum.elim (fun o4995 =>
 let u4998:(List Yr):=o4995.2.2.2.2.1
 some ((u4998,()),(0:Int),())) (fun o4996 =>
 some (([],()),(160:Int),())) o4994)
 same w20 w20)
 let w40:Option (((List Yr) × Unit) × Int × Unit):=(
 (f49 a0.1).bind fun y5264 =>
 (f49 a1.1).bind fun y5265 =>
 (f41_l1y (((8:Int) - (1:Int)).toNat + 1) (1:Int) 0 y5264 y5265 []).bind fun o5521 =>
 Sum.elim (fun o5522 =>
 let u5525:(List Yr):=o5522.2.2.2.2.1
 some ((u5525,()),(0:Int),())) (fun o5523 =>
 some (([],()),(160:Int),())) o5521)
 let w41:Option (((List Yr) × Unit) × Int × Unit):=(
 (f49 a0.1).bind fun y6319 =>
 let w22:Option (((List Yr) × Unit) × Int × Unit):=(
 (f49 a1.1).bind fun y6320 =>
 (f41_l1y (((8:Int) - (1:Int)).toNat + 1) (1:Int) 0 y6319 y6320 []).bind fun o6576 =>
 Sum.elim (fun o6577 =>
 let u6580:(List Yr):=o6577.2.2.2.2.1
 some ((u6580,()),(0:Int),())) (fun o6578 =>
 some (([],()),(160:Int),())) o6576)
 same (same w22 w22) w22)
 same (same (
 (f49 a0.1).bind fun y3 =>
 let w17:Option (((List Yr) × Unit) × Int × Unit):=(
 (f49 a1.1).bind fun y529 =>
 (f41_l1y (((8:Int) - (1:Int)).toNat + 1) (1:Int) 0 y3 y529 []).bind fun o785 =>
 Sum.elim (fun o786 =>
 let u789:(List Yr):=o786.2.2.2.2.1
 some ((u789,()),(0:Int),())) (fun o787 =>
 some (([],()),(160:Int),())) o785)
 same (same (
 (f49 a1.1).bind fun y4 =>
 let w16:Option (((List Yr) × Unit) × Int × Unit):=(
 (f41_l1y (((8:Int) - (1:Int)).toNat + 1) (1:Int) 0 y3 y4 []).bind fun o260 =>
 Sum.elim (fun o261 =>
 let u264:(List Yr):=o261.2.2.2.2.1
 some ((u264,()),(0:Int),())) (fun o262 =>
 some (([],()),(160:Int),())) o260)
 same w16 w16) (same (same w17 w17) (same w17 w17))) (same (same (same w17 w17) w17) (same (same w17 w17) w17))) (same (same w38 (same (same w39 w40) (same w39 w40))) (same (same w41 (same (same w39 w40) (same w40 w40))) (same w41 (same (same w39 w40) (same w40 w40)))))) (same (same (same w38 (same (same w39 w40) (same w39 w40))) (same (same (same w39 w40) w40) (same (same w39 w40) w40))) (same (same (same w41 (same (same w39 w40) (same w40 w40))) (same (same (same w39 w40) w40) (same (same w40 w40) w40))) (same (same w41 (same (same w39 w40) (same w40 w40))) (same (same (same w39 w40) w40) (same (same w40 w40) w40)))))
 else
 some (([],()),(160:Int),())
def f22_spec:PSpec:={ args:=[(.pair (.sl yR) .unit),(.pair (.sl yR) .unit)],res:=[(.pair (.sl yR) .unit),yI],fn:=fun x=>f22 x.1 x.2.1 }
noncomputable def f22_code:Code:=Tryz.f22.body.getD .skip
noncomputable def f22_code_41:Code:=Tryz.f41.body.getD .skip
noncomputable def f22_env:Env0:={ C:=cfgF,P:=[(19,f19_spec),(44,f44_spec),(45,f45_spec),(52,f52_spec),(53,f53_spec)],L:=[(⟨11,23000,41,4⟩,f41_l4c_spec),(⟨11,23000,41,1⟩,f41_l1y_spec)],F:=[(22,Tryz.f22),(41,Tryz.f41),(47,Tryz.f47),(48,Tryz.f48),(60,Tryz.f60),(61,Tryz.f61)],I:=[],M:=[(49,f49_spec)],tot:=[(22,[4]),(61,[3])],sym:=true }
theorem f41_l4c_ok:LoopOK f22_env 11 41 23000 (loopAt f22_code_41 4) f41_l4c_spec :=
 loopOK_of (by kernel_rfl) f41_l4c_n (fun x o h=>⟨_,h⟩) (fun x=>by kernel_rfl) (fun n x=>by kernel_rfl)
theorem f41_l1y_ok:LoopOK f22_env 11 41 23000 (loopAt f22_code_41 1) f41_l1y_spec :=
 loopOK_of (by kernel_rfl) f41_l1y_n (fun x o h=>⟨_,h⟩) (fun x=>by kernel_rfl) (fun n x=>by kernel_rfl)
theorem f22_run:zR f22_env 22 Tryz.f22 f22_code f22_spec:=by intro x; kernel_rfl
theorem f22_enter:zQ 22:=zN Tryz.func22
theorem f22_envOK:zE f22_env:=zO cfgF_ok ⟨⟨f19_pure,f19_enter⟩,⟨f44_pure,f44_enter⟩,⟨f45_pure,f45_enter⟩,⟨f52_pure,f52_enter⟩,⟨f53_pure,f53_enter⟩,trivial⟩ trivial ⟨zK Tryz.func22,zK Tryz.func41,zK Tryz.func47,zK Tryz.func48,zK Tryz.func60,zK Tryz.func61,trivial⟩ ⟨⟨Tryz.f41,f22_code_41,rfl,rfl,f41_l4c_ok⟩,⟨Tryz.f41,f22_code_41,rfl,rfl,f41_l1y_ok⟩,trivial⟩ trivial trivial ⟨⟨f49_map,f49_enter⟩,trivial⟩
theorem f22_pure:zU 22 f22_spec:=zP f22_envOK Tryz.f22 f22_code f22_run
end
end Go.V.G
namespace Go.V.G
open Go.Proofs
open Go.V.K
def cmpG (d e:List Rl) (k:Int) (j:Nat):List Rl:=(cmp1 (fd d (k,(j:Int))) (fd e (k,(j:Int))) (k,(j:Int))).toList
def cmpP (d e:List Rl) (k:Int) (j:Nat):Option (List Rl):=if clash1 (fd d (k,(j:Int))) (fd e (k,(j:Int))) = true then none else some (cmpG d e k j)
def cmpOk (d e:List Rl) (k:Int):Bool:=(List.range' 0 24).all fun j=>(cmpP d e k j).isSome
def cmpRow (d e:List Rl) (k:Int):List Rl:=(List.range' 0 24).flatMap fun j=>(cmpP d e k j).getD []
theorem cmpP_len {d e:List Rl} {k:Int} {j:Nat} {x:List Rl} (h:cmpP d e k j = some x):x.length≤1:=by
 unfold cmpP at h
 split at h
 ·cases h
 ·cases h
  exact opt_len _
abbrev l4in (d e:List Rl) (q z:Int) (acc:List Rl):outDen f41_l4c_outs:=.inl ((q,()),((),(),(),()),((),(),(),(z,()),d.map kv,e.map kv,acc,()))
abbrev l4no (z:Int) (acc:List Rl):outDen f41_l4c_outs:=.inr ((),((),(),(),()),((),(z,()),acc,()))
theorem f44_ba (x y:Rl) (h:smRl x):f44 (x.2.2.1,(x.2.2.2.1,())) y.2.2.2.2 = some (decide (bf x = af y),()):=f44_eq _ _ h.1
theorem f44_ab (x y:Rl) (h:smRl x):f44 x.2.2.2.2 (y.2.2.1,(y.2.2.2.1,())) = some (decide (af x = bf y),()):=f44_eq _ _ h.2
theorem f45_ba (k i:Int) (x y:Rl) (hx:smRl x) (hy:smRl y):f45 [k,i] (x.2.2.1,(x.2.2.2.1,())) y.2.2.2.2 = some (mkR (k,i) (bf x) (af y),()):=f45_eq k i _ _ _ _ hx.1 hy.2
set_option maxHeartbeats 4000000 in
theorem crow (d e:List Rl) (hd:okD d) (he:okD e) (sd:smD d) (se:smD e) (q z:Int) (k:Nat) (hk:24 < k) (r:List Rl) (hr:r.length≤1000) :
  (cmpOk d e q = true∧f41_l4c q z (d.map kv) (e.map kv) k 0 r = some (l4in d e q z (r++cmpRow d e q))) ∨
  (cmpOk d e q = false∧∃ acc:List Rl,f41_l4c q z (d.map kv) (e.map kv) k 0 r = some (l4no z acc)):=by
 have h:=loop_rounds 24 (fun j (acc:List Rl)=>acc.length≤1000 + j) (optStep (cmpP d e q) (l4no z)) (l4in d e q z) (f41_l4c q z (d.map kv) (e.map kv)) (by
  intro k j acc hj hacc
  conv=>lhs; unfold f41_l4c
  by_cases e0:j < 24
  ·have e1:decide ((j:Int) < 24) = true:=by simp; omega
   obtain ⟨m1,m2⟩:=map_has (q,(j:Int)) d
   obtain ⟨n1,n2⟩:=map_has (q,(j:Int)) e
   refine Eq.trans ?_ (if_pos e0).symm
   have ea:decide (acc.length + 1≤appLim) = true:=sm_app (by omega)
   unfold optStep cmpP cmpG
   simp only [e1,cond_true,m1,n1]
   cases hf:fd d (q,(j:Int)) with
   | none =>
    simp only [Option.isSome_none,Bool.not_false,cond_true]
    cases hg:fd e (q,(j:Int)) with
    | none =>
     simp only [Option.isSome_none,Bool.not_false,cond_true,same_self,wS j (by omega)]
     simp [clash1,cmp1]
    | some y =>
     have hy:=fd_sm se hg
     have hne:=(he.1 y (fd_some hg).1).2.2.2
     have h44:=f44_ba y y hy
     rw [zF hne] at h44
     simp only [Option.isSome_some,Bool.not_true,cond_false,n2 y hg,f52,f53,Option.bind_some,h44,Bool.not_false,cond_true,f45_ba _ _ y y hy hy,List.length_singleton,ea,same_self,wS j (by omega)]
     have:mkR (q,(j:Int)) (bf y) (af y) = y:=by
      have:=(fd_some hg).2
      rw [← this]; rfl
     rw [this]
     simp only [clash1,cmp1,Bool.false_eq_true,if_false,Option.toList_some]
   | some x =>
    have hx:=fd_sm sd hf
    have hxe:=(hd.1 x (fd_some hf).1).2.2.2
    simp only [Option.isSome_some,Bool.not_true,cond_false]
    cases hg:fd e (q,(j:Int)) with
    | none =>
     have h44:=f44_ba x x hx
     rw [zF hxe] at h44
     simp only [Option.isSome_none,Bool.not_false,cond_true,m2 x hf,f52,f53,Option.bind_some,h44,f45_ba _ _ x x hx hx,List.length_singleton,ea,same_self,wS j (by omega)]
     have:mkR (q,(j:Int)) (bf x) (af x) = x:=by
      have:=(fd_some hf).2
      rw [← this]; rfl
     rw [this]
     simp only [clash1,cmp1,Bool.false_eq_true,if_false,Option.toList_some]
    | some y =>
     have hy:=fd_sm se hg
     simp only [Option.isSome_some,Bool.not_true,cond_false,m2 x hf,n2 y hg,f52,f53,Option.bind_some,f44_ab x y hx,f44_ba x y hx,f45_ba _ _ x y hx hy]
     by_cases c1:af x = bf y
     ·simp only [c1,decide_true,Bool.not_true,cond_false]
      by_cases c2:bf x = af y
      ·simp only [c2,decide_true,Bool.not_true,cond_false,same_self,wS j (by omega)]
       simp [clash1,cmp1,c1,c2]
      ·simp only [zF c2,Bool.not_false,cond_true,List.length_singleton,ea,same_self,wS j (by omega)]
       simp [clash1,cmp1,c1,c2]
     ·simp only [zF c1,Bool.not_false,cond_true,same_self]
      simp [clash1,c1]
  ·have e1:decide ((j:Int) < 24) = false:=by simp; omega
   simp only [e1,cond_false]
   exact (if_neg e0).symm) (fun j acc acc' _ h1 h2=>by
    unfold optStep at h2
    cases hp:cmpP d e q j with
    | none=>simp [hp] at h2
    | some x =>
     simp only [hp,Sum.inl.injEq] at h2
     subst h2
     have:=cmpP_len hp
     rw [List.length_append]
     omega) 24 k 0 r (by omega) (by omega) hk (by omega)
 rcases rounds_opt (cmpP d e q) (l4in d e q z) (l4no z) 24 0 r with ⟨h1,h2⟩ | ⟨h1,acc,h2⟩
 ·exact .inl ⟨h1,h.trans (congrArg some h2)⟩
 ·exact .inr ⟨h1,acc,h.trans (congrArg some h2)⟩
theorem cmpRow_len (d e:List Rl) (k:Int):(cmpRow d e k).length≤24:=by
 unfold cmpRow
 have:∀ (m j:Nat),((List.range' j m).flatMap fun j=>(cmpP d e k j).getD []).length≤m:=by
  intro m
  induction m with
  | zero=>intro j; simp
  | succ m ih =>
   intro j
   rw [List.range'_succ,List.flatMap_cons,List.length_append]
   have h1:=ih (j + 1)
   have h2:((cmpP d e k j).getD []).length≤1:=by
    cases h:cmpP d e k j with
    | none=>simp
    | some x=>exact cmpP_len h
   omega
 exact this 24 0
abbrev l1in (z:Int) (acc:List Rl):outDen f41_l1y_outs:=.inl ((),((),(),(),()),((),(z,()),acc,()))
abbrev l1no (z:Int) (acc:List Rl):outDen f41_l1y_outs:=.inr ((),((),(),(),()),((),(z,()),acc,()))
theorem couter (d e:List Rl) (hd:okD d) (he:okD e) (sd:smD d) (se:smD e) (z:Int):∀ (m j k:Nat) (r:List Rl),j + m = 8→m < k→r.length≤24 * j →
  ((List.range' j m).all (fun q:Nat=>cmpOk d e (q:Int)) = true∧f41_l1y k (j:Int) z (d.map kv) (e.map kv) r = some (l1in z (r++(List.range' j m).flatMap (fun q:Nat=>cmpRow d e (q:Int))))) ∨
  ((List.range' j m).all (fun q:Nat=>cmpOk d e (q:Int)) = false∧∃ acc:List Rl,f41_l1y k (j:Int) z (d.map kv) (e.map kv) r = some (l1no z acc))
 | _,_,0,_,_,h,_=>by omega
 | 0,j,k + 1,r,h,_,hr=>by
  refine .inl ⟨rfl,?_⟩
  have e1:decide ((j:Int)≤7) = false:=by simp; omega
  unfold f41_l1y
  simp only [e1,cond_false]
  simp
 | m + 1,j,k + 1,r,h,hk,hr=>by
  have e1:decide ((j:Int)≤7) = true:=by simp; omega
  rw [List.range'_succ,List.all_cons,List.flatMap_cons]
  rcases crow d e hd he sd se (j:Int) z (((24:Int) - 0).toNat + 1) (by decide) r (by omega) with ⟨h1,h2⟩ | ⟨h1,acc,h2⟩
  ·have step:f41_l1y (k + 1) (j:Int) z (d.map kv) (e.map kv) r = f41_l1y k ((j + 1:Nat):Int) z (d.map kv) (e.map kv) (r++cmpRow d e j):=by
    conv=>lhs; unfold f41_l1y
    simp only [e1,cond_true]
    refine bind_step h2 ?_
    rw [← wS j (by omega)]
    rfl
   have hl:=cmpRow_len d e (j:Int)
   rw [step,h1,Bool.true_and]
   rcases couter d e hd he sd se z m (j + 1) k (r++cmpRow d e j) (by omega) (by omega) (by rw [List.length_append]; omega) with ⟨g1,g2⟩ | ⟨g1,acc,g2⟩
   ·exact .inl ⟨g1,by rw [g2,List.append_assoc]⟩
   ·exact .inr ⟨g1,acc,g2⟩
  ·refine .inr ⟨by rw [h1]; rfl,acc,?_⟩
   conv=>lhs; unfold f41_l1y
   simp only [e1,cond_true]
   refine bind_step h2 ?_
   rfl
theorem cmpOk_iff (d e:List Rl) (k:Int):cmpOk d e k = !(ids.any fun i=>clash1 (fd d (k,i)) (fd e (k,i))):=by
 unfold cmpOk ids
 rw [List.any_map,List.not_any_eq_all_not,List.range_eq_range']
 congr 1
 funext j
 unfold cmpP
 simp only [Function.comp,Int.ofNat_eq_natCast]
 cases clash1 (fd d (k,(j:Int))) (fd e (k,(j:Int))) <;> rfl
theorem cmpOk_all (d e:List Rl):(List.range' 1 7).all (fun q:Nat=>cmpOk d e (q:Int)) = !clash d e:=by
 unfold clash keys kinds
 rw [List.any_flatMap,List.any_map,List.not_any_eq_all_not]
 congr 1
 funext q
 rw [cmpOk_iff]
 simp only [Function.comp,List.any_map,Int.ofNat_eq_natCast]
 rfl
theorem cmpRow_eq {d e:List Rl} {k:Int} (h:cmpOk d e k = true):cmpRow d e k = ids.filterMap fun i=>cmp1 (fd d (k,i)) (fd e (k,i)) (k,i):=by
 rw [← ids_fm (fun i=>cmp1 (fd d (k,i)) (fd e (k,i)) (k,i))]
 unfold cmpRow
 refine congrArg List.flatten (List.map_congr_left fun j hj=>?_)
 have h1:=List.all_eq_true.1 h j hj
 unfold cmpP at h1 ⊢
 cases hc:clash1 (fd d (k,(j:Int))) (fd e (k,(j:Int))) with
 | true=>rw [hc] at h1; simp at h1
 | false=>simp [cmpG]
theorem cmp_comp {d e:List Rl} (h:(List.range' 1 7).all (fun q:Nat=>cmpOk d e (q:Int)) = true):(List.range' 1 7).flatMap (fun q:Nat=>cmpRow d e (q:Int)) = comp d e:=by
 unfold comp
 rw [← keys_fm (fun k=>cmp1 (fd d k) (fd e k) k)]
 refine congrArg List.flatten (List.map_congr_left fun q hq=>?_)
 exact cmpRow_eq (List.all_eq_true.1 h q hq)
theorem f49_gen (d:List Rl) (hd:okD d) (hl:d.length≤1000000) (k:Nat) (hk:d.length < k) :
  f49_l3 d (d.length:Int) k 0 [] = some ((),(),(d.map kv,())):=by
 have h:=loop_rounds d.length (fun j m=>m = (d.take j).map kv) (fun j m=>(.inl ((d.take (j + 1)).map kv):List (List Int × Rl) ⊕ outDen f49_l3_outs)) (fun m=>((),(),(m,()))) (f49_l3 d (d.length:Int)) (by
  intro k j m hj hm
  conv=>lhs; unfold f49_l3
  by_cases e:j < d.length
  ·simp only [Int.ofNat_lt,inRN,e,decide_true,cond_true,same_self,f50_eq,Option.bind_some,wS j (by omega),if_true]
   rw [atN tR d j e,hm]
   have hset:=map_set (d.take j) d[j] (fun x hx=>by
    obtain ⟨i,hi,rfl⟩:=List.mem_iff_getElem.1 hx
    rw [List.length_take] at hi
    have h1:lt2 (kOf d[i]) (kOf d[j]):=List.pairwise_iff_getElem.1 hd.2 i j (by omega) e (by omega)
    rw [List.getElem_take]
    intro e2
    rw [e2] at h1
    exact lt2_irr _ h1)
   rw [hset,← List.take_succ_eq_append_getElem e]
  ·simp only [Int.ofNat_lt,e,decide_false,cond_false,if_false]) (fun j m m' _ _ e=>by cases e; rfl) d.length k 0 [] (by omega) (by omega) hk (by simp)
 refine h.trans ?_
 have key:∀ (n j:Nat) (m:List (List Int × Rl)),j + n = d.length→m = (d.take j).map kv→rounds (fun j m=>(.inl ((d.take (j + 1)).map kv):List (List Int × Rl) ⊕ outDen f49_l3_outs)) (fun m=>((),(),(m,()))) n j m = ((),(),(d.map kv,())):=by
  intro n
  induction n with
  | zero =>
   intro j m h1 h2
   subst h2
   rw [List.take_of_length_le (by omega)]
   rfl
  | succ n ih =>
   intro j m h1 h2
   exact ih (j + 1) _ (by omega) rfl
 exact congrArg some (key d.length 0 [] (by omega) rfl)
theorem f49_eq (d:List Rl) (hd:okD d) (hl:d.length≤1000000):f49 d = some (d.map kv):=by
 unfold f49
 exact bind_step (f49_gen d hd hl _ (by omega)) rfl
theorem f22_eq (d e:List Rl) (sd:smD d) (se:smD e) :
  f22 (d,()) (e,()) = if (validD d && validD e && !clash d e) = true then some ((comp d e,()),(0:Int),()) else some (([],()),(160:Int),()):=by
 unfold f22
 refine bind_step (f19_eq d sd) ?_
 cases h1:validD d with
 | false=>simp
 | true =>
  simp only [cond_true,Bool.true_and]
  refine bind_step (f19_eq e se) ?_
  cases h2:validD e with
  | false=>simp
  | true =>
   have hd:=validD_iff.1 h1
   have he:=validD_iff.1 h2
   simp only [f49_eq d hd sd.1,f49_eq e he se.1,Option.bind_some,same_self,Bool.not_true,cond_false,Bool.true_and]
   rw [← cmpOk_all]
   rcases couter d e hd he sd se 0 7 1 (((8:Int) - 1).toNat + 1) [] rfl (by decide) (by simp) with ⟨g1,g2⟩ | ⟨g1,acc,g2⟩
   ·rw [g1,if_pos rfl]
    rw [cmp_comp g1] at g2
    exact bind_step g2 rfl
   ·rw [g1]
    exact bind_step g2 rfl
end Go.V.G
namespace Go.V.K
end Go.V.K
namespace Go.V.G
open Go.Proofs
open Go.V.K
theorem keys_len:keys.length = 168:=by kernel_rfl
theorem okD_len {d:List Rl} (h:okD d):d.length≤168:=by
 rw [← okD_gen h]
 exact Nat.le_trans (List.length_filterMap_le _ _) (by rw [keys_len]; exact Nat.le_refl _)
theorem okD_sm {d:List Rl} (h:okD d):smD d:=by
 refine ⟨Nat.le_trans (okD_len h) (by decide),fun r hr=>?_⟩
 have h1:=h.1 r hr
 exact ⟨Nat.le_trans h1.2.1.1.1 (by decide),Nat.le_trans h1.2.2.1.1.1 (by decide)⟩
theorem validC_ok {c:Ct} (h:okC c):validC c = true:=(validC_iff h.1).2 h
theorem okD_la {a b:Ct} (ha:okC a) (hb:okC b):okD (dif (la a) (la b)):=okD_dif (fun _ _ h=>la_ok ha h) (fun _ _ h=>la_ok hb h)
theorem patch_eq {a:Ct} (ha:okC a) {d:List Rl} (hs:smD d) :
  (okD d∧fits (la a) d∧f14 a (d,()) = some (mkC (aft (la a) d),(0:Int),())) ∨
  (¬ (okD d∧fits (la a) d)∧f14 a (d,()) = some ((([[],[],[],[],[],[],[],[]]:List (List Nm)),()),(160:Int),())):=by
 have h:=f14_eq a (okC_sm ha) d hs (f19_eq d hs) validD_iff.1
 rw [validC_ok ha,Bool.true_and] at h
 cases hv:validD d with
 | false =>
  rw [hv] at h
  refine .inr ⟨fun hk=>?_,h⟩
  rw [validD_iff.2 hk.1] at hv
  cases hv
 | true =>
  have hd:=validD_iff.1 hv
  rw [hv,Bool.true_and] at h
  cases hf:(kinds.all fun k=>rowFit (la a) d k) with
  | true =>
   rw [hf,if_pos rfl] at h
   refine .inl ⟨hd,(patch_fit ha hd).1 hf,h.trans ?_⟩
   have:kinds.map (fun k=>rowNew (la a) d k) = kinds.map fun k=>mkRow (aft (la a) d k):=List.map_congr_left fun k hk=>rowNew_eq (List.all_eq_true.1 hf k hk)
   rw [this]
   rfl
  | false =>
   rw [hf] at h
   refine .inr ⟨fun hk=>?_,h⟩
   rw [(patch_fit ha hd).2 hk.2] at hf
   cases hf
theorem aft_okC {a:Ct} (ha:okC a) {d:List Rl} (hd:okD d):okC (mkC (aft (la a) d)):=okC_mk (aft_ok (fun _ _ h=>la_ok ha h) hd)
abbrev tC:Ty:=.pair (.arr 8 (.sl tN)) .unit
abbrev tD:Ty:=.pair (.sl tR) .unit
end Go.V.G
