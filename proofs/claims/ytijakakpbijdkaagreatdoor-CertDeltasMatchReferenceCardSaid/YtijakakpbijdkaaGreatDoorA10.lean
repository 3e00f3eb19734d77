/- Part of the proof. -/
import Derived.KernelRfl
import Derived.Shelf.Strings.Builder1
import Derived.Shelf.Strings.BuilderF
import Derived.Shelf.Strings.BuilderK
import Derived.Ground.Names2Prog
import Derived.WalkKit
import Derived.BigCall
import Derived.Shelf.Strings.OnBuilder
import Derived.Test.YtijakakpbijdkaaGreatDoorA9
set_option linter.all false
set_option linter.unusedVariables false
set_option linter.unusedSectionVars false
set_option linter.unusedSimpArgs false
namespace Go.V.G
open Go.Proofs
open Go.V.K
theorem few1_eq {R:Type} (GO:Int→List Nm→Option R) (q:Int) (hq:inR q 8 = true) (l:List Nm) (t:Int) (r:List Nm) (ha:decide (r.length + 1≤appLim) = true) :
  few1 GO q l t (at_ tN l t).1 r = GO (IntKind.wrap .i64 (t + 1)) (r++[((at_ tN l t).1,((at_ tN l t).2.1.take (Int.toNat (if (5:Int) < ((at_ tN l t).2.1.length:Int) then (5:Int) else ((at_ tN l t).2.1.length:Int))),()))]):=by
 unfold few1
 generalize at_ tN l t = x
 obtain ⟨i1,o1,u1⟩:=x
 obtain ⟨c1,c2⟩:=cut5 o1
 simp only [c1,cond_true,List.length_singleton,ha,hq,same_self,eqGate_self]
theorem fewL0 (b:List (List Nm)) :∀ (m j k:Nat) (acc:List Nm),j + m = 3→m < k→acc.length = j→(∀ n∈acc,n.2.1.length≤1000000) →
  ∃ r,f11_l6b b k (j:Int) acc = some ((),(),((b,()),(),(),r,()))∧smR r:=by
 intro m
 have i8:inR (0:Int) 8 = true:=by decide
 induction m with
 | zero =>
  intro j k acc h1 h2 h3 h4
  obtain ⟨k,rfl⟩:∃ q,k = q + 1:=⟨k - 1,by omega⟩
  refine ⟨acc,?_,by omega,h4⟩
  conv=>lhs; unfold f11_l6b
  have e6:decide ((j:Int) < 3) = false:=by simp; omega
  simp only [i8,cond_true,e6,cond_false]
  cases decide ((j:Int) < ((at_ (.sl tN) b (0:Int)).length:Int)) <;> rfl
 | succ m ih =>
  intro j k acc h1 h2 h3 h4
  obtain ⟨k,rfl⟩:∃ q,k = q + 1:=⟨k - 1,by omega⟩
  conv=>arg 1; ext r; lhs; lhs; unfold f11_l6b
  have e6:decide ((j:Int) < 3) = true:=by simp; omega
  simp only [i8,cond_true,e6]
  generalize at_ (.sl tN) b (0:Int) = l
  by_cases e:j < List.length l
  ·have e7:decide ((j:Int) < (List.length l:Int)) = true:=by simp; omega
   have ea:decide (acc.length + 1≤appLim) = true:=sm_app (by omega)
   simp only [e7,cond_true,inRN,e,decide_true,few1_eq _ _ i8 l (j:Int) acc ea,wS j (by omega)]
   refine ih (j + 1) k _ (by omega) (by omega) (by simp [h3]) ?_
   intro r hr
   rcases List.mem_append.1 hr with hr | hr
   ·exact h4 r hr
   ·rw [List.mem_singleton] at hr
    subst hr
    exact (cut5 _).2
  ·refine ⟨acc,?_,by omega,h4⟩
   have e7:decide ((j:Int) < (List.length l:Int)) = false:=by simp; omega
   simp only [e7,cond_false]
   try rfl
theorem fewL1 (b:List (List Nm)) (p0:List Nm):∀ (m j k:Nat) (acc:List Nm),j + m = 3→m < k→acc.length = j→(∀ n∈acc,n.2.1.length≤1000000) →
  ∃ r,f11_l6a b p0 k (j:Int) acc = some ((),(),((b,()),(),(),p0,r,()))∧smR r:=by
 intro m
 have i8:inR (1:Int) 8 = true:=by decide
 induction m with
 | zero =>
  intro j k acc h1 h2 h3 h4
  obtain ⟨k,rfl⟩:∃ q,k = q + 1:=⟨k - 1,by omega⟩
  refine ⟨acc,?_,by omega,h4⟩
  conv=>lhs; unfold f11_l6a
  have e6:decide ((j:Int) < 3) = false:=by simp; omega
  simp only [i8,cond_true,e6,cond_false]
  cases decide ((j:Int) < ((at_ (.sl tN) b (1:Int)).length:Int)) <;> rfl
 | succ m ih =>
  intro j k acc h1 h2 h3 h4
  obtain ⟨k,rfl⟩:∃ q,k = q + 1:=⟨k - 1,by omega⟩
  conv=>arg 1; ext r; lhs; lhs; unfold f11_l6a
  have e6:decide ((j:Int) < 3) = true:=by simp; omega
  simp only [i8,cond_true,e6]
  generalize at_ (.sl tN) b (1:Int) = l
  by_cases e:j < List.length l
  ·have e7:decide ((j:Int) < (List.length l:Int)) = true:=by simp; omega
   have ea:decide (acc.length + 1≤appLim) = true:=sm_app (by omega)
   simp only [e7,cond_true,inRN,e,decide_true,few1_eq _ _ i8 l (j:Int) acc ea,wS j (by omega)]
   refine ih (j + 1) k _ (by omega) (by omega) (by simp [h3]) ?_
   intro r hr
   rcases List.mem_append.1 hr with hr | hr
   ·exact h4 r hr
   ·rw [List.mem_singleton] at hr
    subst hr
    exact (cut5 _).2
  ·refine ⟨acc,?_,by omega,h4⟩
   have e7:decide ((j:Int) < (List.length l:Int)) = false:=by simp; omega
   simp only [e7,cond_false]
   try rfl
theorem fewL2 (b:List (List Nm)) (p0:List Nm) (p1:List Nm):∀ (m j k:Nat) (acc:List Nm),j + m = 3→m < k→acc.length = j→(∀ n∈acc,n.2.1.length≤1000000) →
  ∃ r,f11_l6u b p0 p1 k (j:Int) acc = some ((),(),((b,()),(),(),p0,p1,r,()))∧smR r:=by
 intro m
 have i8:inR (2:Int) 8 = true:=by decide
 induction m with
 | zero =>
  intro j k acc h1 h2 h3 h4
  obtain ⟨k,rfl⟩:∃ q,k = q + 1:=⟨k - 1,by omega⟩
  refine ⟨acc,?_,by omega,h4⟩
  conv=>lhs; unfold f11_l6u
  have e6:decide ((j:Int) < 3) = false:=by simp; omega
  simp only [i8,cond_true,e6,cond_false]
  cases decide ((j:Int) < ((at_ (.sl tN) b (2:Int)).length:Int)) <;> rfl
 | succ m ih =>
  intro j k acc h1 h2 h3 h4
  obtain ⟨k,rfl⟩:∃ q,k = q + 1:=⟨k - 1,by omega⟩
  conv=>arg 1; ext r; lhs; lhs; unfold f11_l6u
  have e6:decide ((j:Int) < 3) = true:=by simp; omega
  simp only [i8,cond_true,e6]
  generalize at_ (.sl tN) b (2:Int) = l
  by_cases e:j < List.length l
  ·have e7:decide ((j:Int) < (List.length l:Int)) = true:=by simp; omega
   have ea:decide (acc.length + 1≤appLim) = true:=sm_app (by omega)
   simp only [e7,cond_true,inRN,e,decide_true,few1_eq _ _ i8 l (j:Int) acc ea,wS j (by omega)]
   refine ih (j + 1) k _ (by omega) (by omega) (by simp [h3]) ?_
   intro r hr
   rcases List.mem_append.1 hr with hr | hr
   ·exact h4 r hr
   ·rw [List.mem_singleton] at hr
    subst hr
    exact (cut5 _).2
  ·refine ⟨acc,?_,by omega,h4⟩
   have e7:decide ((j:Int) < (List.length l:Int)) = false:=by simp; omega
   simp only [e7,cond_false]
   try rfl
theorem fewL3 (b:List (List Nm)) (p0:List Nm) (p1:List Nm) (p2:List Nm):∀ (m j k:Nat) (acc:List Nm),j + m = 3→m < k→acc.length = j→(∀ n∈acc,n.2.1.length≤1000000) →
  ∃ r,f11_l6v b p0 p1 p2 k (j:Int) acc = some ((),(),((b,()),(),(),p0,p1,p2,r,()))∧smR r:=by
 intro m
 have i8:inR (3:Int) 8 = true:=by decide
 induction m with
 | zero =>
  intro j k acc h1 h2 h3 h4
  obtain ⟨k,rfl⟩:∃ q,k = q + 1:=⟨k - 1,by omega⟩
  refine ⟨acc,?_,by omega,h4⟩
  conv=>lhs; unfold f11_l6v
  have e6:decide ((j:Int) < 3) = false:=by simp; omega
  simp only [i8,cond_true,e6,cond_false]
  cases decide ((j:Int) < ((at_ (.sl tN) b (3:Int)).length:Int)) <;> rfl
 | succ m ih =>
  intro j k acc h1 h2 h3 h4
  obtain ⟨k,rfl⟩:∃ q,k = q + 1:=⟨k - 1,by omega⟩
  conv=>arg 1; ext r; lhs; lhs; unfold f11_l6v
  have e6:decide ((j:Int) < 3) = true:=by simp; omega
  simp only [i8,cond_true,e6]
  generalize at_ (.sl tN) b (3:Int) = l
  by_cases e:j < List.length l
  ·have e7:decide ((j:Int) < (List.length l:Int)) = true:=by simp; omega
   have ea:decide (acc.length + 1≤appLim) = true:=sm_app (by omega)
   simp only [e7,cond_true,inRN,e,decide_true,few1_eq _ _ i8 l (j:Int) acc ea,wS j (by omega)]
   refine ih (j + 1) k _ (by omega) (by omega) (by simp [h3]) ?_
   intro r hr
   rcases List.mem_append.1 hr with hr | hr
   ·exact h4 r hr
   ·rw [List.mem_singleton] at hr
    subst hr
    exact (cut5 _).2
  ·refine ⟨acc,?_,by omega,h4⟩
   have e7:decide ((j:Int) < (List.length l:Int)) = false:=by simp; omega
   simp only [e7,cond_false]
   try rfl
theorem fewL4 (b:List (List Nm)) (p0:List Nm) (p1:List Nm) (p2:List Nm) (p3:List Nm):∀ (m j k:Nat) (acc:List Nm),j + m = 3→m < k→acc.length = j→(∀ n∈acc,n.2.1.length≤1000000) →
  ∃ r,f11_l6w b p0 p1 p2 p3 k (j:Int) acc = some ((),(),((b,()),(),(),p0,p1,p2,p3,r,()))∧smR r:=by
 intro m
 have i8:inR (4:Int) 8 = true:=by decide
 induction m with
 | zero =>
  intro j k acc h1 h2 h3 h4
  obtain ⟨k,rfl⟩:∃ q,k = q + 1:=⟨k - 1,by omega⟩
  refine ⟨acc,?_,by omega,h4⟩
  conv=>lhs; unfold f11_l6w
  have e6:decide ((j:Int) < 3) = false:=by simp; omega
  simp only [i8,cond_true,e6,cond_false]
  cases decide ((j:Int) < ((at_ (.sl tN) b (4:Int)).length:Int)) <;> rfl
 | succ m ih =>
  intro j k acc h1 h2 h3 h4
  obtain ⟨k,rfl⟩:∃ q,k = q + 1:=⟨k - 1,by omega⟩
  conv=>arg 1; ext r; lhs; lhs; unfold f11_l6w
  have e6:decide ((j:Int) < 3) = true:=by simp; omega
  simp only [i8,cond_true,e6]
  generalize at_ (.sl tN) b (4:Int) = l
  by_cases e:j < List.length l
  ·have e7:decide ((j:Int) < (List.length l:Int)) = true:=by simp; omega
   have ea:decide (acc.length + 1≤appLim) = true:=sm_app (by omega)
   simp only [e7,cond_true,inRN,e,decide_true,few1_eq _ _ i8 l (j:Int) acc ea,wS j (by omega)]
   refine ih (j + 1) k _ (by omega) (by omega) (by simp [h3]) ?_
   intro r hr
   rcases List.mem_append.1 hr with hr | hr
   ·exact h4 r hr
   ·rw [List.mem_singleton] at hr
    subst hr
    exact (cut5 _).2
  ·refine ⟨acc,?_,by omega,h4⟩
   have e7:decide ((j:Int) < (List.length l:Int)) = false:=by simp; omega
   simp only [e7,cond_false]
   try rfl
theorem fewL5 (b:List (List Nm)) (p0:List Nm) (p1:List Nm) (p2:List Nm) (p3:List Nm) (p4:List Nm):∀ (m j k:Nat) (acc:List Nm),j + m = 3→m < k→acc.length = j→(∀ n∈acc,n.2.1.length≤1000000) →
  ∃ r,f11_l6z b p0 p1 p2 p3 p4 k (j:Int) acc = some ((),(),((b,()),(),(),p0,p1,p2,p3,p4,r,()))∧smR r:=by
 intro m
 have i8:inR (5:Int) 8 = true:=by decide
 induction m with
 | zero =>
  intro j k acc h1 h2 h3 h4
  obtain ⟨k,rfl⟩:∃ q,k = q + 1:=⟨k - 1,by omega⟩
  refine ⟨acc,?_,by omega,h4⟩
  conv=>lhs; unfold f11_l6z
  have e6:decide ((j:Int) < 3) = false:=by simp; omega
  simp only [i8,cond_true,e6,cond_false]
  cases decide ((j:Int) < ((at_ (.sl tN) b (5:Int)).length:Int)) <;> rfl
 | succ m ih =>
  intro j k acc h1 h2 h3 h4
  obtain ⟨k,rfl⟩:∃ q,k = q + 1:=⟨k - 1,by omega⟩
  conv=>arg 1; ext r; lhs; lhs; unfold f11_l6z
  have e6:decide ((j:Int) < 3) = true:=by simp; omega
  simp only [i8,cond_true,e6]
  generalize at_ (.sl tN) b (5:Int) = l
  by_cases e:j < List.length l
  ·have e7:decide ((j:Int) < (List.length l:Int)) = true:=by simp; omega
   have ea:decide (acc.length + 1≤appLim) = true:=sm_app (by omega)
   simp only [e7,cond_true,inRN,e,decide_true,few1_eq _ _ i8 l (j:Int) acc ea,wS j (by omega)]
   refine ih (j + 1) k _ (by omega) (by omega) (by simp [h3]) ?_
   intro r hr
   rcases List.mem_append.1 hr with hr | hr
   ·exact h4 r hr
   ·rw [List.mem_singleton] at hr
    subst hr
    exact (cut5 _).2
  ·refine ⟨acc,?_,by omega,h4⟩
   have e7:decide ((j:Int) < (List.length l:Int)) = false:=by simp; omega
   simp only [e7,cond_false]
   try rfl
theorem fewL6 (b:List (List Nm)) (p0:List Nm) (p1:List Nm) (p2:List Nm) (p3:List Nm) (p4:List Nm) (p5:List Nm):∀ (m j k:Nat) (acc:List Nm),j + m = 3→m < k→acc.length = j→(∀ n∈acc,n.2.1.length≤1000000) →
  ∃ r,f11_l6y b p0 p1 p2 p3 p4 p5 k (j:Int) acc = some ((),(),((b,()),(),(),p0,p1,p2,p3,p4,p5,r,()))∧smR r:=by
 intro m
 have i8:inR (6:Int) 8 = true:=by decide
 induction m with
 | zero =>
  intro j k acc h1 h2 h3 h4
  obtain ⟨k,rfl⟩:∃ q,k = q + 1:=⟨k - 1,by omega⟩
  refine ⟨acc,?_,by omega,h4⟩
  conv=>lhs; unfold f11_l6y
  have e6:decide ((j:Int) < 3) = false:=by simp; omega
  simp only [i8,cond_true,e6,cond_false]
  cases decide ((j:Int) < ((at_ (.sl tN) b (6:Int)).length:Int)) <;> rfl
 | succ m ih =>
  intro j k acc h1 h2 h3 h4
  obtain ⟨k,rfl⟩:∃ q,k = q + 1:=⟨k - 1,by omega⟩
  conv=>arg 1; ext r; lhs; lhs; unfold f11_l6y
  have e6:decide ((j:Int) < 3) = true:=by simp; omega
  simp only [i8,cond_true,e6]
  generalize at_ (.sl tN) b (6:Int) = l
  by_cases e:j < List.length l
  ·have e7:decide ((j:Int) < (List.length l:Int)) = true:=by simp; omega
   have ea:decide (acc.length + 1≤appLim) = true:=sm_app (by omega)
   simp only [e7,cond_true,inRN,e,decide_true,few1_eq _ _ i8 l (j:Int) acc ea,wS j (by omega)]
   refine ih (j + 1) k _ (by omega) (by omega) (by simp [h3]) ?_
   intro r hr
   rcases List.mem_append.1 hr with hr | hr
   ·exact h4 r hr
   ·rw [List.mem_singleton] at hr
    subst hr
    exact (cut5 _).2
  ·refine ⟨acc,?_,by omega,h4⟩
   have e7:decide ((j:Int) < (List.length l:Int)) = false:=by simp; omega
   simp only [e7,cond_false]
   try rfl
theorem fewL7 (b:List (List Nm)) (p0:List Nm) (p1:List Nm) (p2:List Nm) (p3:List Nm) (p4:List Nm) (p5:List Nm) (p6:List Nm):∀ (m j k:Nat) (acc:List Nm),j + m = 3→m < k→acc.length = j→(∀ n∈acc,n.2.1.length≤1000000) →
  ∃ r,f11_l6x b p0 p1 p2 p3 p4 p5 p6 k (j:Int) acc = some ((),(),((b,()),(),(),p0,p1,p2,p3,p4,p5,p6,r,()))∧smR r:=by
 intro m
 have i8:inR (7:Int) 8 = true:=by decide
 induction m with
 | zero =>
  intro j k acc h1 h2 h3 h4
  obtain ⟨k,rfl⟩:∃ q,k = q + 1:=⟨k - 1,by omega⟩
  refine ⟨acc,?_,by omega,h4⟩
  conv=>lhs; unfold f11_l6x
  have e6:decide ((j:Int) < 3) = false:=by simp; omega
  simp only [i8,cond_true,e6,cond_false]
  cases decide ((j:Int) < ((at_ (.sl tN) b (7:Int)).length:Int)) <;> rfl
 | succ m ih =>
  intro j k acc h1 h2 h3 h4
  obtain ⟨k,rfl⟩:∃ q,k = q + 1:=⟨k - 1,by omega⟩
  conv=>arg 1; ext r; lhs; lhs; unfold f11_l6x
  have e6:decide ((j:Int) < 3) = true:=by simp; omega
  simp only [i8,cond_true,e6]
  generalize at_ (.sl tN) b (7:Int) = l
  by_cases e:j < List.length l
  ·have e7:decide ((j:Int) < (List.length l:Int)) = true:=by simp; omega
   have ea:decide (acc.length + 1≤appLim) = true:=sm_app (by omega)
   simp only [e7,cond_true,inRN,e,decide_true,few1_eq _ _ i8 l (j:Int) acc ea,wS j (by omega)]
   refine ih (j + 1) k _ (by omega) (by omega) (by simp [h3]) ?_
   intro r hr
   rcases List.mem_append.1 hr with hr | hr
   ·exact h4 r hr
   ·rw [List.mem_singleton] at hr
    subst hr
    exact (cut5 _).2
  ·refine ⟨acc,?_,by omega,h4⟩
   have e7:decide ((j:Int) < (List.length l:Int)) = false:=by simp; omega
   simp only [e7,cond_false]
   try rfl
theorem f11_eq (c:Ct):∃ r,f11 c = some (r,())∧smC r:=by
 obtain ⟨r0,h0,s0⟩:=fewL0 c.1 3 0 5 [] rfl (by decide) rfl (by simp)
 obtain ⟨r1,h1,s1⟩:=fewL1 c.1 r0 3 0 5 [] rfl (by decide) rfl (by simp)
 obtain ⟨r2,h2,s2⟩:=fewL2 c.1 r0 r1 3 0 5 [] rfl (by decide) rfl (by simp)
 obtain ⟨r3,h3,s3⟩:=fewL3 c.1 r0 r1 r2 3 0 5 [] rfl (by decide) rfl (by simp)
 obtain ⟨r4,h4,s4⟩:=fewL4 c.1 r0 r1 r2 r3 3 0 5 [] rfl (by decide) rfl (by simp)
 obtain ⟨r5,h5,s5⟩:=fewL5 c.1 r0 r1 r2 r3 r4 3 0 5 [] rfl (by decide) rfl (by simp)
 obtain ⟨r6,h6,s6⟩:=fewL6 c.1 r0 r1 r2 r3 r4 r5 3 0 5 [] rfl (by decide) rfl (by simp)
 obtain ⟨r7,h7,s7⟩:=fewL7 c.1 r0 r1 r2 r3 r4 r5 r6 3 0 5 [] rfl (by decide) rfl (by simp)
 refine ⟨([r0,r1,r2,r3,r4,r5,r6,r7],()),?_,rfl,fun l hl=>?_⟩
 ·unfold f11
  refine bind_step h0 ?_
  refine bind_step h1 ?_
  refine bind_step h2 ?_
  refine bind_step h3 ?_
  refine bind_step h4 ?_
  refine bind_step h5 ?_
  refine bind_step h6 ?_
  refine bind_step h7 ?_
  rfl
 ·simp only [List.mem_cons,List.not_mem_nil,or_false] at hl
  rcases hl with rfl | rfl | rfl | rfl | rfl | rfl | rfl | rfl <;> assumption
end Go.V.G
namespace Go.V.K
theorem fd_cons (x:Rl) (d:List Rl) (k:Int × Int):fd (x :: d) k = if kOf x = k then some x else fd d k:=by
 unfold fd
 rw [List.find?_cons]
 by_cases h:kOf x = k <;> simp [h]
theorem fd_app (d e:List Rl) (k:Int × Int):fd (d++e) k = (fd d k).or (fd e k):=by
 unfold fd
 rw [List.find?_append]
theorem fd_take {d:List Rl} (h:d.Pairwise (fun a b=>lt2 (kOf a) (kOf b))) (j:Nat) (hj:j < d.length):fd (d.take j) (kOf d[j]) = none:=by
 unfold fd
 rw [List.find?_eq_none]
 intro x hx
 simp only [decide_eq_true_eq]
 intro e
 obtain ⟨i,hi,rfl⟩:=List.mem_iff_getElem.1 hx
 rw [List.length_take] at hi
 rw [List.getElem_take] at e
 have:=List.pairwise_iff_getElem.1 h i j (by omega) hj (by omega)
 rw [e] at this
 exact lt2_irr _ this
theorem aft_take {A:Int→Int→Lb} {d:List Rl} (h:d.Pairwise (fun a b=>lt2 (kOf a) (kOf b))) (j:Nat) (hj:j < d.length) (k i:Int) :
  aft A (d.take (j + 1)) k i = if (k,i) = kOf d[j] then af d[j] else aft A (d.take j) k i:=by
 unfold aft
 rw [List.take_succ_eq_append_getElem hj,fd_app,fd_cons]
 by_cases e:(k,i) = kOf d[j]
 ·rw [e,fd_take h j hj]
  simp
 ·have e2:¬ kOf d[j] = (k,i):=fun h=>e h.symm
  simp only [e,e2,if_false]
  cases fd (d.take j) (k,i) <;> rfl
end Go.V.K
namespace Go.V.G
open Go.Proofs
open Go.V.K
theorem f24_eq (a b:List Rl) (ha:smD a):f24 (a,()) (b,()) = some (decide (a = b),()):=by
 unfold f24
 by_cases hl:a.length = b.length
 ·have e:decide ((a.length:Int) ≠ (b.length:Int)) = false:=by simp [hl]
  simp only [e,cond_false]
  have h:=all_loop a.length (fun j=>decide (at_ tR a j = at_ tR b j)) (f63_l4_b9000 b a (a.length:Int) false) (.inl ((),((false,()),()),())) (.inr ((false,()),((false,()),()),())) (by
   intro k j hj
   conv=>lhs; unfold f63_l4_b9000
   have h1:=ha.1
   by_cases h:j < a.length
   ·have hs:=smD_at ha j h
    simp only [Int.ofNat_lt,inRN,h,show j < b.length by omega,decide_true,cond_true,wS j (by omega)]
    refine Eq.trans ?_ (if_pos trivial).symm
    generalize at_ tR a (j:Int) = x at hs
    generalize at_ tR b (j:Int) = y
    obtain ⟨k1,i1,h1',o1,g1,n1,u1⟩:=x
    obtain ⟨k2,i2,h2',o2,g2,n2,u2⟩:=y
    have q1:=f44_mk h1' o1 h2' o2 hs.1
    have q2:=f44_mk g1 n1 g2 n2 hs.2
    simp only [f52,f53,Option.bind_some,q1,q2,Prod.mk.injEq]
    by_cases c1:k1 = k2
    ·by_cases c2:i1 = i2
     ·by_cases c3:h1' = h2'
      ·by_cases c5:o1 = o2
       ·by_cases c4:g1 = g2
        ·by_cases c6:n1 = n2
         ·simp [c1,c2,c3,c4,c5,c6]
         ·simp [c1,c2,c3,c4,c5,c6]
        ·simp [c1,c2,c3,c4,c5]
       ·simp [c1,c2,c3,c5]
      ·simp [c1,c2,c3]
     ·simp [c1,c2]
    ·simp [c1]
   ·simp only [Int.ofNat_lt,h,decide_false,cond_false]
    exact (if_neg not_false).symm) (((a.length:Int) - 0).toNat + 1) (by omega)
  refine bind_step h ?_
  rw [all_range_eq a b hl _ (fun j h1=>by rw [atN tR _ _ h1,atN tR _ _ (hl ▸ h1)])]
  by_cases e:a = b <;> simp [e]
 ·have e:decide ((a.length:Int) ≠ (b.length:Int)) = true:=by simp; omega
  simp only [e,cond_true]
  have:¬ a = b:=fun h=>hl (by rw [h])
  simp [this]
def fOut (z:Int × Int × Bool × Bool) (o:Option Rl):outDen f62_l2_outs :=
 match o with
 | some r=>.inr ((true,()),(),((r.1,r.2.1,r.2.2.1,r.2.2.2.2.1,()),r.2.2.2.1,r.2.2.2.2.2.1,()))
 | none=>.inl ((),(),((z.1,z.2.1,z.2.2.1,z.2.2.2,()),()))
theorem f62_loop (d:List Rl) (hs:smD d) (t1 t2 z1 z2:Int) (z3 z4:Bool):∀ (m j k:Nat),j + m = d.length→m < k →
  f62_l2 t1 t2 d z1 z2 z3 z4 k (j:Int) = some (fOut (z1,z2,z3,z4) (fd (d.drop j) (t1,t2))):=by
 intro m
 have h0:=hs.1
 induction m with
 | zero =>
  intro j k h1 h2
  obtain ⟨k,rfl⟩:∃ q,k = q + 1:=⟨k - 1,by omega⟩
  conv=>lhs; unfold f62_l2
  rw [List.drop_of_length_le (by omega)]
  have e:¬ j < d.length:=by omega
  simp only [Int.ofNat_lt,e,decide_false,cond_false]
  rfl
 | succ m ih =>
  intro j k h1 h2
  obtain ⟨k,rfl⟩:∃ q,k = q + 1:=⟨k - 1,by omega⟩
  have hj:j < d.length:=by omega
  have hx:=smD_at hs j hj
  have ih':=ih (j + 1) k (by omega) (by omega)
  conv=>lhs; unfold f62_l2
  rw [List.drop_eq_getElem_cons hj,fd_cons,← atN tR d j hj]
  simp only [Int.ofNat_lt,inRN,hj,decide_true,cond_true,wS j (by omega),ih']
  generalize at_ tR d (j:Int) = x at hx
  obtain ⟨k1,i1,h1',o1,g1,n1,u1⟩:=x
  have q1:decide (o1.length≤appLim) = true:=sm_app hx.1
  have q2:decide (n1.length≤appLim) = true:=sm_app hx.2
  simp only [q1,q2,cond_true,kOf,Prod.mk.injEq]
  by_cases c1:k1 = t1
  ·by_cases c2:i1 = t2
   ·simp [c1,c2,fOut]
    try rfl
   ·simp [c1,c2]
  ·simp [c1]
def noR:Rl:=(0,(0,(false,([],(false,([],()))))))
theorem f62_eq (d:List Rl) (hs:smD d) (k i:Int):f62 (d,()) k i = some ((fd d (k,i)).getD noR,(fd d (k,i)).isSome,()):=by
 unfold f62
 refine bind_step (f62_loop d hs k i 0 0 false false d.length 0 (((d.length:Int) - (0:Int)).toNat + 1) (by omega) (by omega)) ?_
 rw [List.drop_zero]
 cases fd d (k,i) <;> rfl
abbrev g8in (d e:List Rl) (q:Int) (acc:List Rl):outDen f23_l8_outs:=.inl ((q,()),(),((d,()),(e,()),(),(),acc,()))
abbrev g8no:outDen f23_l8_outs:=.inr (((160:Int),()),(),((),()))
theorem f40_ab (x y:Rl) (h:smRl x):f40 x.2.2.2.2.1 x.2.2.2.2.2.1 y.2.2.1 y.2.2.2.1 = some (decide (af x = bf y),()):=f40_eq _ _ _ _ h.2
theorem f40_ba (x y:Rl) (h:smRl x):f40 x.2.2.1 x.2.2.2.1 y.2.2.2.2.1 y.2.2.2.2.2.1 = some (decide (bf x = af y),()):=f40_eq _ _ _ _ h.1
set_option maxHeartbeats 4000000 in
theorem grow (d e:List Rl) (sd:smD d) (se:smD e) (q:Int) (k:Nat) (hk:24 < k) (r:List Rl) (hr:r.length≤1000) :
  (cmpOk d e q = true∧f23_l8 q d e k 0 r = some (g8in d e q (r++cmpRow d e q))) ∨
  (cmpOk d e q = false∧f23_l8 q d e k 0 r = some g8no):=by
 have h:=loop_rounds 24 (fun j (acc:List Rl)=>acc.length≤1000 + j) (optStep (cmpP d e q) (fun _=>g8no)) (g8in d e q) (f23_l8 q d e) (by
  intro k j acc hj hacc
  conv=>lhs; unfold f23_l8
  by_cases e0:j < 24
  ·have e1:decide ((j:Int) < 24) = true:=by simp; omega
   refine Eq.trans ?_ (if_pos e0).symm
   have ea:decide (acc.length + 1≤appLim) = true:=sm_app (by omega)
   unfold optStep cmpP cmpG
   simp only [e1,cond_true,f62_eq d sd,f62_eq e se,Option.bind_some,List.length_singleton,ea,wS j (by omega)]
   cases hf:fd d (q,(j:Int)) with
   | none =>
    cases hg:fd e (q,(j:Int)) with
    | none=>simp [clash1,cmp1]
    | some y=>simp [clash1,cmp1]
   | some x =>
    have hx:=fd_sm sd hf
    cases hg:fd e (q,(j:Int)) with
    | none=>simp [clash1,cmp1]
    | some y =>
     simp only [Option.isSome_some,Option.getD_some,cond_true,f40_ab x y hx,f40_ba x y hx,Option.bind_some]
     by_cases c1:af x = bf y
     ·by_cases c2:bf x = af y
      ·simp [clash1,cmp1,c1,c2]
      ·simp only [c1,decide_true,Bool.not_true,cond_false,zF c2,Bool.not_false,cond_true]
       simp [clash1,cmp1,c1,c2]
       rfl
     ·simp [clash1,c1]
  ·have e1:decide ((j:Int) < 24) = false:=by simp; omega
   simp only [e1,cond_false]
   exact (if_neg e0).symm) (fun j acc acc' _ h1 h2=>by
    unfold optStep at h2
    cases hp:cmpP d e q j with
    | none=>simp [hp] at h2
    | some x =>
     simp only [hp,Sum.inl.injEq] at h2
     subst h2
     have:=cmpP_len hp
     rw [List.length_append]
     omega) 24 k 0 r (by omega) (by omega) hk (by omega)
 rcases rounds_opt (cmpP d e q) (g8in d e q) (fun _=>g8no) 24 0 r with ⟨h1,h2⟩ | ⟨h1,acc,h2⟩
 ·exact .inl ⟨h1,h.trans (congrArg some h2)⟩
 ·exact .inr ⟨h1,h.trans (congrArg some h2)⟩
abbrev g5in (acc:List Rl):outDen f23_l5_outs:=.inl ((),(),((),(),acc,()))
abbrev g5no:outDen f23_l5_outs:=.inr (((160:Int),()),(),((),()))
theorem gouter (d e:List Rl) (sd:smD d) (se:smD e):∀ (m j k:Nat) (r:List Rl),j + m = 8→m < k→r.length≤24 * j →
  ((List.range' j m).all (fun q:Nat=>cmpOk d e (q:Int)) = true∧f23_l5 k (j:Int) d e r = some (g5in (r++(List.range' j m).flatMap (fun q:Nat=>cmpRow d e (q:Int))))) ∨
  ((List.range' j m).all (fun q:Nat=>cmpOk d e (q:Int)) = false∧f23_l5 k (j:Int) d e r = some g5no)
 | _,_,0,_,_,h,_=>by omega
 | 0,j,k + 1,r,h,_,hr=>by
  refine .inl ⟨rfl,?_⟩
  have e1:decide ((j:Int)≤7) = false:=by simp; omega
  unfold f23_l5
  simp only [e1,cond_false]
  simp
 | m + 1,j,k + 1,r,h,hk,hr=>by
  have e1:decide ((j:Int)≤7) = true:=by simp; omega
  rw [List.range'_succ,List.all_cons,List.flatMap_cons]
  rcases grow d e sd se (j:Int) (((24:Int) - 0).toNat + 1) (by decide) r (by omega) with ⟨h1,h2⟩ | ⟨h1,h2⟩
  ·have step:f23_l5 (k + 1) (j:Int) d e r = f23_l5 k ((j + 1:Nat):Int) d e (r++cmpRow d e j):=by
    conv=>lhs; unfold f23_l5
    simp only [e1,cond_true]
    refine bind_step h2 ?_
    rw [← wS j (by omega)]
    rfl
   have hl:=cmpRow_len d e (j:Int)
   rw [step,h1,Bool.true_and]
   rcases gouter d e sd se m (j + 1) k (r++cmpRow d e j) (by omega) (by omega) (by rw [List.length_append]; omega) with ⟨g1,g2⟩ | ⟨g1,g2⟩
   ·exact .inl ⟨g1,by rw [g2,List.append_assoc]⟩
   ·exact .inr ⟨g1,g2⟩
  ·refine .inr ⟨by rw [h1]; rfl,?_⟩
   conv=>lhs; unfold f23_l5
   simp only [e1,cond_true]
   refine bind_step h2 ?_
   rfl
theorem f23_eq (d e:List Rl) (sd:smD d) (se:smD e):f23 (d,()) (e,()) = f22 (d,()) (e,()):=by
 rw [f22_eq d e sd se]
 unfold f23
 refine bind_step (f20_eq d sd) ?_
 cases h1:validD d with
 | false=>simp
 | true =>
  simp only [Bool.not_true,cond_false,Bool.true_and]
  refine bind_step (f20_eq e se) ?_
  cases h2:validD e with
  | false=>simp
  | true =>
   simp only [Bool.not_true,cond_false,Bool.true_and]
   rw [← cmpOk_all]
   rcases gouter d e sd se 7 1 (((8:Int) - 1).toNat + 1) [] rfl (by decide) (by simp) with ⟨g1,g2⟩ | ⟨g1,g2⟩
   ·rw [g1,if_pos rfl]
    rw [cmp_comp g1] at g2
    exact bind_step g2 rfl
   ·rw [g1]
    exact bind_step g2 rfl
end Go.V.G
namespace Go.V.G
open Go.Proofs
open Go.V.K
theorem put_none {l:List Nm} (h:∀ n∈l,0≤n.1):putS (-1) [] l true = l:=putS_hi fun n hn=>by have:=h n hn; omega
theorem row_nn {l:List Nm} (h:okRow l):∀ n∈l,0≤n.1:=fun n hn=>(mem_ids.1 (h.1 n hn).1).1
theorem row_ok {a:Ct} (ha:okC a) (j:Nat) (hj:j < 8):okRow (a.1.getD j []):=by
 by_cases e:j = 0
 ·subst e
  rw [ha.2.1]
  exact ⟨by simp,by simp⟩
 ·have:=ha.2.2 (j:Int) (mem_kinds.2 (by omega))
  rw [Int.toNat_natCast] at this
  exact this
theorem f15_copy (a:Ct) (ha:okC a) (d:List Rl) (z:List (List Nm)) (k j:Nat) (hj:j≤7) (b:List (List Nm)) :
  f15_l5 a.1 d z (k + 1) (j:Int) b = f15_l5 a.1 d z k ((j + 1:Nat):Int) (b.set j (a.1.getD j [])):=by
 have hr:=row_ok ha j (by omega)
 have e38:=f38_eq _ (okRow_sm hr) (-1) false [] (by simp)
 rw [show (!false) = true from rfl,put_none (row_nn hr)] at e38
 have e1:decide ((j:Int)≤7) = true:=by simp; omega
 have e2:inR (j:Int) 8 = true:=by rw [inRN]; simp; omega
 have er:at_ (.sl tN) a.1 (j:Int) = a.1.getD j []:=row_at ha.1 j (by omega)
 conv=>lhs; unfold f15_l5
 simp only [e1,e2,cond_true,er]
 refine bind_step e38 ?_
 rw [wS j (by omega)]
 rfl
theorem f15_copies (a:Ct) (ha:okC a) (d:List Rl) (z:List (List Nm)):f15_l5 a.1 d z (((8:Int) - (1:Int)).toNat + 1) (1:Int) (List.replicate 8 []) = some ((),(),((a.1,()),(d,()),(z,()),(a.1,()),())):=by
 have h1:=ha.1
 have h2:=ha.2.1
 refine (f15_copy a ha d z 7 1 (by omega) _).trans ?_
 refine (f15_copy a ha d z 6 2 (by omega) _).trans ?_
 refine (f15_copy a ha d z 5 3 (by omega) _).trans ?_
 refine (f15_copy a ha d z 4 4 (by omega) _).trans ?_
 refine (f15_copy a ha d z 3 5 (by omega) _).trans ?_
 refine (f15_copy a ha d z 2 6 (by omega) _).trans ?_
 refine (f15_copy a ha d z 1 7 (by omega) _).trans ?_
 obtain ⟨l,u⟩:=a
 simp only at h1 h2 ⊢
 match l,h1,h2 with
 | [l0,l1,l2,l3,l4,l5,l6,l7],_,h2 =>
  have e0:l0 = []:=h2
  subst e0
  rfl
abbrev p9in (z b:List (List Nm)):outDen f15_l9_outs:=.inl ((),(),((z,()),(b,()),()))
abbrev p9no:outDen f15_l9_outs:=.inr (((160:Int),()),(),((List.replicate 8 [],()),()))
theorem la_set {b:List (List Nm)} (h:b.length = 8) {q:Nat} (hq:q < 8) (l:List Nm) (k i:Int) (hk:0≤k):la (b.set q l,()) k i = if k = (q:Int) then lkp l i else la (b,()) k i:=by
 unfold la
 simp only [List.getD_eq_getElem?_getD]
 by_cases e:k = (q:Int)
 ·subst e
  rw [if_pos rfl,Int.toNat_natCast,List.getElem?_set_self (by omega)]
  rfl
 ·rw [if_neg e,List.getElem?_set_ne (by omega)]
theorem f15_loop (a:Ct) (ha:okC a) (d:List Rl) (hd:okD d) (z:List (List Nm)):∀ (m j k:Nat) (b:List (List Nm)),j + m = d.length→m < k→okC (b,()) →
  (∀ k i,(k,i)∈keys→la (b,()) k i = aft (la a) (d.take j) k i) →
  ((d.drop j).all (fun r=>decide (la a r.1 r.2.1 = bf r)) = true∧∃ b',f15_l9 a.1 d z k (j:Int) b = some (p9in z b')∧okC (b',())∧∀ k i,(k,i)∈keys→la (b',()) k i = aft (la a) d k i) ∨
  ((d.drop j).all (fun r=>decide (la a r.1 r.2.1 = bf r)) = false∧f15_l9 a.1 d z k (j:Int) b = some p9no):=by
 intro m
 have hl:=okD_len hd
 induction m with
 | zero =>
  intro j k b h1 h2 h3 h4
  obtain ⟨k,rfl⟩:∃ q,k = q + 1:=⟨k - 1,by omega⟩
  have e:¬ j < d.length:=by omega
  refine .inl ⟨by rw [List.drop_of_length_le (by omega)]; rfl,b,?_,h3,?_⟩
  ·conv=>lhs; unfold f15_l9
   simp only [Int.ofNat_lt,e,decide_false,cond_false]
  ·rw [List.take_of_length_le (by omega)] at h4
   exact h4
 | succ m ih =>
  intro j k b h1 h2 h3 h4
  obtain ⟨k,rfl⟩:∃ q,k = q + 1:=⟨k - 1,by omega⟩
  have hj:j < d.length:=by omega
  have ht:=fun k i=>aft_take (A:=la a) hd.2 j hj k i
  have hok:=hd.1 _ (List.getElem_mem hj)
  rw [List.drop_eq_getElem_cons hj,List.all_cons]
  have hgen:(at_ tR d (j:Int):Rl) = d[j]:=atN tR d j hj
  have hstep:f15_l9 a.1 d z (k + 1) (j:Int) b =
    (f25 (a.1,()) d[j].1 d[j].2.1).bind fun y12=>(f40 y12.2.1 y12.1 d[j].2.2.1 d[j].2.2.2.1).bind fun y15 =>
     bif (!y15.1) then some p9no else
     bif inR d[j].1 8 then (f38 (at_ (.sl tN) b d[j].1) d[j].2.1 d[j].2.2.2.2.1 d[j].2.2.2.2.2.1).bind fun y22 =>
      bif inR d[j].1 8 then f15_l9 a.1 d z k ((j + 1:Nat):Int) (b.set (Int.toNat d[j].1) y22.1) else none else none:=by
   conv=>lhs; unfold f15_l9
   simp only [Int.ofNat_lt,inRN,hj,decide_true,cond_true,wS j (by omega),hgen]
  rw [hstep]
  generalize d[j] = x at ht hok
  obtain ⟨q,i,h,o,h',n,u⟩:=x
  have hkey:((q,i):Int × Int)∈keys:=hok.1
  have hm:=mem_keys.1 hkey
  simp only at hm
  obtain ⟨Q,rfl⟩:∃ Q:Nat,q = (Q:Int):=⟨q.toNat,by omega⟩
  have hQ:Q < 8:=by omega
  have hn:okM (h',n):=hok.2.2.1
  have ho:okM (h,o):=hok.2.1
  have hsa:=la_ok ha hkey
  have e25:f25 (a.1,()) (Q:Int) i = some ((la a Q i).2,(la a Q i).1,()):=f25_eq a (okC_sm ha) Q hQ i
  have e40:=f40_eq (la a Q i).1 (la a Q i).2 h o (by have:=hsa.1.1; omega)
  have e8:inR (Q:Int) 8 = true:=by rw [inRN]; simp; omega
  have hrow:=row_ok h3 Q hQ
  have er:at_ (.sl tN) b (Q:Int) = b.getD Q []:=row_at (c:=(b,())) h3.1 Q hQ
  have e38:=f38_eq _ (okRow_sm hrow) i h' n (Nat.le_trans hn.1.1 (by decide))
  simp only [e25,Option.bind_some,e40,e8,cond_true,er,e38,Int.toNat_natCast,bf]
  by_cases c:((la a Q i).1,(la a Q i).2) = (h,o)
  ·have c':la a Q i = (h,o):=c
   simp only [c,decide_true,Bool.not_true,cond_false,c',Bool.true_and]
   have hmem:i∈ids:=mem_ids.2 hm.2
   have hk1:1≤Q:=by omega
   have hnew:=okC_set h3 (q:=Q) hk1 (by omega) (okRow_put hrow hmem hn.1 (!h'))
   refine ih (j + 1) k _ (by omega) (by omega) hnew fun k' i' hk'=>?_
   rw [ht k' i',la_set h3.1 hQ _ k' i' (by have:=(mem_keys.1 hk').1; simp only at this; omega),lkp_put hrow]
   by_cases ek:k' = (Q:Int)
   ·by_cases ei:i' = i
    ·subst ek; subst ei
     simp only [kOf,if_true,af]
     cases h' with
     | true=>rfl
     | false=>exact Prod.ext rfl (hn.2 rfl).symm
    ·have:¬ ((k',i'):Int × Int) = kOf ((Q:Int),i,h,o,h',n,u):=fun e=>ei (congrArg Prod.snd e)
     rw [if_pos ek,if_neg ei,if_neg this,← h4 k' i' hk']
     subst ek
     unfold la
     rw [Int.toNat_natCast]
   ·have:¬ ((k',i'):Int × Int) = kOf ((Q:Int),i,h,o,h',n,u):=fun e=>ek (congrArg Prod.fst e)
    rw [if_neg ek,if_neg this,h4 k' i' hk']
  ·have c':¬ la a Q i = (h,o):=c
   simp only [c,decide_false,Bool.not_false,cond_true,c',Bool.false_and]
   exact .inr ⟨trivial,trivial⟩
theorem f15_eq (a:Ct) (ha:smC a) (d:List Rl) (hs:smD d):f15 a (d,()) = f14 a (d,()):=by
 have h14:=f14_eq a ha d hs (f19_eq d hs) validD_iff.1
 unfold f15
 cases h1:validC a with
 | false =>
  rw [h14,h1]
  refine bind_step (f39_eq a ha) ?_
  rw [h1]
  rfl
 | true =>
  have hc:=(validC_iff ha.1).1 h1
  cases h2:validD d with
  | false =>
   rw [h14,h1,h2]
   refine bind_step (f39_eq a ha) ?_
   rw [h1]
   simp only [Bool.not_true,cond_false]
   refine bind_step (f20_eq d hs) ?_
   rw [h2]
   rfl
  | true =>
   have hd:=validD_iff.1 h2
   refine bind_step (f39_eq a ha) ?_
   rw [h1]
   simp only [Bool.not_true,cond_false]
   refine bind_step (f20_eq d hs) ?_
   rw [h2]
   simp only [Bool.not_true,cond_false]
   refine bind_step (f15_copies a hc d (List.replicate 8 [])) ?_
   rcases f15_loop a hc d hd (List.replicate 8 []) d.length 0 (((d.length:Int) - (0:Int)).toNat + 1) a.1 (by omega) (by omega) hc (fun k i _=>rfl) with ⟨g1,b',g2,g3,g4⟩ | ⟨g1,g2⟩
   ·refine bind_step g2 ?_
    rw [List.drop_zero] at g1
    have hf:fits (la a) d:=fun r hr=>of_decide_eq_true (List.all_eq_true.1 g1 r hr)
    rcases patch_eq hc hs with ⟨_,_,p⟩ | ⟨p,_⟩
    ·rw [p]
     have:mkC (aft (la a) d) = (b',()):=by
      rw [← mkC_la g3]
      exact mkC_congr fun k i hk=>(g4 k i hk).symm
     rw [this]
     rfl
    ·exact absurd ⟨hd,hf⟩ p
   ·refine bind_step g2 ?_
    rw [List.drop_zero] at g1
    rcases patch_eq hc hs with ⟨_,p2,p⟩ | ⟨_,p⟩
    ·have:d.all (fun r=>decide (la a r.1 r.2.1 = bf r)) = true:=List.all_eq_true.2 fun r hr=>zT (p2 r hr)
     rw [this] at g1
     cases g1
    ·rw [p]
     rfl
end Go.V.G
namespace Go.V.G
open Go.Proofs
theorem i64_of {x:Int} (h:(Ty.int .i64).ok x):i64 x:=h
theorem iRows_of {l:List (List Int)} (h:(Ty.sl (.arr 4 yI)).ok l):iRows l:=fun r hr v hv=>i64_of ((h.2 r hr).2 v hv)
end Go.V.G
namespace Go.V.G
open Go.Proofs
def f90_l5_head:Ann:={ env:=[(0,.ty .str),(1,YI),(7,.ty (.int .u64)),(19,YI)] }
def f90_l5_outs:List (Ex × Ann):=[((.exit 0),{ env:=[] }),(.ret,{ env:=[(4,YI),(5,YI),(6,YI)] })]
def f90_l5 (t0:ByteArray) (t1:Int):Nat→Int→Int→Option (outDen f90_l5_outs)
 | 0,_,_=>none
 | k + 1,t7,t19 =>
 bif (decide (t19 < (9:Int))) then
 let v1:Bool:=(decide ((IntKind.wrap .i64 (t1 + t19)) ≥ (t0.size:Int)))
 bif v1 then
 some (.inl ((),(),()))
 else
 bif (inR (IntKind.wrap .i64 (t1 + t19)) t0.size) then
 let v2:Int:=(byteAt t0 (IntKind.wrap .i64 (t1 + t19)))
 let v3:Int:=(IntKind.wrap .u64 (andV .u8 v2 (127:Int)))
 bif (decide (0≤(IntKind.wrap .i64 ((7:Int) * t19)))) then
 let v4:Int:=(shlV .u64 v3 (IntKind.wrap .i64 ((7:Int) * t19)))
 bif (decide (v2 ≥ (128:Int))) then
 f90_l5 t0 t1 k (orV .u64 t7 v4) (IntKind.wrap .i64 (t19 + 1))
 else
 let v5:Int:=(IntKind.wrap .i64 (shrV .u64 (orV .u64 t7 v4) (1:Int)))
 let v6:Int:=(IntKind.wrap .i64 (andV .u64 (orV .u64 t7 v4) (1:Int)))
 let v7:Int:=(xorV .i64 v5 (IntKind.wrap .i64 (0 - v6)))
 bif (decide (v2 = (0:Int))) then
 bif (decide (t19 > (0:Int))) then
 some (.inl ((),(),()))
 else
 let v8:Bool:=(decide (v7 < (-4611686018427387903:Int)))
 bif v8 then
 some (.inl ((),(),()))
 else
 let v9:Int:=(IntKind.wrap .i64 ((IntKind.wrap .i64 (t1 + t19)) + 1))
 some (.inr ((v7,v9,(0:Int),()),(),()))
 else
 let v10:Bool:=(decide (v7 < (-4611686018427387903:Int)))
 bif v10 then
 some (.inl ((),(),()))
 else
 let v11:Int:=(IntKind.wrap .i64 ((IntKind.wrap .i64 (t1 + t19)) + 1))
 some (.inr ((v7,v11,(0:Int),()),(),()))
 else none
 else none
 else
 some (.inl ((),(),()))
def f90_l5_n (n:Nat) (x:f90_l5_head.den):=f90_l5 x.1.1 x.1.2.1 n x.1.2.2.1 x.1.2.2.2.1
def f90_l5_spec:LSpec:={ head:=f90_l5_head,outs:=f90_l5_outs,fn:=fun x=>f90_l5_n (((9:Int) - x.1.2.2.2.1).toNat + 1) x }
def f90 (a0:ByteArray) (a1:Int):Option (Int × Int × Int × Unit) :=
 bif (decide (a1 < (0:Int))) then
 some ((0:Int),(0:Int),(2:Int),())
 else
 bif (decide (a1 > (a0.size:Int))) then
 some ((0:Int),(0:Int),(2:Int),())
 else
 (f90_l5 a0 a1 (((9:Int) - (0:Int)).toNat + 1) (0:Int) (0:Int)).bind fun o12 =>
 Sum.elim (fun o13 =>
 some ((0:Int),(0:Int),(10:Int),())) (fun o14 =>
 let u15:Int:=o14.1.1
 let u16:Int:=o14.1.2.1
 let u17:Int:=o14.1.2.2.1
 some (u15,u16,u17,())) o12
def f90_spec:PSpec:={ args:=[.str,yI],res:=[yI,yI,yI],fn:=fun x=>f90 x.1 x.2.1 }
noncomputable def f90_code:Code:=Tryz.f90.body.getD .skip
noncomputable def f90_env:Env0:={ C:=cfgF,P:=[],L:=[(⟨12,0,90,5⟩,f90_l5_spec)],F:=[(90,Tryz.f90)] }
theorem f90_l5_ok:LoopOK f90_env 12 90 0 (loopAt f90_code 5) f90_l5_spec :=
 loopOK_of (by kernel_rfl) f90_l5_n (fun x o h=>⟨_,h⟩) (fun x=>by kernel_rfl) (fun n x=>by kernel_rfl)
theorem f90_run:zR f90_env 90 Tryz.f90 f90_code f90_spec:=by intro x; kernel_rfl
theorem f90_enter:zQ 90:=zN Tryz.func90
theorem f90_envOK:zE f90_env:=zO cfgF_ok trivial trivial ⟨zK Tryz.func90,trivial⟩ ⟨⟨Tryz.f90,f90_code,rfl,rfl,f90_l5_ok⟩,trivial⟩
theorem f90_pure:zU 90 f90_spec:=zP f90_envOK Tryz.f90 f90_code f90_run
def f103 (a0:Ye):Option (Bool × Unit) :=
 let v1:Bool:=(decide ((a0.2.1.size:Int) = (0:Int)))
 bif v1 then
 some (true,())
 else
 let v2:Bool:=(decide ((a0.2.1.size:Int) > (65536:Int)))
 some (v2,())
def f103_spec:PSpec:={ args:=[yE],res:=[.bool],fn:=fun x=>f103 x.1 }
noncomputable def f103_code:Code:=Tryz.f103.body.getD .skip
noncomputable def f103_env:Env0:={ C:=cfgF,P:=[],L:=[],F:=[(103,Tryz.f103)] }
theorem f103_run:zR f103_env 103 Tryz.f103 f103_code f103_spec:=by intro x; kernel_rfl
theorem f103_enter:zQ 103:=zN Tryz.func103
theorem f103_envOK:zE f103_env:=zO cfgF_ok trivial trivial ⟨zK Tryz.func103,trivial⟩ trivial
theorem f103_pure:zU 103 f103_spec:=zP f103_envOK Tryz.f103 f103_code f103_run
def f104_l2_head:Ann:={ env:=[(0,.ty (.sl yI)),(5,.ty (.sl yI)),(6,YI),(7,YI)] }
def f104_l2_outs:List (Ex × Ann):=[((.exit 0),{ env:=[] }),(.ret,{ env:=[(2,.ty .bool)] })]
def f104_l2 (t0:(List Int)) (t5:(List Int)) (t6:Int):Nat→Int→Option (outDen f104_l2_outs)
 | 0,_=>none
 | k + 1,t7 =>
 bif (decide (t7 < t6)) then
 bif (inR t7 t5.length) then
 let v1:Bool:=(decide ((at_ yI t5 t7) < (0:Int)))
 bif v1 then
 some (.inr ((false,()),(),()))
 else
 let v2:Bool:=(decide ((at_ yI t5 t7) ≥ (64:Int)))
 bif v2 then
 some (.inr ((false,()),(),()))
 else
 bif (decide (t7 > (0:Int))) then
 bif (inR (IntKind.wrap .i64 (t7 - (1:Int))) t0.length) then
 let v3:Int:=(at_ yI t0 (IntKind.wrap .i64 (t7 - (1:Int))))
 bif (decide ((at_ yI t5 t7)≤v3)) then
 some (.inr ((false,()),(),()))
 else
 f104_l2 t0 t5 t6 k (IntKind.wrap .i64 (t7 + 1))
 else none
 else
 f104_l2 t0 t5 t6 k (IntKind.wrap .i64 (t7 + 1))
 else none
 else
 some (.inl ((),(),()))
def f104_l2_n (n:Nat) (x:f104_l2_head.den):=f104_l2 x.1.1 x.1.2.1 x.1.2.2.1 n x.1.2.2.2.1
def f104_l2_spec:LSpec:={ head:=f104_l2_head,outs:=f104_l2_outs,fn:=fun x=>f104_l2_n ((x.1.2.2.1 - x.1.2.2.2.1).toNat + 1) x }
def f104 (a0:(List Int)):Option (Bool × Unit) :=
 (f104_l2 a0 a0 (a0.length:Int) (((a0.length:Int) - (0:Int)).toNat + 1) (0:Int)).bind fun o4 =>
 Sum.elim (fun o5 =>
 some (true,())) (fun o6 =>
 let u7:Bool:=o6.1.1
 some (u7,())) o4
def f104_spec:PSpec:={ args:=[(.sl yI)],res:=[.bool],fn:=fun x=>f104 x.1 }
noncomputable def f104_code:Code:=Tryz.f104.body.getD .skip
noncomputable def f104_env:Env0:={ C:=cfgF,P:=[],L:=[(⟨12,0,104,2⟩,f104_l2_spec)],F:=[(104,Tryz.f104)] }
theorem f104_l2_ok:LoopOK f104_env 12 104 0 (loopAt f104_code 2) f104_l2_spec :=
 loopOK_of (by kernel_rfl) f104_l2_n (fun x o h=>⟨_,h⟩) (fun x=>by kernel_rfl) (fun n x=>by kernel_rfl)
theorem f104_run:zR f104_env 104 Tryz.f104 f104_code f104_spec:=by intro x; kernel_rfl
theorem f104_enter:zQ 104:=zN Tryz.func104
theorem f104_envOK:zE f104_env:=zO cfgF_ok trivial trivial ⟨zK Tryz.func104,trivial⟩ ⟨⟨Tryz.f104,f104_code,rfl,rfl,f104_l2_ok⟩,trivial⟩
theorem f104_pure:zU 104 f104_spec:=zP f104_envOK Tryz.f104 f104_code f104_run
def f106 (a0:Ye):Option (Int × Unit) :=
 some (a0.1,())
def f106_spec:PSpec:={ args:=[yE],res:=[yI],fn:=fun x=>f106 x.1 }
noncomputable def f106_code:Code:=Tryz.f106.body.getD .skip
noncomputable def f106_env:Env0:={ C:=cfgF,P:=[],L:=[],F:=[(106,Tryz.f106)] }
theorem f106_run:zR f106_env 106 Tryz.f106 f106_code f106_spec:=by intro x; kernel_rfl
theorem f106_enter:zQ 106:=zN Tryz.func106
theorem f106_envOK:zE f106_env:=zO cfgF_ok trivial trivial ⟨zK Tryz.func106,trivial⟩ trivial
theorem f106_pure:zU 106 f106_spec:=zP f106_envOK Tryz.f106 f106_code f106_run
def f105_l3_b5000_head:Ann:={ env:=[(1,.cst (.fn 106 [])),(5,.cst (.row 5019 .whole)),(8,.ty (.sl yE)),(9,YI),(10,YI)],stk:=[[(0,.ty (.sl yE)),(2,.ty .bool),(3,.cst (.fn 103 []))]],bxs:=[(5019,.row yI false)] }
def f105_l3_b5000_outs:List (Ex × Ann):=[((.exit 0),{ env:=[(5,.cst (.row 5019 .whole))],stk:=[[(0,.ty (.sl yE)),(2,.ty .bool),(3,.cst (.fn 103 []))]],bxs:=[(5019,.row yI false)] })]
def f105_l3_b5000 (t8:(List Ye)) (t9:Int) (k0t0:(List Ye)) (k0t2:Bool):Nat→Int→(List Int)→Option (outDen f105_l3_b5000_outs)
 | 0,_,_=>none
 | k + 1,t10,r5019 =>
 bif (decide (t10 < t9)) then
 bif (inR t10 t8.length) then
 (f106 (at_ yE t8 t10)).bind fun y1 =>
 bif (decide (r5019.length + ([y1.1]:List Int).length≤appLim)) then f105_l3_b5000 t8 t9 k0t0 k0t2 k (IntKind.wrap .i64 (t10 + 1)) (r5019++([y1.1]:List Int)) else none
 else none
 else
 some ((),((k0t0,k0t2,()),()),(r5019,()))
def f105_l3_b5000_n (n:Nat) (x:f105_l3_b5000_head.den):=f105_l3_b5000 x.1.1 x.1.2.1 x.2.1.1.1 x.2.1.1.2.1 n x.1.2.2.1 x.2.2.1
def f105_l3_b5000_spec:LSpec:={ thaws:=[.slot 5 5019 yI],head:=f105_l3_b5000_head,outs:=f105_l3_b5000_outs,fn:=fun x=>f105_l3_b5000_n ((x.1.2.1 - x.1.2.2.1).toNat + 1) x }
def f121_l2x_head:Ann:={ env:=[(0,.ty (.sl yE)),(1,.cst (.fn 103 [])),(7,YI),(8,YI)],stk:=[[(4,.ty .bool)],[(2,.ty .bool),(7,.ty .bool)]] }
def f121_l2x_outs:List (Ex × Ann):=[((.exit 0),{ env:=[],stk:=[[(4,.ty .bool)],[(2,.ty .bool),(7,.ty .bool)]] }),(.ret,{ env:=[(4,YI)],stk:=[[(4,.ty .bool)],[(2,.ty .bool),(7,.ty .bool)]] })]
def f121_l2x (t0:(List Ye)) (t7:Int) (k0t4:Bool) (k1t2:Bool) (k1t7:Bool):Nat→Int→Option (outDen f121_l2x_outs)
 | 0,_=>none
 | k + 1,t8 =>
 bif (decide (t8 < t7)) then
 bif (inR t8 t0.length) then
 (f103 (at_ yE t0 t8)).bind fun y7 =>
 bif y7.1 then
 some (.inr ((t8,()),((k0t4,()),(k1t2,k1t7,()),()),()))
 else
 f121_l2x t0 t7 k0t4 k1t2 k1t7 k (IntKind.wrap .i64 (t8 + 1))
 else none
 else
 some (.inl ((),((k0t4,()),(k1t2,k1t7,()),()),()))
def f121_l2x_n (n:Nat) (x:f121_l2x_head.den):=f121_l2x x.1.1 x.1.2.1 x.2.1.1.1 x.2.1.2.1.1 x.2.1.2.1.2.1 n x.1.2.2.1
def f121_l2x_spec:LSpec:={ head:=f121_l2x_head,outs:=f121_l2x_outs,fn:=fun x=>f121_l2x_n ((x.1.2.1 - x.1.2.2.1).toNat + 1) x }
def f91 (a0:(List Ye)):Option (Bool × Unit) :=
 (f105_l3_b5000 a0 (a0.length:Int) a0 false (((a0.length:Int) - (0:Int)).toNat + 1) (0:Int) []).bind fun o2 =>
 let u3:(List Ye):=o2.2.1.1.1
 let u4:Bool:=o2.2.1.1.2.1
 let u5:(List Int):=o2.2.2.1
 (f104 u5).bind fun y6 =>
 bif y6.1 then
 (f121_l2x u3 (u3.length:Int) false u4 true (((u3.length:Int) - (0:Int)).toNat + 1) (0:Int)).bind fun o8 =>
 Sum.elim (fun o9 =>
 let u13:Bool:=o9.2.1.2.1.2.1
 bif u13 then
 some (true,())
 else
 some (false,())) (fun o10 =>
 let u14:Int:=o10.1.1
 let u17:Bool:=o10.2.1.2.1.2.1
 bif u17 then
 some ((!(decide (u14 ≥ (0:Int)))),())
 else
 some (false,())) o8
 else
 some (false,())
def f91_spec:PSpec:={ args:=[(.sl yE)],res:=[.bool],fn:=fun x=>f91 x.1 }
noncomputable def f91_code:Code:=Tryz.f91.body.getD .skip
noncomputable def f91_code_105:Code:=Tryz.f105.body.getD .skip
noncomputable def f91_code_121:Code:=Tryz.f121.body.getD .skip
noncomputable def f91_env:Env0:={ C:=cfgF,P:=[(103,f103_spec),(104,f104_spec),(106,f106_spec)],L:=[(⟨11,5000,105,3⟩,f105_l3_b5000_spec),(⟨10,10007000,121,2⟩,f121_l2x_spec)],F:=[(91,Tryz.f91),(105,Tryz.f105),(107,Tryz.f107),(121,Tryz.f121)] }
theorem f105_l3_b5000_ok:LoopOK f91_env 11 105 5000 (loopAt f91_code_105 3) f105_l3_b5000_spec :=
 loopOK_of (by kernel_rfl) f105_l3_b5000_n (fun x o h=>⟨_,h⟩) (fun x=>by kernel_rfl) (fun n x=>by kernel_rfl)
theorem f121_l2x_ok:LoopOK f91_env 10 121 10007000 (loopAt f91_code_121 2) f121_l2x_spec :=
 loopOK_of (by kernel_rfl) f121_l2x_n (fun x o h=>⟨_,h⟩) (fun x=>by kernel_rfl) (fun n x=>by kernel_rfl)
theorem f91_run:zR f91_env 91 Tryz.f91 f91_code f91_spec:=by intro x; kernel_rfl
theorem f91_enter:zQ 91:=zN Tryz.func91
theorem f91_envOK:zE f91_env:=zO cfgF_ok ⟨⟨f103_pure,f103_enter⟩,⟨f104_pure,f104_enter⟩,⟨f106_pure,f106_enter⟩,trivial⟩ trivial ⟨zK Tryz.func91,zK Tryz.func105,zK Tryz.func107,zK Tryz.func121,trivial⟩ ⟨⟨Tryz.f105,f91_code_105,rfl,rfl,f105_l3_b5000_ok⟩,⟨Tryz.f121,f91_code_121,rfl,rfl,f121_l2x_ok⟩,trivial⟩
theorem f91_pure:zU 91 f91_spec:=zP f91_envOK Tryz.f91 f91_code f91_run
def f108 :Option (ByteArray × Unit) :=
 bif (decide (0≤(32:Int)) && decide ((32:Int)≤(32:Int)) && decide ((32:Int)≤(appLim:Int))) then
 let v1:ByteArray:=(ofBytes (List.replicate (Int.toNat (32:Int)) (0:Int)))
 some (v1,())
 else none
def f108_spec:PSpec:={ args:=[],res:=[.str],fn:=fun x=>f108  }
noncomputable def f108_code:Code:=Tryz.f108.body.getD .skip
noncomputable def f108_env:Env0:={ C:=cfgF,P:=[],L:=[],F:=[(108,Tryz.f108)] }
theorem f108_run:zR f108_env 108 Tryz.f108 f108_code f108_spec:=by intro x; kernel_rfl
theorem f108_enter:zQ 108:=zN Tryz.func108
theorem f108_envOK:zE f108_env:=zO cfgF_ok trivial trivial ⟨zK Tryz.func108,trivial⟩ trivial
theorem f108_pure:zU 108 f108_spec:=zP f108_envOK Tryz.f108 f108_code f108_run
def f119_l0x_head:Ann:={ env:=[(0,.cst (.yld 905)),(1,cP 20001)],stk:=[[(0,.cst (.yld 905))],[(2,.ty .str),(3,YI),(4,cP 4)]],bxs:=[(905,.loop false 87 5 [(4,cP 4)]),(20001,.var [.ty (.int .u64)]),(4,.var [.cst (.row 905011030 .whole)]),(905011030,.row (.int .u8) false)] }
def f119_l0x_outs:List (Ex × Ann):=[(.ret,{ env:=[],stk:=[[(0,.cst (.yld 905))],[(2,.ty .str),(3,YI),(4,cP 4)]],bxs:=[(905,.loop false 87 5 [(4,cP 4)]),(4,.var [.cst (.row 905011030 .whole)]),(905011030,.row (.int .u8) false)] })]
def f119_l0x (k1t2:ByteArray) (k1t3:Int):Nat→Int→(List Int)→Option (outDen f119_l0x_outs)
 | 0,_,_=>none
 | k + 1,b20001g0,r905011030 =>
 let v5:Int:=(IntKind.wrap .u8 (andV .u64 b20001g0 (127:Int)))
 bif (!(decide (b20001g0 < (128:Int)))) then
 bif (decide (r905011030.length + ([(orV .u8 v5 (128:Int))]:List Int).length≤appLim)) then
 bif (decide (b20001g0 < (128:Int))) then
 some ((),((),(k1t2,k1t3,()),()),((),(),(r905011030++([(orV .u8 v5 (128:Int))]:List Int)),()))
 else
 f119_l0x k1t2 k1t3 k (shrV .u64 b20001g0 (7:Int)) (r905011030++([(orV .u8 v5 (128:Int))]:List Int))
 else none
 else
 bif (decide (r905011030.length + ([v5]:List Int).length≤appLim)) then
 bif (decide (b20001g0 < (128:Int))) then
 some ((),((),(k1t2,k1t3,()),()),((),(),(r905011030++([v5]:List Int)),()))
 else
 f119_l0x k1t2 k1t3 k (shrV .u64 b20001g0 (7:Int)) (r905011030++([v5]:List Int))
 else none
def f119_l0x_n (n:Nat) (x:f119_l0x_head.den):=f119_l0x x.2.1.2.1.1 x.2.1.2.1.2.1 n x.2.2.2.1.1 x.2.2.2.2.2.1
def f119_l0x_spec:LSpec:={ thaws:=[.cell 4 0 905011030 (.int .u8)],head:=f119_l0x_head,outs:=f119_l0x_outs,fn:=fun x=>f119_l0x_n ((10:Nat)) x }
def f87 (a0:Int):Option (ByteArray × Int × Unit) :=
 let v1:Bool:=(decide (a0 < (-4611686018427387903:Int)))
 bif v1 then
 some ((⟨#[]⟩:ByteArray),(10:Int),())
 else
 let v2:Bool:=(decide (a0 > (4611686018427387903:Int)))
 bif v2 then
 some ((⟨#[]⟩:ByteArray),(10:Int),())
 else
 let v3:Int:=(shlV .u64 (IntKind.wrap .u64 a0) (1:Int))
 let v4:Int:=(IntKind.wrap .u64 (shrV .i64 a0 (63:Int)))
 (f119_l0x (⟨#[]⟩:ByteArray) (0:Int) ((10:Nat)) (xorV .u64 v3 v4) []).bind fun o6 =>
 let u9:(List Int):=o6.2.2.2.2.1
 some ((ofBytes u9),(0:Int),())
def f87_spec:PSpec:={ args:=[yI],res:=[.str,yI],fn:=fun x=>f87 x.1 }
noncomputable def f87_code:Code:=Tryz.f87.body.getD .skip
noncomputable def f87_code_119:Code:=Tryz.f119.body.getD .skip
noncomputable def f87_env:Env0:={ C:=cfgF,P:=[],L:=[(⟨11,905000,119,0⟩,f119_l0x_spec)],F:=[(87,Tryz.f87),(101,Tryz.f101),(119,Tryz.f119)] }
theorem f119_l0x_ok:LoopOK f87_env 11 119 905000 (loopAt f87_code_119 0) f119_l0x_spec :=
 loopOK_of (by kernel_rfl) f119_l0x_n (fun x o h=>⟨_,h⟩) (fun x=>by kernel_rfl) (fun n x=>by kernel_rfl)
theorem f87_run:zR f87_env 87 Tryz.f87 f87_code f87_spec:=by intro x; kernel_rfl
theorem f87_enter:zQ 87:=zN Tryz.func87
theorem f87_envOK:zE f87_env:=zO cfgF_ok trivial trivial ⟨zK Tryz.func87,zK Tryz.func101,zK Tryz.func119,trivial⟩ ⟨⟨Tryz.f119,f87_code_119,rfl,rfl,f119_l0x_ok⟩,trivial⟩
theorem f87_pure:zU 87 f87_spec:=zP f87_envOK Tryz.f87 f87_code f87_run
def f233 (a0:Int) (a1:Int):Option (Int × Unit) :=
 let v1:Int:=(andV .u64 (IntKind.wrap .u64 a1) (31:Int))
 bif (decide (0≤v1)) then
 bif (decide (0≤(IntKind.wrap .u64 ((32:Int) - v1)))) then
 let v2:Int:=(shrV .u32 a0 (IntKind.wrap .u64 ((32:Int) - v1)))
 some ((orV .u32 (shlV .u32 a0 v1) v2),())
 else none
 else none
def f233_spec:PSpec:={ args:=[(.int .u32),yI],res:=[(.int .u32)],fn:=fun x=>f233 x.1 x.2.1 }
noncomputable def f233_code:Code:=Tryz.f233.body.getD .skip
noncomputable def f233_env:Env0:={ C:=cfgF,P:=[],L:=[],F:=[(233,Tryz.f233)] }
theorem f233_run:zR f233_env 233 Tryz.f233 f233_code f233_spec:=by intro x; kernel_rfl
theorem f233_enter:zQ 233:=zN Tryz.func233
theorem f233_envOK:zE f233_env:=zO cfgF_ok trivial trivial ⟨zK Tryz.func233,trivial⟩ trivial
theorem f233_pure:zU 233 f233_spec:=zP f233_envOK Tryz.f233 f233_code f233_run
def f162_l3_head:Ann:={ env:=[(0,.ty (.int .u32)),(5,.ty (.int .u32)),(8,.ty (.sl yI)),(9,YI),(10,YI)] }
def f162_l3_outs:List (Ex × Ann):=[((.exit 0),{ env:=[(5,.ty (.int .u32))] })]
def f162_l3 (t0:Int) (t8:(List Int)) (t9:Int):Nat→Int→Int→Option (outDen f162_l3_outs)
 | 0,_,_=>none
 | k + 1,t5,t10 =>
 bif (decide (t10 < t9)) then
 bif (inR t10 t8.length) then
 let v1:Int:=(IntKind.wrap .i64 (0 - (at_ yI t8 t10)))
 (f233 t0 v1).bind fun y2 =>
 f162_l3 t0 t8 t9 k (xorV .u32 t5 y2.1) (IntKind.wrap .i64 (t10 + 1))
 else none
 else
 some ((t5,()),(),())
def f162_l3_n (n:Nat) (x:f162_l3_head.den):=f162_l3 x.1.1 x.1.2.2.1 x.1.2.2.2.1 n x.1.2.1 x.1.2.2.2.2.1
def f162_l3_spec:LSpec:={ head:=f162_l3_head,outs:=f162_l3_outs,fn:=fun x=>f162_l3_n ((x.1.2.2.2.1 - x.1.2.2.2.2.1).toNat + 1) x }
def f162 (a0:Int) (a1:(List Int)):Option (Int × Unit) :=
 (f162_l3 a0 a1 (a1.length:Int) (((a1.length:Int) - (0:Int)).toNat + 1) (0:Int) (0:Int)).bind fun o3 =>
 let u4:Int:=o3.1.1
 some (u4,())
def f162_spec:PSpec:={ args:=[(.int .u32),(.sl yI)],res:=[(.int .u32)],fn:=fun x=>f162 x.1 x.2.1 }
noncomputable def f162_code:Code:=Tryz.f162.body.getD .skip
noncomputable def f162_env:Env0:={ C:=cfgF,P:=[(233,f233_spec)],L:=[(⟨12,0,162,3⟩,f162_l3_spec)],F:=[(162,Tryz.f162)] }
theorem f162_l3_ok:LoopOK f162_env 12 162 0 (loopAt f162_code 3) f162_l3_spec :=
 loopOK_of (by kernel_rfl) f162_l3_n (fun x o h=>⟨_,h⟩) (fun x=>by kernel_rfl) (fun n x=>by kernel_rfl)
theorem f162_run:zR f162_env 162 Tryz.f162 f162_code f162_spec:=by intro x; kernel_rfl
theorem f162_enter:zQ 162:=zN Tryz.func162
theorem f162_envOK:zE f162_env:=zO cfgF_ok ⟨⟨f233_pure,f233_enter⟩,trivial⟩ trivial ⟨zK Tryz.func162,trivial⟩ ⟨⟨Tryz.f162,f162_code,rfl,rfl,f162_l3_ok⟩,trivial⟩
theorem f162_pure:zU 162 f162_spec:=zP f162_envOK Tryz.f162 f162_code f162_run
def f161_l2_head:Ann:={ env:=[(0,.ty (.sl (.int .u8))),(2,cP 2),(7,YI)],bxs:=[(2,.var [.ty (.arr 64 (.int .u32))])] }
def f161_l2_outs:List (Ex × Ann):=[((.exit 0),{ env:=[(2,cP 2)],bxs:=[(2,.var [.ty (.arr 64 (.int .u32))])] })]
def f161_l2 (t0:(List Int)):Nat→Int→(List Int)→Option (outDen f161_l2_outs)
 | 0,_,_=>none
 | k + 1,t7,b2g0 =>
 bif (decide (t7 < (16:Int))) then
 bif (inR (IntKind.wrap .i64 ((4:Int) * t7)) t0.length) then
 let v1:Int:=(at_ (.int .u8) t0 (IntKind.wrap .i64 ((4:Int) * t7)))
 let v2:Int:=(shlV .u32 (IntKind.wrap .u32 v1) (24:Int))
 let v3:Int:=(IntKind.wrap .i64 ((IntKind.wrap .i64 ((4:Int) * t7)) + 1))
 bif (inR v3 t0.length) then
 let v4:Int:=(IntKind.wrap .u32 (at_ (.int .u8) t0 v3))
 let v5:Int:=(IntKind.wrap .i64 ((IntKind.wrap .i64 ((4:Int) * t7)) + (2:Int)))
 bif (inR v5 t0.length) then
 let v6:Int:=(IntKind.wrap .u32 (at_ (.int .u8) t0 v5))
 let v7:Int:=(orV .u32 (orV .u32 v2 (shlV .u32 v4 (16:Int))) (shlV .u32 v6 (8:Int)))
 let v8:Int:=(IntKind.wrap .i64 ((IntKind.wrap .i64 ((4:Int) * t7)) + (3:Int)))
 bif (inR v8 t0.length) then
 let v9:Int:=(IntKind.wrap .u32 (at_ (.int .u8) t0 v8))
 bif (inR t7 64) then f161_l2 t0 k (IntKind.wrap .i64 (t7 + 1)) (b2g0.set (Int.toNat t7) (orV .u32 v7 v9)) else none
 else none
 else none
 else none
 else none
 else
 some ((),(),((b2g0,()),()))
def f161_l2_n (n:Nat) (x:f161_l2_head.den):=f161_l2 x.1.1 n x.1.2.1 x.2.2.1.1
def f161_l2_spec:LSpec:={ head:=f161_l2_head,outs:=f161_l2_outs,fn:=fun x=>f161_l2_n (((16:Int) - x.1.2.1).toNat + 1) x }
def f161_l7_head:Ann:={ env:=[(2,cP 2),(4,YI)],bxs:=[(2,.var [.ty (.arr 64 (.int .u32))])] }
def f161_l7_outs:List (Ex × Ann):=[((.exit 2),{ env:=[(2,cP 2)],bxs:=[(2,.var [.ty (.arr 64 (.int .u32))])] })]
def f161_l7:Nat→Int→(List Int)→Option (outDen f161_l7_outs)
 | 0,_,_=>none
 | k + 1,t4,b2g0 =>
 bif (decide (t4 < (64:Int))) then
 bif (inR (IntKind.wrap .i64 (t4 - (15:Int))) 64) then
 let v12:Int:=(at_ (.int .u32) b2g0 (IntKind.wrap .i64 (t4 - (15:Int))))
 bif (inR (IntKind.wrap .i64 (t4 - (2:Int))) 64) then
 let v13:Int:=(at_ (.int .u32) b2g0 (IntKind.wrap .i64 (t4 - (2:Int))))
 bif (inR (IntKind.wrap .i64 (t4 - (16:Int))) 64) then
 let v14:Int:=(at_ (.int .u32) b2g0 (IntKind.wrap .i64 (t4 - (16:Int))))
 (f162 v12 ([(7:Int),(18:Int)]:List Int)).bind fun y15 =>
 let v16:Int:=(xorV .u32 y15.1 (shrV .u32 v12 (3:Int)))
 bif (inR (IntKind.wrap .i64 (t4 - (7:Int))) 64) then
 let v17:Int:=(at_ (.int .u32) b2g0 (IntKind.wrap .i64 (t4 - (7:Int))))
 let v18:Int:=(IntKind.wrap .u32 ((IntKind.wrap .u32 (v14 + v16)) + v17))
 (f162 v13 ([(17:Int),(19:Int)]:List Int)).bind fun y19 =>
 let v20:Int:=(xorV .u32 y19.1 (shrV .u32 v13 (10:Int)))
 bif (inR t4 64) then f161_l7 k (IntKind.wrap .i64 (t4 + 1)) (b2g0.set (Int.toNat t4) (IntKind.wrap .u32 (v18 + v20))) else none
 else none
 else none
 else none
 else none
 else
 some ((),(),((b2g0,()),()))
def f161_l7_n (n:Nat) (x:f161_l7_head.den):=f161_l7 n x.1.1 x.2.2.1.1
def f161_l7_spec:LSpec:={ head:=f161_l7_head,outs:=f161_l7_outs,fn:=fun x=>f161_l7_n (((64:Int) - x.1.1).toNat + 1) x }
def f161 (a0:(List Int)):Option ((List Int) × Unit) :=
 (f161_l2 a0 (((16:Int) - (0:Int)).toNat + 1) (0:Int) (List.replicate 64 (0:Int))).bind fun o10 =>
 let u11:(List Int):=o10.2.2.1.1
 (f161_l7 (((64:Int) - (16:Int)).toNat + 1) (16:Int) u11).bind fun o21 =>
 let u22:(List Int):=o21.2.2.1.1
 some (u22,())
def f161_spec:PSpec:={ args:=[(.sl (.int .u8))],res:=[(.arr 64 (.int .u32))],fn:=fun x=>f161 x.1 }
noncomputable def f161_code:Code:=Tryz.f161.body.getD .skip
noncomputable def f161_env:Env0:={ C:=cfgF,P:=[(162,f162_spec)],L:=[(⟨12,0,161,2⟩,f161_l2_spec),(⟨12,0,161,7⟩,f161_l7_spec)],F:=[(161,Tryz.f161)] }
theorem f161_l2_ok:LoopOK f161_env 12 161 0 (loopAt f161_code 2) f161_l2_spec :=
 loopOK_of (by kernel_rfl) f161_l2_n (fun x o h=>⟨_,h⟩) (fun x=>by kernel_rfl) (fun n x=>by kernel_rfl)
theorem f161_l7_ok:LoopOK f161_env 12 161 0 (loopAt f161_code 7) f161_l7_spec :=
 loopOK_of (by kernel_rfl) f161_l7_n (fun x o h=>⟨_,h⟩) (fun x=>by kernel_rfl) (fun n x=>by kernel_rfl)
theorem f161_run:zR f161_env 161 Tryz.f161 f161_code f161_spec:=by intro x; kernel_rfl
theorem f161_enter:zQ 161:=zN Tryz.func161
theorem f161_envOK:zE f161_env:=zO cfgF_ok ⟨⟨f162_pure,f162_enter⟩,trivial⟩ trivial ⟨zK Tryz.func161,trivial⟩ ⟨⟨Tryz.f161,f161_code,rfl,rfl,f161_l2_ok⟩,⟨Tryz.f161,f161_code,rfl,rfl,f161_l7_ok⟩,trivial⟩
theorem f161_pure:zU 161 f161_spec:=zP f161_envOK Tryz.f161 f161_code f161_run
def f116_l3_head:Ann:={ env:=[(0,cP 3),(4,cP 4),(5,cP 5),(18,.ty (.arr 64 (.int .u32))),(19,YI)],stk:=[[(0,cP 3)]],bxs:=[(3,.var [.ty (.arr 8 (.int .u32))]),(4,.var [.ty (.arr 64 (.int .u32))]),(5,.var [.ty (.arr 8 (.int .u32))])] }
def f116_l3_outs:List (Ex × Ann):=[((.exit 0),{ env:=[(0,cP 3),(5,cP 5)],stk:=[[(0,cP 3)]],bxs:=[(3,.var [.ty (.arr 8 (.int .u32))]),(5,.var [.ty (.arr 8 (.int .u32))])] })]
def f116_l3 (t18:(List Int)) (b3g0:(List Int)) (b4g0:(List Int)):Nat→Int→(List Int)→Option (outDen f116_l3_outs)
 | 0,_,_=>none
 | k + 1,t19,b5g0 =>
 bif (decide (t19 < (64:Int))) then
 bif (inR t19 64) then
 bif (inR (0:Int) 8) then
 bif (inR (4:Int) 8) then
 bif (inR (7:Int) 8) then
 (f162 (at_ (.int .u32) b5g0 (4:Int)) ([(6:Int),(11:Int),(25:Int)]:List Int)).bind fun y2 =>
 let v3:Int:=(IntKind.wrap .u32 ((at_ (.int .u32) b5g0 (7:Int)) + y2.1))
 bif (inR (5:Int) 8) then
 let v4:Int:=(andV .u32 (at_ (.int .u32) b5g0 (4:Int)) (at_ (.int .u32) b5g0 (5:Int)))
 let v5:Int:=(xorV .u32 (if IntKind.signed .u32 then -1 else IntKind.max .u32) (at_ (.int .u32) b5g0 (4:Int)))
 bif (inR (6:Int) 8) then
 let v6:Int:=(andV .u32 v5 (at_ (.int .u32) b5g0 (6:Int)))
 let v7:Int:=(IntKind.wrap .u32 (v3 + (xorV .u32 v4 v6)))
 let v8:Int:=(IntKind.wrap .u32 (v7 + (at_ (.int .u32) t18 t19)))
 bif (inR t19 64) then
 let v9:Int:=(IntKind.wrap .u32 (v8 + (at_ (.int .u32) b4g0 t19)))
 (f162 (at_ (.int .u32) b5g0 (0:Int)) ([(2:Int),(13:Int),(22:Int)]:List Int)).bind fun y10 =>
 bif (inR (1:Int) 8) then
 let v11:Int:=(andV .u32 (at_ (.int .u32) b5g0 (0:Int)) (at_ (.int .u32) b5g0 (1:Int)))
 bif (inR (2:Int) 8) then
 let v12:Int:=(andV .u32 (at_ (.int .u32) b5g0 (0:Int)) (at_ (.int .u32) b5g0 (2:Int)))
 bif (inR (1:Int) 8) then
 bif (inR (2:Int) 8) then
 let v13:Int:=(andV .u32 (at_ (.int .u32) b5g0 (1:Int)) (at_ (.int .u32) b5g0 (2:Int)))
 let v14:Int:=(IntKind.wrap .u32 (y10.1 + (xorV .u32 (xorV .u32 v11 v12) v13)))
 bif (cutOk 8 (some (1:Int)) none) then
 bif (cutOk 8 none (some (7:Int))) then
 let v15:Int:=(((((b5g0.drop 0).take (cutLen 8 none (some (7:Int)))).take (cutLen 8 (some (1:Int)) none)).length:Nat):Int)
 bif (inR (4:Int) 8) then
 let v16:Int:=(at_ (.int .u32) (setRange b5g0 (Int.toNat (1:Int)) (((b5g0.drop 0).take (cutLen 8 none (some (7:Int)))).take (cutLen 8 (some (1:Int)) none))) (4:Int))
 bif (inR (0:Int) 8) then bif (inR (4:Int) 8) then f116_l3 t18 b3g0 b4g0 k (IntKind.wrap .i64 (t19 + 1)) (((setRange b5g0 (Int.toNat (1:Int)) (((b5g0.drop 0).take (cutLen 8 none (some (7:Int)))).take (cutLen 8 (some (1:Int)) none))).set (Int.toNat (0:Int)) (IntKind.wrap .u32 (v9 + v14))).set (Int.toNat (4:Int)) (IntKind.wrap .u32 (v16 + v9))) else none else none
 else none
 else none
 else none
 else none
 else none
 else none
 else none
 else none
 else none
 else none
 else none
 else none
 else none
 else none
 else
 some ((),((),()),((b3g0,()),(b5g0,()),()))
def f116_l3_n (n:Nat) (x:f116_l3_head.den):=f116_l3 x.1.1 x.2.2.1.1 x.2.2.2.1.1 n x.1.2.1 x.2.2.2.2.1.1
def f116_l3_spec:LSpec:={ head:=f116_l3_head,outs:=f116_l3_outs,fn:=fun x=>f116_l3_n (((64:Int) - x.1.2.1).toNat + 1) x }
def f116_l12_head:Ann:={ env:=[(0,cP 3),(5,cP 5),(82,YI)],stk:=[[(0,cP 3)]],bxs:=[(3,.var [.ty (.arr 8 (.int .u32))]),(5,.var [.ty (.arr 8 (.int .u32))])] }
def f116_l12_outs:List (Ex × Ann):=[((.exit 2),{ env:=[],stk:=[[(0,cP 3)]],bxs:=[(3,.var [.ty (.arr 8 (.int .u32))])] })]
def f116_l12 (b5g0:(List Int)):Nat→Int→(List Int)→Option (outDen f116_l12_outs)
 | 0,_,_=>none
 | k + 1,t82,b3g0 =>
 bif (decide (t82 < (8:Int))) then
 bif (inR t82 8) then
 bif (inR t82 8) then
 let v20:Int:=(IntKind.wrap .u32 ((at_ (.int .u32) b3g0 t82) + (at_ (.int .u32) b5g0 t82)))
 bif (inR t82 8) then f116_l12 b5g0 k (IntKind.wrap .i64 (t82 + 1)) (b3g0.set (Int.toNat t82) v20) else none
 else none
 else none
 else
 some ((),((),()),((b3g0,()),()))
def f116_l12_n (n:Nat) (x:f116_l12_head.den):=f116_l12 x.2.2.2.1.1 n x.1.1 x.2.2.1.1
def f116_l12_spec:LSpec:={ head:=f116_l12_head,outs:=f116_l12_outs,fn:=fun x=>f116_l12_n (((8:Int) - x.1.1).toNat + 1) x }
abbrev f116_res:List Sh:=[]
abbrev f116_outs:List (Nat × BSh):=[(3,.var [.ty (.arr 8 (.int .u32))])]
def f116 (t1:(List Int)) (b3g0:(List Int)):Option (shDen f116_res × bxsDen f116_outs) :=
 (f161 t1).bind fun y1 =>
 (f116_l3 roundTable b3g0 y1.1 (((64:Int) - (0:Int)).toNat + 1) (0:Int) b3g0).bind fun o17 =>
 let u18:(List Int):=o17.2.2.1.1
 let u19:(List Int):=o17.2.2.2.1.1
 (f116_l12 u19 (((8:Int) - (0:Int)).toNat + 1) (0:Int) u18).bind fun o21 =>
 let u22:(List Int):=o21.2.2.1.1
 some ((),((u22,()),()))
def f116_spec:CSpec:={ args:=[(0,cP 3),(1,.ty (.sl (.int .u8)))],ins:=[(3,.var [.ty (.arr 8 (.int .u32))])],res:=f116_res,outs:=f116_outs,fn:=fun x=>f116 x.1.1 x.2.1.1 }
noncomputable def f116_code:Code:=Tryz.f116.body.getD .skip
noncomputable def f116_env:Env0:={ C:=cfgF,P:=[(161,f161_spec),(162,f162_spec)],L:=[(⟨12,0,116,3⟩,f116_l3_spec),(⟨12,0,116,12⟩,f116_l12_spec)],F:=[(116,Tryz.f116)] }
theorem f116_l3_ok:LoopOK f116_env 12 116 0 (loopAt f116_code 3) f116_l3_spec :=
 loopOK_of (by kernel_rfl) f116_l3_n (fun x o h=>⟨_,h⟩) (fun x=>by kernel_rfl) (fun n x=>by kernel_rfl)
theorem f116_l12_ok:LoopOK f116_env 12 116 0 (loopAt f116_code 12) f116_l12_spec :=
 loopOK_of (by kernel_rfl) f116_l12_n (fun x o h=>⟨_,h⟩) (fun x=>by kernel_rfl) (fun n x=>by kernel_rfl)
theorem f116_run (x:envDen (f116_spec).args × bxsDen (f116_spec).ins):runS f116_env 116 Tryz.f116 f116_code (f116_spec) x = (f116_spec).fn x:=by kernel_rfl
theorem f116_enter:zQ 116:=zN Tryz.func116
theorem f116_envOK:zE f116_env:=zO cfgF_ok ⟨⟨f161_pure,f161_enter⟩,⟨f162_pure,f162_enter⟩,trivial⟩ trivial ⟨zK Tryz.func116,trivial⟩ ⟨⟨Tryz.f116,f116_code,rfl,rfl,f116_l3_ok⟩,⟨Tryz.f116,f116_code,rfl,rfl,f116_l12_ok⟩,trivial⟩
theorem f116_call:CallOK Tryz.prog cfg 116 f116_spec:=call_of_run f116_envOK (fn:=Tryz.f116) (c:=f116_code) rfl rfl f116_spec (by kernel_rfl) (fun x _ h=>(f116_run x).trans h)
def f117_l6_head:Ann:={ env:=[(3,cP 3),(4,YI),(5,.ty (.int .u32)),(7,.ty (.arr 8 (.int .u32))),(8,YI),(12,YI)],bxs:=[(3,.var [.ty (.arr 32 (.int .u8))])] }
def f117_l6_outs:List (Ex × Ann):=[((.exit 2),{ env:=[(3,cP 3),(7,.ty (.arr 8 (.int .u32))),(8,YI)],bxs:=[(3,.var [.ty (.arr 32 (.int .u8))])] })]
def f117_l6 (t4:Int) (t5:Int) (t7:(List Int)) (t8:Int):Nat→Int→(List Int)→Option (outDen f117_l6_outs)
 | 0,_,_=>none
 | k + 1,t12,b3g0 =>
 bif (decide (t12 < (4:Int))) then
 let v1:Int:=(IntKind.wrap .i64 ((IntKind.wrap .i64 ((4:Int) * t4)) + t12))
 let v2:Int:=(IntKind.wrap .i64 ((24:Int) - (IntKind.wrap .i64 ((8:Int) * t12))))
 bif (decide (0≤v2)) then bif (inR v1 32) then f117_l6 t4 t5 t7 t8 k (IntKind.wrap .i64 (t12 + 1)) (b3g0.set (Int.toNat v1) (IntKind.wrap .u8 (shrV .u32 t5 v2))) else none else none
 else
 some ((t7,t8,()),(),((b3g0,()),()))
def f117_l6_n (n:Nat) (x:f117_l6_head.den):=f117_l6 x.1.1 x.1.2.1 x.1.2.2.1 x.1.2.2.2.1 n x.1.2.2.2.2.1 x.2.2.1.1
def f117_l6_spec:LSpec:={ head:=f117_l6_head,outs:=f117_l6_outs,fn:=fun x=>f117_l6_n (((4:Int) - x.1.2.2.2.2.1).toNat + 1) x }
def f117_l3_head:Ann:={ env:=[(3,cP 3),(7,.ty (.arr 8 (.int .u32))),(8,YI)],bxs:=[(3,.var [.ty (.arr 32 (.int .u8))])] }
def f117_l3_outs:List (Ex × Ann):=[((.exit 0),{ env:=[(3,cP 3)],bxs:=[(3,.var [.ty (.arr 32 (.int .u8))])] })]
def f117_l3:Nat→(List Int)→Int→(List Int)→Option (outDen f117_l3_outs)
 | 0,_,_,_=>none
 | k + 1,t7,t8,b3g0 =>
 bif (decide (t8 < (8:Int))) then
 bif (inR t8 8) then
 (f117_l6 t8 (at_ (.int .u32) t7 t8) t7 t8 (((4:Int) - (0:Int)).toNat + 1) (0:Int) b3g0).bind fun o3 =>
 let u4:(List Int):=o3.1.1
 let u5:Int:=o3.1.2.1
 let u6:(List Int):=o3.2.2.1.1
 f117_l3 k u4 (IntKind.wrap .i64 (u5 + 1)) u6
 else none
 else
 some ((),(),((b3g0,()),()))
def f117_l3_n (n:Nat) (x:f117_l3_head.den):=f117_l3 n x.1.1 x.1.2.1 x.2.2.1.1
def f117_l3_spec:LSpec:={ head:=f117_l3_head,outs:=f117_l3_outs,fn:=fun x=>f117_l3_n (((8:Int) - x.1.2.1).toNat + 1) x }
def f117 (a0:(List Int)):Option (ByteArray × Unit) :=
 (f117_l3 (((8:Int) - (0:Int)).toNat + 1) a0 (0:Int) (List.replicate 32 (0:Int))).bind fun o7 =>
 let u8:(List Int):=o7.2.2.1.1
 let v9:ByteArray:=(ofBytes ((u8.drop 0).take (cutLen 32 none none)))
 some (v9,())
def f117_spec:PSpec:={ args:=[(.arr 8 (.int .u32))],res:=[.str],fn:=fun x=>f117 x.1 }
noncomputable def f117_code:Code:=Tryz.f117.body.getD .skip
noncomputable def f117_env:Env0:={ C:=cfgF,P:=[],L:=[(⟨12,0,117,6⟩,f117_l6_spec),(⟨12,0,117,3⟩,f117_l3_spec)],F:=[(117,Tryz.f117)] }
theorem f117_l6_ok:LoopOK f117_env 12 117 0 (loopAt f117_code 6) f117_l6_spec :=
 loopOK_of (by kernel_rfl) f117_l6_n (fun x o h=>⟨_,h⟩) (fun x=>by kernel_rfl) (fun n x=>by kernel_rfl)
theorem f117_l3_ok:LoopOK f117_env 12 117 0 (loopAt f117_code 3) f117_l3_spec :=
 loopOK_of (by kernel_rfl) f117_l3_n (fun x o h=>⟨_,h⟩) (fun x=>by kernel_rfl) (fun n x=>by kernel_rfl)
theorem f117_run:zR f117_env 117 Tryz.f117 f117_code f117_spec:=by intro x; kernel_rfl
theorem f117_enter:zQ 117:=zN Tryz.func117
theorem f117_envOK:zE f117_env:=zO cfgF_ok trivial trivial ⟨zK Tryz.func117,trivial⟩ ⟨⟨Tryz.f117,f117_code,rfl,rfl,f117_l6_ok⟩,⟨Tryz.f117,f117_code,rfl,rfl,f117_l3_ok⟩,trivial⟩
theorem f117_pure:zU 117 f117_spec:=zP f117_envOK Tryz.f117 f117_code f117_run
def f97_l3_head:Ann:={ env:=[(0,.ty .str),(3,cP 3),(4,.cst (.row 9 .whole))],bxs:=[(3,.var [.ty (.arr 8 (.int .u32))]),(9,.row (.int .u8) false)] }
def f97_l3_outs:List (Ex × Ann):=[((.exit 0),{ env:=[(0,.ty .str),(3,cP 3),(4,.cst (.row 9 .whole))],bxs:=[(3,.var [.ty (.arr 8 (.int .u32))]),(9,.row (.int .u8) false)] })]
def f97_l3 (t0:ByteArray) (b3g0:(List Int)):Nat→(List Int)→Option (outDen f97_l3_outs)
 | 0,_=>none
 | k + 1,r9 =>
 let v1:Bool:=(decide ((Int.tmod (r9.length:Int) (64:Int)) ≠ (56:Int)))
 bif v1 then
 bif (decide (r9.length + ([(0:Int)]:List Int).length≤appLim)) then f97_l3 t0 b3g0 k (r9++([(0:Int)]:List Int)) else none
 else
 some ((t0,()),(),((b3g0,()),r9,()))
def f97_l3_n (n:Nat) (x:f97_l3_head.den):=f97_l3 x.1.1 x.2.2.1.1 n x.2.2.2.1
def f97_l3_spec:LSpec:={ head:=f97_l3_head,outs:=f97_l3_outs,fn:=fun x=>f97_l3_n ((64:Nat)) x }
def f97_l6_head:Ann:={ env:=[(0,.ty .str),(3,cP 3),(4,.cst (.row 9 .whole)),(5,YI)],bxs:=[(3,.var [.ty (.arr 8 (.int .u32))]),(9,.row (.int .u8) false)] }
def f97_l6_outs:List (Ex × Ann):=[((.exit 2),{ env:=[(3,cP 3),(4,.cst (.row 9 .whole))],bxs:=[(3,.var [.ty (.arr 8 (.int .u32))]),(9,.row (.int .u8) false)] })]
def f97_l6 (t0:ByteArray) (b3g0:(List Int)):Nat→Int→(List Int)→Option (outDen f97_l6_outs)
 | 0,_,_=>none
 | k + 1,t5,r9 =>
 bif (decide (t5 ≥ (0:Int))) then
 let v6:Int:=(IntKind.wrap .i64 ((8:Int) * (t0.size:Int)))
 bif (decide (0≤(IntKind.wrap .i64 ((8:Int) * t5)))) then
 let v7:Int:=(shrV .i64 v6 (IntKind.wrap .i64 ((8:Int) * t5)))
 bif (decide (r9.length + ([(IntKind.wrap .u8 v7)]:List Int).length≤appLim)) then f97_l6 t0 b3g0 k (IntKind.wrap .i64 (t5 - (1:Int))) (r9++([(IntKind.wrap .u8 v7)]:List Int)) else none
 else none
 else
 some ((),(),((b3g0,()),r9,()))
def f97_l6_n (n:Nat) (x:f97_l6_head.den):=f97_l6 x.1.1 x.2.2.1.1 n x.1.2.1 x.2.2.2.1
def f97_l6_spec:LSpec:={ head:=f97_l6_head,outs:=f97_l6_outs,fn:=fun x=>f97_l6_n ((x.1.2.1 + 1).toNat + 1) x }
def f160_l1x_head:Ann:={ env:=[(0,.cst (.yld 910)),(1,cP 34002),(2,cP 34003),(4,YI)],stk:=[[(0,.cst (.yld 910))],[(3,cP 3)]],bxs:=[(910,.loop false 97 10 [(3,cP 3)]),(34002,.var [.ty (.sl (.int .u8))]),(34003,.var [YI]),(3,.var [.ty (.arr 8 (.int .u32))])] }
def f160_l1x_outs:List (Ex × Ann):=[((.exit 0),{ env:=[],stk:=[[(0,.cst (.yld 910))],[(3,cP 3)]],bxs:=[(910,.loop false 97 10 [(3,cP 3)]),(3,.var [.ty (.arr 8 (.int .u32))])] })]
def f160_l1x (b34002g0:(List Int)) (b34003g0:Int):Nat→Int→(List Int)→Option (outDen f160_l1x_outs)
 | 0,_,_=>none
 | k + 1,t4,b3g0 =>
 bif (decide (t4 < (b34002g0.length:Int))) then
 bif (cutOk b34002g0.length (some t4) none) then
 let v11:Int:=((b34002g0.drop (Int.toNat t4)).length:Int)
 let v12:Int:=(if v11 < b34003g0 then v11 else b34003g0)
 bif ((cutOk b34002g0.length (some t4) (some (IntKind.wrap .i64 (t4 + v12)))) && decide ((IntKind.wrap .i64 (t4 + v12)) = (IntKind.wrap .i64 (t4 + v12)))) then
 (f116 ((b34002g0.take (Int.toNat (IntKind.wrap .i64 (t4 + v12)))).drop (Int.toNat t4)) b3g0).bind fun y13 =>
 let u14:(List Int):=y13.2.1.1
 f160_l1x b34002g0 b34003g0 k (IntKind.wrap .i64 (t4 + b34003g0)) u14
 else none
 else none
 else
 some ((),((),(),()),((),(b3g0,()),()))
def f160_l1x_n (n:Nat) (x:f160_l1x_head.den):=f160_l1x x.2.2.2.1.1 x.2.2.2.2.1.1 n x.1.1 x.2.2.2.2.2.1.1
def f160_l1x_spec:LSpec:={ head:=f160_l1x_head,outs:=f160_l1x_outs,fn:=fun x=>f160_l1x_n (((x.2.2.2.1.1.length:Int) - x.1.1).toNat + 1) x }
def f97 (a0:ByteArray):Option (ByteArray × Unit) :=
 bif (decide ((toBytes a0).length + ([(128:Int)]:List Int).length≤appLim)) then
 (f97_l3 a0 ([(1779033703:Int),(3144134277:Int),(1013904242:Int),(2773480762:Int),(1359893119:Int),(2600822924:Int),(528734635:Int),(1541459225:Int)]:List Int) ((64:Nat)) ((toBytes a0)++([(128:Int)]:List Int))).bind fun o2 =>
 let u3:ByteArray:=o2.1.1
 let u4:(List Int):=o2.2.2.1.1
 let u5:(List Int):=o2.2.2.2.1
 (f97_l6 u3 u4 (((7:Int) + 1).toNat + 1) (7:Int) u5).bind fun o8 =>
 let u9:(List Int):=o8.2.2.1.1
 let u10:(List Int):=o8.2.2.2.1
 (f160_l1x u10 (64:Int) (((u10.length:Int) - (0:Int)).toNat + 1) (0:Int) u9).bind fun o15 =>
 let u16:(List Int):=o15.2.2.2.1.1
 (f117 u16).bind fun y17 =>
 some (y17.1,())
 else none
def f97_spec:PSpec:={ args:=[.str],res:=[.str],fn:=fun x=>f97 x.1 }
noncomputable def f97_code:Code:=Tryz.f97.body.getD .skip
noncomputable def f97_code_160:Code:=Tryz.f160.body.getD .skip
noncomputable def f97_env:Env0:={ C:=cfgF,P:=[(117,f117_spec)],L:=[(⟨12,0,97,3⟩,f97_l3_spec),(⟨12,0,97,6⟩,f97_l6_spec),(⟨11,910000,160,1⟩,f160_l1x_spec)],F:=[(97,Tryz.f97),(115,Tryz.f115),(160,Tryz.f160)],S:=[(116,f116_spec)] }
theorem f97_l3_ok:LoopOK f97_env 12 97 0 (loopAt f97_code 3) f97_l3_spec :=
 loopOK_of (by kernel_rfl) f97_l3_n (fun x o h=>⟨_,h⟩) (fun x=>by kernel_rfl) (fun n x=>by kernel_rfl)
theorem f97_l6_ok:LoopOK f97_env 12 97 0 (loopAt f97_code 6) f97_l6_spec :=
 loopOK_of (by kernel_rfl) f97_l6_n (fun x o h=>⟨_,h⟩) (fun x=>by kernel_rfl) (fun n x=>by kernel_rfl)
theorem f160_l1x_ok:LoopOK f97_env 11 160 910000 (loopAt f97_code_160 1) f160_l1x_spec :=
 loopOK_of (by kernel_rfl) f160_l1x_n (fun x o h=>⟨_,h⟩) (fun x=>by kernel_rfl) (fun n x=>by kernel_rfl)
theorem f97_run:zR f97_env 97 Tryz.f97 f97_code f97_spec:=by intro x; kernel_rfl
theorem f97_enter:zQ 97:=zN Tryz.func97
theorem f97_envOK:zE f97_env:=zO cfgF_ok ⟨⟨f117_pure,f117_enter⟩,trivial⟩ ⟨⟨f116_call,by kernel_rfl,f116_enter⟩,trivial⟩ ⟨zK Tryz.func97,zK Tryz.func115,zK Tryz.func160,trivial⟩ ⟨⟨Tryz.f97,f97_code,rfl,rfl,f97_l3_ok⟩,⟨Tryz.f97,f97_code,rfl,rfl,f97_l6_ok⟩,⟨Tryz.f160,f97_code_160,rfl,rfl,f160_l1x_ok⟩,trivial⟩
theorem f97_pure:zU 97 f97_spec:=zP f97_envOK Tryz.f97 f97_code f97_run
def f109 (a0:Int) (a1:ByteArray):Option (ByteArray × Unit) :=
 bif (decide (a1 = (⟨#[]⟩:ByteArray))) then
 (f108 ).bind fun y1 =>
 some (y1.1,())
 else
 (f87 a0).bind fun y2 =>
 bif (catOk (⟨#[8]⟩:ByteArray) y2.1) then
 bif (catOk ((⟨#[8]⟩:ByteArray)++y2.1) a1) then
 (f97 (((⟨#[8]⟩:ByteArray)++y2.1)++a1)).bind fun y3 =>
 some (y3.1,())
 else none
 else none
def f109_spec:PSpec:={ args:=[yI,.str],res:=[.str],fn:=fun x=>f109 x.1 x.2.1 }
noncomputable def f109_code:Code:=Tryz.f109.body.getD .skip
noncomputable def f109_env:Env0:={ C:=cfgF,P:=[(87,f87_spec),(97,f97_spec),(108,f108_spec)],L:=[],F:=[(109,Tryz.f109)] }
theorem f109_run:zR f109_env 109 Tryz.f109 f109_code f109_spec:=by intro x; kernel_rfl
theorem f109_enter:zQ 109:=zN Tryz.func109
theorem f109_envOK:zE f109_env:=zO cfgF_ok ⟨⟨f87_pure,f87_enter⟩,⟨f97_pure,f97_enter⟩,⟨f108_pure,f108_enter⟩,trivial⟩ trivial ⟨zK Tryz.func109,trivial⟩ trivial
theorem f109_pure:zU 109 f109_spec:=zP f109_envOK Tryz.f109 f109_code f109_run
def f110 (a0:ByteArray) (a1:ByteArray):Option (ByteArray × Unit) :=
 (f108 ).bind fun y1 =>
 bif (decide (a0 = y1.1)) then
 (f108 ).bind fun y2 =>
 bif (decide (a1 = y2.1)) then
 (f108 ).bind fun y3 =>
 some (y3.1,())
 else
 bif (catOk (⟨#[9]⟩:ByteArray) a0) then
 bif (catOk ((⟨#[9]⟩:ByteArray)++a0) a1) then
 (f97 (((⟨#[9]⟩:ByteArray)++a0)++a1)).bind fun y4 =>
 some (y4.1,())
 else none
 else none
 else
 bif (catOk (⟨#[9]⟩:ByteArray) a0) then
 bif (catOk ((⟨#[9]⟩:ByteArray)++a0) a1) then
 (f97 (((⟨#[9]⟩:ByteArray)++a0)++a1)).bind fun y5 =>
 some (y5.1,())
 else none
 else none
def f110_spec:PSpec:={ args:=[.str,.str],res:=[.str],fn:=fun x=>f110 x.1 x.2.1 }
noncomputable def f110_code:Code:=Tryz.f110.body.getD .skip
noncomputable def f110_env:Env0:={ C:=cfgF,P:=[(97,f97_spec),(108,f108_spec)],L:=[],F:=[(110,Tryz.f110)] }
theorem f110_run:zR f110_env 110 Tryz.f110 f110_code f110_spec:=by intro x; kernel_rfl
theorem f110_enter:zQ 110:=zN Tryz.func110
theorem f110_envOK:zE f110_env:=zO cfgF_ok ⟨⟨f97_pure,f97_enter⟩,⟨f108_pure,f108_enter⟩,trivial⟩ trivial ⟨zK Tryz.func110,trivial⟩ trivial
theorem f110_pure:zU 110 f110_spec:=zP f110_envOK Tryz.f110 f110_code f110_run
def f92_l3_b8000_head:Ann:={ env:=[(0,.ty (.sl yE)),(3,cP 8009),(10,YI)],stk:=[[(2,.ty .str),(3,YI)]],bxs:=[(8009,.var [.ty (.arr 128 .str)])] }
def f92_l3_b8000_outs:List (Ex × Ann):=[((.exit 0),{ env:=[(0,.ty (.sl yE)),(3,cP 8009)],stk:=[[(2,.ty .str),(3,YI)]],bxs:=[(8009,.var [.ty (.arr 128 .str)])] })]
def f92_l3_b8000 (t0:(List Ye)) (k0t2:ByteArray) (k0t3:Int):Nat→Int→(List ByteArray)→Option (outDen f92_l3_b8000_outs)
 | 0,_,_=>none
 | k + 1,t10,b8009g0 =>
 bif (decide (t10 < (64:Int))) then
 (f108 ).bind fun y2 =>
 bif (inR (IntKind.wrap .i64 ((64:Int) + t10)) 128) then f92_l3_b8000 t0 k0t2 k0t3 k (IntKind.wrap .i64 (t10 + 1)) (b8009g0.set (Int.toNat (IntKind.wrap .i64 ((64:Int) + t10))) y2.1) else none
 else
 some ((t0,()),((k0t2,k0t3,()),()),((b8009g0,()),()))
def f92_l3_b8000_n (n:Nat) (x:f92_l3_b8000_head.den):=f92_l3_b8000 x.1.1 x.2.1.1.1 x.2.1.1.2.1 n x.1.2.1 x.2.2.1.1
def f92_l3_b8000_spec:LSpec:={ head:=f92_l3_b8000_head,outs:=f92_l3_b8000_outs,fn:=fun x=>f92_l3_b8000_n (((64:Int) - x.1.2.1).toNat + 1) x }
def f92_l8_b8000_head:Ann:={ env:=[(3,cP 8009),(20,.ty (.sl yE)),(21,YI),(22,YI)],stk:=[[(2,.ty .str),(3,YI)]],bxs:=[(8009,.var [.ty (.arr 128 .str)])] }
def f92_l8_b8000_outs:List (Ex × Ann):=[((.exit 2),{ env:=[(3,cP 8009)],stk:=[[(2,.ty .str),(3,YI)]],bxs:=[(8009,.var [.ty (.arr 128 .str)])] })]
def f92_l8_b8000 (t20:(List Ye)) (t21:Int) (k0t2:ByteArray) (k0t3:Int):Nat→Int→(List ByteArray)→Option (outDen f92_l8_b8000_outs)
 | 0,_,_=>none
 | k + 1,t22,b8009g0 =>
 bif (decide (t22 < t21)) then
 bif (inR t22 t20.length) then
 let v8:Int:=(at_ yE t20 t22).1
 let v9:Int:=(at_ yE t20 t22).1
 let v10:ByteArray:=(at_ yE t20 t22).2.1
 (f109 v9 v10).bind fun y11 =>
 bif (inR (IntKind.wrap .i64 ((64:Int) + v8)) 128) then f92_l8_b8000 t20 t21 k0t2 k0t3 k (IntKind.wrap .i64 (t22 + 1)) (b8009g0.set (Int.toNat (IntKind.wrap .i64 ((64:Int) + v8))) y11.1) else none
 else none
 else
 some ((),((k0t2,k0t3,()),()),((b8009g0,()),()))
def f92_l8_b8000_n (n:Nat) (x:f92_l8_b8000_head.den):=f92_l8_b8000 x.1.1 x.1.2.1 x.2.1.1.1 x.2.1.1.2.1 n x.1.2.2.1 x.2.2.1.1
def f92_l8_b8000_spec:LSpec:={ head:=f92_l8_b8000_head,outs:=f92_l8_b8000_outs,fn:=fun x=>f92_l8_b8000_n ((x.1.2.1 - x.1.2.2.1).toNat + 1) x }
def f92_l13_b8000_head:Ann:={ env:=[(3,cP 8009),(7,YI)],stk:=[[(2,.ty .str),(3,YI)]],bxs:=[(8009,.var [.ty (.arr 128 .str)])] }
def f92_l13_b8000_outs:List (Ex × Ann):=[((.exit 4),{ env:=[(3,cP 8009)],stk:=[[(2,.ty .str),(3,YI)]],bxs:=[(8009,.var [.ty (.arr 128 .str)])] })]
def f92_l13_b8000 (k0t2:ByteArray) (k0t3:Int):Nat→Int→(List ByteArray)→Option (outDen f92_l13_b8000_outs)
 | 0,_,_=>none
 | k + 1,t7,b8009g0 =>
 bif (decide (t7 > (0:Int))) then
 bif (inR (IntKind.wrap .i64 ((2:Int) * t7)) 128) then
 let v16:ByteArray:=(at_ .str b8009g0 (IntKind.wrap .i64 ((2:Int) * t7)))
 let v17:Int:=(IntKind.wrap .i64 ((IntKind.wrap .i64 ((2:Int) * t7)) + 1))
 bif (inR v17 128) then
 (f110 v16 (at_ .str b8009g0 v17)).bind fun y18 =>
 bif (inR t7 128) then f92_l13_b8000 k0t2 k0t3 k (IntKind.wrap .i64 (t7 - (1:Int))) (b8009g0.set (Int.toNat t7) y18.1) else none
 else none
 else none
 else
 some ((),((k0t2,k0t3,()),()),((b8009g0,()),()))
def f92_l13_b8000_n (n:Nat) (x:f92_l13_b8000_head.den):=f92_l13_b8000 x.2.1.1.1 x.2.1.1.2.1 n x.1.1 x.2.2.1.1
def f92_l13_b8000_spec:LSpec:={ head:=f92_l13_b8000_head,outs:=f92_l13_b8000_outs,fn:=fun x=>f92_l13_b8000_n (x.1.1.toNat + 1) x }
def f74 (a0:(List Ye)):Option (ByteArray × Int × Unit) :=
 (f91 a0).bind fun y1 =>
 bif (!y1.1) then
 some ((⟨#[]⟩:ByteArray),(40:Int),())
 else
 (f92_l3_b8000 a0 (⟨#[]⟩:ByteArray) (0:Int) (((64:Int) - (0:Int)).toNat + 1) (0:Int) (List.replicate 128 (⟨#[]⟩:ByteArray))).bind fun o3 =>
 let u4:(List Ye):=o3.1.1
 let u5:ByteArray:=o3.2.1.1.1
 let u6:Int:=o3.2.1.1.2.1
 let u7:(List ByteArray):=o3.2.2.1.1
 (f92_l8_b8000 u4 (u4.length:Int) u5 u6 (((u4.length:Int) - (0:Int)).toNat + 1) (0:Int) u7).bind fun o12 =>
 let u13:ByteArray:=o12.2.1.1.1
 let u14:Int:=o12.2.1.1.2.1
 let u15:(List ByteArray):=o12.2.2.1.1
 (f92_l13_b8000 u13 u14 ((63:Int).toNat + 1) (63:Int) u15).bind fun o19 =>
 let u22:(List ByteArray):=o19.2.2.1.1
 bif (inR (1:Int) 128) then some ((at_ .str u22 (1:Int)),(0:Int),()) else none
def f74_spec:PSpec:={ args:=[(.sl yE)],res:=[.str,yI],fn:=fun x=>f74 x.1 }
noncomputable def f74_code:Code:=Tryz.f74.body.getD .skip
noncomputable def f74_code_92:Code:=Tryz.f92.body.getD .skip
noncomputable def f74_env:Env0:={ C:=cfgF,P:=[(91,f91_spec),(108,f108_spec),(109,f109_spec),(110,f110_spec)],L:=[(⟨11,8000,92,3⟩,f92_l3_b8000_spec),(⟨11,8000,92,8⟩,f92_l8_b8000_spec),(⟨11,8000,92,13⟩,f92_l13_b8000_spec)],F:=[(74,Tryz.f74),(92,Tryz.f92)] }
theorem f92_l3_b8000_ok:LoopOK f74_env 11 92 8000 (loopAt f74_code_92 3) f92_l3_b8000_spec :=
 loopOK_of (by kernel_rfl) f92_l3_b8000_n (fun x o h=>⟨_,h⟩) (fun x=>by kernel_rfl) (fun n x=>by kernel_rfl)
theorem f92_l8_b8000_ok:LoopOK f74_env 11 92 8000 (loopAt f74_code_92 8) f92_l8_b8000_spec :=
 loopOK_of (by kernel_rfl) f92_l8_b8000_n (fun x o h=>⟨_,h⟩) (fun x=>by kernel_rfl) (fun n x=>by kernel_rfl)
theorem f92_l13_b8000_ok:LoopOK f74_env 11 92 8000 (loopAt f74_code_92 13) f92_l13_b8000_spec :=
 loopOK_of (by kernel_rfl) f92_l13_b8000_n (fun x o h=>⟨_,h⟩) (fun x=>by kernel_rfl) (fun n x=>by kernel_rfl)
theorem f74_run:zR f74_env 74 Tryz.f74 f74_code f74_spec:=by intro x; kernel_rfl
theorem f74_enter:zQ 74:=zN Tryz.func74
theorem f74_envOK:zE f74_env:=zO cfgF_ok ⟨⟨f91_pure,f91_enter⟩,⟨f108_pure,f108_enter⟩,⟨f109_pure,f109_enter⟩,⟨f110_pure,f110_enter⟩,trivial⟩ trivial ⟨zK Tryz.func74,zK Tryz.func92,trivial⟩ ⟨⟨Tryz.f92,f74_code_92,rfl,rfl,f92_l3_b8000_ok⟩,⟨Tryz.f92,f74_code_92,rfl,rfl,f92_l8_b8000_ok⟩,⟨Tryz.f92,f74_code_92,rfl,rfl,f92_l13_b8000_ok⟩,trivial⟩
theorem f74_pure:zU 74 f74_spec:=zP f74_envOK Tryz.f74 f74_code f74_run
end Go.V.G
namespace Go.Proofs
open Go.Shelf
def Tryz.lays166_ren : Ren :=
  { f := fun x => match x with
      | 166 => 88
      | 240 => 102
      | 276 => 120
      | 169 => 89
      | n => n,
    t := fun x => match x with
      | 70 => 134
      | 72 => 136
      | 37 => 124
      | 75 => 139
      | 80 => 77
      | 164 => 192
      | 127 => 168
      | n => n,
    g := fun n => n }
theorem Tryz.lays166 : Lays.n166 Tryz.prog Tryz.lays166_ren :=
  { mixed := by kernel_rfl, f166 := Tryz.func88.trans (congrArg some (by kernel_rfl)), f240 := Tryz.func102.trans (congrArg some (by kernel_rfl)), f276 := Tryz.func120.trans (congrArg some (by kernel_rfl)),
    t0 := Tryz.underlying0, a0 := Tryz.isAgg0, z0 := Tryz.sizeOf0, v0 := Tryz.zeroValue0, t3 := Tryz.underlying3, a3 := Tryz.isAgg3, z3 := Tryz.sizeOf3, v3 := Tryz.zeroValue3,
    t4 := Tryz.underlying4, a4 := Tryz.isAgg4, z4 := Tryz.sizeOf4, v4 := Tryz.zeroValue4, t9 := Tryz.underlying9, a9 := Tryz.isAgg9, z9 := Tryz.sizeOf9, v9 := Tryz.zeroValue9,
    t20 := Tryz.underlying20, a20 := Tryz.isAgg20, z20 := Tryz.sizeOf20, v20 := Tryz.zeroValue20, t37 := Tryz.underlying124, a37 := Tryz.isAgg124, z37 := Tryz.sizeOf124, v37 := Tryz.zeroValue124,
    t70 := Tryz.underlying134, a70 := Tryz.isAgg134, z70 := Tryz.sizeOf134, v70 := Tryz.zeroValue134, t72 := Tryz.underlying136, a72 := Tryz.isAgg136, z72 := Tryz.sizeOf136, v72 := Tryz.zeroValue136,
    t75 := Tryz.underlying139, a75 := Tryz.isAgg139, z75 := Tryz.sizeOf139, v75 := Tryz.zeroValue139, t164 := Tryz.underlying192, a164 := Tryz.isAgg192, z164 := Tryz.sizeOf192, v164 := Tryz.zeroValue192 }
theorem Tryz.lays169 : Lays.n169 Tryz.prog Tryz.lays166_ren :=
  { mixed := by kernel_rfl, f169 := Tryz.func89.trans (congrArg some (by kernel_rfl)),
    t0 := Tryz.underlying0, a0 := Tryz.isAgg0, z0 := Tryz.sizeOf0, v0 := Tryz.zeroValue0, t3 := Tryz.underlying3, a3 := Tryz.isAgg3, z3 := Tryz.sizeOf3, v3 := Tryz.zeroValue3,
    t9 := Tryz.underlying9, a9 := Tryz.isAgg9, z9 := Tryz.sizeOf9, v9 := Tryz.zeroValue9, t37 := Tryz.underlying124, a37 := Tryz.isAgg124, z37 := Tryz.sizeOf124, v37 := Tryz.zeroValue124,
    t70 := Tryz.underlying134, a70 := Tryz.isAgg134, z70 := Tryz.sizeOf134, v70 := Tryz.zeroValue134, t72 := Tryz.underlying136, a72 := Tryz.isAgg136, z72 := Tryz.sizeOf136, v72 := Tryz.zeroValue136,
    t127 := Tryz.underlying168, a127 := Tryz.isAgg168, z127 := Tryz.sizeOf168, v127 := Tryz.zeroValue168 }
theorem Tryz.builderExtra:Builder.Extra Tryz.prog Tryz.lays166_ren where
 sizeBuilder:=by kernel_rfl
 liesBuilder:=by kernel_rfl
 t5:=Tryz.underlying5
 a5:=Tryz.isAgg5
 z5:=Tryz.sizeOf5
 v5:=Tryz.zeroValue5
 infoByte:=by kernel_rfl
 cellsByte:=by kernel_rfl
 sizeByte:=by kernel_rfl
 neB5:=by decide
theorem Tryz.Builder_WriteString (B b:Nat) (bs:List Value) (s:ByteArray) (w:World) (h:Lib.IsBuilderF 136 5 B b bs w) (hlen:bs.length + s.size≤140737488355328) (hBw:B≤w.heap.size) :
  Calls Tryz.prog 88 #[.pointer (some ⟨b,0,none⟩),.string s] w fun e w'=>e = .returned (.tuple #[.int .i64 s.size,.nilIface])∧(Lib.BuilderAtF 136 5 B b (.pointer (some ⟨b,0,none⟩)) (bs++Lib.strCells s) w'∧RowKit.Below B w w'∧Lib.OthersKept 5 (some b) w w') :=
 Any.Builder_WriteString_k Tryz.lays166 Tryz.builderExtra B b bs s w h hlen hBw
theorem Tryz.Builder_String (B b:Nat) (l:List UInt8) (w:World) (h:Lib.IsBuilderF 136 5 B b (Lib.byteCells l) w) (hBw:B≤w.heap.size) :
  Calls Tryz.prog 89 #[.pointer (some ⟨b,0,none⟩)] w fun e w'=>e = .returned (.string ⟨l.toArray⟩)∧(Lib.IsBuilderF 136 5 B b (Lib.byteCells l) w'∧RowKit.Below B w w'∧Lib.OthersKept 5 (some b) w w') :=
 Any.Builder_String_any_k Tryz.lays169 Tryz.builderExtra B b l w h hBw
end Go.Proofs
namespace Go.V.G
def intsGo:List Int→Option ByteArray
 | []=>some ⟨#[]⟩
 | n :: l=>(f87 n).bind fun y=>bif decide (y.1.size≤100) then (intsGo l).bind fun r=>some (y.1++r) else none
end Go.V.G
namespace Go.Proofs
open Go.RowKit Go.V Go.V.G
theorem putInt_calls {fz:Nat→Nat→Option Value} (hG:GlobOK cfg fz) {w:World} (hf:FzOK (.of fz) w) {n:Int} {y} (hy:f87 n = some y) :
  Calls Tryz.prog 87 #[.int .i64 n] w fun e w'=>e = .returned (.tuple #[.string y.1,.int .i64 y.2.1])∧Below w.heap.size w w':=by
 refine Calls.mono (f87_pure fz w #[.int .i64 n] (n,()) y hG hf ⟨⟨#[.int .i64 n],rfl,rfl⟩,rfl⟩ hy) ?_
 rintro e w' ⟨cs,fz',rfl,h1,h2,h3⟩
 refine ⟨?_,⟨h3.os,h3.tape,h3.output,h3.size,fun b hb=>h3.block b hb (V.not_owned _ _)⟩⟩
 match cs,h1 with
 | [c1,c2],⟨⟨a1,e1,e2⟩,⟨a2,e3,e4⟩,_⟩ =>
  have ha1:a1.toList = [.string y.1]:=e1
  have ha2:a2.toList = [.int .i64 y.2.1]:=e3
  have hc1:c1 = .string y.1:=by
   rw [e2]
   show a1.getD 0 undef = _
   rw [Array.getD_eq_getD_getElem?,← Array.getElem?_toList,ha1]
   rfl
  have hc2:c2 = .int .i64 y.2.1:=by
   rw [e4]
   show a2.getD 0 undef = _
   rw [Array.getD_eq_getD_getElem?,← Array.getElem?_toList,ha2]
   rfl
  rw [hc1,hc2]
  rfl
theorem heap_below {w w':World} (hk:Below w.heap.size w w') {b:Nat} {o:Obj} (h:w.heap[b]? = some o):w'.heap[b]? = some o:=by
 rw [hk.block b (Array.getElem?_eq_some_iff.1 h).1,h]
theorem builder_below {B b:Nat} {bs:List Value} {w w':World} (h:Lib.IsBuilderF 136 5 B b bs w) (hk:Below w.heap.size w w'):Lib.IsBuilderF 136 5 B b bs w':=by
 have main:∀ p,Lib.BuilderAtF 136 5 B b p bs w→Lib.BuilderAtF 136 5 B b p bs w':=by
  rintro p ⟨h1,v,h2,⟨h3,h4⟩,h5⟩
  refine ⟨h1,v,heap_below hk h2,⟨h3,?_⟩,h5⟩
  rcases h4 with h4 | ⟨g,cap,cur,fz,e1,e2,e3,e4⟩
  ·exact .inl h4
  ·exact .inr ⟨g,cap,cur,fz,e1,e2,heap_below hk e3,e4⟩
 exact h.imp (main _) (main _)
theorem strCells_bytes (s:ByteArray):Lib.strCells s = Lib.byteCells s.data.toList:=rfl
theorem byteCells_app (a b:List UInt8):Lib.byteCells (a++b) = Lib.byteCells a++Lib.byteCells b:=by simp [Lib.byteCells]
theorem byteCells_len (a:List UInt8):(Lib.byteCells a).length = a.length:=by simp [Lib.byteCells]
set_option maxHeartbeats 4000000 in
set_option maxRecDepth 1000000 in
theorem ints_walk {fz:Nat→Nat→Option Value} (hG:GlobOK cfg fz) (l:List Int) (base:Option Addr) (cap:Nat) (w:World) (hf:FzOK (.of fz) w) (hl:l.length≤1000) (s:ByteArray) (hs:intsGo l = some s)
  (hb:∀ j (_:j < l.length),∃ blk off,base = some ⟨blk,off,none⟩∧blk < w.heap.size∧w.cell? ⟨blk,off + j,none⟩ = some (.int .i64 l[j])) :
  Calls Tryz.prog 66 #[.slice base l.length cap] w fun e w'=>e = .returned (.string s)∧Below w.heap.size w w':=by
 have hff:∀ wr,Below w.heap.size w wr→FzOK (.of fz) wr:=by
  intro wr hbw b o v e
  have:=hf b o v e
  exact this.same (hbw.block b this.lt)
 go_enter Tryz.func66,Tryz.ntmps66
 go_wp2
 go_loopw [10] (fun i wr=>∃ (k:Nat) (acc:List UInt8),k≤l.length∧i = .int .i64 k∧Lib.IsBuilderF 136 5 w.heap.size w.heap.size (Lib.byteCells acc) wr∧Below w.heap.size w wr∧acc.length≤100 * k∧∃ r,intsGo (l.drop k) = some r∧acc++r.data.toList = s.data.toList) (fun i _=>l.length - (intOf i).toNat)
 case atStart =>
  exact ⟨0,[],Nat.zero_le _,rfl,Lib.IsBuilderF.of (Lib.fresh_isBuilder 136 5 w),(Below.refl _ w).alloc (Nat.le_refl _) _,by simp,s,by simpa using hs,by simp⟩
 case round =>
  obtain ⟨k,acc,hk,rfl,hI,hbw,hal,r,hr,hac⟩:=hrel
  have hsz:=hbw.size
  by_cases hlt:k < l.length
  ·obtain ⟨blk,off,rfl,hblk,hcell⟩:=hb k hlt
   have hcr:wr.cell? ⟨blk,off + k,none⟩ = some (.int .i64 l[k]):=by
    rw [← hcell]
    simp only [World.cell?,hbw.block blk hblk]
   rw [List.drop_eq_getElem_cons hlt] at hr
   simp only [intsGo,Option.bind_eq_some_iff] at hr
   obtain ⟨y,hy,hr⟩:=hr
   cases h100:decide (y.1.size≤100) with
   | false=>rw [h100] at hr; cases hr
   | true =>
    rw [h100,cond_true,Option.bind_eq_some_iff] at hr
    obtain ⟨r',hr',hrr⟩:=hr
    have h100':=of_decide_eq_true h100
    go_wp2_with (go_at_call 87; refine (putInt_calls hG (hff _ hbw) hy).mono ?_)
    rintro e W1 ⟨rfl,b1⟩
    have hI1:=builder_below hI b1
    have hbw1:Below w.heap.size w W1:=hbw.trans ⟨b1.os,b1.tape,b1.output,b1.size,fun k hk=>b1.block k (by omega)⟩
    have hsz1:=hbw1.size
    have hlen:(Lib.byteCells acc).length + y.1.size≤140737488355328:=by rw [byteCells_len]; omega
    go_wp2_with (go_at_call 88; refine (Tryz.Builder_WriteString w.heap.size w.heap.size _ y.1 _ hI1 hlen hsz1).mono ?_)
    rintro e W2 ⟨rfl,h1,b2,_⟩
    go_wp2
    go_roundw
    case rel =>
     have hwrap:IntKind.i64.wrap ((k:Int) + 1) = ((k + 1:Nat):Int):=by simp [IntKind.wrap,IntKind.bits,IntKind.signed] <;> omega
     refine ⟨k + 1,acc++y.1.data.toList,by omega,by first | (rw [hwrap]; done) | (simp only [hwrap]; done) | (simp <;> omega),?_,hbw1.trans b2,?_,r',hr',?_⟩
     ·rw [byteCells_app,← strCells_bytes]; exact Or.inr h1
     ·have:y.1.data.toList.length = y.1.size:=rfl
      rw [List.length_append,this]; omega
     ·simp only [Option.some.injEq] at hrr
      rw [← hac,← hrr]
      simp
    case measure =>
     simp [intOf]; omega
  ·go_wp2_with (go_at_call 89; refine (Tryz.Builder_String w.heap.size w.heap.size acc _ hI (by omega)).mono ?_)
   rintro e W1 ⟨rfl,_,b1,_⟩
   go_wp2
   go_ret
   have hk':k = l.length:=by omega
   subst hk'
   rw [List.drop_length] at hr
   simp only [intsGo,Option.some.injEq] at hr
   subst hr
   simp only [List.append_nil] at hac
   exact ⟨by rw [hac]; simp,hbw.trans b1⟩
end Go.Proofs
namespace Go.V.G
open Go.Proofs
def f66 (a0:List Int):Option (ByteArray × Unit):=bif decide (a0.length≤1000) then (intsGo a0).bind fun r=>some (r,()) else none
def f66_spec:PSpec:={ args:=[.sl (.int .i64)],res:=[.str],fn:=fun x=>f66 x.1 }
theorem elems_int_get {fz:Nat→Nat→Option Value}:∀ {l:List Int} {cs:List Value},Elems (CR fz (.int .i64)) l cs→∀ j (h:j < l.length),cs[j]? = some (.int .i64 l[j])
 | [],_,_,j,h=>by simp at h
 | x :: l,cs,⟨c1,c2,e,h1,h2⟩,j,h=>by
  have h1':c1 = [.int .i64 x]:=h1
  subst h1'
  subst e
  cases j with
  | zero=>rfl
  | succ j=>simpa using elems_int_get h2 j (by simpa using h)
theorem f66_pure:PureOK Go.Proofs.Tryz.prog cfg 66 f66_spec:=by
 intro fz w args x y hG hf ha hy
 obtain ⟨l,u⟩:=x
 obtain ⟨s,u'⟩:=y
 change f66 l = some (s,u') at hy
 unfold f66 at hy
 cases hl:decide (List.length (α:=Int) l≤1000) with
 | false=>rw [hl] at hy; cases hy
 | true =>
  rw [hl,cond_true,Option.bind_eq_some_iff] at hy
  obtain ⟨s',hs,e⟩:=hy
  simp only [Option.some.injEq,Prod.mk.injEq] at e
  obtain ⟨rfl,_⟩:=e
  obtain ⟨al⟩:=args
  match al,ha with
  | [c],⟨⟨arr,e1,e2⟩,_⟩ =>
   obtain ⟨v,e3,hv⟩:=e1
   have hc:c = v:=by
    rw [e2]
    show arr.getD 0 undef = v
    rw [Array.getD_eq_getD_getElem?,← Array.getElem?_toList,e3]
    rfl
   subst hc
   have fin:∀ base cap,c = .slice base (List.length (α:=Int) l) cap→(∀ j (_:j < List.length (α:=Int) l),∃ blk off,base = some ⟨blk,off,none⟩∧blk < w.heap.size∧w.cell? ⟨blk,off + j,none⟩ = some (.int .i64 (l[j]:Int))) →
     Calls Go.Proofs.Tryz.prog 66 #[c] w fun e w'=>∃ cs fz',e = .returned (resVal cs)∧TVs fz' [.str] (s',u') cs∧FzOK (.of fz') w'∧Tr (.of fz) w (.of fz') w':=by
    intro base cap hc hb
    subst hc
    refine Calls.mono (ints_walk hG l base cap w hf (of_decide_eq_true hl) s' hs hb) ?_
    rintro e w' ⟨rfl,hb⟩
    refine ⟨[.string s'],fz,rfl,⟨⟨#[.string s'],rfl,rfl⟩,rfl⟩,?_,⟨hb.os,hb.tape,hb.output,hb.size,fun _ _ _ h=>h,fun _ _ h=>.inl h,fun _ h=>.inl h,fun b hb' _=>hb.block b hb'⟩⟩
    intro b o v e
    have:=hf b o v e
    exact this.same (hb.block b this.lt)
   rcases hv with ⟨rfl,a0,rfl⟩ | ⟨blk,off,cap,cs,rfl,h1,h2,h3⟩
   ·exact fin a0 0 rfl (fun j h=>by simp at h)
   ·refine fin _ cap rfl (fun j h=>⟨blk,off,rfl,?_,(hf _ _ _ (h3 j _ (elems_int_get h2 j h))).cell rfl⟩)
    exact (hf _ _ _ (h3 j _ (elems_int_get h2 j h))).lt
theorem f66_enter:Enterable Go.Proofs.Tryz.prog 66:=enter_fun Go.Proofs.Tryz.func66 (by kernel_rfl)
end Go.V.G
namespace Go.V.G
open Go.Proofs
noncomputable section
def f27 (a0:(List Int)):Option (ByteArray × Int × Unit) :=
 (f65 a0).bind fun y1 =>
 bif (!y1.1) then
 some ((⟨#[]⟩:ByteArray),(160:Int),())
 else
 (f66 ([(a0.length:Int)]:List Int)).bind fun y2 =>
 (f66 a0).bind fun y3 =>
 bif (catOk y2.1 y3.1) then some ((y2.1++y3.1),(0:Int),()) else none
def f27_spec:PSpec:={ args:=[(.sl yI)],res:=[.str,yI],fn:=fun x=>f27 x.1 }
noncomputable def f27_code:Code:=Tryz.f27.body.getD .skip
noncomputable def f27_env:Env0:={ C:=cfgF,P:=[(65,f65_spec),(66,f66_spec)],L:=[],F:=[(27,Tryz.f27)] }
theorem f27_run:zR f27_env 27 Tryz.f27 f27_code f27_spec:=by intro x; kernel_rfl
theorem f27_enter:zQ 27:=zN Tryz.func27
theorem f27_envOK:zE f27_env:=zO cfgF_ok ⟨⟨f65_pure,f65_enter⟩,⟨f66_pure,f66_enter⟩,trivial⟩ trivial ⟨zK Tryz.func27,trivial⟩ trivial
theorem f27_pure:zU 27 f27_spec:=zP f27_envOK Tryz.f27 f27_code f27_run
def f68_l3x_head:Ann:={ env:=[(0,cP 8),(3,.cst (.row 10012 .whole)),(5,YI),(6,YI)],stk:=[[(0,.ty .str),(2,cP 2),(3,cP 3),(4,cP 8)],[(0,.cst (.tup [(.fn 47 []),(.ptr 3 0 [])]))],[(0,.cst (.tup [(.fn 67 [(.ptr 3 0 []),(.ptr 2 0 [])])]))]],bxs:=[(8,.var [.ty .str,YI]),(10012,.row yI false),(2,.var [.cst .nils]),(3,.var [YI])] }
def f68_l3x_outs:List (Ex × Ann):=[((.exit 0),{ env:=[(3,.cst (.row 10012 .whole))],stk:=[[(0,.ty .str),(2,cP 2),(3,cP 3),(4,cP 8)],[(0,.cst (.tup [(.fn 47 []),(.ptr 3 0 [])]))],[(0,.cst (.tup [(.fn 67 [(.ptr 3 0 []),(.ptr 2 0 [])])]))]],bxs:=[(10012,.row yI false),(2,.var [.cst .nils]),(3,.var [YI]),(8,.var [.ty .str,YI])] }),((.pan ⟨130,.emp⟩),{ env:=[],stk:=[[(0,.ty .str),(2,cP 2),(3,cP 3),(4,cP 8)],[(0,.cst (.tup [(.fn 47 []),(.ptr 3 0 [])]))],[(0,.cst (.tup [(.fn 67 [(.ptr 3 0 []),(.ptr 2 0 [])])]))]],bxs:=[(2,.var [.cst .nils]),(3,.var [YI]),(8,.var [.ty .str,YI])] })]
def f68_l3x (t5:Int) (k0t0:ByteArray) (b8g0:ByteArray) (b3g0:Int):Nat→Int→Int→(List Int)→Option (outDen f68_l3x_outs)
 | 0,_,_,_=>none
 | k + 1,t6,b8g1,r10012 =>
 bif (decide (t6 < t5)) then
 (f90 b8g0 b8g1).bind fun y2 =>
 bif (decide (y2.2.2.1 = (0:Int))) then
 let v3:Bool:=(decide (y2.1 ≥ (-1152921504606846976:Int)))
 bif v3 then
 let v4:Bool:=(decide (y2.1≤(1152921504606846976:Int)))
 bif (!v4) then
 some (.inr ((),((k0t0,()),(),(),()),((),(b3g0,()),(b8g0,b8g1,()),())))
 else
 bif (decide (r10012.length + ([y2.1]:List Int).length≤appLim)) then f68_l3x t5 k0t0 b8g0 b3g0 k (IntKind.wrap .i64 (t6 + 1)) y2.2.1 (r10012++([y2.1]:List Int)) else none
 else
 some (.inr ((),((k0t0,()),(),(),()),((),(b3g0,()),(b8g0,b8g1,()),())))
 else
 some (.inr ((),((k0t0,()),(),(),()),((),(b3g0,()),(b8g0,b8g1,()),())))
 else
 some (.inl ((),((k0t0,()),(),(),()),(r10012,(),(b3g0,()),(b8g0,b8g1,()),())))
def f68_l3x_n (n:Nat) (x:f68_l3x_head.den):=f68_l3x x.1.1 x.2.1.1.1 x.2.2.1.1 x.2.2.2.2.2.1.1 n x.1.2.1 x.2.2.1.2.1 x.2.2.2.1
def f68_l3x_spec:LSpec:={ thaws:=[.slot 3 10012 yI],head:=f68_l3x_head,outs:=f68_l3x_outs,fn:=fun x=>f68_l3x_n ((x.1.1 - x.1.2.1).toNat + 1) x }
def f28 (a0:ByteArray):Option ((List Int) × Int × Unit) :=
 (f90 a0 0).bind fun y1 =>
 bif (decide (y1.2.2.1 = (0:Int))) then
 bif (decide (y1.1 ≥ (0:Int))) then
 bif (!(decide (y1.1≤(64:Int)))) then
 some ([],(160:Int),())
 else
 (f68_l3x y1.1 a0 a0 0 ((y1.1 - (0:Int)).toNat + 1) (0:Int) y1.2.1 []).bind fun o5 =>
 Sum.elim (fun o6 =>
 let u8:ByteArray:=o6.2.1.1.1
 let u9:(List Int):=o6.2.2.1
 let u12:Int:=o6.2.2.2.2.2.1.2.1
 bif (!(decide (u12 = (u8.size:Int)))) then
 some ([],(160:Int),())
 else
 some (u9,(0:Int),())) (fun o7 =>
 some ([],(160:Int),())) o5
 else
 some ([],(160:Int),())
 else
 some ([],(160:Int),())
def f28_spec:PSpec:={ args:=[.str],res:=[(.sl yI),yI],fn:=fun x=>f28 x.1 }
noncomputable def f28_code:Code:=Tryz.f28.body.getD .skip
noncomputable def f28_code_68:Code:=Tryz.f68.body.getD .skip
noncomputable def f28_env:Env0:={ C:=cfgF,P:=[(90,f90_spec)],L:=[(⟨11,10000,68,3⟩,f68_l3x_spec)],F:=[(28,Tryz.f28),(47,Tryz.f47),(48,Tryz.f48),(67,Tryz.f67),(68,Tryz.f68),(71,Tryz.f71)] }
theorem f68_l3x_ok:LoopOK f28_env 11 68 10000 (loopAt f28_code_68 3) f68_l3x_spec :=
 loopOK_of (by kernel_rfl) f68_l3x_n (fun x o h=>⟨_,h⟩) (fun x=>by kernel_rfl) (fun n x=>by kernel_rfl)
theorem f28_run:zR f28_env 28 Tryz.f28 f28_code f28_spec:=by intro x; kernel_rfl
theorem f28_enter:zQ 28:=zN Tryz.func28
theorem f28_envOK:zE f28_env:=zO cfgF_ok ⟨⟨f90_pure,f90_enter⟩,trivial⟩ trivial ⟨zK Tryz.func28,zK Tryz.func47,zK Tryz.func48,zK Tryz.func67,zK Tryz.func68,zK Tryz.func71,trivial⟩ ⟨⟨Tryz.f68,f28_code_68,rfl,rfl,f68_l3x_ok⟩,trivial⟩
theorem f28_pure:zU 28 f28_spec:=zP f28_envOK Tryz.f28 f28_code f28_run
def f69 (a0:(Bool × ((List Int) × Unit))):Option (ByteArray × Unit) :=
 bif (!a0.1) then
 (f66 ([(0:Int)]:List Int)).bind fun y1 =>
 some (y1.1,())
 else
 (f27 a0.2.1).bind fun y2 =>
 (f66 ([(1:Int)]:List Int)).bind fun y3 =>
 bif (catOk y3.1 y2.1) then some ((y3.1++y2.1),()) else none
def f69_spec:PSpec:={ args:=[(.pair .bool (.pair (.sl yI) .unit))],res:=[.str],fn:=fun x=>f69 x.1 }
noncomputable def f69_code:Code:=Tryz.f69.body.getD .skip
noncomputable def f69_env:Env0:={ C:=cfgF,P:=[(27,f27_spec),(66,f66_spec)],L:=[],F:=[(69,Tryz.f69)] }
theorem f69_run:zR f69_env 69 Tryz.f69 f69_code f69_spec:=by intro x; kernel_rfl
theorem f69_enter:zQ 69:=zN Tryz.func69
theorem f69_envOK:zE f69_env:=zO cfgF_ok ⟨⟨f27_pure,f27_enter⟩,⟨f66_pure,f66_enter⟩,trivial⟩ trivial ⟨zK Tryz.func69,trivial⟩ trivial
theorem f69_pure:zU 69 f69_spec:=zP f69_envOK Tryz.f69 f69_code f69_run
def f29_l5_head:Ann:={ env:=[(4,.ty .str),(16,.ty (.sl yR)),(17,YI),(18,YI)] }
def f29_l5_outs:List (Ex × Ann):=[((.exit 0),{ env:=[(4,.ty .str)] })]
def f29_l5 (t16:(List Yr)) (t17:Int):Nat→ByteArray→Int→Option (outDen f29_l5_outs)
 | 0,_,_=>none
 | k + 1,t4,t18 =>
 bif (decide (t18 < t17)) then
 bif (inR t18 t16.length) then
 let v3:Int:=(at_ yR t16 t18).1
 let v4:Int:=(at_ yR t16 t18).2.1
 (f66 ([v3,v4]:List Int)).bind fun y5 =>
 (f52 (at_ yR t16 t18)).bind fun y6 =>
 (f69 y6.1).bind fun y7 =>
 bif (catOk y5.1 y7.1) then
 (f53 (at_ yR t16 t18)).bind fun y8 =>
 (f69 y8.1).bind fun y9 =>
 bif (catOk (y5.1++y7.1) y9.1) then bif (catOk t4 ((y5.1++y7.1)++y9.1)) then f29_l5 t16 t17 k (t4++((y5.1++y7.1)++y9.1)) (IntKind.wrap .i64 (t18 + 1)) else none else none
 else none
 else none
 else
 some ((t4,()),(),())
def f29_l5_n (n:Nat) (x:f29_l5_head.den):=f29_l5 x.1.2.1 x.1.2.2.1 n x.1.1 x.1.2.2.2.1
def f29_l5_spec:LSpec:={ head:=f29_l5_head,outs:=f29_l5_outs,fn:=fun x=>f29_l5_n ((x.1.2.2.1 - x.1.2.2.2.1).toNat + 1) x }
def f29 (a0:((List Yr) × Unit)):Option (ByteArray × Int × Unit) :=
 (f19 a0).bind fun y1 =>
 bif (!y1.1) then
 some ((⟨#[]⟩:ByteArray),(160:Int),())
 else
 (f66 ([(a0.1.length:Int)]:List Int)).bind fun y2 =>
 (f29_l5 a0.1 (a0.1.length:Int) (((a0.1.length:Int) - (0:Int)).toNat + 1) y2.1 (0:Int)).bind fun o10 =>
 let u11:ByteArray:=o10.1.1
 some (u11,(0:Int),())
def f29_spec:PSpec:={ args:=[(.pair (.sl yR) .unit)],res:=[.str,yI],fn:=fun x=>f29 x.1 }
noncomputable def f29_code:Code:=Tryz.f29.body.getD .skip
noncomputable def f29_env:Env0:={ C:=cfgF,P:=[(19,f19_spec),(52,f52_spec),(53,f53_spec),(66,f66_spec),(69,f69_spec)],L:=[(⟨12,0,29,5⟩,f29_l5_spec)],F:=[(29,Tryz.f29)] }
theorem f29_l5_ok:LoopOK f29_env 12 29 0 (loopAt f29_code 5) f29_l5_spec :=
 loopOK_of (by kernel_rfl) f29_l5_n (fun x o h=>⟨_,h⟩) (fun x=>by kernel_rfl) (fun n x=>by kernel_rfl)
theorem f29_run:zR f29_env 29 Tryz.f29 f29_code f29_spec:=by intro x; kernel_rfl
theorem f29_enter:zQ 29:=zN Tryz.func29
theorem f29_envOK:zE f29_env:=zO cfgF_ok ⟨⟨f19_pure,f19_enter⟩,⟨f52_pure,f52_enter⟩,⟨f53_pure,f53_enter⟩,⟨f66_pure,f66_enter⟩,⟨f69_pure,f69_enter⟩,trivial⟩ trivial ⟨zK Tryz.func29,trivial⟩ ⟨⟨Tryz.f29,f29_code,rfl,rfl,f29_l5_ok⟩,trivial⟩
theorem f29_pure:zU 29 f29_spec:=zP f29_envOK Tryz.f29 f29_code f29_run
def f73_l5_head:Ann:={ env:=[(6,.cst (.row 43 .whole)),(25,.ty (.sl yN)),(26,YI),(27,YI)],bxs:=[(43,.row yE false)] }
def f73_l5_outs:List (Ex × Ann):=[((.exit 0),{ env:=[(6,.cst (.row 43 .whole))],bxs:=[(43,.row yE false)] })]
def f73_l5 (t25:(List Yn)) (t26:Int):Nat→Int→(List Ye)→Option (outDen f73_l5_outs)
 | 0,_,_=>none
 | k + 1,t27,r43 =>
 bif (decide (t27 < t26)) then
 bif (inR t27 t25.length) then
 let v3:(List Int):=(at_ yN t25 t27).2.1
 (f27 v3).bind fun y4 =>
 let v5:Int:=(at_ yN t25 t27).1
 bif (decide (r43.length + ([(v5,(y4.1,()))]:List Ye).length≤appLim)) then f73_l5 t25 t26 k (IntKind.wrap .i64 (t27 + 1)) (r43++([(v5,(y4.1,()))]:List Ye)) else none
 else none
 else
 some ((),(),(r43,()))
def f73_l5_n (n:Nat) (x:f73_l5_head.den):=f73_l5 x.1.1 x.1.2.1 n x.1.2.2.1 x.2.2.1
def f73_l5_spec:LSpec:={ thaws:=[.slot 6 43 yE],head:=f73_l5_head,outs:=f73_l5_outs,fn:=fun x=>f73_l5_n ((x.1.2.1 - x.1.2.2.1).toNat + 1) x }
def f73 (a0:Yc) (a1:Int):Option ((List Ye) × Int × Unit) :=
 (f35 a0).bind fun y1 =>
 bif (!y1.1) then
 some ([],(160:Int),())
 else
 bif (decide (a1 < (1:Int))) then
 some ([],(160:Int),())
 else
 bif (decide (a1 > (7:Int))) then
 some ([],(160:Int),())
 else
 bif (inR a1 8) then
 let v2:(List Yn):=(at_ (.sl yN) a0.1 a1)
 (f73_l5 v2 (v2.length:Int) (((v2.length:Int) - (0:Int)).toNat + 1) (0:Int) []).bind fun o6 =>
 let u7:(List Ye):=o6.2.2.1
 some (u7,(0:Int),())
 else none
def f73_spec:PSpec:={ args:=[yC,yI],res:=[(.sl yE),yI],fn:=fun x=>f73 x.1 x.2.1 }
noncomputable def f73_code:Code:=Tryz.f73.body.getD .skip
noncomputable def f73_env:Env0:={ C:=cfgF,P:=[(27,f27_spec),(35,f35_spec)],L:=[(⟨12,0,73,5⟩,f73_l5_spec)],F:=[(73,Tryz.f73)] }
theorem f73_l5_ok:LoopOK f73_env 12 73 0 (loopAt f73_code 5) f73_l5_spec :=
 loopOK_of (by kernel_rfl) f73_l5_n (fun x o h=>⟨_,h⟩) (fun x=>by kernel_rfl) (fun n x=>by kernel_rfl)
theorem f73_run:zR f73_env 73 Tryz.f73 f73_code f73_spec:=by intro x; kernel_rfl
theorem f73_enter:zQ 73:=zN Tryz.func73
theorem f73_envOK:zE f73_env:=zO cfgF_ok ⟨⟨f27_pure,f27_enter⟩,⟨f35_pure,f35_enter⟩,trivial⟩ trivial ⟨zK Tryz.func73,trivial⟩ ⟨⟨Tryz.f73,f73_code,rfl,rfl,f73_l5_ok⟩,trivial⟩
theorem f73_pure:zU 73 f73_spec:=zP f73_envOK Tryz.f73 f73_code f73_run
def f31_l5_head:Ann:={ env:=[(1,cP 1),(2,cP 2),(4,cP 4),(5,YI)],bxs:=[(1,.var [.ty (.arr 8 (.sl yN))]),(2,.var [.ty (.arr 8 .str)]),(4,.var [.ty (.arr 8 .str)])] }
def f31_l5_outs:List (Ex × Ann):=[((.exit 0),{ env:=[(2,cP 2),(4,cP 4)],bxs:=[(2,.var [.ty (.arr 8 .str)]),(4,.var [.ty (.arr 8 .str)])] })]
def f31_l5 (b1g0:(List (List Yn))) (b2g0:(List ByteArray)):Nat→Int→(List ByteArray)→Option (outDen f31_l5_outs)
 | 0,_,_=>none
 | k + 1,t5,b4g0 =>
 bif (decide (t5≤(7:Int))) then
 (f73 (b1g0,()) t5).bind fun y2 =>
 (f74 y2.1).bind fun y3 =>
 bif (inR t5 8) then f31_l5 b1g0 b2g0 k (IntKind.wrap .i64 (t5 + 1)) (b4g0.set (Int.toNat t5) y3.1) else none
 else
 some ((),(),((b2g0,()),(b4g0,()),()))
def f31_l5_n (n:Nat) (x:f31_l5_head.den):=f31_l5 x.2.2.1.1 x.2.2.2.1.1 n x.1.1 x.2.2.2.2.1.1
def f31_l5_spec:LSpec:={ head:=f31_l5_head,outs:=f31_l5_outs,fn:=fun x=>f31_l5_n (((8:Int) - x.1.1).toNat + 1) x }
def f31 (a0:Yc):Option ((List ByteArray) × Int × Unit) :=
 (f35 a0).bind fun y1 =>
 bif (!y1.1) then
 some ((List.replicate 8 (⟨#[]⟩:ByteArray)),(160:Int),())
 else
 (f31_l5 a0.1 (List.replicate 8 (⟨#[]⟩:ByteArray)) (((8:Int) - (1:Int)).toNat + 1) (1:Int) (List.replicate 8 (⟨#[]⟩:ByteArray))).bind fun o4 =>
 let u6:(List ByteArray):=o4.2.2.2.1.1
 some (u6,(0:Int),())
def f31_spec:PSpec:={ args:=[yC],res:=[(.arr 8 .str),yI],fn:=fun x=>f31 x.1 }
noncomputable def f31_code:Code:=Tryz.f31.body.getD .skip
noncomputable def f31_env:Env0:={ C:=cfgF,P:=[(35,f35_spec),(73,f73_spec),(74,f74_spec)],L:=[(⟨12,0,31,5⟩,f31_l5_spec)],F:=[(31,Tryz.f31)] }
theorem f31_l5_ok:LoopOK f31_env 12 31 0 (loopAt f31_code 5) f31_l5_spec :=
 loopOK_of (by kernel_rfl) f31_l5_n (fun x o h=>⟨_,h⟩) (fun x=>by kernel_rfl) (fun n x=>by kernel_rfl)
theorem f31_run:zR f31_env 31 Tryz.f31 f31_code f31_spec:=by intro x; kernel_rfl
theorem f31_enter:zQ 31:=zN Tryz.func31
theorem f31_envOK:zE f31_env:=zO cfgF_ok ⟨⟨f35_pure,f35_enter⟩,⟨f73_pure,f73_enter⟩,⟨f74_pure,f74_enter⟩,trivial⟩ trivial ⟨zK Tryz.func31,trivial⟩ ⟨⟨Tryz.f31,f31_code,rfl,rfl,f31_l5_ok⟩,trivial⟩
theorem f31_pure:zU 31 f31_spec:=zP f31_envOK Tryz.f31 f31_code f31_run
end
end Go.V.G
namespace Go.V
def tysDeq:(l:List Ty)→tysDen l→tysDen l→Bool
 | [],_,_=>true
 | T :: l,x,y=>T.deq x.1 y.1 && tysDeq l x.2 y.2
theorem tysDeq_eq:∀ {l:List Ty} {x y:tysDen l},tysDeq l x y = true→x = y
 | [],_,_,_=>rfl
 | T :: l,x,y,h=>by
  simp only [tysDeq,Bool.and_eq_true] at h
  exact Prod.ext (Ty.deq_eq T _ _ h.1) (tysDeq_eq h.2)
end Go.V
namespace Go.Proofs
open Go.Shelf
def Tryz.lays156_ren:Go.Shelf.Ren:=⟨fun | 156=>159 | 165=>232 | 166=>88 | 169=>89 | 240=>102 | 241=>293 | 276=>120 | 277=>328 | n=>n,fun | 31=>123 | 9=>9 | 3=>3 | 4=>4 | 0=>0 | 20=>20 | 72=>136 | 76=>140 | 70=>134 | 37=>124 | 75=>139 | 127=>168 | 164=>192 | 5=>5 | 80=>77 | n=>n,fun | n=>n⟩
theorem Tryz.lays156:Go.Proofs.Lays.n156 Tryz.prog Tryz.lays156_ren:={
 mixed:=by kernel_rfl,
 f156:=Tryz.func159.trans (congrArg some (by kernel_rfl)),
 f165:=Tryz.func232.trans (congrArg some (by kernel_rfl)),
 f166:=Tryz.func88.trans (congrArg some (by kernel_rfl)),
 f169:=Tryz.func89.trans (congrArg some (by kernel_rfl)),
 f240:=Tryz.func102.trans (congrArg some (by kernel_rfl)),
 f241:=Tryz.func293.trans (congrArg some (by kernel_rfl)),
 f276:=Tryz.func120.trans (congrArg some (by kernel_rfl)),
 f277:=Tryz.func328.trans (congrArg some (by kernel_rfl)),
 t0:=Tryz.underlying0,
 a0:=Tryz.isAgg0,
 z0:=Tryz.sizeOf0,
 v0:=Tryz.zeroValue0,
 t3:=Tryz.underlying3,
 a3:=Tryz.isAgg3,
 z3:=Tryz.sizeOf3,
 v3:=Tryz.zeroValue3,
 t4:=Tryz.underlying4,
 a4:=Tryz.isAgg4,
 z4:=Tryz.sizeOf4,
 v4:=Tryz.zeroValue4,
 t9:=Tryz.underlying9,
 a9:=Tryz.isAgg9,
 z9:=Tryz.sizeOf9,
 v9:=Tryz.zeroValue9,
 t20:=Tryz.underlying20,
 a20:=Tryz.isAgg20,
 z20:=Tryz.sizeOf20,
 v20:=Tryz.zeroValue20,
 t31:=Tryz.underlying123,
 a31:=Tryz.isAgg123,
 z31:=Tryz.sizeOf123,
 v31:=Tryz.zeroValue123,
 t37:=Tryz.underlying124,
 a37:=Tryz.isAgg124,
 z37:=Tryz.sizeOf124,
 v37:=Tryz.zeroValue124,
 t70:=Tryz.underlying134,
 a70:=Tryz.isAgg134,
 z70:=Tryz.sizeOf134,
 v70:=Tryz.zeroValue134,
 t72:=Tryz.underlying136,
 a72:=Tryz.isAgg136,
 z72:=Tryz.sizeOf136,
 v72:=Tryz.zeroValue136,
 t75:=Tryz.underlying139,
 a75:=Tryz.isAgg139,
 z75:=Tryz.sizeOf139,
 v75:=Tryz.zeroValue139,
 t76:=Tryz.underlying140,
 a76:=Tryz.isAgg140,
 z76:=Tryz.sizeOf140,
 v76:=Tryz.zeroValue140,
 t127:=Tryz.underlying168,
 a127:=Tryz.isAgg168,
 z127:=Tryz.sizeOf168,
 v127:=Tryz.zeroValue168,
 t164:=Tryz.underlying192,
 a164:=Tryz.isAgg192,
 z164:=Tryz.sizeOf192,
 v164:=Tryz.zeroValue192 }
theorem Tryz.builderExtra156:Builder.Extra Tryz.prog Tryz.lays156_ren where
 sizeBuilder:=by kernel_rfl
 liesBuilder:=by kernel_rfl
 t5:=Tryz.underlying5
 a5:=Tryz.isAgg5
 z5:=Tryz.sizeOf5
 v5:=Tryz.zeroValue5
 infoByte:=by kernel_rfl
 cellsByte:=by kernel_rfl
 sizeByte:=by kernel_rfl
 neB5:=by decide
theorem Tryz.strings_Join (bk o c:Nat) (xs:List ByteArray) (sep:ByteArray) (w:World) (hcells:∀ (j:Nat) x,xs[j]? = some x→w.cell? ⟨bk,o + j,none⟩ = some (.string x)) (hbk:bk < w.heap.size) (hN:xs.length≤140737488355328) (hcap:xs.length≤c) (hlen:(Lib.join (xs.map (·.data.toList)) sep.data.toList).length≤140737488355328) :
  Calls Tryz.prog 159 #[.slice (some ⟨bk,o,none⟩) xs.length c,.string sep] w fun e w'=>e = .returned (.string ⟨(Lib.join (xs.map (·.data.toList)) sep.data.toList).toArray⟩)∧RowKit.Below w.heap.size w w':=Any.strings_Join Tryz.lays156 Tryz.builderExtra156 bk o c xs sep w hcells hbk hN hcap hlen
theorem Tryz.strings_Join_none (a:Option Addr) (c:Nat) (sep:ByteArray) (w:World) :
  Calls Tryz.prog 159 #[.slice a 0 c,.string sep] w fun e w'=>e = .returned (.string ⟨#[]⟩)∧w' = w:=Any.strings_Join_none Tryz.lays156 Tryz.builderExtra156 a c sep w
end Go.Proofs
namespace Go.V.G
open Go.Proofs
def joinS (l:List ByteArray) (sep:ByteArray):ByteArray:=⟨(Lib.join (l.map (·.data.toList)) sep.data.toList).toArray⟩
def f159 (a0:List ByteArray) (a1:ByteArray):Option (ByteArray × Unit):=bif Nat.ble a0.length 100 && Nat.ble (Lib.join (a0.map (·.data.toList)) a1.data.toList).length 100000 then some (joinS a0 a1,()) else none
def f159_spec:PSpec:={ args:=[.sl .str,.str],res:=[.str],fn:=fun x=>f159 x.1 x.2.1 }
theorem elems_str_get {fz:Nat→Nat→Option Value}:∀ {l:List ByteArray} {cs:List Value},Elems (CR fz .str) l cs→∀ (j:Nat) (x:ByteArray),l[j]? = some x→cs[j]? = some (Value.string x)
 | [],_,_,j,x,h=>by simp at h
 | y :: l,cs,⟨c1,c2,e,h1,h2⟩,j,x,h=>by
  have h1':c1 = [Value.string y]:=h1
  subst h1'
  subst e
  cases j with
  | zero=>simp at h; simp [h]
  | succ j=>simpa using elems_str_get h2 j x (by simpa using h)
theorem f159_pure:PureOK Go.Proofs.Tryz.prog cfg 159 f159_spec:=by
 intro fz w args x y hG hf ha hy
 obtain ⟨l,sep,u⟩:=x
 obtain ⟨s,u'⟩:=y
 change f159 l sep = some (s,u') at hy
 unfold f159 at hy
 cases hcd:(Nat.ble (List.length (α:=ByteArray) l) 100 && Nat.ble (Lib.join (List.map (fun x:ByteArray=>x.data.toList) l) (show ByteArray from sep).data.toList).length 100000) with
 | false=>rw [hcd] at hy; cases hy
 | true =>
  rw [hcd,cond_true] at hy
  simp only [Option.some.injEq,Prod.mk.injEq] at hy
  obtain ⟨rfl,_⟩:=hy
  rw [Bool.and_eq_true] at hcd
  have n1:=Nat.le_of_ble_eq_true hcd.1
  have n2:(Lib.join (List.map (fun x:ByteArray=>x.data.toList) l) (ByteArray.data sep).toList).length≤100000:=Nat.le_of_ble_eq_true hcd.2
  clear hcd
  obtain ⟨al⟩:=args
  have fin:∀ w',RowKit.Below w.heap.size w w'→∃ cs fz',Ending.returned (Value.string (joinS l sep)) = .returned (resVal cs)∧TVs fz' [.str] (joinS l sep,u') cs∧FzOK (.of fz') w'∧Tr (.of fz) w (.of fz') w':=by
   intro w' hb
   refine ⟨[.string (joinS l sep)],fz,rfl,⟨⟨#[.string (joinS l sep)],rfl,rfl⟩,rfl⟩,?_,⟨hb.os,hb.tape,hb.output,hb.size,fun _ _ _ h=>h,fun _ _ h=>.inl h,fun _ h=>.inl h,fun b hb' _=>hb.block b hb'⟩⟩
   intro b o v e
   have:=hf b o v e
   exact this.same (hb.block b this.lt)
  match al,ha with
  | [c,d],⟨⟨arr,e1,e2⟩,⟨arr2,g1,g2⟩,_⟩ =>
   have hd:d = .string sep:=by
    have g1':arr2.toList = [.string sep]:=g1
    rw [g2]
    show arr2.getD 0 undef = _
    rw [Array.getD_eq_getD_getElem?,← Array.getElem?_toList,g1']
    rfl
   subst hd
   obtain ⟨v,e3,hv⟩:=e1
   have hc:c = v:=by
    rw [e2]
    show arr.getD 0 undef = v
    rw [Array.getD_eq_getD_getElem?,← Array.getElem?_toList,e3]
    rfl
   subst hc
   rcases hv with ⟨h0,a0,hc⟩ | ⟨blk,off,cap,cs,hc,h1,h2,h3⟩
   ·have h0':l = []:=h0
    subst h0'
    subst hc
    refine Calls.mono (Tryz.strings_Join_none a0 0 sep w) ?_
    rintro e w' ⟨rfl,rfl⟩
    exact fin w' (RowKit.Below.refl _ _)
   ·subst hc
    by_cases hn:List.length (α:=ByteArray) l = 0
    ·have h0':l = []:=List.eq_nil_of_length_eq_zero hn
     subst h0'
     refine Calls.mono (Tryz.strings_Join_none _ cap sep w) ?_
     rintro e w' ⟨rfl,rfl⟩
     exact fin w' (RowKit.Below.refl _ _)
    ·have hcell:∀ (j:Nat) (x:ByteArray),(show List ByteArray from l)[j]? = some x→w.cell? ⟨blk,off + j,none⟩ = some (.string x):=fun j x hx=>(hf _ _ _ (h3 j _ (elems_str_get h2 j x hx))).cell rfl
     have hlt:blk < w.heap.size:=by
      cases l with
      | nil=>exact absurd rfl hn
      | cons x l=>exact (hf _ _ _ (h3 0 _ (elems_str_get h2 0 x rfl))).lt
     refine Calls.mono (Tryz.strings_Join blk off cap l sep w hcell hlt (by omega) h1 (by omega)) ?_
     rintro e w' ⟨rfl,hb⟩
     exact fin w' hb
theorem f159_enter:Enterable Go.Proofs.Tryz.prog 159:=enter_fun Go.Proofs.Tryz.func159 (by kernel_rfl)
end Go.V.G
namespace Go.Proofs
open Go.RowKit Go.V Go.V.G
set_option maxHeartbeats 4000000 in
set_option maxRecDepth 1000000 in
theorem ints_walk157 {fz:Nat→Nat→Option Value} (hG:GlobOK cfg fz) (l:List Int) (base:Option Addr) (cap:Nat) (w:World) (hf:FzOK (.of fz) w) (hl:l.length≤1000) (s:ByteArray) (hs:intsGo l = some s)
  (hb:∀ j (_:j < l.length),∃ blk off,base = some ⟨blk,off,none⟩∧blk < w.heap.size∧w.cell? ⟨blk,off + j,none⟩ = some (.int .i64 l[j])) :
  Calls Tryz.prog 157 #[.slice base l.length cap] w fun e w'=>e = .returned (.string s)∧Below w.heap.size w w':=by
 have hff:∀ wr,Below w.heap.size w wr→FzOK (.of fz) wr:=by
  intro wr hbw b o v e
  have:=hf b o v e
  exact this.same (hbw.block b this.lt)
 go_enter Tryz.func157,Tryz.ntmps157
 go_wp2
 go_loopw [10] (fun i wr=>∃ (k:Nat) (acc:List UInt8),k≤l.length∧i = .int .i64 k∧Lib.IsBuilderF 136 5 w.heap.size w.heap.size (Lib.byteCells acc) wr∧Below w.heap.size w wr∧acc.length≤100 * k∧∃ r,intsGo (l.drop k) = some r∧acc++r.data.toList = s.data.toList) (fun i _=>l.length - (intOf i).toNat)
 case atStart =>
  exact ⟨0,[],Nat.zero_le _,rfl,Lib.IsBuilderF.of (Lib.fresh_isBuilder 136 5 w),(Below.refl _ w).alloc (Nat.le_refl _) _,by simp,s,by simpa using hs,by simp⟩
 case round =>
  obtain ⟨k,acc,hk,rfl,hI,hbw,hal,r,hr,hac⟩:=hrel
  have hsz:=hbw.size
  by_cases hlt:k < l.length
  ·obtain ⟨blk,off,rfl,hblk,hcell⟩:=hb k hlt
   have hcr:wr.cell? ⟨blk,off + k,none⟩ = some (.int .i64 l[k]):=by
    rw [← hcell]
    simp only [World.cell?,hbw.block blk hblk]
   rw [List.drop_eq_getElem_cons hlt] at hr
   simp only [intsGo,Option.bind_eq_some_iff] at hr
   obtain ⟨y,hy,hr⟩:=hr
   cases h100:decide (y.1.size≤100) with
   | false=>rw [h100] at hr; cases hr
   | true =>
    rw [h100,cond_true,Option.bind_eq_some_iff] at hr
    obtain ⟨r',hr',hrr⟩:=hr
    have h100':=of_decide_eq_true h100
    go_wp2_with (go_at_call 87; refine (putInt_calls hG (hff _ hbw) hy).mono ?_)
    rintro e W1 ⟨rfl,b1⟩
    have hI1:=builder_below hI b1
    have hbw1:Below w.heap.size w W1:=hbw.trans ⟨b1.os,b1.tape,b1.output,b1.size,fun k hk=>b1.block k (by omega)⟩
    have hsz1:=hbw1.size
    have hlen:(Lib.byteCells acc).length + y.1.size≤140737488355328:=by rw [byteCells_len]; omega
    go_wp2_with (go_at_call 88; refine (Tryz.Builder_WriteString w.heap.size w.heap.size _ y.1 _ hI1 hlen hsz1).mono ?_)
    rintro e W2 ⟨rfl,h1,b2,_⟩
    go_wp2
    go_roundw
    case rel =>
     have hwrap:IntKind.i64.wrap ((k:Int) + 1) = ((k + 1:Nat):Int):=by simp [IntKind.wrap,IntKind.bits,IntKind.signed] <;> omega
     refine ⟨k + 1,acc++y.1.data.toList,by omega,by first | (rw [hwrap]; done) | (simp only [hwrap]; done) | (simp <;> omega),?_,hbw1.trans b2,?_,r',hr',?_⟩
     ·rw [byteCells_app,← strCells_bytes]; exact Or.inr h1
     ·have:y.1.data.toList.length = y.1.size:=rfl
      rw [List.length_append,this]; omega
     ·simp only [Option.some.injEq] at hrr
      rw [← hac,← hrr]
      simp
    case measure =>
     simp [intOf]; omega
  ·go_wp2_with (go_at_call 89; refine (Tryz.Builder_String w.heap.size w.heap.size acc _ hI (by omega)).mono ?_)
   rintro e W1 ⟨rfl,_,b1,_⟩
   go_wp2
   go_ret
   have hk':k = l.length:=by omega
   subst hk'
   rw [List.drop_length] at hr
   simp only [intsGo,Option.some.injEq] at hr
   subst hr
   simp only [List.append_nil] at hac
   exact ⟨by rw [hac]; simp,hbw.trans b1⟩
end Go.Proofs
namespace Go.V.G
open Go.Proofs
def f157 (a0:List Int):Option (ByteArray × Unit):=bif decide (a0.length≤1000) then (intsGo a0).bind fun r=>some (r,()) else none
def f157_spec:PSpec:={ args:=[.sl (.int .i64)],res:=[.str],fn:=fun x=>f157 x.1 }
theorem f157_pure:PureOK Go.Proofs.Tryz.prog cfg 157 f157_spec:=by
 intro fz w args x y hG hf ha hy
 obtain ⟨l,u⟩:=x
 obtain ⟨s,u'⟩:=y
 change f157 l = some (s,u') at hy
 unfold f157 at hy
 cases hl:decide (List.length (α:=Int) l≤1000) with
 | false=>rw [hl] at hy; cases hy
 | true =>
  rw [hl,cond_true,Option.bind_eq_some_iff] at hy
  obtain ⟨s',hs,e⟩:=hy
  simp only [Option.some.injEq,Prod.mk.injEq] at e
  obtain ⟨rfl,_⟩:=e
  obtain ⟨al⟩:=args
  match al,ha with
  | [c],⟨⟨arr,e1,e2⟩,_⟩ =>
   obtain ⟨v,e3,hv⟩:=e1
   have hc:c = v:=by
    rw [e2]
    show arr.getD 0 undef = v
    rw [Array.getD_eq_getD_getElem?,← Array.getElem?_toList,e3]
    rfl
   subst hc
   have fin:∀ base cap,c = .slice base (List.length (α:=Int) l) cap→(∀ j (_:j < List.length (α:=Int) l),∃ blk off,base = some ⟨blk,off,none⟩∧blk < w.heap.size∧w.cell? ⟨blk,off + j,none⟩ = some (.int .i64 (l[j]:Int))) →
     Calls Go.Proofs.Tryz.prog 157 #[c] w fun e w'=>∃ cs fz',e = .returned (resVal cs)∧TVs fz' [.str] (s',u') cs∧FzOK (.of fz') w'∧Tr (.of fz) w (.of fz') w':=by
    intro base cap hc hb
    subst hc
    refine Calls.mono (ints_walk157 hG l base cap w hf (of_decide_eq_true hl) s' hs hb) ?_
    rintro e w' ⟨rfl,hb⟩
    refine ⟨[.string s'],fz,rfl,⟨⟨#[.string s'],rfl,rfl⟩,rfl⟩,?_,⟨hb.os,hb.tape,hb.output,hb.size,fun _ _ _ h=>h,fun _ _ h=>.inl h,fun _ h=>.inl h,fun b hb' _=>hb.block b hb'⟩⟩
    intro b o v e
    have:=hf b o v e
    exact this.same (hb.block b this.lt)
   rcases hv with ⟨rfl,a0,rfl⟩ | ⟨blk,off,cap,cs,rfl,h1,h2,h3⟩
   ·exact fin a0 0 rfl (fun j h=>by simp at h)
   ·refine fin _ cap rfl (fun j h=>⟨blk,off,rfl,?_,(hf _ _ _ (h3 j _ (elems_int_get h2 j h))).cell rfl⟩)
    exact (hf _ _ _ (h3 j _ (elems_int_get h2 j h))).lt
theorem f157_enter:Enterable Go.Proofs.Tryz.prog 157:=enter_fun Go.Proofs.Tryz.func157 (by kernel_rfl)
end Go.V.G
namespace Go.V.G
open Go.Proofs
def q192 (a0:Int) (a1:Int):Option (Int × Unit) :=
 bif (decide (0≤a1)) then
  bif (decide (0≤(IntKind.wrap .i64 ((32:Int) - a1)))) then
   let v1:Int:=(shlV .u32 a0 (IntKind.wrap .i64 ((32:Int) - a1)))
   some ((orV .u32 (shrV .u32 a0 a1) v1),())
  else none
 else none
def q193 :Option ((List Int) × Unit) :=
 some (([(1116352408:Int),(1899447441:Int),(3049323471:Int),(3921009573:Int),(961987163:Int),(1508970993:Int),(2453635748:Int),(2870763221:Int),(3624381080:Int),(310598401:Int),(607225278:Int),(1426881987:Int),(1925078388:Int),(2162078206:Int),(2614888103:Int),(3248222580:Int),(3835390401:Int),(4022224774:Int),(264347078:Int),(604807628:Int),(770255983:Int),(1249150122:Int),(1555081692:Int),(1996064986:Int),(2554220882:Int),(2821834349:Int),(2952996808:Int),(3210313671:Int),(3336571891:Int),(3584528711:Int),(113926993:Int),(338241895:Int),(666307205:Int),(773529912:Int),(1294757372:Int),(1396182291:Int),(1695183700:Int),(1986661051:Int),(2177026350:Int),(2456956037:Int),(2730485921:Int),(2820302411:Int),(3259730800:Int),(3345764771:Int),(3516065817:Int),(3600352804:Int),(4094571909:Int),(275423344:Int),(430227734:Int),(506948616:Int),(659060556:Int),(883997877:Int),(958139571:Int),(1322822218:Int),(1537002063:Int),(1747873779:Int),(1955562222:Int),(2024104815:Int),(2227730452:Int),(2361852424:Int),(2428436474:Int),(2756734187:Int),(3204031479:Int),(3329325298:Int)]:List Int),())
def q138_l3_outs:List (Ex × Ann):=[((.exit 0),{ env:=[(0,.ty .str),(3,.cst (.row 17 .whole))],stk:=[],bxs:=[(17,.row (.int .u8) false)] })]
def q138_l3 (t0:ByteArray):Nat→Int→(List Int)→Option (outDen q138_l3_outs)
 | 0,_,_=>none
 | k + 1,t4,r17 =>
  bif (decide (t4 < (t0.size:Int))) then
   bif (inR t4 t0.size) then bif (decide (r17.length + ([(byteAt t0 t4)]:List Int).length≤appLim)) then q138_l3 t0 k (IntKind.wrap .i64 (t4 + (1:Int))) (r17++([(byteAt t0 t4)]:List Int)) else none else none
  else
   some ((t0,()),(),(r17,()))
def q138_l7_outs:List (Ex × Ann):=[((.exit 2),{ env:=[(0,.ty .str),(3,.cst (.row 17 .whole))],stk:=[],bxs:=[(17,.row (.int .u8) false)] })]
def q138_l7 (t0:ByteArray):Nat→(List Int)→Option (outDen q138_l7_outs)
 | 0,_=>none
 | k + 1,r17 =>
  let v4:Bool:=(decide ((Int.tmod (r17.length:Int) (64:Int)) ≠ (56:Int)))
  bif v4 then
   bif (decide (r17.length + ([(0:Int)]:List Int).length≤appLim)) then q138_l7 t0 k (r17++([(0:Int)]:List Int)) else none
  else
   some ((t0,()),(),(r17,()))
def q138_l10_outs:List (Ex × Ann):=[((.exit 4),{ env:=[(3,.cst (.row 17 .whole))],stk:=[],bxs:=[(17,.row (.int .u8) false)] })]
def q138_l10 (t0:ByteArray):Nat→Int→(List Int)→Option (outDen q138_l10_outs)
 | 0,_,_=>none
 | k + 1,t5,r17 =>
  bif (decide (t5 ≥ (0:Int))) then
   let v8:Int:=(IntKind.wrap .i64 ((8:Int) * (t0.size:Int)))
   bif (decide (0≤(IntKind.wrap .i64 ((8:Int) * t5)))) then
    let v9:Int:=(shrV .i64 v8 (IntKind.wrap .i64 ((8:Int) * t5)))
    bif (decide (r17.length + ([(IntKind.wrap .u8 v9)]:List Int).length≤appLim)) then q138_l10 t0 k (IntKind.wrap .i64 (t5 - (1:Int))) (r17++([(IntKind.wrap .u8 v9)]:List Int)) else none
   else none
  else
   some ((),(),(r17,()))
def q138 (a0:ByteArray):Option ((List Int) × Unit) :=
 (q138_l3 a0 (((a0.size:Int) - (0:Int)).toNat + 1) (0:Int) []).bind fun o1 =>
 let u2:ByteArray:=o1.1.1
 let u3:(List Int):=o1.2.2.1
 bif (decide (u3.length + ([(128:Int)]:List Int).length≤appLim)) then
  (q138_l7 u2 ((64:Nat)) (u3++([(128:Int)]:List Int))).bind fun o5 =>
  let u6:ByteArray:=o5.1.1
  let u7:(List Int):=o5.2.2.1
  (q138_l10 u6 (((7:Int) + 1).toNat + 1) (7:Int) u7).bind fun o10 =>
  let u11:(List Int):=o10.2.2.1
  some (u11,())
 else none
def q139_l3_outs:List (Ex × Ann):=[((.exit 0),{ env:=[(0,.ty (.sl (.int .u32))),(5,.cst (.row 58 .whole))],stk:=[],bxs:=[(58,.row (.int .u32) false)] })]
def q139_l3 (t0:(List Int)) (t1:(List Int)):Nat→Int→(List Int)→Option (outDen q139_l3_outs)
 | 0,_,_=>none
 | k + 1,t6,r58 =>
  bif (decide (t6 < (16:Int))) then
   bif (inR (IntKind.wrap .i64 ((4:Int) * t6)) t1.length) then
    let v1:Int:=(at_ (.int .u8) t1 (IntKind.wrap .i64 ((4:Int) * t6)))
    let v2:Int:=(shlV .u32 (IntKind.wrap .u32 v1) (24:Int))
    let v3:Int:=(IntKind.wrap .i64 ((IntKind.wrap .i64 ((4:Int) * t6)) + (1:Int)))
    bif (inR v3 t1.length) then
     let v4:Int:=(IntKind.wrap .u32 (at_ (.int .u8) t1 v3))
     let v5:Int:=(IntKind.wrap .i64 ((IntKind.wrap .i64 ((4:Int) * t6)) + (2:Int)))
     bif (inR v5 t1.length) then
      let v6:Int:=(IntKind.wrap .u32 (at_ (.int .u8) t1 v5))
      let v7:Int:=(orV .u32 (orV .u32 v2 (shlV .u32 v4 (16:Int))) (shlV .u32 v6 (8:Int)))
      let v8:Int:=(IntKind.wrap .i64 ((IntKind.wrap .i64 ((4:Int) * t6)) + (3:Int)))
      bif (inR v8 t1.length) then
       let v9:Int:=(IntKind.wrap .u32 (at_ (.int .u8) t1 v8))
       bif (decide (r58.length + ([(orV .u32 v7 v9)]:List Int).length≤appLim)) then q139_l3 t0 t1 k (IntKind.wrap .i64 (t6 + (1:Int))) (r58++([(orV .u32 v7 v9)]:List Int)) else none
      else none
     else none
    else none
   else none
  else
   some ((t0,()),(),(r58,()))
def q139_l7_outs:List (Ex × Ann):=[((.exit 2),{ env:=[(0,.ty (.sl (.int .u32))),(5,.cst (.row 58 .whole))],stk:=[],bxs:=[(58,.row (.int .u32) false)] })]
def q139_l7 (t0:(List Int)):Nat→Int→(List Int)→Option (outDen q139_l7_outs)
 | 0,_,_=>none
 | k + 1,t7,r58 =>
  bif (decide (t7 < (64:Int))) then
   bif (inR (IntKind.wrap .i64 (t7 - (15:Int))) r58.length) then
    let v13:Int:=(at_ (.int .u32) r58 (IntKind.wrap .i64 (t7 - (15:Int))))
    (q192 v13 (7:Int)).bind fun y14 =>
    bif (inR (IntKind.wrap .i64 (t7 - (15:Int))) r58.length) then
     let v15:Int:=(at_ (.int .u32) r58 (IntKind.wrap .i64 (t7 - (15:Int))))
     (q192 v15 (18:Int)).bind fun y16 =>
     bif (inR (IntKind.wrap .i64 (t7 - (15:Int))) r58.length) then
      let v17:Int:=(at_ (.int .u32) r58 (IntKind.wrap .i64 (t7 - (15:Int))))
      let v18:Int:=(xorV .u32 (xorV .u32 y14.1 y16.1) (shrV .u32 v17 (3:Int)))
      bif (inR (IntKind.wrap .i64 (t7 - (2:Int))) r58.length) then
       let v19:Int:=(at_ (.int .u32) r58 (IntKind.wrap .i64 (t7 - (2:Int))))
       (q192 v19 (17:Int)).bind fun y20 =>
       bif (inR (IntKind.wrap .i64 (t7 - (2:Int))) r58.length) then
        let v21:Int:=(at_ (.int .u32) r58 (IntKind.wrap .i64 (t7 - (2:Int))))
        (q192 v21 (19:Int)).bind fun y22 =>
        bif (inR (IntKind.wrap .i64 (t7 - (2:Int))) r58.length) then
         let v23:Int:=(at_ (.int .u32) r58 (IntKind.wrap .i64 (t7 - (2:Int))))
         let v24:Int:=(xorV .u32 (xorV .u32 y20.1 y22.1) (shrV .u32 v23 (10:Int)))
         bif (inR (IntKind.wrap .i64 (t7 - (16:Int))) r58.length) then
          let v25:Int:=(at_ (.int .u32) r58 (IntKind.wrap .i64 (t7 - (16:Int))))
          bif (inR (IntKind.wrap .i64 (t7 - (7:Int))) r58.length) then
           let v26:Int:=(at_ (.int .u32) r58 (IntKind.wrap .i64 (t7 - (7:Int))))
           let v27:Int:=(IntKind.wrap .u32 ((IntKind.wrap .u32 (v25 + v18)) + v26))
           bif (decide (r58.length + ([(IntKind.wrap .u32 (v27 + v24))]:List Int).length≤appLim)) then q139_l7 t0 k (IntKind.wrap .i64 (t7 + (1:Int))) (r58++([(IntKind.wrap .u32 (v27 + v24))]:List Int)) else none
          else none
         else none
        else none
       else none
      else none
     else none
    else none
   else none
  else
   some ((t0,()),(),(r58,()))
def q139_l16_outs:List (Ex × Ann):=[((.exit 4),{ env:=[(0,.ty (.sl (.int .u32))),(11,.ty (.sl (.int .u32)))],stk:=[],bxs:=[] })]
def q139_l16 (t0:(List Int)) (t10:(List Int)) (r58:(List Int)):Nat→(List Int)→Int→Option (outDen q139_l16_outs)
 | 0,_,_=>none
 | k + 1,t11,t12 =>
  bif (decide (t12 < (64:Int))) then
   bif (inR (0:Int) t11.length) then
    bif (inR (4:Int) t11.length) then
     bif (inR (7:Int) t11.length) then
      (q192 (at_ (.int .u32) t11 (4:Int)) (6:Int)).bind fun y32 =>
      (q192 (at_ (.int .u32) t11 (4:Int)) (11:Int)).bind fun y33 =>
      (q192 (at_ (.int .u32) t11 (4:Int)) (25:Int)).bind fun y34 =>
      let v35:Int:=(xorV .u32 (xorV .u32 y32.1 y33.1) y34.1)
      let v36:Int:=(IntKind.wrap .u32 ((at_ (.int .u32) t11 (7:Int)) + v35))
      bif (inR (5:Int) t11.length) then
       let v37:Int:=(andV .u32 (at_ (.int .u32) t11 (4:Int)) (at_ (.int .u32) t11 (5:Int)))
       let v38:Int:=(xorV .u32 (if IntKind.signed .u32 then -1 else IntKind.max .u32) (at_ (.int .u32) t11 (4:Int)))
       bif (inR (6:Int) t11.length) then
        let v39:Int:=(andV .u32 v38 (at_ (.int .u32) t11 (6:Int)))
        let v40:Int:=(IntKind.wrap .u32 (v36 + (xorV .u32 v37 v39)))
        bif (inR t12 t10.length) then
         let v41:Int:=(IntKind.wrap .u32 (v40 + (at_ (.int .u32) t10 t12)))
         bif (inR t12 r58.length) then
          let v42:Int:=(IntKind.wrap .u32 (v41 + (at_ (.int .u32) r58 t12)))
          (q192 (at_ (.int .u32) t11 (0:Int)) (2:Int)).bind fun y43 =>
          (q192 (at_ (.int .u32) t11 (0:Int)) (13:Int)).bind fun y44 =>
          (q192 (at_ (.int .u32) t11 (0:Int)) (22:Int)).bind fun y45 =>
          let v46:Int:=(xorV .u32 (xorV .u32 y43.1 y44.1) y45.1)
          bif (inR (1:Int) t11.length) then
           let v47:Int:=(andV .u32 (at_ (.int .u32) t11 (0:Int)) (at_ (.int .u32) t11 (1:Int)))
           bif (inR (2:Int) t11.length) then
            let v48:Int:=(andV .u32 (at_ (.int .u32) t11 (0:Int)) (at_ (.int .u32) t11 (2:Int)))
            bif (inR (1:Int) t11.length) then
             bif (inR (2:Int) t11.length) then
              let v49:Int:=(andV .u32 (at_ (.int .u32) t11 (1:Int)) (at_ (.int .u32) t11 (2:Int)))
              let v50:Int:=(IntKind.wrap .u32 (v46 + (xorV .u32 (xorV .u32 v47 v48) v49)))
              bif (inR (1:Int) t11.length) then
               bif (inR (2:Int) t11.length) then
                bif (inR (3:Int) t11.length) then
                 let v51:Int:=(IntKind.wrap .u32 ((at_ (.int .u32) t11 (3:Int)) + v42))
                 bif (inR (5:Int) t11.length) then bif (inR (6:Int) t11.length) then q139_l16 t0 t10 r58 k ([(IntKind.wrap .u32 (v42 + v50)),(at_ (.int .u32) t11 (0:Int)),(at_ (.int .u32) t11 (1:Int)),(at_ (.int .u32) t11 (2:Int)),v51,(at_ (.int .u32) t11 (4:Int)),(at_ (.int .u32) t11 (5:Int)),(at_ (.int .u32) t11 (6:Int))]:List Int) (IntKind.wrap .i64 (t12 + (1:Int))) else none else none
                else none
               else none
              else none
             else none
            else none
           else none
          else none
         else none
        else none
       else none
      else none
     else none
    else none
   else none
  else
   some ((t0,t11,()),(),())
def q139_l25_outs:List (Ex × Ann):=[((.exit 6),{ env:=[(17,.cst (.row 236 .whole))],stk:=[],bxs:=[(236,.row (.int .u32) false)] })]
def q139_l25 (t0:(List Int)) (t11:(List Int)):Nat→Int→(List Int)→Option (outDen q139_l25_outs)
 | 0,_,_=>none
 | k + 1,t18,r236 =>
  bif (decide (t18 < (8:Int))) then
   bif (inR t18 t0.length) then
    bif (inR t18 t11.length) then
     let v55:Int:=(IntKind.wrap .u32 ((at_ (.int .u32) t0 t18) + (at_ (.int .u32) t11 t18)))
     bif (decide (r236.length + ([v55]:List Int).length≤appLim)) then q139_l25 t0 t11 k (IntKind.wrap .i64 (t18 + (1:Int))) (r236++([v55]:List Int)) else none
    else none
   else none
  else
   some ((),(),(r236,()))
def q139 (a0:(List Int)) (a1:(List Int)):Option ((List Int) × Unit) :=
 (q139_l3 a0 a1 (((16:Int) - (0:Int)).toNat + 1) (0:Int) []).bind fun o10 =>
 let u11:(List Int):=o10.1.1
 let u12:(List Int):=o10.2.2.1
 (q139_l7 u11 (((64:Int) - (16:Int)).toNat + 1) (16:Int) u12).bind fun o28 =>
 let u29:(List Int):=o28.1.1
 let u30:(List Int):=o28.2.2.1
 (q193 ).bind fun y31 =>
 bif (decide (u29.length≤appLim)) then
  (q139_l16 u29 y31.1 u30 (((64:Int) - (0:Int)).toNat + 1) u29 (0:Int)).bind fun o52 =>
  let u53:(List Int):=o52.1.1
  let u54:(List Int):=o52.1.2.1
  (q139_l25 u53 u54 (((8:Int) - (0:Int)).toNat + 1) (0:Int) []).bind fun o56 =>
  let u57:(List Int):=o56.2.2.1
  some (u57,())
 else none
def q89_l4_outs:List (Ex × Ann):=[((.exit 0),{ env:=[(3,.ty (.sl (.int .u32)))],stk:=[],bxs:=[] })]
def q89_l4 (t4:(List Int)):Nat→(List Int)→Int→Option (outDen q89_l4_outs)
 | 0,_,_=>none
 | k + 1,t3,t5 =>
  bif (decide (t5 < (t4.length:Int))) then
   bif (cutOk t4.length (some t5) (some (IntKind.wrap .i64 (t5 + (64:Int))))) then
    let v2:(List Int):=((t4.take (Int.toNat (IntKind.wrap .i64 (t5 + (64:Int))))).drop (Int.toNat t5))
    (q139 t3 v2).bind fun y3 =>
    q89_l4 t4 k y3.1 (IntKind.wrap .i64 (t5 + (64:Int)))
   else none
  else
   some ((t3,()),(),())
def q89_l9_outs:List (Ex × Ann):=[((.exit 2),{ env:=[(6,.cst (.row 53 .whole))],stk:=[],bxs:=[(53,.row (.int .u8) false)] })]
def q89_l9 (t3:(List Int)):Nat→Int→(List Int)→Option (outDen q89_l9_outs)
 | 0,_,_=>none
 | k + 1,t7,r53 =>
  bif (decide (t7 < (8:Int))) then
   bif (inR t7 t3.length) then
    let v6:Int:=(shrV .u32 (at_ (.int .u32) t3 t7) (24:Int))
    bif (inR t7 t3.length) then
     let v7:Int:=(shrV .u32 (at_ (.int .u32) t3 t7) (16:Int))
     bif (inR t7 t3.length) then
      let v8:Int:=(shrV .u32 (at_ (.int .u32) t3 t7) (8:Int))
      bif (inR t7 t3.length) then
       let v9:Int:=(IntKind.wrap .u8 (at_ (.int .u32) t3 t7))
       bif (decide (r53.length + ([(IntKind.wrap .u8 v6),(IntKind.wrap .u8 v7),(IntKind.wrap .u8 v8),v9]:List Int).length≤appLim)) then q89_l9 t3 k (IntKind.wrap .i64 (t7 + (1:Int))) (r53++([(IntKind.wrap .u8 v6),(IntKind.wrap .u8 v7),(IntKind.wrap .u8 v8),v9]:List Int)) else none
      else none
     else none
    else none
   else none
  else
   some ((),(),(r53,()))
def q89 (a0:ByteArray):Option (ByteArray × Unit) :=
 (q138 a0).bind fun y1 =>
 (q89_l4 y1.1 (((y1.1.length:Int) - (0:Int)).toNat + 1) ([(1779033703:Int),(3144134277:Int),(1013904242:Int),(2773480762:Int),(1359893119:Int),(2600822924:Int),(528734635:Int),(1541459225:Int)]:List Int) (0:Int)).bind fun o4 =>
 let u5:(List Int):=o4.1.1
 (q89_l9 u5 (((8:Int) - (0:Int)).toNat + 1) (0:Int) []).bind fun o10 =>
 let u11:(List Int):=o10.2.2.1
 some ((ofBytes u11),())
end Go.V.G
