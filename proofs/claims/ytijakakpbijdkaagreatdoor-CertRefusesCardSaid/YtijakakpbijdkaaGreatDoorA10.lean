/- Part of the proof. -/
import Derived.KernelRfl
import Derived.Test.YtijakakpbijdkaaGreatDoorA9
set_option linter.all false
set_option linter.unusedVariables false
set_option linter.unusedSectionVars false
set_option linter.unusedSimpArgs false
namespace Go.V.G
open Go.Proofs
open Go.V.K
instance dR1:DecidableEq (List Int × Unit):=inferInstance
instance dR2:DecidableEq (Bool × (List Int × Unit)):=inferInstance
instance dR3:DecidableEq (List Int × (Bool × (List Int × Unit))):=inferInstance
instance dR4:DecidableEq (Bool × (List Int × (Bool × (List Int × Unit)))):=inferInstance
instance dR5:DecidableEq (Int × (Bool × (List Int × (Bool × (List Int × Unit))))):=inferInstance
instance dR6:DecidableEq Rl:=inferInstance
instance dN1:DecidableEq Nm:=inferInstance
instance dN2:DecidableEq Ct:=inferInstance
def cmpI (a b:Int):Int:=if a < b then -1 else if a > b then 1 else 0
theorem f84_eq (a b:Int):f84 a b = some (cmpI a b,()):=by
 unfold f84 f99 cmpI
 simp only [ne_eq,not_true,decide_false,Option.bind_some,cond_false]
 by_cases h:a < b
 ·simp [h]
 ·by_cases h2:a > b <;> simp [h,h2]
theorem cmpI_zero {a b:Int}:cmpI a b = 0 ↔ a = b:=by
 unfold cmpI
 constructor
 ·intro h
  split at h
  ·cases h
  ·split at h
   ·cases h
   ·omega
 ·rintro rfl
  simp
theorem cmpI_pos {a b:Int}:cmpI a b > 0 ↔ b < a:=by
 unfold cmpI
 constructor
 ·intro h
  split at h
  ·omega
  ·split at h
   ·omega
   ·omega
 ·intro h
  have:¬ a < b:=by omega
  simp [this,h]
theorem f57_eq (T:Int) (x1:List Rl) (x2 x3:Int) (x4 x5:List Int) (x6 x7:Bool) (p1 p2 r1 r2:Int) (b:List Rl) (hT:T = 2) (hne:¬ (p1 = r1∧p2 = r2)) :
  f57_l2x T x1 x2 x3 x4 x5 x6 x7 [p1,p2] [r1,r2] b 3 0 = some (.inr (((if p1 = r1 then cmpI p2 r2 else cmpI p1 r1),()),((x1,x2,x3,x4,x5,x6,x7,()),()),((b,()),([p1,p2],()),([r1,r2],()),()))):=by
 subst hT
 have e2:cutLen 2 none none = 2:=rfl
 have a0:at_ yI [p1,p2] (0 + 0) = p1:=rfl
 have a1:at_ yI [r1,r2] (0 + 0) = r1:=rfl
 have a2:at_ yI [p1,p2] (0 + 1) = p2:=rfl
 have a3:at_ yI [r1,r2] (0 + 1) = r2:=rfl
 have w1:IntKind.wrap .i64 (0 + 1) = 1:=by decide
 conv=>lhs; unfold f57_l2x
 simp only [e2,show decide ((0:Int) < 2) = true from rfl,show inR (0:Int) 2 = true from rfl,show decide ((0:Int) ≥ ((2:Nat):Int)) = false from rfl,cond_true,cond_false,a0,a1,f84_eq,Option.bind_some,w1]
 by_cases h1:p1 = r1
 ·have hz:cmpI p1 r1 = 0:=cmpI_zero.2 h1
  simp only [hz,ne_eq,not_true,decide_false,cond_false]
  have h2:¬ p2 = r2:=fun h=>hne ⟨h1,h⟩
  have hz2:¬ cmpI p2 r2 = 0:=fun h=>h2 (cmpI_zero.1 h)
  conv=>lhs; unfold f57_l2x
  simp only [e2,show decide ((1:Int) < 2) = true from rfl,show inR (1:Int) 2 = true from rfl,show decide ((1:Int) ≥ ((2:Nat):Int)) = false from rfl,cond_true,cond_false,a2,a3,f84_eq,Option.bind_some,hz2,ne_eq,not_false_eq_true,decide_true]
  simp [h1]
 ·have hz:¬ cmpI p1 r1 = 0:=fun h=>h1 (cmpI_zero.1 h)
  simp only [hz,ne_eq,not_false_eq_true,decide_true,cond_true]
  simp [h1]
theorem f19_eq (d:List Rl) (h:smD d):f19 (d,()) = some (validD d,()):=by
 unfold f19
 have hl:=all_loop d.length (dOk d) (fun k j=>f19_l2 k d (d.length:Int) j d) (.inl ((),(),())) (.inr ((false,()),(),())) (by
  intro k j hj
  conv=>lhs; unfold f19_l2
  have h1:=h.1
  by_cases e:j < d.length
  ·simp only [Int.ofNat_lt,inRN,e,decide_true,cond_true,f56_eq _ (smD_at h j e),Option.bind_some,same_self]
   refine Eq.trans ?_ (if_pos trivial).symm
   unfold dOk
   cases okRb (at_ tR d (j:Int)) with
   | false=>rfl
   | true =>
    simp only [Bool.not_true,cond_false,Bool.true_and]
    by_cases e3:j = 0
    ·subst e3
     rfl
    ·have e4:decide ((j:Int) > 0) = true:=by simp; omega
     simp only [e4,cond_true,wP j (by omega) (by omega),inRN,show j - 1 < d.length by omega,decide_true,e3,decide_false,Bool.false_or]
     generalize hx:at_ tR d ((j - 1:Nat):Int) = x
     generalize hy:at_ tR d (j:Int) = y
     by_cases e5:x.1 = y.1∧x.2.1 = y.2.1
     ·have e6:decide (([x.1,x.2.1]:List Int) = [y.1,y.2.1]) = true:=by simp [e5.1,e5.2]
      have e7:ltb x y = false:=by unfold ltb; simp [e5.1,e5.2]
      simp only [e6,cond_true,e7]
      rfl
     ·have e6:decide (([x.1,x.2.1]:List Int) = [y.1,y.2.1]) = false:=by
       rw [decide_eq_false_iff_not]
       intro e
       simp only [List.cons.injEq,and_true] at e
       exact e5 e
      simp only [e6,cond_false]
      refine bind_step (f57_eq _ _ _ _ _ _ _ _ _ _ _ _ _ rfl e5) ?_
      show (bif decide ((if x.1 = y.1 then cmpI x.2.1 y.2.1 else cmpI x.1 y.1) > 0) then some (.inr ((false,()),(),())) else f19_l2 k d (d.length:Int) (IntKind.wrap .i64 ((j:Int) + 1)) d) = _
      rw [wS j (by omega)]
      have e8:decide ((if x.1 = y.1 then cmpI x.2.1 y.2.1 else cmpI x.1 y.1) > 0) = !ltb x y:=by
       unfold ltb
       by_cases e9:x.1 = y.1
       ·rw [if_pos e9]
        have q0:¬ x.1 < y.1:=by rw [e9]; exact Int.lt_irrefl _
        have q1:¬ x.2.1 = y.2.1:=fun h=>e5 ⟨e9,h⟩
        simp only [q0,decide_false,e9,decide_true,Bool.true_and,Bool.false_or]
        by_cases q2:x.2.1 < y.2.1
        ·have:¬ cmpI x.2.1 y.2.1 > 0:=fun h=>absurd (cmpI_pos.1 h) (fun h3=>by have:=Int.lt_trans q2 h3; exact Int.lt_irrefl _ this)
         simp [q2,this]
        ·have:cmpI x.2.1 y.2.1 > 0:=cmpI_pos.2 (by rcases Int.lt_trichotomy x.2.1 y.2.1 with h | h | h <;> first | exact absurd h q2 | exact absurd h q1 | exact h)
         simp [q2,this]
       ·rw [if_neg e9]
        by_cases q2:x.1 < y.1
        ·have:¬ cmpI x.1 y.1 > 0:=fun h=>absurd (cmpI_pos.1 h) (fun h3=>by have:=Int.lt_trans q2 h3; exact Int.lt_irrefl _ this)
         simp [q2,this]
        ·have:cmpI x.1 y.1 > 0:=cmpI_pos.2 (by rcases Int.lt_trichotomy x.1 y.1 with h | h | h <;> first | exact absurd h q2 | exact absurd h e9 | exact h)
         simp [q2,this,e9]
      rw [e8]
      cases ltb x y <;> rfl
  ·simp only [Int.ofNat_lt,e,decide_false,cond_false]
   exact (if_neg not_false).symm) (((d.length:Int) - 0).toNat + 1) (by omega)
 refine bind_step hl ?_
 show Sum.elim _ _ (if validD d = true then _ else _) = _
 cases validD d <;> rfl
theorem f17_eq (d:List Rl) (h:smD d):f17 (d,()) = if validD d then some ((d.map inv,()),(0:Int),()) else some (([],()),(160:Int),()):=by
 unfold f17
 refine bind_step (f19_eq d h) ?_
 cases validD d with
 | false=>rfl
 | true =>
  simp only [Bool.not_true,cond_false,if_true]
  have hl:=app_loop d.length (fun j acc=>acc.length = j) (fun j=>[inv (at_ tR d (j:Int))]) (fun r=>(((),(),((),(),r,())):outDen f17_l5_outs)) (f17_l5 d (d.length:Int)) (by
   intro k j acc hj hacc
   conv=>lhs; unfold f17_l5
   have h1:=h.1
   by_cases e:j < d.length
   ·have hs:=smD_at h j e
    have ea:decide (acc.length + 1≤appLim) = true:=sm_app (by omega)
    have eq:∀ r:Rl,smRl r→f45 [r.1,r.2.1] r.2.2.2.2 (r.2.2.1,(r.2.2.2.1,())) = some (inv r,()):=fun r hr=>f45_eq r.1 r.2.1 r.2.2.2.2.1 r.2.2.2.2.2.1 r.2.2.1 r.2.2.2.1 hr.2 hr.1
    simp only [Int.ofNat_lt,inRN,e,decide_true,cond_true,wS j (by omega),f50,f53,f52,Option.bind_some]
    refine Eq.trans ?_ (if_pos trivial).symm
    rw [eq _ hs]
    simp only [Option.bind_some,List.length_singleton,ea,cond_true]
    rfl
   ·simp only [Int.ofNat_lt,e,decide_false,cond_false]
    exact (if_neg not_false).symm) (fun j acc _ h=>by rw [List.length_append,h]; rfl) (((d.length:Int) - 0).toNat + 1) 0 [] (by omega) (by omega) rfl
  refine bind_step hl ?_
  have e:[]++(List.range' 0 (d.length - 0)).flatMap (fun j:Nat=>[inv (at_ tR d (j:Int))]) = d.map inv:=map_flat (α:=Rl) tR d inv
  show some ((([]++(List.range' 0 (d.length - 0)).flatMap (fun j:Nat=>[inv (at_ tR d (j:Int))]):List Rl),()),(0:Int),()) = _
  rw [e]
theorem f13_eq (a b:List Rl) (ha:smD a):f13 (a,()) (b,()) = some (decide (a = b),()):=by
 unfold f13
 by_cases hl:a.length = b.length
 ·have e:decide ((a.length:Int) ≠ (b.length:Int)) = false:=by simp [hl]
  simp only [e,cond_false]
  have h:=all_loop a.length (fun j=>decide (at_ tR a j = at_ tR b j)) (f13_l4 a b) (.inl ((),(),())) (.inr ((false,()),(),())) (by
   intro k j hj
   conv=>lhs; unfold f13_l4
   have h1:=ha.1
   by_cases h:j < a.length
   ·have hs:=smD_at ha j h
    simp only [Int.ofNat_lt,inRN,h,show j < b.length by omega,decide_true,cond_true,wS j (by omega)]
    refine Eq.trans ?_ (if_pos trivial).symm
    generalize at_ tR a (j:Int) = x at hs
    generalize at_ tR b (j:Int) = y
    obtain ⟨k1,i1,h1',o1,g1,n1,u1⟩:=x
    obtain ⟨k2,i2,h2',o2,g2,n2,u2⟩:=y
    have q1:=f26_eq o1 o2 hs.1
    have q2:=f26_eq n1 n2 hs.2
    simp only [q1,q2,Option.bind_some,Prod.mk.injEq]
    by_cases c1:k1 = k2
    ·by_cases c2:i1 = i2
     ·by_cases c3:h1' = h2'
      ·by_cases c4:g1 = g2
       ·by_cases c5:o1 = o2
        ·by_cases c6:n1 = n2
         ·simp [c1,c2,c3,c4,c5,c6]
         ·simp [c1,c2,c3,c4,c5,c6]
        ·simp [c1,c2,c3,c4,c5]
       ·simp [c1,c2,c3,c4]
      ·simp [c1,c2,c3]
     ·simp [c1,c2]
    ·simp [c1]
   ·simp only [Int.ofNat_lt,h,decide_false,cond_false]
    exact (if_neg not_false).symm) (((a.length:Int) - 0).toNat + 1) (by omega)
  refine bind_step h ?_
  rw [all_range_eq a b hl _ (fun j h1=>by rw [atN tR _ _ h1,atN tR _ _ (hl ▸ h1)])]
  by_cases e:a = b <;> simp [e]
 ·have e:decide ((a.length:Int) ≠ (b.length:Int)) = true:=by simp; omega
  simp only [e,cond_true]
  have:¬ a = b:=fun h=>hl (by rw [h])
  simp [this]
theorem f55_eq (a b:List Nm) (ha:smR a):f55 a b = some (decide (a = b),()):=by
 unfold f55
 by_cases hl:a.length = b.length
 ·have e:decide ((a.length:Int) ≠ (b.length:Int)) = false:=by simp [hl]
  simp only [e,cond_false]
  have h:=all_loop a.length (fun j=>decide (at_ tN a j = at_ tN b j)) (f55_l4 a b) (.inl ((),(),())) (.inr ((false,()),(),())) (by
   intro k j hj
   conv=>lhs; unfold f55_l4
   have h1:=ha.1
   by_cases h:j < a.length
   ·have hs:=smR_at ha j h
    simp only [Int.ofNat_lt,inRN,h,show j < b.length by omega,decide_true,cond_true,wS j (by omega)]
    refine Eq.trans ?_ (if_pos trivial).symm
    generalize at_ tN a (j:Int) = x at hs
    generalize at_ tN b (j:Int) = y
    obtain ⟨k1,o1,u1⟩:=x
    obtain ⟨k2,o2,u2⟩:=y
    have q1:=f26_eq o1 o2 hs
    simp only [q1,Option.bind_some,Prod.mk.injEq]
    by_cases c1:k1 = k2
    ·by_cases c2:o1 = o2
     ·simp [c1,c2]
     ·simp [c1,c2]
    ·simp [c1]
   ·simp only [Int.ofNat_lt,h,decide_false,cond_false]
    exact (if_neg not_false).symm) (((a.length:Int) - 0).toNat + 1) (by omega)
  refine bind_step h ?_
  rw [all_range_eq a b hl _ (fun j h1=>by rw [atN tN _ _ h1,atN tN _ _ (hl ▸ h1)])]
  by_cases e:a = b <;> simp [e]
 ·have e:decide ((a.length:Int) ≠ (b.length:Int)) = true:=by simp; omega
  simp only [e,cond_true]
  have:¬ a = b:=fun h=>hl (by rw [h])
  simp [this]
theorem ct_ext {a b:Ct} (ha:a.1.length = 8) (hb:b.1.length = 8):(List.range 8).all (fun j=>decide (a.1.getD j [] = b.1.getD j [])) = decide (a = b):=by
 rw [Bool.eq_iff_iff,List.all_eq_true,decide_eq_true_eq]
 constructor
 ·intro h
  refine Prod.ext (List.ext_getElem (by omega) fun i h1 h2=>?_) rfl
  have:=h i (List.mem_range.2 (by omega))
  rw [decide_eq_true_eq,List.getD_eq_getElem?_getD,List.getD_eq_getElem?_getD,List.getElem?_eq_getElem h1,List.getElem?_eq_getElem h2] at this
  exact this
 ·rintro rfl j _
  simp
theorem f16_eq (a b:Ct) (ha:smC a) (hb:b.1.length = 8):f16 a b = some (decide (a = b),()):=by
 unfold f16
 have h:=all_loop 8 (fun j=>decide (a.1.getD j [] = b.1.getD j [])) (f16_l2 a.1 b.1) (.inl ((),(),())) (.inr ((false,()),(),())) (by
  intro k j hj
  conv=>lhs; unfold f16_l2
  by_cases e:j < 8
  ·have e1:decide ((j:Int) < 8) = true:=by simp; omega
   simp only [e1,cond_true,inRN,e,decide_true,row_at ha.1 j e,row_at hb j e,f55_eq _ _ (row_sm ha j),Option.bind_some,wS j (by omega)]
   refine Eq.trans ?_ (if_pos trivial).symm
   cases decide (a.1.getD j [] = b.1.getD j []) <;> rfl
  ·have e1:decide ((j:Int) < 8) = false:=by simp; omega
   simp only [e1,cond_false]
   exact (if_neg e).symm) (((8:Int) - 0).toNat + 1) (by decide)
 refine bind_step h ?_
 rw [ct_ext ha.1 hb]
 cases decide (a = b) <;> rfl
end Go.V.G
namespace Go.V.G
open Go.Proofs
open Go.V.K
theorem cut5 (l:List Int):cutOk l.length none (some (if (5:Int) < (l.length:Int) then (5:Int) else (l.length:Int))) = true∧(l.take (Int.toNat (if (5:Int) < (l.length:Int) then (5:Int) else (l.length:Int)))).length≤1000000:=by
 have h:∀ n:Nat,cutOk n none (some (if (5:Int) < (n:Int) then (5:Int) else (n:Int))) = true∧Int.toNat (if (5:Int) < (n:Int) then (5:Int) else (n:Int))≤5:=by
  intro n
  unfold cutOk
  by_cases e:(5:Int) < (n:Int)
  ·simp only [e,if_true]
   refine ⟨?_,by decide⟩
   simp only [Bool.and_eq_true,decide_eq_true_eq]
   omega
  ·simp only [e,if_false]
   refine ⟨?_,by omega⟩
   simp only [Bool.and_eq_true,decide_eq_true_eq]
   omega
 refine ⟨(h l.length).1,?_⟩
 rw [List.length_take]
 have:=(h l.length).2
 omega
theorem f10_loop (d:List Rl):∀ (m j k:Nat) (acc:List Rl),j + m = 6→j≤d.length→d.length < k + j→acc.length = j→(∀ r∈acc,smRl r) →
  ∃ r,f10_l3 d k (j:Int) acc = some ((),(),((),(),r,()))∧smD r:=by
 intro m
 induction m with
 | zero =>
  intro j k acc h1 h2 h3 h4 h5
  obtain ⟨k,rfl⟩:∃ q,k = q + 1:=⟨k - 1,by omega⟩
  refine ⟨acc,?_,by omega,h5⟩
  conv=>lhs; unfold f10_l3
  have e6:decide ((j:Int) < 6) = false:=by simp; omega
  by_cases e:j < d.length
  ·simp only [Int.ofNat_lt,e,decide_true,cond_true,e6,cond_false]
   try rfl
  ·simp only [Int.ofNat_lt,e,decide_false,cond_false]
   try rfl
 | succ m ih =>
  intro j k acc h1 h2 h3 h4 h5
  obtain ⟨k,rfl⟩:∃ q,k = q + 1:=⟨k - 1,by omega⟩
  conv=>arg 1; ext r; lhs; lhs; unfold f10_l3
  have e6:decide ((j:Int) < 6) = true:=by simp; omega
  by_cases e:j < d.length
  ·simp only [Int.ofNat_lt,e,decide_true,cond_true,e6,inRN]
   generalize at_ tR d (j:Int) = x
   obtain ⟨k1,i1,h1',o1,g1,n1,u1⟩:=x
   obtain ⟨c1,c2⟩:=cut5 o1
   obtain ⟨c3,c4⟩:=cut5 n1
   have ea:decide (acc.length + 1≤appLim) = true:=sm_app (by omega)
   simp only [c1,c3,cond_true,List.length_singleton,ea,wS j (by omega)]
   refine ih (j + 1) k _ (by omega) (by omega) (by omega) (by simp [h4]) ?_
   intro r hr
   rcases List.mem_append.1 hr with hr | hr
   ·exact h5 r hr
   ·rw [List.mem_singleton] at hr
    subst hr
    exact ⟨c2,c4⟩
  ·refine ⟨acc,?_,by omega,h5⟩
   simp only [Int.ofNat_lt,e,decide_false,cond_false]
   try rfl
theorem f10_eq (d:List Rl):∃ r,f10 (d,()) = some ((r,()),())∧smD r:=by
 obtain ⟨r,h1,h2⟩:=f10_loop d 6 0 (((d.length:Int) - 0).toNat + 1) [] rfl (Nat.zero_le _) (by omega) rfl (by simp)
 refine ⟨r,?_,h2⟩
 unfold f10
 exact bind_step h1 rfl
def putL (id:Int) (next:List Int):List Nm→Bool→List Nm × Bool
 | [],d=>([],d)
 | n :: l,d =>
  if id < n.1∧d = false then ((id,next,()) :: (if n.1 = id then (putL id next l true).1 else n :: (putL id next l true).1),(putL id next l true).2)
  else (if n.1 = id then (putL id next l d).1 else n :: (putL id next l d).1,(putL id next l d).2)
theorem putL_S (id:Int) (next:List Int):∀ (l:List Nm) (d:Bool),(putL id next l d).1++(if (putL id next l d).2 then [] else [(id,next,())]) = putS id next l d
 | [],d=>by cases d <;> rfl
 | n :: l,d=>by
  simp only [putL,putS]
  split
  ·rw [← putL_S id next l true]
   split <;> simp
  ·rw [← putL_S id next l d]
   split <;> simp
theorem f38_loop (l:List Nm) (hs:smR l) (id:Int) (next:List Int) (hn:next.length≤1000000):∀ (m j k:Nat) (d:Bool) (acc:List Nm),j + m = l.length→m < k→acc.length≤2 * j →
  f38_l4 l id next k d (j:Int) acc = some ((id,next,(putL id next (l.drop j) d).2,()),(),(acc++(putL id next (l.drop j) d).1,())):=by
 intro m
 have h0:=hs.1
 induction m with
 | zero =>
  intro j k d acc h1 h2 h3
  obtain ⟨k,rfl⟩:∃ q,k = q + 1:=⟨k - 1,by omega⟩
  conv=>lhs; unfold f38_l4
  rw [List.drop_of_length_le (by omega)]
  have e:¬ j < l.length:=by omega
  simp only [Int.ofNat_lt,e,decide_false,cond_false,putL,List.append_nil]
  try rfl
 | succ m ih =>
  intro j k d acc h1 h2 h3
  obtain ⟨k,rfl⟩:∃ q,k = q + 1:=⟨k - 1,by omega⟩
  have e:j < l.length:=by omega
  have hx:=smR_at hs j e
  conv=>lhs; unfold f38_l4
  rw [List.drop_eq_getElem_cons e,← atN tN l j e]
  simp only [Int.ofNat_lt,inRN,e,decide_true,cond_true,wS j (by omega)]
  generalize at_ tN l (j:Int) = x at hx
  obtain ⟨i,o,u⟩:=x
  have q1:decide (o.length≤appLim) = true:=sm_app hx
  have q2:decide (next.length≤appLim) = true:=sm_app hn
  have q3:decide (acc.length + 1≤appLim) = true:=zT (show _≤1073741824 by omega)
  have q4:decide (acc.length + 1 + 1≤appLim) = true:=zT (show _≤1073741824 by omega)
  simp only [q1,q2,q3,q4,cond_true,List.length_singleton,List.length_append,putL]
  by_cases c1:id < i
  ·have c2:¬ i = id:=fun h=>by rw [h] at c1; exact Int.lt_irrefl _ c1
   have g1:decide (i > id) = true:=zT c1
   have g2:decide (i ≠ id) = true:=zT c2
   cases d with
   | false =>
    simp only [g1,g2,cond_true,Bool.not_false,c1,c2,and_self,if_true,if_false]
    rw [ih (j + 1) k true _ (by omega) (by omega) (by simp; omega)]
    try simp
    try rfl
   | true =>
    simp only [g1,g2,cond_true,Bool.not_true,cond_false,c1,c2,Bool.true_eq_false,and_false,if_false]
    rw [ih (j + 1) k true _ (by omega) (by omega) (by simp; omega)]
    try simp
    try rfl
  ·have g1:decide (i > id) = false:=zF c1
   simp only [g1,cond_false,c1,false_and,if_false]
   by_cases c2:i = id
   ·subst c2
    have g2:decide (i ≠ i) = false:=by simp
    simp only [g2,cond_false,if_true]
    rw [ih (j + 1) k d _ (by omega) (by omega) (by omega)]
    try rfl
   ·have g2:decide (i ≠ id) = true:=zT c2
    simp only [g2,cond_true,c2,if_false]
    rw [ih (j + 1) k d _ (by omega) (by omega) (by simp; omega)]
    try simp
    try rfl
theorem putL_len (id:Int) (next:List Int):∀ (l:List Nm) (d:Bool),(putL id next l d).1.length≤2 * l.length
 | [],d=>by simp [putL]
 | n :: l,d=>by
  simp only [putL]
  have h1:=putL_len id next l true
  have h2:=putL_len id next l d
  split
  ·split <;> simp only [List.length_cons] <;> omega
  ·split <;> simp only [List.length_cons] <;> omega
theorem f38_eq (l:List Nm) (hs:smR l) (id:Int) (has:Bool) (next:List Int) (hn:next.length≤1000000):f38 l id has next = some (putS id next l (!has),()):=by
 unfold f38
 have h0:=hs.1
 have h:=f38_loop l hs id next hn l.length 0 (((l.length:Int) - 0).toNat + 1) (!has) [] (by omega) (by omega) (by simp)
 refine bind_step h ?_
 rw [List.drop_zero,List.nil_append,← putL_S]
 have hl:=putL_len id next l (!has)
 have q2:decide (next.length≤appLim) = true:=sm_app hn
 have q3:decide ((putL id next l (!has)).1.length + 1≤appLim) = true:=zT (show _≤1073741824 by omega)
 cases e:(putL id next l (!has)).2 with
 | true=>simp
 | false=>simp only [Bool.not_false,cond_true,q2,List.length_singleton,q3,Bool.false_eq_true,if_false]
theorem okRow_len {l:List Nm} (h:okRow l):l.length≤24:=by
 rw [← row_eq h]
 exact ids_len _
theorem okRow_sm {l:List Nm} (h:okRow l):smR l:=⟨by have:=okRow_len h; omega,fun n hn=>by have:=(h.1 n hn).2.1; omega⟩
theorem okC_sm {c:Ct} (h:okC c):smC c:=by
 refine ⟨h.1,fun l hl=>?_⟩
 obtain ⟨i,hi,rfl⟩:=List.mem_iff_getElem.1 hl
 have h1:=h.1
 have e:c.1[i] = c.1.getD i []:=by rw [List.getD_eq_getElem?_getD,List.getElem?_eq_getElem hi]; rfl
 rw [e]
 by_cases h0:i = 0
 ·subst h0
  rw [h.2.1]
  exact ⟨by simp,by simp⟩
 ·have:=h.2.2 (i:Int) (mem_kinds.2 (by omega))
  rw [Int.toNat_natCast] at this
  exact okRow_sm this
def i64 (x:Int):Prop:=-9223372036854775808≤x∧x≤9223372036854775807
theorem f37_eq {c:Int} (hc:i64 c) {n:Int} (hn:0 < n):∃ v,f37 c n = some (v,())∧0≤v∧v < n:=by
 obtain ⟨h1,h2⟩:=hc
 have hne:decide (n ≠ 0) = true:=by simp; omega
 unfold f37
 by_cases e:c < 0
 ·have e1:IntKind.wrap .i64 (c + 1) = c + 1:=wrap_i64 _ (by omega) (by omega)
  have e2:IntKind.wrap .i64 (0 - (c + 1)) = 0 - (c + 1):=wrap_i64 _ (by omega) (by omega)
  refine ⟨Int.tmod (0 - (c + 1)) n,?_,Int.tmod_nonneg _ (by omega),?_⟩
  ·simp only [e,decide_true,cond_true,e1,e2,hne]
   try rfl
  ·exact Int.tmod_lt_of_pos _ hn
 ·refine ⟨Int.tmod c n,?_,Int.tmod_nonneg _ (by omega),Int.tmod_lt_of_pos _ hn⟩
  simp only [e,decide_false,cond_false,hne,cond_true]
  try rfl
theorem wrap_rng (x:Int):i64 (IntKind.wrap .i64 x):=by
 unfold i64
 simp only [IntKind.wrap,IntKind.bits,IntKind.signed]
 have:=Int.emod_nonneg x (show (2:Int) ^ 64 ≠ 0 by decide)
 have:=Int.emod_lt_of_pos x (show (0:Int) < 2 ^ 64 by decide)
 simp only [Bool.true_and,decide_eq_true_eq,show (2:Int) ^ 64 = 18446744073709551616 from rfl,show (2:Int) ^ (64 - 1) = 9223372036854775808 from rfl] at *
 split <;> omega
def iRows (x:List (List Int)):Prop:=∀ r∈x,∀ v∈r,i64 v
theorem iAt {x:List (List Int)} (h:iRows x) (i j:Int):i64 (at_ yI (at_ (.arr 4 yI) x i) j):=by
 have h0:i64 0:=by unfold i64; omega
 have hr:∀ v∈(at_ (.arr 4 yI) x i:List Int),i64 v:=by
  unfold at_
  rw [List.getD_eq_getElem?_getD]
  cases e:x[i.toNat]? with
  | none =>
   intro v hv
   have:v∈List.replicate 4 (0:Int):=hv
   rw [(List.mem_replicate.1 this).2]
   exact h0
  | some r=>exact h r (List.mem_of_getElem? e)
 generalize (at_ (.arr 4 yI) x i:List Int) = r at hr ⊢
 unfold at_
 rw [List.getD_eq_getElem?_getD]
 cases e:r[j.toNat]? with
 | none=>exact h0
 | some v=>exact hr v (List.mem_of_getElem? e)
theorem f8_l7_eq (x:List (List Int)) (hx:iRows x) (i:Nat) (hi:i < x.length) (b2 b3:List (List Nm)):∀ (m j k:Nat) (acc:List Int),j + m = 4→m < k→acc.length = j→(∀ v∈acc,-1≤v∧v≤3) →
  ∃ l,f8_l7 x (i:Int) b2 b3 k (j:Int) acc = some ((x,((i:Int),(l,()))),(),((b2,()),(b3,()),()))∧okL l:=by
 intro m
 have fin:∀ (acc:List Int),acc.length≤4→(∀ v∈acc,-1≤v∧v≤3)→okL acc:=fun acc h1 h2=>⟨by omega,fun n hn=>by have:=h2 n hn; omega⟩
 obtain ⟨y2,hy2,hy3,hy4⟩:=f37_eq (iAt hx (i:Int) 2) (n:=4) (by omega)
 have i2:inR (2:Int) 4 = true:=by decide
 have i3:inR (3:Int) 4 = true:=by decide
 induction m with
 | zero =>
  intro j k acc h1 h2 h3 h4
  obtain ⟨k,rfl⟩:∃ q,k = q + 1:=⟨k - 1,by omega⟩
  refine ⟨acc,?_,fin acc (by omega) h4⟩
  conv=>lhs; unfold f8_l7
  have e:¬ (j:Int) < y2:=by omega
  simp only [inRN,hi,decide_true,cond_true,i2,hy2,Option.bind_some,e,decide_false,cond_false]
  try rfl
 | succ m ih =>
  intro j k acc h1 h2 h3 h4
  obtain ⟨k,rfl⟩:∃ q,k = q + 1:=⟨k - 1,by omega⟩
  conv=>arg 1; ext r; lhs; lhs; unfold f8_l7
  simp only [inRN,hi,decide_true,cond_true,i2,hy2,Option.bind_some]
  by_cases e:(j:Int) < y2
  ·have ew:IntKind.wrap .i64 ((1:Int) + (j:Int)) = ((j + 1:Nat):Int):=by rw [wrap_i64 _ (by omega) (by omega)]; omega
   have ene:decide (((j + 1:Nat):Int) ≠ 0) = true:=by simp; omega
   obtain ⟨y5,hy5,hy6,hy7⟩:=f37_eq (wrap_rng (Int.tdiv (at_ yI (at_ (.arr 4 yI) x (i:Int)) 3) ((j + 1:Nat):Int))) (n:=5) (by omega)
   have ea:decide (acc.length + 1≤appLim) = true:=sm_app (by omega)
   have ew2:IntKind.wrap .i64 (y5 - 1) = y5 - 1:=wrap_i64 _ (by omega) (by omega)
   simp only [e,decide_true,cond_true,i3,ew,ene,hy5,Option.bind_some,List.length_singleton,ea,wS j (by omega),ew2]
   refine ih (j + 1) k _ (by omega) (by omega) (by simp [h3]) ?_
   intro v hv
   rcases List.mem_append.1 hv with hv | hv
   ·exact h4 v hv
   ·rw [List.mem_singleton] at hv
    omega
  ·refine ⟨acc,?_,fin acc (by omega) h4⟩
   simp only [e,decide_false,cond_false]
   try rfl
theorem okC_set {b:List (List Nm)} (h:okC (b,())) {q:Nat} (h1:1≤q) (h2:q≤7) {l:List Nm} (hl:okRow l):okC (b.set q l,()):=by
 obtain ⟨k1,k2,k3⟩:=h
 simp only at k1 k2 k3
 refine ⟨by simpa using k1,?_,fun k hk=>?_⟩
 ·simp only [List.getD_eq_getElem?_getD] at k2 ⊢
  rw [List.getElem?_set_ne (by omega)]
  exact k2
 ·have hk':=mem_kinds.1 hk
  simp only [List.getD_eq_getElem?_getD]
  by_cases e:q = k.toNat
  ·rw [← e,List.getElem?_set_self (by omega)]
   exact hl
  ·rw [List.getElem?_set_ne e]
   have:=k3 k hk
   rw [List.getD_eq_getElem?_getD] at this
   exact this
theorem f8_l3_eq (x:List (List Int)) (hx:iRows x) (b2:List (List Nm)):∀ (m j k:Nat) (b:List (List Nm)),j + m = 20→j≤x.length→x.length < k + j→okC (b,()) →
  ∃ c,f8_l3 k x (j:Int) b2 b = some ((),(),((b2,()),(c,()),()))∧okC (c,()):=by
 intro m
 induction m with
 | zero =>
  intro j k b h1 h2 h3 h4
  obtain ⟨k,rfl⟩:∃ q,k = q + 1:=⟨k - 1,by omega⟩
  refine ⟨b,?_,h4⟩
  conv=>lhs; unfold f8_l3
  have e6:decide ((j:Int) < 20) = false:=by simp; omega
  by_cases e:j < x.length
  ·simp only [Int.ofNat_lt,e,decide_true,cond_true,e6,cond_false]
   try rfl
  ·simp only [Int.ofNat_lt,e,decide_false,cond_false]
   try rfl
 | succ m ih =>
  intro j k b h1 h2 h3 h4
  obtain ⟨k,rfl⟩:∃ q,k = q + 1:=⟨k - 1,by omega⟩
  conv=>arg 1; ext r; lhs; lhs; unfold f8_l3
  have e6:decide ((j:Int) < 20) = true:=by simp; omega
  by_cases e:j < x.length
  ·obtain ⟨l,g1,g2⟩:=f8_l7_eq x hx j e b2 b 4 0 5 [] rfl (by omega) rfl (by simp)
   obtain ⟨y13,p1,p2,p3⟩:=f37_eq (iAt hx (j:Int) 0) (n:=7) (by omega)
   obtain ⟨y16,r1,r2,r3⟩:=f37_eq (iAt hx (j:Int) 1) (n:=6) (by omega)
   obtain ⟨q,rfl⟩:∃ q:Nat,y13 = (q:Int):=⟨y13.toNat,by omega⟩
   have ew:IntKind.wrap .i64 ((1:Int) + (q:Int)) = ((q + 1:Nat):Int):=by rw [wrap_i64 _ (by omega) (by omega)]; omega
   have hrow:okRow (b.getD (q + 1) []):=by
    have:=h4.2.2 ((q + 1:Nat):Int) (mem_kinds.2 (by omega))
    rw [Int.toNat_natCast] at this
    exact this
   have e38:=f38_eq _ (okRow_sm hrow) y16 true l (by have:=g2.1; omega)
   have ei:inR ((q + 1:Nat):Int) 8 = true:=by rw [inRN]; simp; omega
   have er:at_ (.sl tN) b ((q + 1:Nat):Int) = b.getD (q + 1) []:=row_at (c:=(b,())) h4.1 (q + 1) (by omega)
   have h20:=okC_set h4 (q:=q + 1) (by omega) (by omega) (okRow_put hrow (id:=y16) (mem_ids.2 (by omega)) g2 (!true))
   obtain ⟨c,c1,c2⟩:=ih (j + 1) k _ (by omega) (by omega) (by omega) h20
   refine ⟨c,?_,c2⟩
   simp only [Int.ofNat_lt,e,decide_true,cond_true,e6]
   refine bind_step g1 ?_
   show (bif inR (j:Int) x.length then _ else none) = _
   simp only [inRN,e,decide_true,cond_true,show inR (0:Int) 4 = true from by decide,show inR (1:Int) 4 = true from by decide]
   refine bind_step p1 ?_
   show (bif inR (IntKind.wrap .i64 ((1:Int) + (q:Int))) 8 then _ else none) = _
   simp only [ew,ei,cond_true,er]
   refine bind_step r1 ?_
   refine bind_step e38 ?_
   show f8_l3 k x (IntKind.wrap .i64 ((j:Int) + 1)) b2 (b.set (Int.toNat ((q + 1:Nat):Int)) _) = _
   rw [wS j (by omega),Int.toNat_natCast]
   exact c1
  ·refine ⟨b,?_,h4⟩
   simp only [Int.ofNat_lt,e,decide_false,cond_false]
   try rfl
theorem okC_nil:okC (List.replicate 8 [],()):=by
 refine ⟨rfl,rfl,fun k hk=>?_⟩
 have:(List.replicate 8 ([]:List Nm)).getD k.toNat [] = []:=by
  rw [List.getD_eq_getElem?_getD,List.getElem?_replicate]
  split <;> rfl
 rw [this]
 exact ⟨by simp,by simp⟩
theorem f8_eq (x:List (List Int)) (hx:iRows x):∃ c,f8 x = some (c,())∧okC c:=by
 obtain ⟨c,h1,h2⟩:=f8_l3_eq x hx (List.replicate 8 []) 20 0 (((x.length:Int) - 0).toNat + 1) (List.replicate 8 []) rfl (Nat.zero_le _) (by omega) okC_nil
 refine ⟨(c,()),?_,h2⟩
 unfold f8
 exact bind_step h1 rfl
end Go.V.G
namespace Go.V.G
open Go.Proofs
noncomputable section
end
end Go.V.G
namespace Go.V.G
open Go.Proofs
noncomputable section
def f41_l4c_head:Ann:={ env:=[(0,.cst (.fn 61 [(.ptr 6 0 []),(.ptr 7 0 []),(.ptr 4 0 [])])),(2,YI),(8,YI)],stk:=[[(4,cP 4),(5,cP 5)],[(0,.cst (.tup [(.fn 47 []),(.ptr 5 0 [])]))],[(0,.cst (.tup [(.fn 60 [(.ptr 5 0 []),(.ptr 4 0 [])])]))]],bxs:=[(6,.var [.cst (.mp 18)]),(7,.var [.cst (.mp 21)]),(4,.var [.cst (.row 23015066 .whole)]),(5,.var [YI]),(18,.map (.arr 2 yI) yR),(21,.map (.arr 2 yI) yR),(23015066,.row yR false)] }
def f41_l4c_outs:List (Ex × Ann):=[((.exit 2),{ env:=[(0,.cst (.fn 61 [(.ptr 6 0 []),(.ptr 7 0 []),(.ptr 4 0 [])])),(2,YI)],stk:=[[(4,cP 4),(5,cP 5)],[(0,.cst (.tup [(.fn 47 []),(.ptr 5 0 [])]))],[(0,.cst (.tup [(.fn 60 [(.ptr 5 0 []),(.ptr 4 0 [])])]))]],bxs:=[(6,.var [.cst (.mp 18)]),(7,.var [.cst (.mp 21)]),(4,.var [.cst (.row 23015066 .whole)]),(5,.var [YI]),(18,.map (.arr 2 yI) yR),(21,.map (.arr 2 yI) yR),(23015066,.row yR false)] }),((.pan ⟨130,.emp⟩),{ env:=[],stk:=[[(4,cP 4),(5,cP 5)],[(0,.cst (.tup [(.fn 47 []),(.ptr 5 0 [])]))],[(0,.cst (.tup [(.fn 60 [(.ptr 5 0 []),(.ptr 4 0 [])])]))]],bxs:=[(4,.var [.cst (.row 23015066 .whole)]),(5,.var [YI]),(23015066,.row yR false)] })]
def f41_l4c (t2:Int) (b5g0:Int) (m18:(List ((List Int) × Yr))) (m21:(List ((List Int) × Yr))):Nat→Int→(List Yr)→Option (outDen f41_l4c_outs)
 | 0,_,_=>none
 | k + 1,t8,r23015066 =>
 bif (decide (t8 < (24:Int))) then
 let v5:Bool:=(mapHas (.arr 2 yI) yR m18 ([t2,t8]:List Int))
 let v6:Bool:=(mapHas (.arr 2 yI) yR m21 ([t2,t8]:List Int))
 bif (!v5) then
 same (
 same (
 bif (!v5) then
 bif (!v6) then
 f41_l4c t2 b5g0 m18 m21 k (IntKind.wrap .i64 (t8 + 1)) r23015066
 else
 (f52 (mapGet (.arr 2 yI) yR m18 ([t2,t8]:List Int))).bind fun y7 =>
 (f53 (mapGet (.arr 2 yI) yR m21 ([t2,t8]:List Int))).bind fun y8 =>
 bif (!v5) then
 (f52 (mapGet (.arr 2 yI) yR m21 ([t2,t8]:List Int))).bind fun y9 =>
 bif (!v6) then
 (f53 (mapGet (.arr 2 yI) yR m18 ([t2,t8]:List Int))).bind fun y10 =>
 (f44 y9.1 y10.1).bind fun y11 =>
 bif (!y11.1) then
 (f45 ([t2,t8]:List Int) y9.1 y10.1).bind fun y12 =>
 bif (decide (r23015066.length + ([y12.1]:List Yr).length≤appLim)) then f41_l4c t2 b5g0 m18 m21 k (IntKind.wrap .i64 (t8 + 1)) (r23015066++([y12.1]:List Yr)) else none
 else
 f41_l4c t2 b5g0 m18 m21 k (IntKind.wrap .i64 (t8 + 1)) r23015066
 else
 (f44 y9.1 y8.1).bind fun y13 =>
 bif (!y13.1) then
 (f45 ([t2,t8]:List Int) y9.1 y8.1).bind fun y14 =>
 bif (decide (r23015066.length + ([y14.1]:List Yr).length≤appLim)) then f41_l4c t2 b5g0 m18 m21 k (IntKind.wrap .i64 (t8 + 1)) (r23015066++([y14.1]:List Yr)) else none
 else
 f41_l4c t2 b5g0 m18 m21 k (IntKind.wrap .i64 (t8 + 1)) r23015066
 else
 bif (!v6) then
 (f53 (mapGet (.arr 2 yI) yR m18 ([t2,t8]:List Int))).bind fun y15 =>
 (f44 y7.1 y15.1).bind fun y16 =>
 bif (!y16.1) then
 (f45 ([t2,t8]:List Int) y7.1 y15.1).bind fun y17 =>
 bif (decide (r23015066.length + ([y17.1]:List Yr).length≤appLim)) then f41_l4c t2 b5g0 m18 m21 k (IntKind.wrap .i64 (t8 + 1)) (r23015066++([y17.1]:List Yr)) else none
 else
 f41_l4c t2 b5g0 m18 m21 k (IntKind.wrap .i64 (t8 + 1)) r23015066
 else
 (f44 y7.1 y8.1).bind fun y18 =>
 bif (!y18.1) then
 (f45 ([t2,t8]:List Int) y7.1 y8.1).bind fun y19 =>
 bif (decide (r23015066.length + ([y19.1]:List Yr).length≤appLim)) then f41_l4c t2 b5g0 m18 m21 k (IntKind.wrap .i64 (t8 + 1)) (r23015066++([y19.1]:List Yr)) else none
 else
 f41_l4c t2 b5g0 m18 m21 k (IntKind.wrap .i64 (t8 + 1)) r23015066
 else
 (f52 (mapGet (.arr 2 yI) yR m18 ([t2,t8]:List Int))).bind fun y20 =>
 (f53 (mapGet (.arr 2 yI) yR m21 ([t2,t8]:List Int))).bind fun y21 =>
 bif (!v5) then
 (f52 (mapGet (.arr 2 yI) yR m21 ([t2,t8]:List Int))).bind fun y22 =>
 bif (!v6) then
 (f53 (mapGet (.arr 2 yI) yR m18 ([t2,t8]:List Int))).bind fun y23 =>
 (f44 y22.1 y23.1).bind fun y24 =>
 bif (!y24.1) then
 (f45 ([t2,t8]:List Int) y22.1 y23.1).bind fun y25 =>
 bif (decide (r23015066.length + ([y25.1]:List Yr).length≤appLim)) then f41_l4c t2 b5g0 m18 m21 k (IntKind.wrap .i64 (t8 + 1)) (r23015066++([y25.1]:List Yr)) else none
 else
 f41_l4c t2 b5g0 m18 m21 k (IntKind.wrap .i64 (t8 + 1)) r23015066
 else
 (f44 y22.1 y21.1).bind fun y26 =>
 bif (!y26.1) then
 (f45 ([t2,t8]:List Int) y22.1 y21.1).bind fun y27 =>
 bif (decide (r23015066.length + ([y27.1]:List Yr).length≤appLim)) then f41_l4c t2 b5g0 m18 m21 k (IntKind.wrap .i64 (t8 + 1)) (r23015066++([y27.1]:List Yr)) else none
 else
 f41_l4c t2 b5g0 m18 m21 k (IntKind.wrap .i64 (t8 + 1)) r23015066
 else
 bif (!v6) then
 (f53 (mapGet (.arr 2 yI) yR m18 ([t2,t8]:List Int))).bind fun y28 =>
 (f44 y20.1 y28.1).bind fun y29 =>
 bif (!y29.1) then
 (f45 ([t2,t8]:List Int) y20.1 y28.1).bind fun y30 =>
 bif (decide (r23015066.length + ([y30.1]:List Yr).length≤appLim)) then f41_l4c t2 b5g0 m18 m21 k (IntKind.wrap .i64 (t8 + 1)) (r23015066++([y30.1]:List Yr)) else none
 else
 f41_l4c t2 b5g0 m18 m21 k (IntKind.wrap .i64 (t8 + 1)) r23015066
 else
 (f44 y20.1 y21.1).bind fun y31 =>
 bif (!y31.1) then
 (f45 ([t2,t8]:List Int) y20.1 y21.1).bind fun y32 =>
 bif (decide (r23015066.length + ([y32.1]:List Yr).length≤appLim)) then f41_l4c t2 b5g0 m18 m21 k (IntKind.wrap .i64 (t8 + 1)) (r23015066++([y32.1]:List Yr)) else none
 else
 f41_l4c t2 b5g0 m18 m21 k (IntKind.wrap .i64 (t8 + 1)) r23015066) (
 bif (!v5) then
 bif (!v6) then
 f41_l4c t2 b5g0 m18 m21 k (IntKind.wrap .i64 (t8 + 1)) r23015066
 else
 (f52 (mapGet (.arr 2 yI) yR m18 ([t2,t8]:List Int))).bind fun y33 =>
 (f53 (mapGet (.arr 2 yI) yR m21 ([t2,t8]:List Int))).bind fun y34 =>
 bif (!v5) then
 (f52 (mapGet (.arr 2 yI) yR m21 ([t2,t8]:List Int))).bind fun y35 =>
 bif (!v6) then
 (f53 (mapGet (.arr 2 yI) yR m18 ([t2,t8]:List Int))).bind fun y36 =>
 (f44 y35.1 y36.1).bind fun y37 =>
 bif (!y37.1) then
 (f45 ([t2,t8]:List Int) y35.1 y36.1).bind fun y38 =>
 bif (decide (r23015066.length + ([y38.1]:List Yr).length≤appLim)) then f41_l4c t2 b5g0 m18 m21 k (IntKind.wrap .i64 (t8 + 1)) (r23015066++([y38.1]:List Yr)) else none
 else
 f41_l4c t2 b5g0 m18 m21 k (IntKind.wrap .i64 (t8 + 1)) r23015066
 else
 (f44 y35.1 y34.1).bind fun y39 =>
 bif (!y39.1) then
 (f45 ([t2,t8]:List Int) y35.1 y34.1).bind fun y40 =>
 bif (decide (r23015066.length + ([y40.1]:List Yr).length≤appLim)) then f41_l4c t2 b5g0 m18 m21 k (IntKind.wrap .i64 (t8 + 1)) (r23015066++([y40.1]:List Yr)) else none
 else
 f41_l4c t2 b5g0 m18 m21 k (IntKind.wrap .i64 (t8 + 1)) r23015066
 else
 bif (!v6) then
 (f53 (mapGet (.arr 2 yI) yR m18 ([t2,t8]:List Int))).bind fun y41 =>
 (f44 y33.1 y41.1).bind fun y42 =>
 bif (!y42.1) then
 (f45 ([t2,t8]:List Int) y33.1 y41.1).bind fun y43 =>
 bif (decide (r23015066.length + ([y43.1]:List Yr).length≤appLim)) then f41_l4c t2 b5g0 m18 m21 k (IntKind.wrap .i64 (t8 + 1)) (r23015066++([y43.1]:List Yr)) else none
 else
 f41_l4c t2 b5g0 m18 m21 k (IntKind.wrap .i64 (t8 + 1)) r23015066
 else
 (f44 y33.1 y34.1).bind fun y44 =>
 bif (!y44.1) then
 (f45 ([t2,t8]:List Int) y33.1 y34.1).bind fun y45 =>
 bif (decide (r23015066.length + ([y45.1]:List Yr).length≤appLim)) then f41_l4c t2 b5g0 m18 m21 k (IntKind.wrap .i64 (t8 + 1)) (r23015066++([y45.1]:List Yr)) else none
 else
 f41_l4c t2 b5g0 m18 m21 k (IntKind.wrap .i64 (t8 + 1)) r23015066
 else
 (f52 (mapGet (.arr 2 yI) yR m18 ([t2,t8]:List Int))).bind fun y46 =>
 (f53 (mapGet (.arr 2 yI) yR m21 ([t2,t8]:List Int))).bind fun y47 =>
 bif (!v5) then
 (f52 (mapGet (.arr 2 yI) yR m21 ([t2,t8]:List Int))).bind fun y48 =>
 bif (!v6) then
 (f53 (mapGet (.arr 2 yI) yR m18 ([t2,t8]:List Int))).bind fun y49 =>
 (f44 y48.1 y49.1).bind fun y50 =>
 bif (!y50.1) then
 (f45 ([t2,t8]:List Int) y48.1 y49.1).bind fun y51 =>
 bif (decide (r23015066.length + ([y51.1]:List Yr).length≤appLim)) then f41_l4c t2 b5g0 m18 m21 k (IntKind.wrap .i64 (t8 + 1)) (r23015066++([y51.1]:List Yr)) else none
 else
 f41_l4c t2 b5g0 m18 m21 k (IntKind.wrap .i64 (t8 + 1)) r23015066
 else
 (f44 y48.1 y47.1).bind fun y52 =>
 bif (!y52.1) then
 (f45 ([t2,t8]:List Int) y48.1 y47.1).bind fun y53 =>
 bif (decide (r23015066.length + ([y53.1]:List Yr).length≤appLim)) then f41_l4c t2 b5g0 m18 m21 k (IntKind.wrap .i64 (t8 + 1)) (r23015066++([y53.1]:List Yr)) else none
 else
 f41_l4c t2 b5g0 m18 m21 k (IntKind.wrap .i64 (t8 + 1)) r23015066
 else
 bif (!v6) then
 (f53 (mapGet (.arr 2 yI) yR m18 ([t2,t8]:List Int))).bind fun y54 =>
 (f44 y46.1 y54.1).bind fun y55 =>
 bif (!y55.1) then
 (f45 ([t2,t8]:List Int) y46.1 y54.1).bind fun y56 =>
 bif (decide (r23015066.length + ([y56.1]:List Yr).length≤appLim)) then f41_l4c t2 b5g0 m18 m21 k (IntKind.wrap .i64 (t8 + 1)) (r23015066++([y56.1]:List Yr)) else none
 else
 f41_l4c t2 b5g0 m18 m21 k (IntKind.wrap .i64 (t8 + 1)) r23015066
 else
 (f44 y46.1 y47.1).bind fun y57 =>
 bif (!y57.1) then
 (f45 ([t2,t8]:List Int) y46.1 y47.1).bind fun y58 =>
 bif (decide (r23015066.length + ([y58.1]:List Yr).length≤appLim)) then f41_l4c t2 b5g0 m18 m21 k (IntKind.wrap .i64 (t8 + 1)) (r23015066++([y58.1]:List Yr)) else none
 else
 f41_l4c t2 b5g0 m18 m21 k (IntKind.wrap .i64 (t8 + 1)) r23015066)) (
 bif (!v5) then
 bif (!v6) then
 f41_l4c t2 b5g0 m18 m21 k (IntKind.wrap .i64 (t8 + 1)) r23015066
 else
 (f52 (mapGet (.arr 2 yI) yR m18 ([t2,t8]:List Int))).bind fun y59 =>
 (f53 (mapGet (.arr 2 yI) yR m21 ([t2,t8]:List Int))).bind fun y60 =>
 bif (!v5) then
 (f52 (mapGet (.arr 2 yI) yR m21 ([t2,t8]:List Int))).bind fun y61 =>
 bif (!v6) then
 (f53 (mapGet (.arr 2 yI) yR m18 ([t2,t8]:List Int))).bind fun y62 =>
 (f44 y61.1 y62.1).bind fun y63 =>
 bif (!y63.1) then
 (f45 ([t2,t8]:List Int) y61.1 y62.1).bind fun y64 =>
 bif (decide (r23015066.length + ([y64.1]:List Yr).length≤appLim)) then f41_l4c t2 b5g0 m18 m21 k (IntKind.wrap .i64 (t8 + 1)) (r23015066++([y64.1]:List Yr)) else none
 else
 f41_l4c t2 b5g0 m18 m21 k (IntKind.wrap .i64 (t8 + 1)) r23015066
 else
 (f44 y61.1 y60.1).bind fun y65 =>
 bif (!y65.1) then
 (f45 ([t2,t8]:List Int) y61.1 y60.1).bind fun y66 =>
 bif (decide (r23015066.length + ([y66.1]:List Yr).length≤appLim)) then f41_l4c t2 b5g0 m18 m21 k (IntKind.wrap .i64 (t8 + 1)) (r23015066++([y66.1]:List Yr)) else none
 else
 f41_l4c t2 b5g0 m18 m21 k (IntKind.wrap .i64 (t8 + 1)) r23015066
 else
 bif (!v6) then
 (f53 (mapGet (.arr 2 yI) yR m18 ([t2,t8]:List Int))).bind fun y67 =>
 (f44 y59.1 y67.1).bind fun y68 =>
 bif (!y68.1) then
 (f45 ([t2,t8]:List Int) y59.1 y67.1).bind fun y69 =>
 bif (decide (r23015066.length + ([y69.1]:List Yr).length≤appLim)) then f41_l4c t2 b5g0 m18 m21 k (IntKind.wrap .i64 (t8 + 1)) (r23015066++([y69.1]:List Yr)) else none
 else
 f41_l4c t2 b5g0 m18 m21 k (IntKind.wrap .i64 (t8 + 1)) r23015066
 else
 (f44 y59.1 y60.1).bind fun y70 =>
 bif (!y70.1) then
 (f45 ([t2,t8]:List Int) y59.1 y60.1).bind fun y71 =>
 bif (decide (r23015066.length + ([y71.1]:List Yr).length≤appLim)) then f41_l4c t2 b5g0 m18 m21 k (IntKind.wrap .i64 (t8 + 1)) (r23015066++([y71.1]:List Yr)) else none
 else
 f41_l4c t2 b5g0 m18 m21 k (IntKind.wrap .i64 (t8 + 1)) r23015066
 else
 (f52 (mapGet (.arr 2 yI) yR m18 ([t2,t8]:List Int))).bind fun y72 =>
 (f53 (mapGet (.arr 2 yI) yR m21 ([t2,t8]:List Int))).bind fun y73 =>
 bif (!v5) then
 (f52 (mapGet (.arr 2 yI) yR m21 ([t2,t8]:List Int))).bind fun y74 =>
 bif (!v6) then
 (f53 (mapGet (.arr 2 yI) yR m18 ([t2,t8]:List Int))).bind fun y75 =>
 (f44 y74.1 y75.1).bind fun y76 =>
 bif (!y76.1) then
 (f45 ([t2,t8]:List Int) y74.1 y75.1).bind fun y77 =>
 bif (decide (r23015066.length + ([y77.1]:List Yr).length≤appLim)) then f41_l4c t2 b5g0 m18 m21 k (IntKind.wrap .i64 (t8 + 1)) (r23015066++([y77.1]:List Yr)) else none
 else
 f41_l4c t2 b5g0 m18 m21 k (IntKind.wrap .i64 (t8 + 1)) r23015066
 else
 (f44 y74.1 y73.1).bind fun y78 =>
 bif (!y78.1) then
 (f45 ([t2,t8]:List Int) y74.1 y73.1).bind fun y79 =>
 bif (decide (r23015066.length + ([y79.1]:List Yr).length≤appLim)) then f41_l4c t2 b5g0 m18 m21 k (IntKind.wrap .i64 (t8 + 1)) (r23015066++([y79.1]:List Yr)) else none
 else
 f41_l4c t2 b5g0 m18 m21 k (IntKind.wrap .i64 (t8 + 1)) r23015066
 else
 bif (!v6) then
 (f53 (mapGet (.arr 2 yI) yR m18 ([t2,t8]:List Int))).bind fun y80 =>
 (f44 y72.1 y80.1).bind fun y81 =>
 bif (!y81.1) then
 (f45 ([t2,t8]:List Int) y72.1 y80.1).bind fun y82 =>
 bif (decide (r23015066.length + ([y82.1]:List Yr).length≤appLim)) then f41_l4c t2 b5g0 m18 m21 k (IntKind.wrap .i64 (t8 + 1)) (r23015066++([y82.1]:List Yr)) else none
 else
 f41_l4c t2 b5g0 m18 m21 k (IntKind.wrap .i64 (t8 + 1)) r23015066
 else
 (f44 y72.1 y73.1).bind fun y83 =>
 bif (!y83.1) then
 (f45 ([t2,t8]:List Int) y72.1 y73.1).bind fun y84 =>
 bif (decide (r23015066.length + ([y84.1]:List Yr).length≤appLim)) then f41_l4c t2 b5g0 m18 m21 k (IntKind.wrap .i64 (t8 + 1)) (r23015066++([y84.1]:List Yr)) else none
 else
 f41_l4c t2 b5g0 m18 m21 k (IntKind.wrap .i64 (t8 + 1)) r23015066)
 else
 same (
 bif (!v6) then
 same (
 bif (!v5) then
 bif (!v6) then
 f41_l4c t2 b5g0 m18 m21 k (IntKind.wrap .i64 (t8 + 1)) r23015066
 else
 (f52 (mapGet (.arr 2 yI) yR m18 ([t2,t8]:List Int))).bind fun y85 =>
 (f53 (mapGet (.arr 2 yI) yR m21 ([t2,t8]:List Int))).bind fun y86 =>
 bif (!v5) then
 (f52 (mapGet (.arr 2 yI) yR m21 ([t2,t8]:List Int))).bind fun y87 =>
 bif (!v6) then
 (f53 (mapGet (.arr 2 yI) yR m18 ([t2,t8]:List Int))).bind fun y88 =>
 (f44 y87.1 y88.1).bind fun y89 =>
 bif (!y89.1) then
 (f45 ([t2,t8]:List Int) y87.1 y88.1).bind fun y90 =>
 bif (decide (r23015066.length + ([y90.1]:List Yr).length≤appLim)) then f41_l4c t2 b5g0 m18 m21 k (IntKind.wrap .i64 (t8 + 1)) (r23015066++([y90.1]:List Yr)) else none
 else
 f41_l4c t2 b5g0 m18 m21 k (IntKind.wrap .i64 (t8 + 1)) r23015066
 else
 (f44 y87.1 y86.1).bind fun y91 =>
 bif (!y91.1) then
 (f45 ([t2,t8]:List Int) y87.1 y86.1).bind fun y92 =>
 bif (decide (r23015066.length + ([y92.1]:List Yr).length≤appLim)) then f41_l4c t2 b5g0 m18 m21 k (IntKind.wrap .i64 (t8 + 1)) (r23015066++([y92.1]:List Yr)) else none
 else
 f41_l4c t2 b5g0 m18 m21 k (IntKind.wrap .i64 (t8 + 1)) r23015066
 else
 bif (!v6) then
 (f53 (mapGet (.arr 2 yI) yR m18 ([t2,t8]:List Int))).bind fun y93 =>
 (f44 y85.1 y93.1).bind fun y94 =>
 bif (!y94.1) then
 (f45 ([t2,t8]:List Int) y85.1 y93.1).bind fun y95 =>
 bif (decide (r23015066.length + ([y95.1]:List Yr).length≤appLim)) then f41_l4c t2 b5g0 m18 m21 k (IntKind.wrap .i64 (t8 + 1)) (r23015066++([y95.1]:List Yr)) else none
 else
 f41_l4c t2 b5g0 m18 m21 k (IntKind.wrap .i64 (t8 + 1)) r23015066
 else
 (f44 y85.1 y86.1).bind fun y96 =>
 bif (!y96.1) then
 (f45 ([t2,t8]:List Int) y85.1 y86.1).bind fun y97 =>
 bif (decide (r23015066.length + ([y97.1]:List Yr).length≤appLim)) then f41_l4c t2 b5g0 m18 m21 k (IntKind.wrap .i64 (t8 + 1)) (r23015066++([y97.1]:List Yr)) else none
 else
 f41_l4c t2 b5g0 m18 m21 k (IntKind.wrap .i64 (t8 + 1)) r23015066
 else
 (f52 (mapGet (.arr 2 yI) yR m18 ([t2,t8]:List Int))).bind fun y98 =>
 (f53 (mapGet (.arr 2 yI) yR m21 ([t2,t8]:List Int))).bind fun y99 =>
 bif (!v5) then
 (f52 (mapGet (.arr 2 yI) yR m21 ([t2,t8]:List Int))).bind fun y100 =>
 bif (!v6) then
 (f53 (mapGet (.arr 2 yI) yR m18 ([t2,t8]:List Int))).bind fun y101 =>
 (f44 y100.1 y101.1).bind fun y102 =>
 bif (!y102.1) then
 (f45 ([t2,t8]:List Int) y100.1 y101.1).bind fun y103 =>
 bif (decide (r23015066.length + ([y103.1]:List Yr).length≤appLim)) then f41_l4c t2 b5g0 m18 m21 k (IntKind.wrap .i64 (t8 + 1)) (r23015066++([y103.1]:List Yr)) else none
 else
 f41_l4c t2 b5g0 m18 m21 k (IntKind.wrap .i64 (t8 + 1)) r23015066
 else
 (f44 y100.1 y99.1).bind fun y104 =>
 bif (!y104.1) then
 (f45 ([t2,t8]:List Int) y100.1 y99.1).bind fun y105 =>
 bif (decide (r23015066.length + ([y105.1]:List Yr).length≤appLim)) then f41_l4c t2 b5g0 m18 m21 k (IntKind.wrap .i64 (t8 + 1)) (r23015066++([y105.1]:List Yr)) else none
 else
 f41_l4c t2 b5g0 m18 m21 k (IntKind.wrap .i64 (t8 + 1)) r23015066
 else
 bif (!v6) then
 (f53 (mapGet (.arr 2 yI) yR m18 ([t2,t8]:List Int))).bind fun y106 =>
 (f44 y98.1 y106.1).bind fun y107 =>
 bif (!y107.1) then
 (f45 ([t2,t8]:List Int) y98.1 y106.1).bind fun y108 =>
 bif (decide (r23015066.length + ([y108.1]:List Yr).length≤appLim)) then f41_l4c t2 b5g0 m18 m21 k (IntKind.wrap .i64 (t8 + 1)) (r23015066++([y108.1]:List Yr)) else none
 else
 f41_l4c t2 b5g0 m18 m21 k (IntKind.wrap .i64 (t8 + 1)) r23015066
 else
 (f44 y98.1 y99.1).bind fun y109 =>
 bif (!y109.1) then
 (f45 ([t2,t8]:List Int) y98.1 y99.1).bind fun y110 =>
 bif (decide (r23015066.length + ([y110.1]:List Yr).length≤appLim)) then f41_l4c t2 b5g0 m18 m21 k (IntKind.wrap .i64 (t8 + 1)) (r23015066++([y110.1]:List Yr)) else none
 else
 f41_l4c t2 b5g0 m18 m21 k (IntKind.wrap .i64 (t8 + 1)) r23015066) (
 bif (!v5) then
 bif (!v6) then
 f41_l4c t2 b5g0 m18 m21 k (IntKind.wrap .i64 (t8 + 1)) r23015066
 else
 (f52 (mapGet (.arr 2 yI) yR m18 ([t2,t8]:List Int))).bind fun y111 =>
 (f53 (mapGet (.arr 2 yI) yR m21 ([t2,t8]:List Int))).bind fun y112 =>
 bif (!v5) then
 (f52 (mapGet (.arr 2 yI) yR m21 ([t2,t8]:List Int))).bind fun y113 =>
 bif (!v6) then
 (f53 (mapGet (.arr 2 yI) yR m18 ([t2,t8]:List Int))).bind fun y114 =>
 (f44 y113.1 y114.1).bind fun y115 =>
 bif (!y115.1) then
 (f45 ([t2,t8]:List Int) y113.1 y114.1).bind fun y116 =>
 bif (decide (r23015066.length + ([y116.1]:List Yr).length≤appLim)) then f41_l4c t2 b5g0 m18 m21 k (IntKind.wrap .i64 (t8 + 1)) (r23015066++([y116.1]:List Yr)) else none
 else
 f41_l4c t2 b5g0 m18 m21 k (IntKind.wrap .i64 (t8 + 1)) r23015066
 else
 (f44 y113.1 y112.1).bind fun y117 =>
 bif (!y117.1) then
 (f45 ([t2,t8]:List Int) y113.1 y112.1).bind fun y118 =>
 bif (decide (r23015066.length + ([y118.1]:List Yr).length≤appLim)) then f41_l4c t2 b5g0 m18 m21 k (IntKind.wrap .i64 (t8 + 1)) (r23015066++([y118.1]:List Yr)) else none
 else
 f41_l4c t2 b5g0 m18 m21 k (IntKind.wrap .i64 (t8 + 1)) r23015066
 else
 bif (!v6) then
 (f53 (mapGet (.arr 2 yI) yR m18 ([t2,t8]:List Int))).bind fun y119 =>
 (f44 y111.1 y119.1).bind fun y120 =>
 bif (!y120.1) then
 (f45 ([t2,t8]:List Int) y111.1 y119.1).bind fun y121 =>
 bif (decide (r23015066.length + ([y121.1]:List Yr).length≤appLim)) then f41_l4c t2 b5g0 m18 m21 k (IntKind.wrap .i64 (t8 + 1)) (r23015066++([y121.1]:List Yr)) else none
 else
 f41_l4c t2 b5g0 m18 m21 k (IntKind.wrap .i64 (t8 + 1)) r23015066
 else
 (f44 y111.1 y112.1).bind fun y122 =>
 bif (!y122.1) then
 (f45 ([t2,t8]:List Int) y111.1 y112.1).bind fun y123 =>
 bif (decide (r23015066.length + ([y123.1]:List Yr).length≤appLim)) then f41_l4c t2 b5g0 m18 m21 k (IntKind.wrap .i64 (t8 + 1)) (r23015066++([y123.1]:List Yr)) else none
 else
 f41_l4c t2 b5g0 m18 m21 k (IntKind.wrap .i64 (t8 + 1)) r23015066
 else
 (f52 (mapGet (.arr 2 yI) yR m18 ([t2,t8]:List Int))).bind fun y124 =>
 (f53 (mapGet (.arr 2 yI) yR m21 ([t2,t8]:List Int))).bind fun y125 =>
 bif (!v5) then
 (f52 (mapGet (.arr 2 yI) yR m21 ([t2,t8]:List Int))).bind fun y126 =>
 bif (!v6) then
 (f53 (mapGet (.arr 2 yI) yR m18 ([t2,t8]:List Int))).bind fun y127 =>
 (f44 y126.1 y127.1).bind fun y128 =>
 bif (!y128.1) then
 (f45 ([t2,t8]:List Int) y126.1 y127.1).bind fun y129 =>
 bif (decide (r23015066.length + ([y129.1]:List Yr).length≤appLim)) then f41_l4c t2 b5g0 m18 m21 k (IntKind.wrap .i64 (t8 + 1)) (r23015066++([y129.1]:List Yr)) else none
 else
 f41_l4c t2 b5g0 m18 m21 k (IntKind.wrap .i64 (t8 + 1)) r23015066
 else
 (f44 y126.1 y125.1).bind fun y130 =>
 bif (!y130.1) then
 (f45 ([t2,t8]:List Int) y126.1 y125.1).bind fun y131 =>
 bif (decide (r23015066.length + ([y131.1]:List Yr).length≤appLim)) then f41_l4c t2 b5g0 m18 m21 k (IntKind.wrap .i64 (t8 + 1)) (r23015066++([y131.1]:List Yr)) else none
 else
 f41_l4c t2 b5g0 m18 m21 k (IntKind.wrap .i64 (t8 + 1)) r23015066
 else
 bif (!v6) then
 (f53 (mapGet (.arr 2 yI) yR m18 ([t2,t8]:List Int))).bind fun y132 =>
 (f44 y124.1 y132.1).bind fun y133 =>
 bif (!y133.1) then
 (f45 ([t2,t8]:List Int) y124.1 y132.1).bind fun y134 =>
 bif (decide (r23015066.length + ([y134.1]:List Yr).length≤appLim)) then f41_l4c t2 b5g0 m18 m21 k (IntKind.wrap .i64 (t8 + 1)) (r23015066++([y134.1]:List Yr)) else none
 else
 f41_l4c t2 b5g0 m18 m21 k (IntKind.wrap .i64 (t8 + 1)) r23015066
 else
 (f44 y124.1 y125.1).bind fun y135 =>
 bif (!y135.1) then
 (f45 ([t2,t8]:List Int) y124.1 y125.1).bind fun y136 =>
 bif (decide (r23015066.length + ([y136.1]:List Yr).length≤appLim)) then f41_l4c t2 b5g0 m18 m21 k (IntKind.wrap .i64 (t8 + 1)) (r23015066++([y136.1]:List Yr)) else none
 else
 f41_l4c t2 b5g0 m18 m21 k (IntKind.wrap .i64 (t8 + 1)) r23015066)
 else
 same (
 (f53 (mapGet (.arr 2 yI) yR m18 ([t2,t8]:List Int))).bind fun y137 =>
 (f52 (mapGet (.arr 2 yI) yR m21 ([t2,t8]:List Int))).bind fun y138 =>
 (f44 y137.1 y138.1).bind fun y139 =>
 bif (!y139.1) then
 some (.inr ((),((),(),(),()),((),(b5g0,()),r23015066,())))
 else
 bif (!v5) then
 bif (!v6) then
 f41_l4c t2 b5g0 m18 m21 k (IntKind.wrap .i64 (t8 + 1)) r23015066
 else
 (f52 (mapGet (.arr 2 yI) yR m18 ([t2,t8]:List Int))).bind fun y140 =>
 (f53 (mapGet (.arr 2 yI) yR m21 ([t2,t8]:List Int))).bind fun y141 =>
 bif (!v5) then
 (f52 (mapGet (.arr 2 yI) yR m21 ([t2,t8]:List Int))).bind fun y142 =>
 bif (!v6) then
 (f53 (mapGet (.arr 2 yI) yR m18 ([t2,t8]:List Int))).bind fun y143 =>
 (f44 y142.1 y143.1).bind fun y144 =>
 bif (!y144.1) then
 (f45 ([t2,t8]:List Int) y142.1 y143.1).bind fun y145 =>
 bif (decide (r23015066.length + ([y145.1]:List Yr).length≤appLim)) then f41_l4c t2 b5g0 m18 m21 k (IntKind.wrap .i64 (t8 + 1)) (r23015066++([y145.1]:List Yr)) else none
 else
 f41_l4c t2 b5g0 m18 m21 k (IntKind.wrap .i64 (t8 + 1)) r23015066
 else
 (f44 y142.1 y141.1).bind fun y146 =>
 bif (!y146.1) then
 (f45 ([t2,t8]:List Int) y142.1 y141.1).bind fun y147 =>
 bif (decide (r23015066.length + ([y147.1]:List Yr).length≤appLim)) then f41_l4c t2 b5g0 m18 m21 k (IntKind.wrap .i64 (t8 + 1)) (r23015066++([y147.1]:List Yr)) else none
 else
 f41_l4c t2 b5g0 m18 m21 k (IntKind.wrap .i64 (t8 + 1)) r23015066
 else
 bif (!v6) then
 (f53 (mapGet (.arr 2 yI) yR m18 ([t2,t8]:List Int))).bind fun y148 =>
 (f44 y140.1 y148.1).bind fun y149 =>
 bif (!y149.1) then
 (f45 ([t2,t8]:List Int) y140.1 y148.1).bind fun y150 =>
 bif (decide (r23015066.length + ([y150.1]:List Yr).length≤appLim)) then f41_l4c t2 b5g0 m18 m21 k (IntKind.wrap .i64 (t8 + 1)) (r23015066++([y150.1]:List Yr)) else none
 else
 f41_l4c t2 b5g0 m18 m21 k (IntKind.wrap .i64 (t8 + 1)) r23015066
 else
 (f44 y140.1 y141.1).bind fun y151 =>
 bif (!y151.1) then
 (f45 ([t2,t8]:List Int) y140.1 y141.1).bind fun y152 =>
 bif (decide (r23015066.length + ([y152.1]:List Yr).length≤appLim)) then f41_l4c t2 b5g0 m18 m21 k (IntKind.wrap .i64 (t8 + 1)) (r23015066++([y152.1]:List Yr)) else none
 else
 f41_l4c t2 b5g0 m18 m21 k (IntKind.wrap .i64 (t8 + 1)) r23015066
 else
 (f52 (mapGet (.arr 2 yI) yR m18 ([t2,t8]:List Int))).bind fun y153 =>
 (f53 (mapGet (.arr 2 yI) yR m21 ([t2,t8]:List Int))).bind fun y154 =>
 bif (!v5) then
 (f52 (mapGet (.arr 2 yI) yR m21 ([t2,t8]:List Int))).bind fun y155 =>
 bif (!v6) then
 (f53 (mapGet (.arr 2 yI) yR m18 ([t2,t8]:List Int))).bind fun y156 =>
 (f44 y155.1 y156.1).bind fun y157 =>
 bif (!y157.1) then
 (f45 ([t2,t8]:List Int) y155.1 y156.1).bind fun y158 =>
 bif (decide (r23015066.length + ([y158.1]:List Yr).length≤appLim)) then f41_l4c t2 b5g0 m18 m21 k (IntKind.wrap .i64 (t8 + 1)) (r23015066++([y158.1]:List Yr)) else none
 else
 f41_l4c t2 b5g0 m18 m21 k (IntKind.wrap .i64 (t8 + 1)) r23015066
 else
 (f44 y155.1 y154.1).bind fun y159 =>
 bif (!y159.1) then
 (f45 ([t2,t8]:List Int) y155.1 y154.1).bind fun y160 =>
 bif (decide (r23015066.length + ([y160.1]:List Yr).length≤appLim)) then f41_l4c t2 b5g0 m18 m21 k (IntKind.wrap .i64 (t8 + 1)) (r23015066++([y160.1]:List Yr)) else none
 else
 f41_l4c t2 b5g0 m18 m21 k (IntKind.wrap .i64 (t8 + 1)) r23015066
 else
 bif (!v6) then
 (f53 (mapGet (.arr 2 yI) yR m18 ([t2,t8]:List Int))).bind fun y161 =>
 (f44 y153.1 y161.1).bind fun y162 =>
 bif (!y162.1) then
 (f45 ([t2,t8]:List Int) y153.1 y161.1).bind fun y163 =>
 bif (decide (r23015066.length + ([y163.1]:List Yr).length≤appLim)) then f41_l4c t2 b5g0 m18 m21 k (IntKind.wrap .i64 (t8 + 1)) (r23015066++([y163.1]:List Yr)) else none
 else
 f41_l4c t2 b5g0 m18 m21 k (IntKind.wrap .i64 (t8 + 1)) r23015066
 else
 (f44 y153.1 y154.1).bind fun y164 =>
 bif (!y164.1) then
 (f45 ([t2,t8]:List Int) y153.1 y154.1).bind fun y165 =>
 bif (decide (r23015066.length + ([y165.1]:List Yr).length≤appLim)) then f41_l4c t2 b5g0 m18 m21 k (IntKind.wrap .i64 (t8 + 1)) (r23015066++([y165.1]:List Yr)) else none
 else
 f41_l4c t2 b5g0 m18 m21 k (IntKind.wrap .i64 (t8 + 1)) r23015066) (
 (f53 (mapGet (.arr 2 yI) yR m18 ([t2,t8]:List Int))).bind fun y166 =>
 (f52 (mapGet (.arr 2 yI) yR m21 ([t2,t8]:List Int))).bind fun y167 =>
 (f44 y166.1 y167.1).bind fun y168 =>
 bif (!y168.1) then
 some (.inr ((),((),(),(),()),((),(b5g0,()),r23015066,())))
 else
 bif (!v5) then
 bif (!v6) then
 f41_l4c t2 b5g0 m18 m21 k (IntKind.wrap .i64 (t8 + 1)) r23015066
 else
 (f52 (mapGet (.arr 2 yI) yR m18 ([t2,t8]:List Int))).bind fun y169 =>
 (f53 (mapGet (.arr 2 yI) yR m21 ([t2,t8]:List Int))).bind fun y170 =>
 bif (!v5) then
 (f52 (mapGet (.arr 2 yI) yR m21 ([t2,t8]:List Int))).bind fun y171 =>
 bif (!v6) then
 (f53 (mapGet (.arr 2 yI) yR m18 ([t2,t8]:List Int))).bind fun y172 =>
 (f44 y171.1 y172.1).bind fun y173 =>
 bif (!y173.1) then
 (f45 ([t2,t8]:List Int) y171.1 y172.1).bind fun y174 =>
 bif (decide (r23015066.length + ([y174.1]:List Yr).length≤appLim)) then f41_l4c t2 b5g0 m18 m21 k (IntKind.wrap .i64 (t8 + 1)) (r23015066++([y174.1]:List Yr)) else none
 else
 f41_l4c t2 b5g0 m18 m21 k (IntKind.wrap .i64 (t8 + 1)) r23015066
 else
 (f44 y171.1 y170.1).bind fun y175 =>
 bif (!y175.1) then
 (f45 ([t2,t8]:List Int) y171.1 y170.1).bind fun y176 =>
 bif (decide (r23015066.length + ([y176.1]:List Yr).length≤appLim)) then f41_l4c t2 b5g0 m18 m21 k (IntKind.wrap .i64 (t8 + 1)) (r23015066++([y176.1]:List Yr)) else none
 else
 f41_l4c t2 b5g0 m18 m21 k (IntKind.wrap .i64 (t8 + 1)) r23015066
 else
 bif (!v6) then
 (f53 (mapGet (.arr 2 yI) yR m18 ([t2,t8]:List Int))).bind fun y177 =>
 (f44 y169.1 y177.1).bind fun y178 =>
 bif (!y178.1) then
 (f45 ([t2,t8]:List Int) y169.1 y177.1).bind fun y179 =>
 bif (decide (r23015066.length + ([y179.1]:List Yr).length≤appLim)) then f41_l4c t2 b5g0 m18 m21 k (IntKind.wrap .i64 (t8 + 1)) (r23015066++([y179.1]:List Yr)) else none
 else
 f41_l4c t2 b5g0 m18 m21 k (IntKind.wrap .i64 (t8 + 1)) r23015066
 else
 (f44 y169.1 y170.1).bind fun y180 =>
 bif (!y180.1) then
 (f45 ([t2,t8]:List Int) y169.1 y170.1).bind fun y181 =>
 bif (decide (r23015066.length + ([y181.1]:List Yr).length≤appLim)) then f41_l4c t2 b5g0 m18 m21 k (IntKind.wrap .i64 (t8 + 1)) (r23015066++([y181.1]:List Yr)) else none
 else
 f41_l4c t2 b5g0 m18 m21 k (IntKind.wrap .i64 (t8 + 1)) r23015066
 else
 (f52 (mapGet (.arr 2 yI) yR m18 ([t2,t8]:List Int))).bind fun y182 =>
 (f53 (mapGet (.arr 2 yI) yR m21 ([t2,t8]:List Int))).bind fun y183 =>
 bif (!v5) then
 (f52 (mapGet (.arr 2 yI) yR m21 ([t2,t8]:List Int))).bind fun y184 =>
 bif (!v6) then
 (f53 (mapGet (.arr 2 yI) yR m18 ([t2,t8]:List Int))).bind fun y185 =>
 (f44 y184.1 y185.1).bind fun y186 =>
 bif (!y186.1) then
 (f45 ([t2,t8]:List Int) y184.1 y185.1).bind fun y187 =>
 bif (decide (r23015066.length + ([y187.1]:List Yr).length≤appLim)) then f41_l4c t2 b5g0 m18 m21 k (IntKind.wrap .i64 (t8 + 1)) (r23015066++([y187.1]:List Yr)) else none
 else
 f41_l4c t2 b5g0 m18 m21 k (IntKind.wrap .i64 (t8 + 1)) r23015066
 else
 (f44 y184.1 y183.1).bind fun y188 =>
 bif (!y188.1) then
 (f45 ([t2,t8]:List Int) y184.1 y183.1).bind fun y189 =>
 bif (decide (r23015066.length + ([y189.1]:List Yr).length≤appLim)) then f41_l4c t2 b5g0 m18 m21 k (IntKind.wrap .i64 (t8 + 1)) (r23015066++([y189.1]:List Yr)) else none
 else
 f41_l4c t2 b5g0 m18 m21 k (IntKind.wrap .i64 (t8 + 1)) r23015066
 else
 bif (!v6) then
 (f53 (mapGet (.arr 2 yI) yR m18 ([t2,t8]:List Int))).bind fun y190 =>
 (f44 y182.1 y190.1).bind fun y191 =>
 bif (!y191.1) then
 (f45 ([t2,t8]:List Int) y182.1 y190.1).bind fun y192 =>
 bif (decide (r23015066.length + ([y192.1]:List Yr).length≤appLim)) then f41_l4c t2 b5g0 m18 m21 k (IntKind.wrap .i64 (t8 + 1)) (r23015066++([y192.1]:List Yr)) else none
 else
 f41_l4c t2 b5g0 m18 m21 k (IntKind.wrap .i64 (t8 + 1)) r23015066
 else
 (f44 y182.1 y183.1).bind fun y193 =>
 bif (!y193.1) then
 (f45 ([t2,t8]:List Int) y182.1 y183.1).bind fun y194 =>
 bif (decide (r23015066.length + ([y194.1]:List Yr).length≤appLim)) then f41_l4c t2 b5g0 m18 m21 k (IntKind.wrap .i64 (t8 + 1)) (r23015066++([y194.1]:List Yr)) else none
 else
 f41_l4c t2 b5g0 m18 m21 k (IntKind.wrap .i64 (t8 + 1)) r23015066)) (
 bif (!v6) then
 bif (!v5) then
 bif (!v6) then
 f41_l4c t2 b5g0 m18 m21 k (IntKind.wrap .i64 (t8 + 1)) r23015066
 else
 (f52 (mapGet (.arr 2 yI) yR m18 ([t2,t8]:List Int))).bind fun y195 =>
 (f53 (mapGet (.arr 2 yI) yR m21 ([t2,t8]:List Int))).bind fun y196 =>
 bif (!v5) then
 (f52 (mapGet (.arr 2 yI) yR m21 ([t2,t8]:List Int))).bind fun y197 =>
 bif (!v6) then
 (f53 (mapGet (.arr 2 yI) yR m18 ([t2,t8]:List Int))).bind fun y198 =>
 (f44 y197.1 y198.1).bind fun y199 =>
 bif (!y199.1) then
 (f45 ([t2,t8]:List Int) y197.1 y198.1).bind fun y200 =>
 bif (decide (r23015066.length + ([y200.1]:List Yr).length≤appLim)) then f41_l4c t2 b5g0 m18 m21 k (IntKind.wrap .i64 (t8 + 1)) (r23015066++([y200.1]:List Yr)) else none
 else
 f41_l4c t2 b5g0 m18 m21 k (IntKind.wrap .i64 (t8 + 1)) r23015066
 else
 (f44 y197.1 y196.1).bind fun y201 =>
 bif (!y201.1) then
 (f45 ([t2,t8]:List Int) y197.1 y196.1).bind fun y202 =>
 bif (decide (r23015066.length + ([y202.1]:List Yr).length≤appLim)) then f41_l4c t2 b5g0 m18 m21 k (IntKind.wrap .i64 (t8 + 1)) (r23015066++([y202.1]:List Yr)) else none
 else
 f41_l4c t2 b5g0 m18 m21 k (IntKind.wrap .i64 (t8 + 1)) r23015066
 else
 bif (!v6) then
 (f53 (mapGet (.arr 2 yI) yR m18 ([t2,t8]:List Int))).bind fun y203 =>
 (f44 y195.1 y203.1).bind fun y204 =>
 bif (!y204.1) then
 (f45 ([t2,t8]:List Int) y195.1 y203.1).bind fun y205 =>
 bif (decide (r23015066.length + ([y205.1]:List Yr).length≤appLim)) then f41_l4c t2 b5g0 m18 m21 k (IntKind.wrap .i64 (t8 + 1)) (r23015066++([y205.1]:List Yr)) else none
 else
 f41_l4c t2 b5g0 m18 m21 k (IntKind.wrap .i64 (t8 + 1)) r23015066
 else
 (f44 y195.1 y196.1).bind fun y206 =>
 bif (!y206.1) then
 (f45 ([t2,t8]:List Int) y195.1 y196.1).bind fun y207 =>
 bif (decide (r23015066.length + ([y207.1]:List Yr).length≤appLim)) then f41_l4c t2 b5g0 m18 m21 k (IntKind.wrap .i64 (t8 + 1)) (r23015066++([y207.1]:List Yr)) else none
 else
 f41_l4c t2 b5g0 m18 m21 k (IntKind.wrap .i64 (t8 + 1)) r23015066
 else
 (f52 (mapGet (.arr 2 yI) yR m18 ([t2,t8]:List Int))).bind fun y208 =>
 (f53 (mapGet (.arr 2 yI) yR m21 ([t2,t8]:List Int))).bind fun y209 =>
 bif (!v5) then
 (f52 (mapGet (.arr 2 yI) yR m21 ([t2,t8]:List Int))).bind fun y210 =>
 bif (!v6) then
 (f53 (mapGet (.arr 2 yI) yR m18 ([t2,t8]:List Int))).bind fun y211 =>
 (f44 y210.1 y211.1).bind fun y212 =>
 bif (!y212.1) then
 (f45 ([t2,t8]:List Int) y210.1 y211.1).bind fun y213 =>
 bif (decide (r23015066.length + ([y213.1]:List Yr).length≤appLim)) then f41_l4c t2 b5g0 m18 m21 k (IntKind.wrap .i64 (t8 + 1)) (r23015066++([y213.1]:List Yr)) else none
 else
 f41_l4c t2 b5g0 m18 m21 k (IntKind.wrap .i64 (t8 + 1)) r23015066
 else
 (f44 y210.1 y209.1).bind fun y214 =>
 bif (!y214.1) then
 (f45 ([t2,t8]:List Int) y210.1 y209.1).bind fun y215 =>
 bif (decide (r23015066.length + ([y215.1]:List Yr).length≤appLim)) then f41_l4c t2 b5g0 m18 m21 k (IntKind.wrap .i64 (t8 + 1)) (r23015066++([y215.1]:List Yr)) else none
 else
 f41_l4c t2 b5g0 m18 m21 k (IntKind.wrap .i64 (t8 + 1)) r23015066
 else
 bif (!v6) then
 (f53 (mapGet (.arr 2 yI) yR m18 ([t2,t8]:List Int))).bind fun y216 =>
 (f44 y208.1 y216.1).bind fun y217 =>
 bif (!y217.1) then
 (f45 ([t2,t8]:List Int) y208.1 y216.1).bind fun y218 =>
 bif (decide (r23015066.length + ([y218.1]:List Yr).length≤appLim)) then f41_l4c t2 b5g0 m18 m21 k (IntKind.wrap .i64 (t8 + 1)) (r23015066++([y218.1]:List Yr)) else none
 else
 f41_l4c t2 b5g0 m18 m21 k (IntKind.wrap .i64 (t8 + 1)) r23015066
 else
 (f44 y208.1 y209.1).bind fun y219 =>
 bif (!y219.1) then
 (f45 ([t2,t8]:List Int) y208.1 y209.1).bind fun y220 =>
 bif (decide (r23015066.length + ([y220.1]:List Yr).length≤appLim)) then f41_l4c t2 b5g0 m18 m21 k (IntKind.wrap .i64 (t8 + 1)) (r23015066++([y220.1]:List Yr)) else none
 else
 f41_l4c t2 b5g0 m18 m21 k (IntKind.wrap .i64 (t8 + 1)) r23015066
 else
 (f53 (mapGet (.arr 2 yI) yR m18 ([t2,t8]:List Int))).bind fun y221 =>
 (f52 (mapGet (.arr 2 yI) yR m21 ([t2,t8]:List Int))).bind fun y222 =>
 (f44 y221.1 y222.1).bind fun y223 =>
 bif (!y223.1) then
 some (.inr ((),((),(),(),()),((),(b5g0,()),r23015066,())))
 else
 bif (!v5) then
 bif (!v6) then
 f41_l4c t2 b5g0 m18 m21 k (IntKind.wrap .i64 (t8 + 1)) r23015066
 else
 (f52 (mapGet (.arr 2 yI) yR m18 ([t2,t8]:List Int))).bind fun y224 =>
 (f53 (mapGet (.arr 2 yI) yR m21 ([t2,t8]:List Int))).bind fun y225 =>
 bif (!v5) then
 (f52 (mapGet (.arr 2 yI) yR m21 ([t2,t8]:List Int))).bind fun y226 =>
 bif (!v6) then
 (f53 (mapGet (.arr 2 yI) yR m18 ([t2,t8]:List Int))).bind fun y227 =>
 (f44 y226.1 y227.1).bind fun y228 =>
 bif (!y228.1) then
 (f45 ([t2,t8]:List Int) y226.1 y227.1).bind fun y229 =>
 bif (decide (r23015066.length + ([y229.1]:List Yr).length≤appLim)) then f41_l4c t2 b5g0 m18 m21 k (IntKind.wrap .i64 (t8 + 1)) (r23015066++([y229.1]:List Yr)) else none
 else
 f41_l4c t2 b5g0 m18 m21 k (IntKind.wrap .i64 (t8 + 1)) r23015066
 else
 (f44 y226.1 y225.1).bind fun y230 =>
 bif (!y230.1) then
 (f45 ([t2,t8]:List Int) y226.1 y225.1).bind fun y231 =>
 bif (decide (r23015066.length + ([y231.1]:List Yr).length≤appLim)) then f41_l4c t2 b5g0 m18 m21 k (IntKind.wrap .i64 (t8 + 1)) (r23015066++([y231.1]:List Yr)) else none
 else
 f41_l4c t2 b5g0 m18 m21 k (IntKind.wrap .i64 (t8 + 1)) r23015066
 else
 bif (!v6) then
 (f53 (mapGet (.arr 2 yI) yR m18 ([t2,t8]:List Int))).bind fun y232 =>
 (f44 y224.1 y232.1).bind fun y233 =>
 bif (!y233.1) then
 (f45 ([t2,t8]:List Int) y224.1 y232.1).bind fun y234 =>
 bif (decide (r23015066.length + ([y234.1]:List Yr).length≤appLim)) then f41_l4c t2 b5g0 m18 m21 k (IntKind.wrap .i64 (t8 + 1)) (r23015066++([y234.1]:List Yr)) else none
 else
 f41_l4c t2 b5g0 m18 m21 k (IntKind.wrap .i64 (t8 + 1)) r23015066
 else
 (f44 y224.1 y225.1).bind fun y235 =>
 bif (!y235.1) then
 (f45 ([t2,t8]:List Int) y224.1 y225.1).bind fun y236 =>
 bif (decide (r23015066.length + ([y236.1]:List Yr).length≤appLim)) then f41_l4c t2 b5g0 m18 m21 k (IntKind.wrap .i64 (t8 + 1)) (r23015066++([y236.1]:List Yr)) else none
 else
 f41_l4c t2 b5g0 m18 m21 k (IntKind.wrap .i64 (t8 + 1)) r23015066
 else
 (f52 (mapGet (.arr 2 yI) yR m18 ([t2,t8]:List Int))).bind fun y237 =>
 (f53 (mapGet (.arr 2 yI) yR m21 ([t2,t8]:List Int))).bind fun y238 =>
 bif (!v5) then
 (f52 (mapGet (.arr 2 yI) yR m21 ([t2,t8]:List Int))).bind fun y239 =>
 bif (!v6) then
 (f53 (mapGet (.arr 2 yI) yR m18 ([t2,t8]:List Int))).bind fun y240 =>
 (f44 y239.1 y240.1).bind fun y241 =>
 bif (!y241.1) then
 (f45 ([t2,t8]:List Int) y239.1 y240.1).bind fun y242 =>
 bif (decide (r23015066.length + ([y242.1]:List Yr).length≤appLim)) then f41_l4c t2 b5g0 m18 m21 k (IntKind.wrap .i64 (t8 + 1)) (r23015066++([y242.1]:List Yr)) else none
 else
 f41_l4c t2 b5g0 m18 m21 k (IntKind.wrap .i64 (t8 + 1)) r23015066
 else
 (f44 y239.1 y238.1).bind fun y243 =>
 bif (!y243.1) then
 (f45 ([t2,t8]:List Int) y239.1 y238.1).bind fun y244 =>
 bif (decide (r23015066.length + ([y244.1]:List Yr).length≤appLim)) then f41_l4c t2 b5g0 m18 m21 k (IntKind.wrap .i64 (t8 + 1)) (r23015066++([y244.1]:List Yr)) else none
 else
 f41_l4c t2 b5g0 m18 m21 k (IntKind.wrap .i64 (t8 + 1)) r23015066
 else
 bif (!v6) then
 (f53 (mapGet (.arr 2 yI) yR m18 ([t2,t8]:List Int))).bind fun y245 =>
 (f44 y237.1 y245.1).bind fun y246 =>
 bif (!y246.1) then
 (f45 ([t2,t8]:List Int) y237.1 y245.1).bind fun y247 =>
 bif (decide (r23015066.length + ([y247.1]:List Yr).length≤appLim)) then f41_l4c t2 b5g0 m18 m21 k (IntKind.wrap .i64 (t8 + 1)) (r23015066++([y247.1]:List Yr)) else none
 else
 f41_l4c t2 b5g0 m18 m21 k (IntKind.wrap .i64 (t8 + 1)) r23015066
 else
 (f44 y237.1 y238.1).bind fun y248 =>
 bif (!y248.1) then
 (f45 ([t2,t8]:List Int) y237.1 y238.1).bind fun y249 =>
 bif (decide (r23015066.length + ([y249.1]:List Yr).length≤appLim)) then f41_l4c t2 b5g0 m18 m21 k (IntKind.wrap .i64 (t8 + 1)) (r23015066++([y249.1]:List Yr)) else none
 else
 f41_l4c t2 b5g0 m18 m21 k (IntKind.wrap .i64 (t8 + 1)) r23015066)
 else
 some (.inl ((t2,()),((),(),(),()),((),(),(),(b5g0,()),m18,m21,r23015066,())))
def f41_l4c_n (n:Nat) (x:f41_l4c_head.den):=f41_l4c x.1.1 x.2.2.2.2.2.1.1 x.2.2.2.2.2.2.1 x.2.2.2.2.2.2.2.1 n x.1.2.1 x.2.2.2.2.2.2.2.2.1
def f41_l4c_spec:LSpec:={ head:=f41_l4c_head,outs:=f41_l4c_outs,fn:=fun x=>f41_l4c_n (((24:Int) - x.1.2.1).toNat + 1) x }
def f41_l1y_head:Ann:={ env:=[(0,.cst (.fn 61 [(.ptr 6 0 []),(.ptr 7 0 []),(.ptr 4 0 [])])),(2,YI)],stk:=[[(4,cP 4),(5,cP 5)],[(0,.cst (.tup [(.fn 47 []),(.ptr 5 0 [])]))],[(0,.cst (.tup [(.fn 60 [(.ptr 5 0 []),(.ptr 4 0 [])])]))]],bxs:=[(6,.var [.cst (.mp 18)]),(7,.var [.cst (.mp 21)]),(4,.var [.cst (.row 23015066 .whole)]),(5,.var [YI]),(18,.map (.arr 2 yI) yR),(21,.map (.arr 2 yI) yR),(23015066,.row yR false)] }
def f41_l1y_outs:List (Ex × Ann):=[((.exit 0),{ env:=[],stk:=[[(4,cP 4),(5,cP 5)],[(0,.cst (.tup [(.fn 47 []),(.ptr 5 0 [])]))],[(0,.cst (.tup [(.fn 60 [(.ptr 5 0 []),(.ptr 4 0 [])])]))]],bxs:=[(4,.var [.cst (.row 23015066 .whole)]),(5,.var [YI]),(23015066,.row yR false)] }),((.pan ⟨130,.emp⟩),{ env:=[],stk:=[[(4,cP 4),(5,cP 5)],[(0,.cst (.tup [(.fn 47 []),(.ptr 5 0 [])]))],[(0,.cst (.tup [(.fn 60 [(.ptr 5 0 []),(.ptr 4 0 [])])]))]],bxs:=[(4,.var [.cst (.row 23015066 .whole)]),(5,.var [YI]),(23015066,.row yR false)] })]
def f41_l1y:Nat→Int→Int→(List ((List Int) × Yr))→(List ((List Int) × Yr))→(List Yr)→Option (outDen f41_l1y_outs)
 | 0,_,_,_,_,_=>none
 | k + 1,t2,b5g0,m18,m21,r23015066 =>
 bif (decide (t2≤(7:Int))) then
 (f41_l4c t2 b5g0 m18 m21 (((24:Int) - (0:Int)).toNat + 1) (0:Int) r23015066).bind fun o250 =>
 Sum.elim (fun o251 =>
 let u253:Int:=o251.1.1
 let u254:Int:=o251.2.2.2.2.2.1.1
 let u255:(List ((List Int) × Yr)):=o251.2.2.2.2.2.2.1
 let u256:(List ((List Int) × Yr)):=o251.2.2.2.2.2.2.2.1
 let u257:(List Yr):=o251.2.2.2.2.2.2.2.2.1
 f41_l1y k (IntKind.wrap .i64 (u253 + 1)) u254 u255 u256 u257) (fun o252 =>
 let u258:Int:=o252.2.2.2.1.1
 let u259:(List Yr):=o252.2.2.2.2.1
 some (.inr ((),((),(),(),()),((),(u258,()),u259,())))) o250
 else
 some (.inl ((),((),(),(),()),((),(b5g0,()),r23015066,())))
def f41_l1y_n (n:Nat) (x:f41_l1y_head.den):=f41_l1y n x.1.1 x.2.2.2.2.2.1.1 x.2.2.2.2.2.2.1 x.2.2.2.2.2.2.2.1 x.2.2.2.2.2.2.2.2.1
def f41_l1y_spec:LSpec:={ thaws:=[.cell 4 0 23015066 yR],head:=f41_l1y_head,outs:=f41_l1y_outs,fn:=fun x=>f41_l1y_n (((8:Int) - x.1.1).toNat + 1) x }
def f22 (a0:((List Yr) × Unit)) (a1:((List Yr) × Unit)):Option (((List Yr) × Unit) × Int × Unit) :=
 (f19 a0).bind fun y1 =>
 bif y1.1 then
 (f19 a1).bind fun y2 =>
 bif (!y2.1) then
 some (([],()),(160:Int),())
 else
 same (
 same (
 (f49 a0.1).bind fun y3 =>
 same (
 same (
 (f49 a1.1).bind fun y4 =>
 same (
 (f41_l1y (((8:Int) - (1:Int)).toNat + 1) (1:Int) 0 y3 y4 []).bind fun o260 =>
 Sum.elim (fun o261 =>
 let u264:(List Yr):=o261.2.2.2.2.1
 some ((u264,()),(0:Int),())) (fun o262 =>
 some (([],()),(160:Int),())) o260) (
 (f41_l1y (((8:Int) - (1:Int)).toNat + 1) (1:Int) 0 y3 y4 []).bind fun o522 =>
 Sum.elim (fun o523 =>
 let u526:(List Yr):=o523.2.2.2.2.1
 some ((u526,()),(0:Int),())) (fun o524 =>
 some (([],()),(160:Int),())) o522)) (
 same (
 same (
 (f49 a1.1).bind fun y529 =>
 (f41_l1y (((8:Int) - (1:Int)).toNat + 1) (1:Int) 0 y3 y529 []).bind fun o785 =>
 Sum.elim (fun o786 =>
 let u789:(List Yr):=o786.2.2.2.2.1
 some ((u789,()),(0:Int),())) (fun o787 =>
 some (([],()),(160:Int),())) o785) (
 (f49 a1.1).bind fun y792 =>
 (f41_l1y (((8:Int) - (1:Int)).toNat + 1) (1:Int) 0 y3 y792 []).bind fun o1048 =>
 Sum.elim (fun o1049 =>
 let u1052:(List Yr):=o1049.2.2.2.2.1
 some ((u1052,()),(0:Int),())) (fun o1050 =>
 some (([],()),(160:Int),())) o1048)) (
 same (
 (f49 a1.1).bind fun y1055 =>
 (f41_l1y (((8:Int) - (1:Int)).toNat + 1) (1:Int) 0 y3 y1055 []).bind fun o1311 =>
 Sum.elim (fun o1312 =>
 let u1315:(List Yr):=o1312.2.2.2.2.1
 some ((u1315,()),(0:Int),())) (fun o1313 =>
 some (([],()),(160:Int),())) o1311) (
 (f49 a1.1).bind fun y1318 =>
 (f41_l1y (((8:Int) - (1:Int)).toNat + 1) (1:Int) 0 y3 y1318 []).bind fun o1574 =>
 Sum.elim (fun o1575 =>
 let u1578:(List Yr):=o1575.2.2.2.2.1
 some ((u1578,()),(0:Int),())) (fun o1576 =>
 some (([],()),(160:Int),())) o1574)))) (
 same (
 same (
 same (
 (f49 a1.1).bind fun y1581 =>
 (f41_l1y (((8:Int) - (1:Int)).toNat + 1) (1:Int) 0 y3 y1581 []).bind fun o1837 =>
 Sum.elim (fun o1838 =>
 let u1841:(List Yr):=o1838.2.2.2.2.1
 some ((u1841,()),(0:Int),())) (fun o1839 =>
 some (([],()),(160:Int),())) o1837) (
 (f49 a1.1).bind fun y1844 =>
 (f41_l1y (((8:Int) - (1:Int)).toNat + 1) (1:Int) 0 y3 y1844 []).bind fun o2100 =>
 Sum.elim (fun o2101 =>
 let u2104:(List Yr):=o2101.2.2.2.2.1
 some ((u2104,()),(0:Int),())) (fun o2102 =>
 some (([],()),(160:Int),())) o2100)) (
 (f49 a1.1).bind fun y2107 =>
 (f41_l1y (((8:Int) - (1:Int)).toNat + 1) (1:Int) 0 y3 y2107 []).bind fun o2363 =>
 Sum.elim (fun o2364 =>
 let u2367:(List Yr):=o2364.2.2.2.2.1
 some ((u2367,()),(0:Int),())) (fun o2365 =>
 some (([],()),(160:Int),())) o2363)) (
 same (
 same (
 (f49 a1.1).bind fun y2370 =>
 (f41_l1y (((8:Int) - (1:Int)).toNat + 1) (1:Int) 0 y3 y2370 []).bind fun o2626 =>
 Sum.elim (fun o2627 =>
 let u2630:(List Yr):=o2627.2.2.2.2.1
 some ((u2630,()),(0:Int),())) (fun o2628 =>
 some (([],()),(160:Int),())) o2626) (
 (f49 a1.1).bind fun y2633 =>
 (f41_l1y (((8:Int) - (1:Int)).toNat + 1) (1:Int) 0 y3 y2633 []).bind fun o2889 =>
 Sum.elim (fun o2890 =>
 let u2893:(List Yr):=o2890.2.2.2.2.1
 some ((u2893,()),(0:Int),())) (fun o2891 =>
 some (([],()),(160:Int),())) o2889)) (
 (f49 a1.1).bind fun y2896 =>
 (f41_l1y (((8:Int) - (1:Int)).toNat + 1) (1:Int) 0 y3 y2896 []).bind fun o3152 =>
 Sum.elim (fun o3153 =>
 let u3156:(List Yr):=o3153.2.2.2.2.1
 some ((u3156,()),(0:Int),())) (fun o3154 =>
 some (([],()),(160:Int),())) o3152)))) (
 same (
 same (
 (f49 a0.1).bind fun y3159 =>
 same (
 (f49 a1.1).bind fun y3160 =>
 same (
 (f41_l1y (((8:Int) - (1:Int)).toNat + 1) (1:Int) 0 y3159 y3160 []).bind fun o3416 =>
 Sum.elim (fun o3417 =>
 let u3420:(List Yr):=o3417.2.2.2.2.1
 some ((u3420,()),(0:Int),())) (fun o3418 =>
 some (([],()),(160:Int),())) o3416) (
 (f41_l1y (((8:Int) - (1:Int)).toNat + 1) (1:Int) 0 y3159 y3160 []).bind fun o3678 =>
 Sum.elim (fun o3679 =>
 let u3682:(List Yr):=o3679.2.2.2.2.1
 some ((u3682,()),(0:Int),())) (fun o3680 =>
 some (([],()),(160:Int),())) o3678)) (
 same (
 same (
 (f49 a1.1).bind fun y3685 =>
 (f41_l1y (((8:Int) - (1:Int)).toNat + 1) (1:Int) 0 y3159 y3685 []).bind fun o3941 =>
 Sum.elim (fun o3942 =>
 let u3945:(List Yr):=o3942.2.2.2.2.1
 some ((u3945,()),(0:Int),())) (fun o3943 =>
 some (([],()),(160:Int),())) o3941) (
 (f49 a1.1).bind fun y3948 =>
 (f41_l1y (((8:Int) - (1:Int)).toNat + 1) (1:Int) 0 y3159 y3948 []).bind fun o4204 =>
 Sum.elim (fun o4205 =>
 let u4208:(List Yr):=o4205.2.2.2.2.1
 some ((u4208,()),(0:Int),())) (fun o4206 =>
 some (([],()),(160:Int),())) o4204)) (
 same (
 (f49 a1.1).bind fun y4211 =>
 (f41_l1y (((8:Int) - (1:Int)).toNat + 1) (1:Int) 0 y3159 y4211 []).bind fun o4467 =>
 Sum.elim (fun o4468 =>
 let u4471:(List Yr):=o4468.2.2.2.2.1
 some ((u4471,()),(0:Int),())) (fun o4469 =>
 some (([],()),(160:Int),())) o4467) (
 (f49 a1.1).bind fun y4474 =>
 (f41_l1y (((8:Int) - (1:Int)).toNat + 1) (1:Int) 0 y3159 y4474 []).bind fun o4730 =>
 Sum.elim (fun o4731 =>
 let u4734:(List Yr):=o4731.2.2.2.2.1
 some ((u4734,()),(0:Int),())) (fun o4732 =>
 some (([],()),(160:Int),())) o4730)))) (
 same (
 same (
 (f49 a0.1).bind fun y4737 =>
 same (
 (f49 a1.1).bind fun y4738 =>
 (f41_l1y (((8:Int) - (1:Int)).toNat + 1) (1:Int) 0 y4737 y4738 []).bind fun o4994 =>
 Sum.elim (fun o4995 =>
 let u4998:(List Yr):=o4995.2.2.2.2.1
 some ((u4998,()),(0:Int),())) (fun o4996 =>
 some (([],()),(160:Int),())) o4994) (
 (f49 a1.1).bind fun y5001 =>
 (f41_l1y (((8:Int) - (1:Int)).toNat + 1) (1:Int) 0 y4737 y5001 []).bind fun o5257 =>
 Sum.elim (fun o5258 =>
 let u5261:(List Yr):=o5258.2.2.2.2.1
 some ((u5261,()),(0:Int),())) (fun o5259 =>
 some (([],()),(160:Int),())) o5257)) (
 (f49 a0.1).bind fun y5264 =>
 (f49 a1.1).bind fun y5265 =>
 (f41_l1y (((8:Int) - (1:Int)).toNat + 1) (1:Int) 0 y5264 y5265 []).bind fun o5521 =>
 Sum.elim (fun o5522 =>
 let u5525:(List Yr):=o5522.2.2.2.2.1
 some ((u5525,()),(0:Int),())) (fun o5523 =>
 some (([],()),(160:Int),())) o5521)) (
 same (
 (f49 a0.1).bind fun y5528 =>
 same (
 (f49 a1.1).bind fun y5529 =>
 (f41_l1y (((8:Int) - (1:Int)).toNat + 1) (1:Int) 0 y5528 y5529 []).bind fun o5785 =>
 Sum.elim (fun o5786 =>
 let u5789:(List Yr):=o5786.2.2.2.2.1
 some ((u5789,()),(0:Int),())) (fun o5787 =>
 some (([],()),(160:Int),())) o5785) (
 (f49 a1.1).bind fun y5792 =>
 (f41_l1y (((8:Int) - (1:Int)).toNat + 1) (1:Int) 0 y5528 y5792 []).bind fun o6048 =>
 Sum.elim (fun o6049 =>
 let u6052:(List Yr):=o6049.2.2.2.2.1
 some ((u6052,()),(0:Int),())) (fun o6050 =>
 some (([],()),(160:Int),())) o6048)) (
 (f49 a0.1).bind fun y6055 =>
 (f49 a1.1).bind fun y6056 =>
 (f41_l1y (((8:Int) - (1:Int)).toNat + 1) (1:Int) 0 y6055 y6056 []).bind fun o6312 =>
 Sum.elim (fun o6313 =>
 let u6316:(List Yr):=o6313.2.2.2.2.1
 some ((u6316,()),(0:Int),())) (fun o6314 =>
 some (([],()),(160:Int),())) o6312)))) (
 same (
 same (
 (f49 a0.1).bind fun y6319 =>
 same (
 same (
 (f49 a1.1).bind fun y6320 =>
 (f41_l1y (((8:Int) - (1:Int)).toNat + 1) (1:Int) 0 y6319 y6320 []).bind fun o6576 =>
 Sum.elim (fun o6577 =>
 let u6580:(List Yr):=o6577.2.2.2.2.1
 some ((u6580,()),(0:Int),())) (fun o6578 =>
 some (([],()),(160:Int),())) o6576) (
 (f49 a1.1).bind fun y6583 =>
 (f41_l1y (((8:Int) - (1:Int)).toNat + 1) (1:Int) 0 y6319 y6583 []).bind fun o6839 =>
 Sum.elim (fun o6840 =>
 let u6843:(List Yr):=o6840.2.2.2.2.1
 some ((u6843,()),(0:Int),())) (fun o6841 =>
 some (([],()),(160:Int),())) o6839)) (
 (f49 a1.1).bind fun y6846 =>
 (f41_l1y (((8:Int) - (1:Int)).toNat + 1) (1:Int) 0 y6319 y6846 []).bind fun o7102 =>
 Sum.elim (fun o7103 =>
 let u7106:(List Yr):=o7103.2.2.2.2.1
 some ((u7106,()),(0:Int),())) (fun o7104 =>
 some (([],()),(160:Int),())) o7102)) (
 same (
 same (
 (f49 a0.1).bind fun y7109 =>
 same (
 (f49 a1.1).bind fun y7110 =>
 (f41_l1y (((8:Int) - (1:Int)).toNat + 1) (1:Int) 0 y7109 y7110 []).bind fun o7366 =>
 Sum.elim (fun o7367 =>
 let u7370:(List Yr):=o7367.2.2.2.2.1
 some ((u7370,()),(0:Int),())) (fun o7368 =>
 some (([],()),(160:Int),())) o7366) (
 (f49 a1.1).bind fun y7373 =>
 (f41_l1y (((8:Int) - (1:Int)).toNat + 1) (1:Int) 0 y7109 y7373 []).bind fun o7629 =>
 Sum.elim (fun o7630 =>
 let u7633:(List Yr):=o7630.2.2.2.2.1
 some ((u7633,()),(0:Int),())) (fun o7631 =>
 some (([],()),(160:Int),())) o7629)) (
 (f49 a0.1).bind fun y7636 =>
 (f49 a1.1).bind fun y7637 =>
 (f41_l1y (((8:Int) - (1:Int)).toNat + 1) (1:Int) 0 y7636 y7637 []).bind fun o7893 =>
 Sum.elim (fun o7894 =>
 let u7897:(List Yr):=o7894.2.2.2.2.1
 some ((u7897,()),(0:Int),())) (fun o7895 =>
 some (([],()),(160:Int),())) o7893)) (
 same (
 (f49 a0.1).bind fun y7900 =>
 (f49 a1.1).bind fun y7901 =>
 (f41_l1y (((8:Int) - (1:Int)).toNat + 1) (1:Int) 0 y7900 y7901 []).bind fun o8157 =>
 Sum.elim (fun o8158 =>
 let u8161:(List Yr):=o8158.2.2.2.2.1
 some ((u8161,()),(0:Int),())) (fun o8159 =>
 some (([],()),(160:Int),())) o8157) (
 (f49 a0.1).bind fun y8164 =>
 (f49 a1.1).bind fun y8165 =>
 (f41_l1y (((8:Int) - (1:Int)).toNat + 1) (1:Int) 0 y8164 y8165 []).bind fun o8421 =>
 Sum.elim (fun o8422 =>
 let u8425:(List Yr):=o8422.2.2.2.2.1
 some ((u8425,()),(0:Int),())) (fun o8423 =>
 some (([],()),(160:Int),())) o8421)))) (
 same (
 (f49 a0.1).bind fun y8428 =>
 same (
 same (
 (f49 a1.1).bind fun y8429 =>
 (f41_l1y (((8:Int) - (1:Int)).toNat + 1) (1:Int) 0 y8428 y8429 []).bind fun o8685 =>
 Sum.elim (fun o8686 =>
 let u8689:(List Yr):=o8686.2.2.2.2.1
 some ((u8689,()),(0:Int),())) (fun o8687 =>
 some (([],()),(160:Int),())) o8685) (
 (f49 a1.1).bind fun y8692 =>
 (f41_l1y (((8:Int) - (1:Int)).toNat + 1) (1:Int) 0 y8428 y8692 []).bind fun o8948 =>
 Sum.elim (fun o8949 =>
 let u8952:(List Yr):=o8949.2.2.2.2.1
 some ((u8952,()),(0:Int),())) (fun o8950 =>
 some (([],()),(160:Int),())) o8948)) (
 (f49 a1.1).bind fun y8955 =>
 (f41_l1y (((8:Int) - (1:Int)).toNat + 1) (1:Int) 0 y8428 y8955 []).bind fun o9211 =>
 Sum.elim (fun o9212 =>
 let u9215:(List Yr):=o9212.2.2.2.2.1
 some ((u9215,()),(0:Int),())) (fun o9213 =>
 some (([],()),(160:Int),())) o9211)) (
 same (
 same (
 (f49 a0.1).bind fun y9218 =>
 same (
 (f49 a1.1).bind fun y9219 =>
 (f41_l1y (((8:Int) - (1:Int)).toNat + 1) (1:Int) 0 y9218 y9219 []).bind fun o9475 =>
 Sum.elim (fun o9476 =>
 let u9479:(List Yr):=o9476.2.2.2.2.1
 some ((u9479,()),(0:Int),())) (fun o9477 =>
 some (([],()),(160:Int),())) o9475) (
 (f49 a1.1).bind fun y9482 =>
 (f41_l1y (((8:Int) - (1:Int)).toNat + 1) (1:Int) 0 y9218 y9482 []).bind fun o9738 =>
 Sum.elim (fun o9739 =>
 let u9742:(List Yr):=o9739.2.2.2.2.1
 some ((u9742,()),(0:Int),())) (fun o9740 =>
 some (([],()),(160:Int),())) o9738)) (
 (f49 a0.1).bind fun y9745 =>
 (f49 a1.1).bind fun y9746 =>
 (f41_l1y (((8:Int) - (1:Int)).toNat + 1) (1:Int) 0 y9745 y9746 []).bind fun o10002 =>
 Sum.elim (fun o10003 =>
 let u10006:(List Yr):=o10003.2.2.2.2.1
 some ((u10006,()),(0:Int),())) (fun o10004 =>
 some (([],()),(160:Int),())) o10002)) (
 same (
 (f49 a0.1).bind fun y10009 =>
 (f49 a1.1).bind fun y10010 =>
 (f41_l1y (((8:Int) - (1:Int)).toNat + 1) (1:Int) 0 y10009 y10010 []).bind fun o10266 =>
 Sum.elim (fun o10267 =>
 let u10270:(List Yr):=o10267.2.2.2.2.1
 some ((u10270,()),(0:Int),())) (fun o10268 =>
 some (([],()),(160:Int),())) o10266) (
 (f49 a0.1).bind fun y10273 =>
 (f49 a1.1).bind fun y10274 =>
 (f41_l1y (((8:Int) - (1:Int)).toNat + 1) (1:Int) 0 y10273 y10274 []).bind fun o10530 =>
 Sum.elim (fun o10531 =>
 let u10534:(List Yr):=o10531.2.2.2.2.1
 some ((u10534,()),(0:Int),())) (fun o10532 =>
 some (([],()),(160:Int),())) o10530))))))) (
 same (
 same (
 same (
 (f49 a0.1).bind fun y10537 =>
 same (
 (f49 a1.1).bind fun y10538 =>
 same (
 (f41_l1y (((8:Int) - (1:Int)).toNat + 1) (1:Int) 0 y10537 y10538 []).bind fun o10794 =>
 Sum.elim (fun o10795 =>
 let u10798:(List Yr):=o10795.2.2.2.2.1
 some ((u10798,()),(0:Int),())) (fun o10796 =>
 some (([],()),(160:Int),())) o10794) (
 (f41_l1y (((8:Int) - (1:Int)).toNat + 1) (1:Int) 0 y10537 y10538 []).bind fun o11056 =>
 Sum.elim (fun o11057 =>
 let u11060:(List Yr):=o11057.2.2.2.2.1
 some ((u11060,()),(0:Int),())) (fun o11058 =>
 some (([],()),(160:Int),())) o11056)) (
 same (
 same (
 (f49 a1.1).bind fun y11063 =>
 (f41_l1y (((8:Int) - (1:Int)).toNat + 1) (1:Int) 0 y10537 y11063 []).bind fun o11319 =>
 Sum.elim (fun o11320 =>
 let u11323:(List Yr):=o11320.2.2.2.2.1
 some ((u11323,()),(0:Int),())) (fun o11321 =>
 some (([],()),(160:Int),())) o11319) (
 (f49 a1.1).bind fun y11326 =>
 (f41_l1y (((8:Int) - (1:Int)).toNat + 1) (1:Int) 0 y10537 y11326 []).bind fun o11582 =>
 Sum.elim (fun o11583 =>
 let u11586:(List Yr):=o11583.2.2.2.2.1
 some ((u11586,()),(0:Int),())) (fun o11584 =>
 some (([],()),(160:Int),())) o11582)) (
 same (
 (f49 a1.1).bind fun y11589 =>
 (f41_l1y (((8:Int) - (1:Int)).toNat + 1) (1:Int) 0 y10537 y11589 []).bind fun o11845 =>
 Sum.elim (fun o11846 =>
 let u11849:(List Yr):=o11846.2.2.2.2.1
 some ((u11849,()),(0:Int),())) (fun o11847 =>
 some (([],()),(160:Int),())) o11845) (
 (f49 a1.1).bind fun y11852 =>
 (f41_l1y (((8:Int) - (1:Int)).toNat + 1) (1:Int) 0 y10537 y11852 []).bind fun o12108 =>
 Sum.elim (fun o12109 =>
 let u12112:(List Yr):=o12109.2.2.2.2.1
 some ((u12112,()),(0:Int),())) (fun o12110 =>
 some (([],()),(160:Int),())) o12108)))) (
 same (
 same (
 (f49 a0.1).bind fun y12115 =>
 same (
 (f49 a1.1).bind fun y12116 =>
 (f41_l1y (((8:Int) - (1:Int)).toNat + 1) (1:Int) 0 y12115 y12116 []).bind fun o12372 =>
 Sum.elim (fun o12373 =>
 let u12376:(List Yr):=o12373.2.2.2.2.1
 some ((u12376,()),(0:Int),())) (fun o12374 =>
 some (([],()),(160:Int),())) o12372) (
 (f49 a1.1).bind fun y12379 =>
 (f41_l1y (((8:Int) - (1:Int)).toNat + 1) (1:Int) 0 y12115 y12379 []).bind fun o12635 =>
 Sum.elim (fun o12636 =>
 let u12639:(List Yr):=o12636.2.2.2.2.1
 some ((u12639,()),(0:Int),())) (fun o12637 =>
 some (([],()),(160:Int),())) o12635)) (
 (f49 a0.1).bind fun y12642 =>
 (f49 a1.1).bind fun y12643 =>
 (f41_l1y (((8:Int) - (1:Int)).toNat + 1) (1:Int) 0 y12642 y12643 []).bind fun o12899 =>
 Sum.elim (fun o12900 =>
 let u12903:(List Yr):=o12900.2.2.2.2.1
 some ((u12903,()),(0:Int),())) (fun o12901 =>
 some (([],()),(160:Int),())) o12899)) (
 same (
 (f49 a0.1).bind fun y12906 =>
 same (
 (f49 a1.1).bind fun y12907 =>
 (f41_l1y (((8:Int) - (1:Int)).toNat + 1) (1:Int) 0 y12906 y12907 []).bind fun o13163 =>
 Sum.elim (fun o13164 =>
 let u13167:(List Yr):=o13164.2.2.2.2.1
 some ((u13167,()),(0:Int),())) (fun o13165 =>
 some (([],()),(160:Int),())) o13163) (
 (f49 a1.1).bind fun y13170 =>
 (f41_l1y (((8:Int) - (1:Int)).toNat + 1) (1:Int) 0 y12906 y13170 []).bind fun o13426 =>
 Sum.elim (fun o13427 =>
 let u13430:(List Yr):=o13427.2.2.2.2.1
 some ((u13430,()),(0:Int),())) (fun o13428 =>
 some (([],()),(160:Int),())) o13426)) (
 (f49 a0.1).bind fun y13433 =>
 (f49 a1.1).bind fun y13434 =>
 (f41_l1y (((8:Int) - (1:Int)).toNat + 1) (1:Int) 0 y13433 y13434 []).bind fun o13690 =>
 Sum.elim (fun o13691 =>
 let u13694:(List Yr):=o13691.2.2.2.2.1
 some ((u13694,()),(0:Int),())) (fun o13692 =>
 some (([],()),(160:Int),())) o13690)))) (
 same (
 same (
 same (
 (f49 a0.1).bind fun y13697 =>
 same (
 (f49 a1.1).bind fun y13698 =>
 (f41_l1y (((8:Int) - (1:Int)).toNat + 1) (1:Int) 0 y13697 y13698 []).bind fun o13954 =>
 Sum.elim (fun o13955 =>
 let u13958:(List Yr):=o13955.2.2.2.2.1
 some ((u13958,()),(0:Int),())) (fun o13956 =>
 some (([],()),(160:Int),())) o13954) (
 (f49 a1.1).bind fun y13961 =>
 (f41_l1y (((8:Int) - (1:Int)).toNat + 1) (1:Int) 0 y13697 y13961 []).bind fun o14217 =>
 Sum.elim (fun o14218 =>
 let u14221:(List Yr):=o14218.2.2.2.2.1
 some ((u14221,()),(0:Int),())) (fun o14219 =>
 some (([],()),(160:Int),())) o14217)) (
 (f49 a0.1).bind fun y14224 =>
 (f49 a1.1).bind fun y14225 =>
 (f41_l1y (((8:Int) - (1:Int)).toNat + 1) (1:Int) 0 y14224 y14225 []).bind fun o14481 =>
 Sum.elim (fun o14482 =>
 let u14485:(List Yr):=o14482.2.2.2.2.1
 some ((u14485,()),(0:Int),())) (fun o14483 =>
 some (([],()),(160:Int),())) o14481)) (
 (f49 a0.1).bind fun y14488 =>
 (f49 a1.1).bind fun y14489 =>
 (f41_l1y (((8:Int) - (1:Int)).toNat + 1) (1:Int) 0 y14488 y14489 []).bind fun o14745 =>
 Sum.elim (fun o14746 =>
 let u14749:(List Yr):=o14746.2.2.2.2.1
 some ((u14749,()),(0:Int),())) (fun o14747 =>
 some (([],()),(160:Int),())) o14745)) (
 same (
 same (
 (f49 a0.1).bind fun y14752 =>
 same (
 (f49 a1.1).bind fun y14753 =>
 (f41_l1y (((8:Int) - (1:Int)).toNat + 1) (1:Int) 0 y14752 y14753 []).bind fun o15009 =>
 Sum.elim (fun o15010 =>
 let u15013:(List Yr):=o15010.2.2.2.2.1
 some ((u15013,()),(0:Int),())) (fun o15011 =>
 some (([],()),(160:Int),())) o15009) (
 (f49 a1.1).bind fun y15016 =>
 (f41_l1y (((8:Int) - (1:Int)).toNat + 1) (1:Int) 0 y14752 y15016 []).bind fun o15272 =>
 Sum.elim (fun o15273 =>
 let u15276:(List Yr):=o15273.2.2.2.2.1
 some ((u15276,()),(0:Int),())) (fun o15274 =>
 some (([],()),(160:Int),())) o15272)) (
 (f49 a0.1).bind fun y15279 =>
 (f49 a1.1).bind fun y15280 =>
 (f41_l1y (((8:Int) - (1:Int)).toNat + 1) (1:Int) 0 y15279 y15280 []).bind fun o15536 =>
 Sum.elim (fun o15537 =>
 let u15540:(List Yr):=o15537.2.2.2.2.1
 some ((u15540,()),(0:Int),())) (fun o15538 =>
 some (([],()),(160:Int),())) o15536)) (
 (f49 a0.1).bind fun y15543 =>
 (f49 a1.1).bind fun y15544 =>
 (f41_l1y (((8:Int) - (1:Int)).toNat + 1) (1:Int) 0 y15543 y15544 []).bind fun o15800 =>
 Sum.elim (fun o15801 =>
 let u15804:(List Yr):=o15801.2.2.2.2.1
 some ((u15804,()),(0:Int),())) (fun o15802 =>
 some (([],()),(160:Int),())) o15800)))) (
 same (
 same (
 same (
 (f49 a0.1).bind fun y15807 =>
 same (
 same (
 (f49 a1.1).bind fun y15808 =>
 (f41_l1y (((8:Int) - (1:Int)).toNat + 1) (1:Int) 0 y15807 y15808 []).bind fun o16064 =>
 Sum.elim (fun o16065 =>
 let u16068:(List Yr):=o16065.2.2.2.2.1
 some ((u16068,()),(0:Int),())) (fun o16066 =>
 some (([],()),(160:Int),())) o16064) (
 (f49 a1.1).bind fun y16071 =>
 (f41_l1y (((8:Int) - (1:Int)).toNat + 1) (1:Int) 0 y15807 y16071 []).bind fun o16327 =>
 Sum.elim (fun o16328 =>
 let u16331:(List Yr):=o16328.2.2.2.2.1
 some ((u16331,()),(0:Int),())) (fun o16329 =>
 some (([],()),(160:Int),())) o16327)) (
 (f49 a1.1).bind fun y16334 =>
 (f41_l1y (((8:Int) - (1:Int)).toNat + 1) (1:Int) 0 y15807 y16334 []).bind fun o16590 =>
 Sum.elim (fun o16591 =>
 let u16594:(List Yr):=o16591.2.2.2.2.1
 some ((u16594,()),(0:Int),())) (fun o16592 =>
 some (([],()),(160:Int),())) o16590)) (
 same (
 same (
 (f49 a0.1).bind fun y16597 =>
 same (
 (f49 a1.1).bind fun y16598 =>
 (f41_l1y (((8:Int) - (1:Int)).toNat + 1) (1:Int) 0 y16597 y16598 []).bind fun o16854 =>
 Sum.elim (fun o16855 =>
 let u16858:(List Yr):=o16855.2.2.2.2.1
 some ((u16858,()),(0:Int),())) (fun o16856 =>
 some (([],()),(160:Int),())) o16854) (
 (f49 a1.1).bind fun y16861 =>
 (f41_l1y (((8:Int) - (1:Int)).toNat + 1) (1:Int) 0 y16597 y16861 []).bind fun o17117 =>
 Sum.elim (fun o17118 =>
 let u17121:(List Yr):=o17118.2.2.2.2.1
 some ((u17121,()),(0:Int),())) (fun o17119 =>
 some (([],()),(160:Int),())) o17117)) (
 (f49 a0.1).bind fun y17124 =>
 (f49 a1.1).bind fun y17125 =>
 (f41_l1y (((8:Int) - (1:Int)).toNat + 1) (1:Int) 0 y17124 y17125 []).bind fun o17381 =>
 Sum.elim (fun o17382 =>
 let u17385:(List Yr):=o17382.2.2.2.2.1
 some ((u17385,()),(0:Int),())) (fun o17383 =>
 some (([],()),(160:Int),())) o17381)) (
 same (
 (f49 a0.1).bind fun y17388 =>
 (f49 a1.1).bind fun y17389 =>
 (f41_l1y (((8:Int) - (1:Int)).toNat + 1) (1:Int) 0 y17388 y17389 []).bind fun o17645 =>
 Sum.elim (fun o17646 =>
 let u17649:(List Yr):=o17646.2.2.2.2.1
 some ((u17649,()),(0:Int),())) (fun o17647 =>
 some (([],()),(160:Int),())) o17645) (
 (f49 a0.1).bind fun y17652 =>
 (f49 a1.1).bind fun y17653 =>
 (f41_l1y (((8:Int) - (1:Int)).toNat + 1) (1:Int) 0 y17652 y17653 []).bind fun o17909 =>
 Sum.elim (fun o17910 =>
 let u17913:(List Yr):=o17910.2.2.2.2.1
 some ((u17913,()),(0:Int),())) (fun o17911 =>
 some (([],()),(160:Int),())) o17909)))) (
 same (
 same (
 same (
 (f49 a0.1).bind fun y17916 =>
 same (
 (f49 a1.1).bind fun y17917 =>
 (f41_l1y (((8:Int) - (1:Int)).toNat + 1) (1:Int) 0 y17916 y17917 []).bind fun o18173 =>
 Sum.elim (fun o18174 =>
 let u18177:(List Yr):=o18174.2.2.2.2.1
 some ((u18177,()),(0:Int),())) (fun o18175 =>
 some (([],()),(160:Int),())) o18173) (
 (f49 a1.1).bind fun y18180 =>
 (f41_l1y (((8:Int) - (1:Int)).toNat + 1) (1:Int) 0 y17916 y18180 []).bind fun o18436 =>
 Sum.elim (fun o18437 =>
 let u18440:(List Yr):=o18437.2.2.2.2.1
 some ((u18440,()),(0:Int),())) (fun o18438 =>
 some (([],()),(160:Int),())) o18436)) (
 (f49 a0.1).bind fun y18443 =>
 (f49 a1.1).bind fun y18444 =>
 (f41_l1y (((8:Int) - (1:Int)).toNat + 1) (1:Int) 0 y18443 y18444 []).bind fun o18700 =>
 Sum.elim (fun o18701 =>
 let u18704:(List Yr):=o18701.2.2.2.2.1
 some ((u18704,()),(0:Int),())) (fun o18702 =>
 some (([],()),(160:Int),())) o18700)) (
 (f49 a0.1).bind fun y18707 =>
 (f49 a1.1).bind fun y18708 =>
 (f41_l1y (((8:Int) - (1:Int)).toNat + 1) (1:Int) 0 y18707 y18708 []).bind fun o18964 =>
 Sum.elim (fun o18965 =>
 let u18968:(List Yr):=o18965.2.2.2.2.1
 some ((u18968,()),(0:Int),())) (fun o18966 =>
 some (([],()),(160:Int),())) o18964)) (
 same (
 same (
 (f49 a0.1).bind fun y18971 =>
 (f49 a1.1).bind fun y18972 =>
 (f41_l1y (((8:Int) - (1:Int)).toNat + 1) (1:Int) 0 y18971 y18972 []).bind fun o19228 =>
 Sum.elim (fun o19229 =>
 let u19232:(List Yr):=o19229.2.2.2.2.1
 some ((u19232,()),(0:Int),())) (fun o19230 =>
 some (([],()),(160:Int),())) o19228) (
 (f49 a0.1).bind fun y19235 =>
 (f49 a1.1).bind fun y19236 =>
 (f41_l1y (((8:Int) - (1:Int)).toNat + 1) (1:Int) 0 y19235 y19236 []).bind fun o19492 =>
 Sum.elim (fun o19493 =>
 let u19496:(List Yr):=o19493.2.2.2.2.1
 some ((u19496,()),(0:Int),())) (fun o19494 =>
 some (([],()),(160:Int),())) o19492)) (
 (f49 a0.1).bind fun y19499 =>
 (f49 a1.1).bind fun y19500 =>
 (f41_l1y (((8:Int) - (1:Int)).toNat + 1) (1:Int) 0 y19499 y19500 []).bind fun o19756 =>
 Sum.elim (fun o19757 =>
 let u19760:(List Yr):=o19757.2.2.2.2.1
 some ((u19760,()),(0:Int),())) (fun o19758 =>
 some (([],()),(160:Int),())) o19756)))) (
 same (
 same (
 (f49 a0.1).bind fun y19763 =>
 same (
 same (
 (f49 a1.1).bind fun y19764 =>
 (f41_l1y (((8:Int) - (1:Int)).toNat + 1) (1:Int) 0 y19763 y19764 []).bind fun o20020 =>
 Sum.elim (fun o20021 =>
 let u20024:(List Yr):=o20021.2.2.2.2.1
 some ((u20024,()),(0:Int),())) (fun o20022 =>
 some (([],()),(160:Int),())) o20020) (
 (f49 a1.1).bind fun y20027 =>
 (f41_l1y (((8:Int) - (1:Int)).toNat + 1) (1:Int) 0 y19763 y20027 []).bind fun o20283 =>
 Sum.elim (fun o20284 =>
 let u20287:(List Yr):=o20284.2.2.2.2.1
 some ((u20287,()),(0:Int),())) (fun o20285 =>
 some (([],()),(160:Int),())) o20283)) (
 (f49 a1.1).bind fun y20290 =>
 (f41_l1y (((8:Int) - (1:Int)).toNat + 1) (1:Int) 0 y19763 y20290 []).bind fun o20546 =>
 Sum.elim (fun o20547 =>
 let u20550:(List Yr):=o20547.2.2.2.2.1
 some ((u20550,()),(0:Int),())) (fun o20548 =>
 some (([],()),(160:Int),())) o20546)) (
 same (
 same (
 (f49 a0.1).bind fun y20553 =>
 same (
 (f49 a1.1).bind fun y20554 =>
 (f41_l1y (((8:Int) - (1:Int)).toNat + 1) (1:Int) 0 y20553 y20554 []).bind fun o20810 =>
 Sum.elim (fun o20811 =>
 let u20814:(List Yr):=o20811.2.2.2.2.1
 some ((u20814,()),(0:Int),())) (fun o20812 =>
 some (([],()),(160:Int),())) o20810) (
 (f49 a1.1).bind fun y20817 =>
 (f41_l1y (((8:Int) - (1:Int)).toNat + 1) (1:Int) 0 y20553 y20817 []).bind fun o21073 =>
 Sum.elim (fun o21074 =>
 let u21077:(List Yr):=o21074.2.2.2.2.1
 some ((u21077,()),(0:Int),())) (fun o21075 =>
 some (([],()),(160:Int),())) o21073)) (
 (f49 a0.1).bind fun y21080 =>
 (f49 a1.1).bind fun y21081 =>
 (f41_l1y (((8:Int) - (1:Int)).toNat + 1) (1:Int) 0 y21080 y21081 []).bind fun o21337 =>
 Sum.elim (fun o21338 =>
 let u21341:(List Yr):=o21338.2.2.2.2.1
 some ((u21341,()),(0:Int),())) (fun o21339 =>
 some (([],()),(160:Int),())) o21337)) (
 same (
 (f49 a0.1).bind fun y21344 =>
 (f49 a1.1).bind fun y21345 =>
 (f41_l1y (((8:Int) - (1:Int)).toNat + 1) (1:Int) 0 y21344 y21345 []).bind fun o21601 =>
 Sum.elim (fun o21602 =>
 let u21605:(List Yr):=o21602.2.2.2.2.1
 some ((u21605,()),(0:Int),())) (fun o21603 =>
 some (([],()),(160:Int),())) o21601) (
 (f49 a0.1).bind fun y21608 =>
 (f49 a1.1).bind fun y21609 =>
 (f41_l1y (((8:Int) - (1:Int)).toNat + 1) (1:Int) 0 y21608 y21609 []).bind fun o21865 =>
 Sum.elim (fun o21866 =>
 let u21869:(List Yr):=o21866.2.2.2.2.1
 some ((u21869,()),(0:Int),())) (fun o21867 =>
 some (([],()),(160:Int),())) o21865)))) (
 same (
 same (
 same (
 (f49 a0.1).bind fun y21872 =>
 same (
 (f49 a1.1).bind fun y21873 =>
 (f41_l1y (((8:Int) - (1:Int)).toNat + 1) (1:Int) 0 y21872 y21873 []).bind fun o22129 =>
 Sum.elim (fun o22130 =>
 let u22133:(List Yr):=o22130.2.2.2.2.1
 some ((u22133,()),(0:Int),())) (fun o22131 =>
 some (([],()),(160:Int),())) o22129) (
 (f49 a1.1).bind fun y22136 =>
 (f41_l1y (((8:Int) - (1:Int)).toNat + 1) (1:Int) 0 y21872 y22136 []).bind fun o22392 =>
 Sum.elim (fun o22393 =>
 let u22396:(List Yr):=o22393.2.2.2.2.1
 some ((u22396,()),(0:Int),())) (fun o22394 =>
 some (([],()),(160:Int),())) o22392)) (
 (f49 a0.1).bind fun y22399 =>
 (f49 a1.1).bind fun y22400 =>
 (f41_l1y (((8:Int) - (1:Int)).toNat + 1) (1:Int) 0 y22399 y22400 []).bind fun o22656 =>
 Sum.elim (fun o22657 =>
 let u22660:(List Yr):=o22657.2.2.2.2.1
 some ((u22660,()),(0:Int),())) (fun o22658 =>
 some (([],()),(160:Int),())) o22656)) (
 (f49 a0.1).bind fun y22663 =>
 (f49 a1.1).bind fun y22664 =>
 (f41_l1y (((8:Int) - (1:Int)).toNat + 1) (1:Int) 0 y22663 y22664 []).bind fun o22920 =>
 Sum.elim (fun o22921 =>
 let u22924:(List Yr):=o22921.2.2.2.2.1
 some ((u22924,()),(0:Int),())) (fun o22922 =>
 some (([],()),(160:Int),())) o22920)) (
 same (
 same (
 (f49 a0.1).bind fun y22927 =>
 (f49 a1.1).bind fun y22928 =>
 (f41_l1y (((8:Int) - (1:Int)).toNat + 1) (1:Int) 0 y22927 y22928 []).bind fun o23184 =>
 Sum.elim (fun o23185 =>
 let u23188:(List Yr):=o23185.2.2.2.2.1
 some ((u23188,()),(0:Int),())) (fun o23186 =>
 some (([],()),(160:Int),())) o23184) (
 (f49 a0.1).bind fun y23191 =>
 (f49 a1.1).bind fun y23192 =>
 (f41_l1y (((8:Int) - (1:Int)).toNat + 1) (1:Int) 0 y23191 y23192 []).bind fun o23448 =>
 Sum.elim (fun o23449 =>
 let u23452:(List Yr):=o23449.2.2.2.2.1
 some ((u23452,()),(0:Int),())) (fun o23450 =>
 some (([],()),(160:Int),())) o23448)) (
 (f49 a0.1).bind fun y23455 =>
 (f49 a1.1).bind fun y23456 =>
 (f41_l1y (((8:Int) - (1:Int)).toNat + 1) (1:Int) 0 y23455 y23456 []).bind fun o23712 =>
 Sum.elim (fun o23713 =>
 let u23716:(List Yr):=o23713.2.2.2.2.1
 some ((u23716,()),(0:Int),())) (fun o23714 =>
 some (([],()),(160:Int),())) o23712))))))
 else
 some (([],()),(160:Int),())
def f22_spec:PSpec:={ args:=[(.pair (.sl yR) .unit),(.pair (.sl yR) .unit)],res:=[(.pair (.sl yR) .unit),yI],fn:=fun x=>f22 x.1 x.2.1 }
noncomputable def f22_code:Code:=Tryz.f22.body.getD .skip
noncomputable def f22_code_41:Code:=Tryz.f41.body.getD .skip
noncomputable def f22_env:Env0:={ C:=cfgF,P:=[(19,f19_spec),(44,f44_spec),(45,f45_spec),(52,f52_spec),(53,f53_spec)],L:=[(⟨11,23000,41,4⟩,f41_l4c_spec),(⟨11,23000,41,1⟩,f41_l1y_spec)],F:=[(22,Tryz.f22),(41,Tryz.f41),(47,Tryz.f47),(48,Tryz.f48),(60,Tryz.f60),(61,Tryz.f61)],I:=[],M:=[(49,f49_spec)],tot:=[(22,[4]),(61,[3])],sym:=true }
theorem f41_l4c_ok:LoopOK f22_env 11 41 23000 (loopAt f22_code_41 4) f41_l4c_spec :=
 loopOK_of (by kernel_rfl) f41_l4c_n (fun x o h=>⟨_,h⟩) (fun x=>by kernel_rfl) (fun n x=>by kernel_rfl)
theorem f41_l1y_ok:LoopOK f22_env 11 41 23000 (loopAt f22_code_41 1) f41_l1y_spec :=
 loopOK_of (by kernel_rfl) f41_l1y_n (fun x o h=>⟨_,h⟩) (fun x=>by kernel_rfl) (fun n x=>by kernel_rfl)
theorem f22_run (x:tysDen (f22_spec).args):runF f22_env 22 Tryz.f22 f22_code (f22_spec).args (f22_spec).res x = f22_spec.fn x:=by kernel_rfl
theorem f22_enter:Enterable Tryz.prog 22:=enter_fun Tryz.func22 (by kernel_rfl)
theorem f22_envOK:EnvOK Tryz.prog f22_env:=envOK_of cds (by kernel_rfl) cfgF_ok ⟨⟨f19_pure,f19_enter⟩,⟨f44_pure,f44_enter⟩,⟨f45_pure,f45_enter⟩,⟨f52_pure,f52_enter⟩,⟨f53_pure,f53_enter⟩,trivial⟩ trivial ⟨⟨Tryz.func22,by kernel_rfl⟩,⟨Tryz.func41,by kernel_rfl⟩,⟨Tryz.func47,by kernel_rfl⟩,⟨Tryz.func48,by kernel_rfl⟩,⟨Tryz.func60,by kernel_rfl⟩,⟨Tryz.func61,by kernel_rfl⟩,trivial⟩ ⟨⟨Tryz.f41,f22_code_41,rfl,rfl,f41_l4c_ok⟩,⟨Tryz.f41,f22_code_41,rfl,rfl,f41_l1y_ok⟩,trivial⟩ trivial trivial ⟨⟨f49_map,f49_enter⟩,trivial⟩
theorem f22_pure:PureOK Tryz.prog cfg 22 f22_spec:=pure_of_run f22_envOK (fn:=Tryz.f22) (c:=f22_code) rfl rfl f22_spec (fun x _ h=>(f22_run x).trans h)
end
end Go.V.G
namespace Go.V.G
open Go.Proofs
open Go.V.K
def cmpG (d e:List Rl) (k:Int) (j:Nat):List Rl:=(cmp1 (fd d (k,(j:Int))) (fd e (k,(j:Int))) (k,(j:Int))).toList
def cmpP (d e:List Rl) (k:Int) (j:Nat):Option (List Rl):=if clash1 (fd d (k,(j:Int))) (fd e (k,(j:Int))) = true then none else some (cmpG d e k j)
def cmpOk (d e:List Rl) (k:Int):Bool:=(List.range' 0 24).all fun j=>(cmpP d e k j).isSome
def cmpRow (d e:List Rl) (k:Int):List Rl:=(List.range' 0 24).flatMap fun j=>(cmpP d e k j).getD []
theorem cmpP_len {d e:List Rl} {k:Int} {j:Nat} {x:List Rl} (h:cmpP d e k j = some x):x.length≤1:=by
 unfold cmpP at h
 split at h
 ·cases h
 ·cases h
  exact opt_len _
abbrev l4in (d e:List Rl) (q z:Int) (acc:List Rl):outDen f41_l4c_outs:=.inl ((q,()),((),(),(),()),((),(),(),(z,()),d.map kv,e.map kv,acc,()))
abbrev l4no (z:Int) (acc:List Rl):outDen f41_l4c_outs:=.inr ((),((),(),(),()),((),(z,()),acc,()))
theorem f44_ba (x y:Rl) (h:smRl x):f44 (x.2.2.1,(x.2.2.2.1,())) y.2.2.2.2 = some (decide (bf x = af y),()):=f44_eq _ _ h.1
theorem f44_ab (x y:Rl) (h:smRl x):f44 x.2.2.2.2 (y.2.2.1,(y.2.2.2.1,())) = some (decide (af x = bf y),()):=f44_eq _ _ h.2
theorem f45_ba (k i:Int) (x y:Rl) (hx:smRl x) (hy:smRl y):f45 [k,i] (x.2.2.1,(x.2.2.2.1,())) y.2.2.2.2 = some (mkR (k,i) (bf x) (af y),()):=f45_eq k i _ _ _ _ hx.1 hy.2
set_option maxHeartbeats 4000000 in
theorem crow (d e:List Rl) (hd:okD d) (he:okD e) (sd:smD d) (se:smD e) (q z:Int) (k:Nat) (hk:24 < k) (r:List Rl) (hr:r.length≤1000) :
  (cmpOk d e q = true∧f41_l4c q z (d.map kv) (e.map kv) k 0 r = some (l4in d e q z (r++cmpRow d e q))) ∨
  (cmpOk d e q = false∧∃ acc:List Rl,f41_l4c q z (d.map kv) (e.map kv) k 0 r = some (l4no z acc)):=by
 have h:=loop_rounds 24 (fun j (acc:List Rl)=>acc.length≤1000 + j) (optStep (cmpP d e q) (l4no z)) (l4in d e q z) (f41_l4c q z (d.map kv) (e.map kv)) (by
  intro k j acc hj hacc
  conv=>lhs; unfold f41_l4c
  by_cases e0:j < 24
  ·have e1:decide ((j:Int) < 24) = true:=by simp; omega
   obtain ⟨m1,m2⟩:=map_has (q,(j:Int)) d
   obtain ⟨n1,n2⟩:=map_has (q,(j:Int)) e
   refine Eq.trans ?_ (if_pos e0).symm
   have ea:decide (acc.length + 1≤appLim) = true:=sm_app (by omega)
   unfold optStep cmpP cmpG
   simp only [e1,cond_true,m1,n1]
   cases hf:fd d (q,(j:Int)) with
   | none =>
    simp only [Option.isSome_none,Bool.not_false,cond_true]
    cases hg:fd e (q,(j:Int)) with
    | none =>
     simp only [Option.isSome_none,Bool.not_false,cond_true,same_self,wS j (by omega)]
     simp [clash1,cmp1]
    | some y =>
     have hy:=fd_sm se hg
     have hne:=(he.1 y (fd_some hg).1).2.2.2
     have h44:=f44_ba y y hy
     rw [zF hne] at h44
     simp only [Option.isSome_some,Bool.not_true,cond_false,n2 y hg,f52,f53,Option.bind_some,h44,Bool.not_false,cond_true,f45_ba _ _ y y hy hy,List.length_singleton,ea,same_self,wS j (by omega)]
     have:mkR (q,(j:Int)) (bf y) (af y) = y:=by
      have:=(fd_some hg).2
      rw [← this]; rfl
     rw [this]
     simp only [clash1,cmp1,Bool.false_eq_true,if_false,Option.toList_some]
   | some x =>
    have hx:=fd_sm sd hf
    have hxe:=(hd.1 x (fd_some hf).1).2.2.2
    simp only [Option.isSome_some,Bool.not_true,cond_false]
    cases hg:fd e (q,(j:Int)) with
    | none =>
     have h44:=f44_ba x x hx
     rw [zF hxe] at h44
     simp only [Option.isSome_none,Bool.not_false,cond_true,m2 x hf,f52,f53,Option.bind_some,h44,f45_ba _ _ x x hx hx,List.length_singleton,ea,same_self,wS j (by omega)]
     have:mkR (q,(j:Int)) (bf x) (af x) = x:=by
      have:=(fd_some hf).2
      rw [← this]; rfl
     rw [this]
     simp only [clash1,cmp1,Bool.false_eq_true,if_false,Option.toList_some]
    | some y =>
     have hy:=fd_sm se hg
     simp only [Option.isSome_some,Bool.not_true,cond_false,m2 x hf,n2 y hg,f52,f53,Option.bind_some,f44_ab x y hx,f44_ba x y hx,f45_ba _ _ x y hx hy]
     by_cases c1:af x = bf y
     ·simp only [c1,decide_true,Bool.not_true,cond_false]
      by_cases c2:bf x = af y
      ·simp only [c2,decide_true,Bool.not_true,cond_false,same_self,wS j (by omega)]
       simp [clash1,cmp1,c1,c2]
      ·simp only [zF c2,Bool.not_false,cond_true,List.length_singleton,ea,same_self,wS j (by omega)]
       simp [clash1,cmp1,c1,c2]
     ·simp only [zF c1,Bool.not_false,cond_true,same_self]
      simp [clash1,c1]
  ·have e1:decide ((j:Int) < 24) = false:=by simp; omega
   simp only [e1,cond_false]
   exact (if_neg e0).symm) (fun j acc acc' _ h1 h2=>by
    unfold optStep at h2
    cases hp:cmpP d e q j with
    | none=>simp [hp] at h2
    | some x =>
     simp only [hp,Sum.inl.injEq] at h2
     subst h2
     have:=cmpP_len hp
     rw [List.length_append]
     omega) 24 k 0 r (by omega) (by omega) hk (by omega)
 rcases rounds_opt (cmpP d e q) (l4in d e q z) (l4no z) 24 0 r with ⟨h1,h2⟩ | ⟨h1,acc,h2⟩
 ·exact .inl ⟨h1,h.trans (congrArg some h2)⟩
 ·exact .inr ⟨h1,acc,h.trans (congrArg some h2)⟩
theorem cmpRow_len (d e:List Rl) (k:Int):(cmpRow d e k).length≤24:=by
 unfold cmpRow
 have:∀ (m j:Nat),((List.range' j m).flatMap fun j=>(cmpP d e k j).getD []).length≤m:=by
  intro m
  induction m with
  | zero=>intro j; simp
  | succ m ih =>
   intro j
   rw [List.range'_succ,List.flatMap_cons,List.length_append]
   have h1:=ih (j + 1)
   have h2:((cmpP d e k j).getD []).length≤1:=by
    cases h:cmpP d e k j with
    | none=>simp
    | some x=>exact cmpP_len h
   omega
 exact this 24 0
abbrev l1in (z:Int) (acc:List Rl):outDen f41_l1y_outs:=.inl ((),((),(),(),()),((),(z,()),acc,()))
abbrev l1no (z:Int) (acc:List Rl):outDen f41_l1y_outs:=.inr ((),((),(),(),()),((),(z,()),acc,()))
theorem couter (d e:List Rl) (hd:okD d) (he:okD e) (sd:smD d) (se:smD e) (z:Int):∀ (m j k:Nat) (r:List Rl),j + m = 8→m < k→r.length≤24 * j →
  ((List.range' j m).all (fun q:Nat=>cmpOk d e (q:Int)) = true∧f41_l1y k (j:Int) z (d.map kv) (e.map kv) r = some (l1in z (r++(List.range' j m).flatMap (fun q:Nat=>cmpRow d e (q:Int))))) ∨
  ((List.range' j m).all (fun q:Nat=>cmpOk d e (q:Int)) = false∧∃ acc:List Rl,f41_l1y k (j:Int) z (d.map kv) (e.map kv) r = some (l1no z acc))
 | _,_,0,_,_,h,_=>by omega
 | 0,j,k + 1,r,h,_,hr=>by
  refine .inl ⟨rfl,?_⟩
  have e1:decide ((j:Int)≤7) = false:=by simp; omega
  unfold f41_l1y
  simp only [e1,cond_false]
  simp
 | m + 1,j,k + 1,r,h,hk,hr=>by
  have e1:decide ((j:Int)≤7) = true:=by simp; omega
  rw [List.range'_succ,List.all_cons,List.flatMap_cons]
  rcases crow d e hd he sd se (j:Int) z (((24:Int) - 0).toNat + 1) (by decide) r (by omega) with ⟨h1,h2⟩ | ⟨h1,acc,h2⟩
  ·have step:f41_l1y (k + 1) (j:Int) z (d.map kv) (e.map kv) r = f41_l1y k ((j + 1:Nat):Int) z (d.map kv) (e.map kv) (r++cmpRow d e j):=by
    conv=>lhs; unfold f41_l1y
    simp only [e1,cond_true]
    refine bind_step h2 ?_
    rw [← wS j (by omega)]
    rfl
   have hl:=cmpRow_len d e (j:Int)
   rw [step,h1,Bool.true_and]
   rcases couter d e hd he sd se z m (j + 1) k (r++cmpRow d e j) (by omega) (by omega) (by rw [List.length_append]; omega) with ⟨g1,g2⟩ | ⟨g1,acc,g2⟩
   ·exact .inl ⟨g1,by rw [g2,List.append_assoc]⟩
   ·exact .inr ⟨g1,acc,g2⟩
  ·refine .inr ⟨by rw [h1]; rfl,acc,?_⟩
   conv=>lhs; unfold f41_l1y
   simp only [e1,cond_true]
   refine bind_step h2 ?_
   rfl
theorem cmpOk_iff (d e:List Rl) (k:Int):cmpOk d e k = !(ids.any fun i=>clash1 (fd d (k,i)) (fd e (k,i))):=by
 unfold cmpOk ids
 rw [List.any_map,List.not_any_eq_all_not,List.range_eq_range']
 congr 1
 funext j
 unfold cmpP
 simp only [Function.comp,Int.ofNat_eq_natCast]
 cases clash1 (fd d (k,(j:Int))) (fd e (k,(j:Int))) <;> rfl
theorem cmpOk_all (d e:List Rl):(List.range' 1 7).all (fun q:Nat=>cmpOk d e (q:Int)) = !clash d e:=by
 unfold clash keys kinds
 rw [List.any_flatMap,List.any_map,List.not_any_eq_all_not]
 congr 1
 funext q
 rw [cmpOk_iff]
 simp only [Function.comp,List.any_map,Int.ofNat_eq_natCast]
 rfl
theorem cmpRow_eq {d e:List Rl} {k:Int} (h:cmpOk d e k = true):cmpRow d e k = ids.filterMap fun i=>cmp1 (fd d (k,i)) (fd e (k,i)) (k,i):=by
 rw [← ids_fm (fun i=>cmp1 (fd d (k,i)) (fd e (k,i)) (k,i))]
 unfold cmpRow
 refine congrArg List.flatten (List.map_congr_left fun j hj=>?_)
 have h1:=List.all_eq_true.1 h j hj
 unfold cmpP at h1 ⊢
 cases hc:clash1 (fd d (k,(j:Int))) (fd e (k,(j:Int))) with
 | true=>rw [hc] at h1; simp at h1
 | false=>simp [cmpG]
theorem cmp_comp {d e:List Rl} (h:(List.range' 1 7).all (fun q:Nat=>cmpOk d e (q:Int)) = true):(List.range' 1 7).flatMap (fun q:Nat=>cmpRow d e (q:Int)) = comp d e:=by
 unfold comp
 rw [← keys_fm (fun k=>cmp1 (fd d k) (fd e k) k)]
 refine congrArg List.flatten (List.map_congr_left fun q hq=>?_)
 exact cmpRow_eq (List.all_eq_true.1 h q hq)
theorem f49_gen (d:List Rl) (hd:okD d) (hl:d.length≤1000000) (k:Nat) (hk:d.length < k) :
  f49_l3 d (d.length:Int) k 0 [] = some ((),(),(d.map kv,())):=by
 have h:=loop_rounds d.length (fun j m=>m = (d.take j).map kv) (fun j m=>(.inl ((d.take (j + 1)).map kv):List (List Int × Rl) ⊕ outDen f49_l3_outs)) (fun m=>((),(),(m,()))) (f49_l3 d (d.length:Int)) (by
  intro k j m hj hm
  conv=>lhs; unfold f49_l3
  by_cases e:j < d.length
  ·simp only [Int.ofNat_lt,inRN,e,decide_true,cond_true,same_self,f50_eq,Option.bind_some,wS j (by omega),if_true]
   rw [atN tR d j e,hm]
   have hset:=map_set (d.take j) d[j] (fun x hx=>by
    obtain ⟨i,hi,rfl⟩:=List.mem_iff_getElem.1 hx
    rw [List.length_take] at hi
    have h1:lt2 (kOf d[i]) (kOf d[j]):=List.pairwise_iff_getElem.1 hd.2 i j (by omega) e (by omega)
    rw [List.getElem_take]
    intro e2
    rw [e2] at h1
    exact lt2_irr _ h1)
   rw [hset,← List.take_succ_eq_append_getElem e]
  ·simp only [Int.ofNat_lt,e,decide_false,cond_false,if_false]) (fun j m m' _ _ e=>by cases e; rfl) d.length k 0 [] (by omega) (by omega) hk (by simp)
 refine h.trans ?_
 have key:∀ (n j:Nat) (m:List (List Int × Rl)),j + n = d.length→m = (d.take j).map kv→rounds (fun j m=>(.inl ((d.take (j + 1)).map kv):List (List Int × Rl) ⊕ outDen f49_l3_outs)) (fun m=>((),(),(m,()))) n j m = ((),(),(d.map kv,())):=by
  intro n
  induction n with
  | zero =>
   intro j m h1 h2
   subst h2
   rw [List.take_of_length_le (by omega)]
   rfl
  | succ n ih =>
   intro j m h1 h2
   exact ih (j + 1) _ (by omega) rfl
 exact congrArg some (key d.length 0 [] (by omega) rfl)
theorem f49_eq (d:List Rl) (hd:okD d) (hl:d.length≤1000000):f49 d = some (d.map kv):=by
 unfold f49
 exact bind_step (f49_gen d hd hl _ (by omega)) rfl
theorem f22_eq (d e:List Rl) (sd:smD d) (se:smD e) :
  f22 (d,()) (e,()) = if (validD d && validD e && !clash d e) = true then some ((comp d e,()),(0:Int),()) else some (([],()),(160:Int),()):=by
 unfold f22
 refine bind_step (f19_eq d sd) ?_
 cases h1:validD d with
 | false=>simp
 | true =>
  simp only [cond_true,Bool.true_and]
  refine bind_step (f19_eq e se) ?_
  cases h2:validD e with
  | false=>simp
  | true =>
   have hd:=validD_iff.1 h1
   have he:=validD_iff.1 h2
   simp only [f49_eq d hd sd.1,f49_eq e he se.1,Option.bind_some,same_self,Bool.not_true,cond_false,Bool.true_and]
   rw [← cmpOk_all]
   rcases couter d e hd he sd se 0 7 1 (((8:Int) - 1).toNat + 1) [] rfl (by decide) (by simp) with ⟨g1,g2⟩ | ⟨g1,acc,g2⟩
   ·rw [g1,if_pos rfl]
    rw [cmp_comp g1] at g2
    exact bind_step g2 rfl
   ·rw [g1]
    exact bind_step g2 rfl
end Go.V.G
namespace Go.V.K
theorem comp_nil {d:List Rl} (h:okD d):clash d [] = false∧comp d [] = d:=by
 have e:∀ k,fd ([]:List Rl) k = none:=fun k=>rfl
 constructor
 ·unfold clash
  rw [List.any_eq_false]
  intro k hk
  rw [e]
  unfold clash1
  split <;> simp_all
 ·refine Eq.trans (fm_congr fun k hk=>?_) (okD_gen h)
  rw [e]
  unfold cmp1
  cases fd d k <;> rfl
end Go.V.K
namespace Go.V.G
open Go.Proofs
open Go.V.K
theorem keys_len:keys.length = 168:=by kernel_rfl
theorem okD_len {d:List Rl} (h:okD d):d.length≤168:=by
 rw [← okD_gen h]
 exact Nat.le_trans (List.length_filterMap_le _ _) (by rw [keys_len]; exact Nat.le_refl _)
theorem okD_sm {d:List Rl} (h:okD d):smD d:=by
 refine ⟨Nat.le_trans (okD_len h) (by decide),fun r hr=>?_⟩
 have h1:=h.1 r hr
 exact ⟨Nat.le_trans h1.2.1.1.1 (by decide),Nat.le_trans h1.2.2.1.1.1 (by decide)⟩
theorem validC_ok {c:Ct} (h:okC c):validC c = true:=(validC_iff h.1).2 h
theorem okD_la {a b:Ct} (ha:okC a) (hb:okC b):okD (dif (la a) (la b)):=okD_dif (fun _ _ h=>la_ok ha h) (fun _ _ h=>la_ok hb h)
theorem diff_ok {a b:Ct} (ha:okC a) (hb:okC b):f12 a b = some ((dif (la a) (la b),()),(0:Int),()):=by
 rw [f12_eq a b (okC_sm ha) (okC_sm hb),validC_ok ha,validC_ok hb]
 rfl
theorem inv_ok {d:List Rl} (h:okD d):f17 (d,()) = some ((d.map inv,()),(0:Int),()):=by
 rw [f17_eq d (okD_sm h),validD_iff.2 h]
 rfl
theorem valid_ok {d:List Rl} (h:okD d):f19 (d,()) = some (true,()):=by
 rw [f19_eq d (okD_sm h),validD_iff.2 h]
theorem patch_eq {a:Ct} (ha:okC a) {d:List Rl} (hs:smD d) :
  (okD d∧fits (la a) d∧f14 a (d,()) = some (mkC (aft (la a) d),(0:Int),())) ∨
  (¬ (okD d∧fits (la a) d)∧f14 a (d,()) = some ((([[],[],[],[],[],[],[],[]]:List (List Nm)),()),(160:Int),())):=by
 have h:=f14_eq a (okC_sm ha) d hs (f19_eq d hs) validD_iff.1
 rw [validC_ok ha,Bool.true_and] at h
 cases hv:validD d with
 | false =>
  rw [hv] at h
  refine .inr ⟨fun hk=>?_,h⟩
  rw [validD_iff.2 hk.1] at hv
  cases hv
 | true =>
  have hd:=validD_iff.1 hv
  rw [hv,Bool.true_and] at h
  cases hf:(kinds.all fun k=>rowFit (la a) d k) with
  | true =>
   rw [hf,if_pos rfl] at h
   refine .inl ⟨hd,(patch_fit ha hd).1 hf,h.trans ?_⟩
   have:kinds.map (fun k=>rowNew (la a) d k) = kinds.map fun k=>mkRow (aft (la a) d k):=List.map_congr_left fun k hk=>rowNew_eq (List.all_eq_true.1 hf k hk)
   rw [this]
   rfl
  | false =>
   rw [hf] at h
   refine .inr ⟨fun hk=>?_,h⟩
   rw [(patch_fit ha hd).2 hk.2] at hf
   cases hf
theorem aft_okC {a:Ct} (ha:okC a) {d:List Rl} (hd:okD d):okC (mkC (aft (la a) d)):=okC_mk (aft_ok (fun _ _ h=>la_ok ha h) hd)
theorem dif_back {a:Ct} (ha:okC a) {d:List Rl} (hd:okD d) (hf:fits (la a) d):dif (la a) (la (mkC (aft (la a) d))) = d:=by
 rw [dif_congr (A':=la a) (B':=aft (la a) d) (fun _ _ _=>rfl) (fun k i h=>la_mkC h ((aft_ok (fun _ _ h=>la_ok ha h) hd k i h).2))]
 exact dif_aft hd hf
theorem patch_dif {a b:Ct} (ha:okC a) (hb:okC b):f14 a (dif (la a) (la b),()) = some (b,(0:Int),()):=by
 have hd:=okD_la ha hb
 rcases patch_eq ha (okD_sm hd) with ⟨_,_,h⟩ | ⟨h,_⟩
 ·rw [h,mkC_congr (fun k i hk=>aft_dif (la a) (la b) hk),mkC_la hb]
 ·exact absurd ⟨hd,fits_dif _ _⟩ h
theorem same_ok {d:List Rl} (h:okD d):f13 (d,()) (d,()) = some (true,()):=by
 rw [f13_eq d d (okD_sm h)]
 simp
theorem sameC_ok {c:Ct} (h:okC c):f16 c c = some (true,()):=by
 rw [f16_eq c c (okC_sm h) h.1]
 simp
abbrev tC:Ty:=.pair (.arr 8 (.sl tN)) .unit
abbrev tX:Ty:=.sl (.arr 4 yI)
theorem okD_nil:okD []:=⟨by simp,by simp⟩
theorem comp_ok {d e:List Rl} (hd:okD d) (he:okD e) (hc:clash d e = false):f22 (d,()) (e,()) = some ((comp d e,()),(0:Int),()):=by
 rw [f22_eq d e (okD_sm hd) (okD_sm he),validD_iff.2 hd,validD_iff.2 he,hc]
 rfl
theorem comp_no {d e:List Rl} (hd:okD d) (he:okD e) (hc:clash d e = true):f22 (d,()) (e,()) = some (([],()),(160:Int),()):=by
 rw [f22_eq d e (okD_sm hd) (okD_sm he),validD_iff.2 hd,validD_iff.2 he,hc]
 rfl
theorem comp_d {a b c:Ct} (ha:okC a) (hb:okC b) (hc:okC c):f22 (dif (la a) (la b),()) (dif (la b) (la c),()) = some ((dif (la a) (la c),()),(0:Int),()):=by
 have h:=comp_dif (la a) (la b) (la c)
 rw [comp_ok (okD_la ha hb) (okD_la hb hc) h.1,h.2]
theorem at_rows {x:List (List (List Int))} (h:∀ y∈x,iRows y) (j:Int):iRows (at_ tX x j):=by
 unfold at_
 rw [List.getD_eq_getElem?_getD]
 cases e:x[j.toNat]? with
 | none=>intro r hr; cases hr
 | some y=>exact h y (List.mem_of_getElem? e)
end Go.V.G
namespace Go.V.G
open Go.Proofs
theorem i64_of {x:Int} (h:(Ty.int .i64).ok x):i64 x:=h
theorem iRows_of {l:List (List Int)} (h:(Ty.sl (.arr 4 yI)).ok l):iRows l:=fun r hr v hv=>i64_of ((h.2 r hr).2 v hv)
theorem iRows4_of {x:List (List (List Int))} (h:(Ty.arr 4 (.sl (.arr 4 yI))).ok x):∀ y∈x,iRows y:=fun y hy=>iRows_of (h.2 y hy)
end Go.V.G
